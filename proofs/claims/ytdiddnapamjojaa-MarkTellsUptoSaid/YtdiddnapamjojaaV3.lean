/- A logic of values over the model, part 4: symbolic states, their soundness, rules for calls and loops. No law is stated here. -/
import Derived.Test.YtdiddnapamjojaaV2
import Derived.ProofKit
import Derived.OpenShut
import Derived.JoinedCond
import Derived.ChangeSame
import Derived.ReadAgain
import Derived.WideKeyArgs
import Derived.Lib.SlicesCompact
namespace Go.Proofs.VL
open Go Go.RowKit Go.WideShapes Go.ChangeShapes Go.ChangeAt
set_option linter.unusedSimpArgs false
set_option linter.unusedVariables false

/-! ### a law, out of its function of values -/
/-- An argument's value out of its cells. -/
def argV (P : Program) (t : TypeId) (xs : List V) : V := if aggB P t = true then .agg xs else xs.headD .junk

section
variable {H : Type} {enc : TypeId × Value → H} {P : Program}

theorem arg_rep {T : TypeId → Prop} (K : Kids P T) (hz : ∀ t e, T t → P.underlying t = some (.slice e) → 0 < P.cellsOf e) {w : World} {base : Nat} {spare : Nat → Bool} {held : Bool} {t : TypeId} {v : Value} {d : DataW H} {ps : List MemPlace} (hT : T t)
    (hval : Value.okWide P w .any base t v) (h : DataW.Trod enc P w 0 spare held t v d ps) : ∃ xs b, Rep w Env.bare (argV P t xs) v ∧ b ≤ bulkD d ∧ Ty P t xs b := by
  obtain ⟨fuel, h⟩ := h
  obtain ⟨xs, b, h1, h2, h3, h4⟩ := trod_rep K hz fuel t _ d ps hT h
  refine ⟨xs, b, ?_, h3, h4⟩
  unfold argV
  by_cases ha : aggB P t = true
  · rw [if_pos ha]
    have : ∃ cs, v = .agg cs := by
      unfold aggB at ha
      unfold Value.okWide at hval
      split at ha <;> try (cases ha; done)
      · rename_i hu; rw [hu] at hval; obtain ⟨cs, hv, _⟩ := hval; exact ⟨cs, hv⟩
      · rename_i hu; rw [hu] at hval; obtain ⟨cs, hv, _⟩ := hval; exact ⟨cs, hv⟩
    obtain ⟨cs, rfl⟩ := this
    simp only [Rep]
    exact ⟨cs.toList, by simp, h1⟩
  · rw [if_neg ha]
    have : v.cells = #[v] := by
      have hok : Cell.okWide P w .any base t v := by
        unfold aggB at ha
        unfold Value.okWide at hval
        split at hval
        · rename_i hu; rw [hu] at ha; simp at ha
        · rename_i hu; rw [hu] at ha; simp at ha
        · exact hval
      cases v with
      | agg cs =>
        unfold Cell.okWide Cell.ok at hok
        split at hok <;> simp_all
      | _ => rfl
    rw [this] at h1
    cases xs with
    | nil => simp [RepL] at h1
    | cons x xs =>
      simp only [RepL] at h1
      obtain ⟨v', vs', he, h5, h6⟩ := h1
      simp at he
      obtain ⟨rfl, rfl⟩ := he
      exact h5

theorem args_rep {T : TypeId → Prop} (K : Kids P T) (hz : ∀ t e, T t → P.underlying t = some (.slice e) → 0 < P.cellsOf e) {w : World} {base : Nat} {spare : Nat → Bool} {held : Bool} : ∀ {ts : List TypeId} {vs : List Value} {ds : List (DataW H)} {ps : List MemPlace}, (∀ t ∈ ts, T t) →
    (∀ (j : Nat) t v, ts[j]? = some t → vs[j]? = some v → Value.okWide P w .any base t v) → DataW.TrodAll enc P w 0 spare held ts vs ds ps →
    ∃ (xss : List (List V)) (bs : List Nat), xss.length = ts.length ∧ bs.length = ts.length ∧ RepL w Env.bare (List.zipWith (argV P) ts xss) vs ∧ bs.sum ≤ bulkL ds ∧ ∀ (i : Nat) t xs b, ts[i]? = some t → xss[i]? = some xs → bs[i]? = some b → Ty P t xs b
  | [], [], [], ps, _, _, _ => ⟨[], [], rfl, rfl, rfl, Nat.le_refl _, fun i t xs b h => by simp at h⟩
  | t :: ts, v :: vs, d :: ds, ps, hT, hval, h => by
    obtain ⟨p, q, h1, h2, rfl⟩ := h
    obtain ⟨xs, b, g1, g2, g3⟩ := arg_rep K hz (hT t (by simp)) (hval 0 t v rfl rfl) h1
    obtain ⟨xss, bs, k1, k2, k3, k4, k5⟩ := args_rep K hz (fun t' h => hT t' (by simp [h])) (fun j t' v' a b => hval (j + 1) t' v' (by simpa using a) (by simpa using b)) h2
    refine ⟨xs :: xss, b :: bs, by simp [k1], by simp [k2], ⟨v, vs, rfl, g1, k3⟩, by simp only [List.sum_cons, bulkL]; omega, ?_⟩
    intro i t' xs' b' a1 a2 a3
    cases i with
    | zero => simp at a1 a2 a3; subst a1; subst a2; subst a3; exact g3
    | succ i => exact k5 i t' xs' b' (by simpa using a1) (by simpa using a2) (by simpa using a3)
  | [], _ :: _, _, _, _, _, h => by simp [DataW.TrodAll] at h
  | [], [], _ :: _, _, _, _, h => by simp [DataW.TrodAll] at h
  | _ :: _, [], _, _, _, _, h => by simp [DataW.TrodAll] at h
  | _ :: _, _ :: _, [], _, _, _, h => by simp [DataW.TrodAll] at h

/-- What a function of values comes to in a world where all is only read. -/
theorem vfn_calls {f : FuncId} {xs : List V} {r : V} (h : VFn P f xs r) {w : World} {vs : List Value} (hr : RepL w Env.bare xs vs) :
    Calls P f ⟨vs⟩ w fun e w' => ∃ v E', e = .returned v ∧ Rep w' E' r v ∧ Below w.heap.size w w' := by
  refine (h.2 w Env.bare vs (fun k => by simp [Env.bare]) (fun k o h => by simp at h) (fun b _ => rfl) hr).mono ?_
  rintro e w' ⟨v, E', rfl, hres⟩
  exact ⟨v, E', rfl, hres.rep, hres.ext.os, hres.ext.tape, hres.ext.output, hres.ext.size, fun b hb => (hres.ext.imm b hb rfl).2⟩
end
end Go.Proofs.VL

namespace Go.Proofs.VL
open Go Go.RowKit Go.WideShapes Go.ChangeShapes Go.ChangeAt
set_option linter.unusedSimpArgs false
set_option linter.unusedVariables false

section
variable {H : Type} {enc : TypeId × Value → H} {P : Program}

theorem post_below {f : Func} {s : ChangeSpec} {apart fresh handsOn again : Bool} {W W' : World} {args : Array Value} {v : Value} {ds gs : List (DataW H)} {before pa pv : List MemPlace}
    (hW : DataW.Whole enc P f.params.toList s.vars apart W args.toList ds gs before)
    (hres : ∀ (b : Nat) (sp : Nat → Bool) (hd : Bool), DataW.TrodAll enc P W' b sp hd f.resultTypes.toList (v.resultList f.resultTypes.size) (s.fn H (ds ++ gs)).results [])
    (hargs : ∀ sp : Nat → Bool, (∀ p ∈ before, sp p.block = true) → DataW.TrodAll enc P W' 0 sp true f.params.toList args.toList (s.fn H (ds ++ gs)).args pa)
    (hvars : ∀ sp : Nat → Bool, (∀ p ∈ before, sp p.block = true) → DataW.TrodVars enc P W' sp s.vars (s.fn H (ds ++ gs)).vars pv)
    (hps : before = pa ++ pv) (hb : Below W.heap.size W W')
    (hok : ∀ (j : Nat) (t : TypeId) (r : Value), f.resultTypes[j]? = some t → (v.resultList f.resultTypes.size)[j]? = some r → Value.okWide P W' .any 0 t r) :
    s.post enc P f apart fresh handsOn again W args v W' := by
  have hlt : ∀ p ∈ before, p.block < W.heap.size := fun p hp => hW.lt p hp
  have hold : ∀ p ∈ before, (fun b => decide (b < W.heap.size)) p.block = true := fun p hp => by simpa using hlt p hp
  refine ⟨ds, gs, before, [], pa, pv, hW, hres _ _ _, hargs _ hold, hvars _ hold, World.keptBut_mono (fun p hp => ⟨hp, ?_⟩) (hb.frame (· ∈ before)), fun _ => ?_⟩
  · rw [hps, List.mem_append] at hp
    exact Or.inr hp
  · obtain ⟨_, _, _, _, _, hz, hn⟩ := hW
    refine ⟨hok, _, _, ([] ++ pa) ++ pv, ⟨[] ++ pa, pv, trodAll_append (hargs _ (fun _ _ => rfl)) (hres _ _ _), hvars _ (fun _ _ => rfl), rfl, ?_, ?_⟩, ?_⟩
    · intro b off hp
      have hin : MemPlace.cell b off ∈ before := by rw [hps]; simpa using hp
      rw [hb.frozen (hlt _ hin)]
      exact hz b off hin
    · intro ha
      have := hn ha
      rw [hps] at this
      simpa using this
    · intro p hp _
      rw [hps]
      simpa using hp

theorem trodAll_stays (hl : laidOutB P = true) {W W' : World} (hb : Below W.heap.size W W') {sp : Nat → Bool} : ∀ {ts : List TypeId} {vs : List Value} {ds : List (DataW H)} {ps : List MemPlace}, (∀ t ∈ ts, P.readableRec t = true ∧ t < P.types.size) →
    DataW.TrodAll enc P W 0 (fun _ => true) true ts vs ds ps → (∀ p ∈ ps, p.block < W.heap.size) → (∀ p ∈ ps, sp p.block = true) → DataW.TrodAll enc P W' 0 sp true ts vs ds ps
  | [], [], [], ps, _, h, _, _ => h
  | t :: ts, v :: vs, d :: ds, ps, hr, h, hlt, hs => by
    obtain ⟨p, q, h1, h2, rfl⟩ := h
    refine ⟨p, q, ?_, trodAll_stays hl hb (fun t' h => hr t' (by simp [h])) h2 (fun x hx => hlt x (by simp [hx])) (fun x hx => hs x (by simp [hx])), rfl⟩
    exact WideElems.Trod_stays hl (hr t (by simp)).1 (hr t (by simp)).2 h1 (fun x hx => hb.same (hlt x (by simp [hx]))) (fun x hx => hs x (by simp [hx]))
  | [], _ :: _, _, _, _, h, _, _ => by simp [DataW.TrodAll] at h
  | [], [], _ :: _, _, _, h, _, _ => by simp [DataW.TrodAll] at h
  | _ :: _, [], _, _, _, h, _, _ => by simp [DataW.TrodAll] at h
  | _ :: _, _ :: _, [], _, _, h, _, _ => by simp [DataW.TrodAll] at h

def slicesB (P : Program) : Bool := (List.range P.types.size).all fun t => match P.underlying t with | some (.slice e) => decide (0 < P.cellsOf e) | _ => true

theorem slicesB_spec (h : slicesB P = true) : ∀ t e, t < P.types.size → P.underlying t = some (.slice e) → 0 < P.cellsOf e := by
  intro t e ht hu
  have := List.all_eq_true.1 h t (by simpa using ht)
  rw [hu] at this
  simpa using this

/-- WHAT A LAW's CALL COMES TO, FOR EVERY ARGUMENT THAT CAN BE READ. -/
theorem law_contract {f : FuncId} {fn : Func} {s : ChangeSpec} {bt : TypeId} (hl : laidOutB P = true) (hm : mapsRowed P = true) (hsl : slicesB P = true) (hread : ∀ t ∈ fn.params.toList, P.readableRec t = true ∧ t < P.types.size)
    (hvars : s.vars = []) (hrt : fn.resultTypes = #[bt]) (hbt : P.underlying bt = some .bool) {apart fresh handsOn again : Bool} {W : World} {base : Nat} {args : Array Value} {ds gs : List (DataW H)} {before : List MemPlace}
    (hval : ∀ (j : Nat) t v, fn.params[j]? = some t → args[j]? = some v → Value.okWide P W .any base t v)
    (hW : DataW.Whole enc P fn.params.toList s.vars apart W args.toList ds gs before)
    (hfn : gs = [] → ds.length = fn.params.size → (s.fn H (ds ++ gs)).results = [.lit (.bool true)] ∧ (s.fn H (ds ++ gs)).args = ds ∧ (s.fn H (ds ++ gs)).vars = [])
    (law : gs = [] → ∀ (xss : List (List V)) (bs : List Nat), xss.length = fn.params.size → bs.length = fn.params.size → bs.sum ≤ bulkL ds → (∀ (i : Nat) t xs b, fn.params.toList[i]? = some t → xss[i]? = some xs → bs[i]? = some b → Ty P t xs b) → VFn P f (List.zipWith (argV P) fn.params.toList xss) (.bool true)) :
    Calls P f args W fun e W' => ∃ v, e = .returned v ∧ s.post enc P fn apart fresh handsOn again W args v W' := by
  have hW' := hW
  obtain ⟨p, q, hA, hV, rfl, hfz, hnd⟩ := hW
  rw [hvars] at hV
  obtain ⟨rfl, rfl⟩ := trodVars_none hV
  have hlen : ds.length = fn.params.size := by
    have : ∀ {ts : List TypeId} {vs : List Value} {ds : List (DataW H)} {ps : List MemPlace}, DataW.TrodAll enc P W 0 (fun _ => true) true ts vs ds ps → ds.length = ts.length := by
      intro ts
      induction ts with
      | nil => intro vs ds ps h; cases vs <;> cases ds <;> simp [DataW.TrodAll] at h ⊢
      | cons t ts ih =>
        intro vs ds ps h
        cases vs <;> cases ds <;> simp only [DataW.TrodAll] at h
        obtain ⟨_, _, _, h2, _⟩ := h
        simp [ih h2]
    simpa using this hA
  obtain ⟨f1, f2, f3⟩ := hfn rfl hlen
  obtain ⟨xss, bs, g1, g2, g3, g4, g5⟩ := args_rep (kids_rows hl hm) (fun t e ht hu => slicesB_spec hsl t e ht hu) (base := base) (fun t ht => (hread t ht).2) (fun j t v a b => hval j t v (by simpa using a) (by simpa using b)) hA
  have hcall := vfn_calls (law rfl xss bs (by simpa using g1) (by simpa using g2) g4 g5) g3
  refine hcall.mono ?_
  rintro e W' ⟨v, E', rfl, hr, hb⟩
  simp only [Rep] at hr
  subst hr
  refine ⟨_, rfl, post_below (pa := p) (pv := []) hW' ?_ ?_ ?_ rfl hb ?_⟩
  · intro b sp hd
    rw [hrt, f1]
    exact trodAll_cons_mk (shut_bool hbt _) trodAll_mk0
  · intro sp hsp
    rw [f2]
    refine trodAll_stays hl hb hread hA (fun x hx => hW'.lt x (by simp [hx])) (fun x hx => hsp x (by simp [hx]))
  · intro sp hsp
    rw [hvars, f3]
    rfl
  · exact ok_one hrt rfl (okWide_bool_mk hbt _)
end
end Go.Proofs.VL

namespace Go.Proofs.VL
open Go Go.RowKit
/-! ### all equations of a walk as one word -/
theorem A {a b : Prop} (h : a) (g : b) : a ∧ b := ⟨h, g⟩
theorem EV0 : type_of% (A (A (A (A (A (A (A (A (@e_seq) (@e_block)) (A (@e_skip_seq) (A (@e_skip_block) (@e_skip_nil)))) (A (A (@e_exit_seq) (A (@e_exit_block) (@e_exit_nil))) (A (@e_ret_cons) (A (@e_ret_nil) (@e_reg))))) (A (A (A (@e_dreg) (A (@e_mv) (@e_pick))) (A (@e_bin) (A (@e_eqb) (@e_eqn)))) (A (A (@e_eqa) (A (@e_un) (@e_cint))) (A (@e_cstr) (A (@e_build) (@e_nilck)))))) (A (A (A (A (@e_fadr) (A (@e_fld) (@e_iadr))) (A (@e_iadrA) (A (@e_idxs) (@e_idxa)))) (A (A (@e_slcs) (A (@e_slc) (@e_ext))) (A (@e_fn) (A (@e_lns) (@e_ln))))) (A (A (A (@e_mm) (A (@e_alloc) (@e_box))) (A (@e_load) (A (@e_bslI) (@e_bslO)))) (A (A (@e_msl) (A (@e_b2s) (@e_s2b))) (A (@e_store) (A (@e_app) (@e_apps))))))) (A (A (A (A (A (@e_guardB) (@vkV_some)) (A (@vkV_none) (A (@vkW_some) (@vkW_none)))) (A (A (@vkO_some) (A (@vkO_none) (@vkC_bool))) (A (@vkG_bool) (A (@vkG_undef) (@vkM_int))))) (A (A (A (@vkA_some) (A (@vkAs_some) (@evPick.eq_1))) (A (@evPick.eq_2) (A (@evBslI.eq_1) (@evBslI.eq_2)))) (A (A (@evBslO.eq_1) (A (@evBslO.eq_2) (@evEqb.eq_1))) (A (@evEqb.eq_2) (A (@evEqn.eq_1) (@evEqa.eq_1)))))) (A (A (A (A (@evEqa.eq_2) (A (@eqCells.eq_1) (@eqCells.eq_2))) (A (@eqCells.eq_3) (A (@eqCell.eq_1) (@eqCell.eq_2)))) (A (A (@eqCell.eq_3) (A (@eqCell.eq_4) (@isNil.eq_1))) (A (@isNil.eq_2) (A (@isNil.eq_3) (@isNil.eq_4))))) (A (A (A (@isNil.eq_5) (A (@isNil.eq_6) (@isNil.eq_7))) (A (@isNil.eq_8) (A (@isNil.eq_9) (@isNil.eq_10)))) (A (A (@isNil.eq_11) (A (@isNil.eq_12) (@isNil.eq_13))) (A (@evCint.eq_1) (A (@evCint.eq_2) (@evCstr.eq_1)))))))) (A (A (A (A (A (A (@evCstr.eq_2) (@evNilck.eq_1)) (A (@evNilck.eq_2) (A (@evNilck.eq_3) (@evNilck.eq_4)))) (A (A (@evNilck.eq_5) (A (@evFadr.eq_1) (@evFadr.eq_2))) (A (@evFadr.eq_3) (A (@evFadr.eq_4) (@evFld.eq_1))))) (A (A (A (@evFld.eq_2) (A (@rowPtr.eq_1) (@rowPtr.eq_2))) (A (@evIadr.eq_1) (A (@evIadr.eq_2) (@evIadr.eq_3)))) (A (A (@evIadr.eq_4) (A (@evIadrA.eq_1) (@evIadrA.eq_2))) (A (@evIadrA.eq_3) (A (@byteV.eq_1) (@byteV.eq_2)))))) (A (A (A (A (@evIdxs.eq_1) (A (@evIdxs.eq_2) (@evIdxa.eq_1))) (A (@evIdxa.eq_2) (A (@evSlcs.eq_1) (@evSlcs.eq_2)))) (A (A (@evSlc.eq_1) (A (@evSlc.eq_2) (@evSlc.eq_3))) (A (@evSlc.eq_4) (A (@evSlc.eq_5) (@boundsV.eq_1))))) (A (A (A (@boundsV.eq_2) (A (@boundsV.eq_3) (@asI.eq_1))) (A (@asI.eq_2) (A (@evExt.eq_1) (@evExt.eq_2)))) (A (A (@evLns.eq_1) (A (@evLns.eq_2) (@evLn.eq_1))) (A (@evLn.eq_2) (A (@evLn.eq_3) (@evLn.eq_4))))))) (A (A (A (A (A (@evLn.eq_5) (A (@evMm.eq_1) (@evMm.eq_2))) (A (@mmInt.eq_1) (A (@mmInt.eq_2) (@mmInt.eq_3)))) (A (A (@evB2s.eq_1) (A (@evB2s.eq_2) (@evB2s.eq_3))) (A (@evB2s.eq_4) (A (@evS2b.eq_1) (@evS2b.eq_2))))) (A (A (A (@evStore.eq_1) (A (@evStore.eq_2) (@evStore.eq_3))) (A (@VO.evW.isCell.eq_1) (A (@VO.evW.isCell.eq_2) (@VO.evW.isCell.eq_3)))) (A (A (@VO.evW.isCell.eq_4) (A (@evBin.eq_1) (@evBin.eq_2))) (A (@evBin.eq_3) (A (@evBin.eq_4) (@evBin.eq_5)))))) (A (A (A (A (@evInt.eq_1) (A (@evInt.eq_2) (@evInt.eq_3))) (A (@evInt.eq_4) (A (@evInt.eq_5) (@evInt.eq_6)))) (A (A (@evInt.eq_7) (A (@evInt.eq_8) (@evInt.eq_9))) (A (@evInt.eq_10) (A (@evInt.eq_11) (@evInt.eq_12))))) (A (A (A (@evInt.eq_13) (A (@evInt.eq_14) (@evInt.eq_15))) (A (@evInt.eq_16) (A (@evStr.eq_1) (@evStr.eq_2)))) (A (A (@evStr.eq_3) (A (@evStr.eq_4) (@evStr.eq_5))) (A (@evStr.eq_6) (A (@evStr.eq_7) (@evStr.eq_8))))))))) (A (A (A (A (A (A (A (@evUn.eq_1) (@evUn.eq_2)) (A (@evUn.eq_3) (A (@evUn.eq_4) (@evUn.eq_5)))) (A (A (@evUn.eq_6) (A (@fillV.eq_1) (@fillV.eq_2))) (A (@putCells.eq_1) (A (@putCells.eq_2) (@fillRows.eq_1))))) (A (A (A (@fillRows.eq_2) (A (@loadFrom.eq_1) (@loadFrom.eq_2))) (A (@loadFrom.eq_3) (A (@loadFrom.eq_4) (@loadV.eq_1)))) (A (A (@objRows.eq_1) (A (@appRows.eq_1) (@appRows.eq_2))) (A (@appRows.eq_3) (A (@srcRows.eq_1) (@srcRows.eq_2)))))) (A (A (A (A (@srcRows.eq_3) (A (@srcRows.eq_4) (@dropOb.eq_1))) (A (@dropOb.eq_2) (A (@V.ok.eq_1) (@V.ok.eq_2)))) (A (A (@V.cells.eq_1) (A (@V.cells.eq_2) (@idFree.eq_1))) (A (@idFree.eq_2) (A (@idFree.eq_3) (@idFree.eq_4))))) (A (A (A (@idFree.eq_5) (A (@idFree.eq_6) (@idFree.eq_7))) (A (@idFree.eq_8) (A (@idFree.eq_9) (@idFree.eq_10)))) (A (A (@idFree.eq_11) (A (@tagN.eq_1) (@tagN.eq_2))) (A (@tagD.eq_1) (A (@tagD.eq_2) (@St.putO.eq_1))))))) (A (A (A (A (A (@St.putO.eq_2) (@St.put.eq_1)) (A (@St.x.eq_1) (A (@St.x.eq_2) (@St.get.eq_1)))) (A (A (@St.init.eq_1) (A (@List.lookup.eq_1.{0,0}) (@List.lookup.eq_2.{0,0}))) (A (@loopQ.eq_1) (A (@loopQ.eq_2) (@loopQ.eq_3))))) (A (A (A (@joinQ.eq_1) (A (@joinQ.eq_2) (@joinQ.eq_3))) (A (@RetV.eq_1) (A (@RetV.eq_2) (@RetC.eq_1)))) (A (A (@RetC.eq_2) (A (@resV.eq_1) (@resL.eq_1))) (A (@resL.eq_2) (A (@RV.get.eq_1) (@RV.get.eq_2)))))) (A (A (A (A (@lendV.eq_1) (A (@lendV.eq_2) (@lendV.eq_3))) (A (@lendV.eq_4) (A (@lendV.eq_5) (@lendV.eq_6)))) (A (A (@lendV.eq_7) (A (@lendV.eq_8) (@lendV.eq_9))) (A (@lendV.eq_10) (A (@lendL.eq_1) (@lendL.eq_2))))) (A (A (A (@Q0.{0}) (A (@Q1.{0}) (@Q2.{0,0}))) (A (@Q3.{0,0}) (A (@Q4.{0}) (@Q5.{0})))) (A (A (@Q6.{0,0}) (A (@Q7.{0,0}) (@Q8.{0,0}))) (A (@Q9.{0,0}) (A (@Q10.{0}) (@Q11.{0})))))))) (A (A (A (A (A (A (@Q12.{0}) (@Q13.{0})) (A (@Q14.{0}) (A (@Q15.{0}) (@Q16)))) (A (A (@Q17) (A (@Q18.{0}) (@Q19.{0}))) (A (@Q20.{0}) (A (@Q21.{0}) (@Q22.{0}))))) (A (A (A (@Q23.{0}) (A (@Q24.{0}) (@Q25.{0}))) (A (@Q26.{0}) (A (@Q27) (@Q28)))) (A (A (@Q29) (A (@Q30.{0}) (@Q31.{0}))) (A (@Q32.{0}) (A (@Q33.{0}) (@Q34)))))) (A (A (A (A (@Q35) (A (@Q36) (@Q37))) (A (@Q38) (A (@Q39) (@Q40)))) (A (A (@Q41) (A (@Q42) (@Q43))) (A (@Q44.{1}) (A (@Q44.{0}) (@Q45.{1}))))) (A (A (A (@Q45.{0}) (A (@Q46) (@Q47))) (A (@Q48.{0}) (A (@Q49.{0,0}) (@Q50.{0})))) (A (A (@Q51.{0}) (A (@Q52.{0}) (@Q53.{0}))) (A (@Q54.{0}) (A (@Q55.{0}) (@Q56.{0}))))))) (A (A (A (A (A (@Q57) (A (@Q58) (@Q59))) (A (@Q60.{0}) (A (@Q61.{0}) (@Q62.{0})))) (A (A (@Q63) (A (@Q64) (@Q65.{0}))) (A (@Q66.{0}) (A (@Q67.{0}) (@vkE_some))))) (A (A (A (@vkE_none) (A (@e_eqnD) (@unkS.eq_1))) (A (@unkS.eq_2) (A (@e_boxI) (@e_mkmap)))) (A (A (@e_look) (A (@e_rng) (@e_upd))) (A (@e_del) (A (@e_clr) (@isInt.eq_1)))))) (A (A (A (A (@lookV.eq_1) (A (@lookV.eq_2) (@objLook.eq_1))) (A (@evLook.eq_1) (A (@evLook.eq_2) (@objRng.eq_1)))) (A (A (@evRng.eq_1) (A (@evRng.eq_2) (@updV.eq_1))) (A (@updV.eq_2) (A (@objUpd.eq_1) (@evUpd.eq_1))))) (A (A (A (@delV.eq_1) (A (@delV.eq_2) (@objDel.eq_1))) (A (@evDel.eq_1) (A (@objClr.eq_1) (@evClr.eq_1)))) (A (A (@evClr.eq_2) (A (@evClr.eq_3) (@isKey_i))) (A (@isKey_s) (A (@elemFree_agg) (@nkArr.eq_1)))))))))) := A (A (A (A (A (A (A (A (@e_seq) (@e_block)) (A (@e_skip_seq) (A (@e_skip_block) (@e_skip_nil)))) (A (A (@e_exit_seq) (A (@e_exit_block) (@e_exit_nil))) (A (@e_ret_cons) (A (@e_ret_nil) (@e_reg))))) (A (A (A (@e_dreg) (A (@e_mv) (@e_pick))) (A (@e_bin) (A (@e_eqb) (@e_eqn)))) (A (A (@e_eqa) (A (@e_un) (@e_cint))) (A (@e_cstr) (A (@e_build) (@e_nilck)))))) (A (A (A (A (@e_fadr) (A (@e_fld) (@e_iadr))) (A (@e_iadrA) (A (@e_idxs) (@e_idxa)))) (A (A (@e_slcs) (A (@e_slc) (@e_ext))) (A (@e_fn) (A (@e_lns) (@e_ln))))) (A (A (A (@e_mm) (A (@e_alloc) (@e_box))) (A (@e_load) (A (@e_bslI) (@e_bslO)))) (A (A (@e_msl) (A (@e_b2s) (@e_s2b))) (A (@e_store) (A (@e_app) (@e_apps))))))) (A (A (A (A (A (@e_guardB) (@vkV_some)) (A (@vkV_none) (A (@vkW_some) (@vkW_none)))) (A (A (@vkO_some) (A (@vkO_none) (@vkC_bool))) (A (@vkG_bool) (A (@vkG_undef) (@vkM_int))))) (A (A (A (@vkA_some) (A (@vkAs_some) (@evPick.eq_1))) (A (@evPick.eq_2) (A (@evBslI.eq_1) (@evBslI.eq_2)))) (A (A (@evBslO.eq_1) (A (@evBslO.eq_2) (@evEqb.eq_1))) (A (@evEqb.eq_2) (A (@evEqn.eq_1) (@evEqa.eq_1)))))) (A (A (A (A (@evEqa.eq_2) (A (@eqCells.eq_1) (@eqCells.eq_2))) (A (@eqCells.eq_3) (A (@eqCell.eq_1) (@eqCell.eq_2)))) (A (A (@eqCell.eq_3) (A (@eqCell.eq_4) (@isNil.eq_1))) (A (@isNil.eq_2) (A (@isNil.eq_3) (@isNil.eq_4))))) (A (A (A (@isNil.eq_5) (A (@isNil.eq_6) (@isNil.eq_7))) (A (@isNil.eq_8) (A (@isNil.eq_9) (@isNil.eq_10)))) (A (A (@isNil.eq_11) (A (@isNil.eq_12) (@isNil.eq_13))) (A (@evCint.eq_1) (A (@evCint.eq_2) (@evCstr.eq_1)))))))) (A (A (A (A (A (A (@evCstr.eq_2) (@evNilck.eq_1)) (A (@evNilck.eq_2) (A (@evNilck.eq_3) (@evNilck.eq_4)))) (A (A (@evNilck.eq_5) (A (@evFadr.eq_1) (@evFadr.eq_2))) (A (@evFadr.eq_3) (A (@evFadr.eq_4) (@evFld.eq_1))))) (A (A (A (@evFld.eq_2) (A (@rowPtr.eq_1) (@rowPtr.eq_2))) (A (@evIadr.eq_1) (A (@evIadr.eq_2) (@evIadr.eq_3)))) (A (A (@evIadr.eq_4) (A (@evIadrA.eq_1) (@evIadrA.eq_2))) (A (@evIadrA.eq_3) (A (@byteV.eq_1) (@byteV.eq_2)))))) (A (A (A (A (@evIdxs.eq_1) (A (@evIdxs.eq_2) (@evIdxa.eq_1))) (A (@evIdxa.eq_2) (A (@evSlcs.eq_1) (@evSlcs.eq_2)))) (A (A (@evSlc.eq_1) (A (@evSlc.eq_2) (@evSlc.eq_3))) (A (@evSlc.eq_4) (A (@evSlc.eq_5) (@boundsV.eq_1))))) (A (A (A (@boundsV.eq_2) (A (@boundsV.eq_3) (@asI.eq_1))) (A (@asI.eq_2) (A (@evExt.eq_1) (@evExt.eq_2)))) (A (A (@evLns.eq_1) (A (@evLns.eq_2) (@evLn.eq_1))) (A (@evLn.eq_2) (A (@evLn.eq_3) (@evLn.eq_4))))))) (A (A (A (A (A (@evLn.eq_5) (A (@evMm.eq_1) (@evMm.eq_2))) (A (@mmInt.eq_1) (A (@mmInt.eq_2) (@mmInt.eq_3)))) (A (A (@evB2s.eq_1) (A (@evB2s.eq_2) (@evB2s.eq_3))) (A (@evB2s.eq_4) (A (@evS2b.eq_1) (@evS2b.eq_2))))) (A (A (A (@evStore.eq_1) (A (@evStore.eq_2) (@evStore.eq_3))) (A (@VO.evW.isCell.eq_1) (A (@VO.evW.isCell.eq_2) (@VO.evW.isCell.eq_3)))) (A (A (@VO.evW.isCell.eq_4) (A (@evBin.eq_1) (@evBin.eq_2))) (A (@evBin.eq_3) (A (@evBin.eq_4) (@evBin.eq_5)))))) (A (A (A (A (@evInt.eq_1) (A (@evInt.eq_2) (@evInt.eq_3))) (A (@evInt.eq_4) (A (@evInt.eq_5) (@evInt.eq_6)))) (A (A (@evInt.eq_7) (A (@evInt.eq_8) (@evInt.eq_9))) (A (@evInt.eq_10) (A (@evInt.eq_11) (@evInt.eq_12))))) (A (A (A (@evInt.eq_13) (A (@evInt.eq_14) (@evInt.eq_15))) (A (@evInt.eq_16) (A (@evStr.eq_1) (@evStr.eq_2)))) (A (A (@evStr.eq_3) (A (@evStr.eq_4) (@evStr.eq_5))) (A (@evStr.eq_6) (A (@evStr.eq_7) (@evStr.eq_8))))))))) (A (A (A (A (A (A (A (@evUn.eq_1) (@evUn.eq_2)) (A (@evUn.eq_3) (A (@evUn.eq_4) (@evUn.eq_5)))) (A (A (@evUn.eq_6) (A (@fillV.eq_1) (@fillV.eq_2))) (A (@putCells.eq_1) (A (@putCells.eq_2) (@fillRows.eq_1))))) (A (A (A (@fillRows.eq_2) (A (@loadFrom.eq_1) (@loadFrom.eq_2))) (A (@loadFrom.eq_3) (A (@loadFrom.eq_4) (@loadV.eq_1)))) (A (A (@objRows.eq_1) (A (@appRows.eq_1) (@appRows.eq_2))) (A (@appRows.eq_3) (A (@srcRows.eq_1) (@srcRows.eq_2)))))) (A (A (A (A (@srcRows.eq_3) (A (@srcRows.eq_4) (@dropOb.eq_1))) (A (@dropOb.eq_2) (A (@V.ok.eq_1) (@V.ok.eq_2)))) (A (A (@V.cells.eq_1) (A (@V.cells.eq_2) (@idFree.eq_1))) (A (@idFree.eq_2) (A (@idFree.eq_3) (@idFree.eq_4))))) (A (A (A (@idFree.eq_5) (A (@idFree.eq_6) (@idFree.eq_7))) (A (@idFree.eq_8) (A (@idFree.eq_9) (@idFree.eq_10)))) (A (A (@idFree.eq_11) (A (@tagN.eq_1) (@tagN.eq_2))) (A (@tagD.eq_1) (A (@tagD.eq_2) (@St.putO.eq_1))))))) (A (A (A (A (A (@St.putO.eq_2) (@St.put.eq_1)) (A (@St.x.eq_1) (A (@St.x.eq_2) (@St.get.eq_1)))) (A (A (@St.init.eq_1) (A (@List.lookup.eq_1.{0,0}) (@List.lookup.eq_2.{0,0}))) (A (@loopQ.eq_1) (A (@loopQ.eq_2) (@loopQ.eq_3))))) (A (A (A (@joinQ.eq_1) (A (@joinQ.eq_2) (@joinQ.eq_3))) (A (@RetV.eq_1) (A (@RetV.eq_2) (@RetC.eq_1)))) (A (A (@RetC.eq_2) (A (@resV.eq_1) (@resL.eq_1))) (A (@resL.eq_2) (A (@RV.get.eq_1) (@RV.get.eq_2)))))) (A (A (A (A (@lendV.eq_1) (A (@lendV.eq_2) (@lendV.eq_3))) (A (@lendV.eq_4) (A (@lendV.eq_5) (@lendV.eq_6)))) (A (A (@lendV.eq_7) (A (@lendV.eq_8) (@lendV.eq_9))) (A (@lendV.eq_10) (A (@lendL.eq_1) (@lendL.eq_2))))) (A (A (A (@Q0.{0}) (A (@Q1.{0}) (@Q2.{0,0}))) (A (@Q3.{0,0}) (A (@Q4.{0}) (@Q5.{0})))) (A (A (@Q6.{0,0}) (A (@Q7.{0,0}) (@Q8.{0,0}))) (A (@Q9.{0,0}) (A (@Q10.{0}) (@Q11.{0})))))))) (A (A (A (A (A (A (@Q12.{0}) (@Q13.{0})) (A (@Q14.{0}) (A (@Q15.{0}) (@Q16)))) (A (A (@Q17) (A (@Q18.{0}) (@Q19.{0}))) (A (@Q20.{0}) (A (@Q21.{0}) (@Q22.{0}))))) (A (A (A (@Q23.{0}) (A (@Q24.{0}) (@Q25.{0}))) (A (@Q26.{0}) (A (@Q27) (@Q28)))) (A (A (@Q29) (A (@Q30.{0}) (@Q31.{0}))) (A (@Q32.{0}) (A (@Q33.{0}) (@Q34)))))) (A (A (A (A (@Q35) (A (@Q36) (@Q37))) (A (@Q38) (A (@Q39) (@Q40)))) (A (A (@Q41) (A (@Q42) (@Q43))) (A (@Q44.{1}) (A (@Q44.{0}) (@Q45.{1}))))) (A (A (A (@Q45.{0}) (A (@Q46) (@Q47))) (A (@Q48.{0}) (A (@Q49.{0,0}) (@Q50.{0})))) (A (A (@Q51.{0}) (A (@Q52.{0}) (@Q53.{0}))) (A (@Q54.{0}) (A (@Q55.{0}) (@Q56.{0}))))))) (A (A (A (A (A (@Q57) (A (@Q58) (@Q59))) (A (@Q60.{0}) (A (@Q61.{0}) (@Q62.{0})))) (A (A (@Q63) (A (@Q64) (@Q65.{0}))) (A (@Q66.{0}) (A (@Q67.{0}) (@vkE_some))))) (A (A (A (@vkE_none) (A (@e_eqnD) (@unkS.eq_1))) (A (@unkS.eq_2) (A (@e_boxI) (@e_mkmap)))) (A (A (@e_look) (A (@e_rng) (@e_upd))) (A (@e_del) (A (@e_clr) (@isInt.eq_1)))))) (A (A (A (A (@lookV.eq_1) (A (@lookV.eq_2) (@objLook.eq_1))) (A (@evLook.eq_1) (A (@evLook.eq_2) (@objRng.eq_1)))) (A (A (@evRng.eq_1) (A (@evRng.eq_2) (@updV.eq_1))) (A (@updV.eq_2) (A (@objUpd.eq_1) (@evUpd.eq_1))))) (A (A (A (@delV.eq_1) (A (@delV.eq_2) (@objDel.eq_1))) (A (@evDel.eq_1) (A (@objClr.eq_1) (@evClr.eq_1)))) (A (A (@evClr.eq_2) (A (@evClr.eq_3) (@isKey_i))) (A (@isKey_s) (A (@elemFree_agg) (@nkArr.eq_1)))))))))
theorem ok_bool (b : Bool) : V.ok (.bool b) = true := rfl
theorem ce_bool (b : Bool) : V.cells (.bool b) = [.bool b] := rfl
theorem ic_bool (b : Bool) : VO.evW.isCell (.bool b) = true := rfl
theorem le_bool (b : Bool) (ob : List (Option VObj)) : lendV ob (.bool b) = some (.bool b) := rfl
theorem ok_int (k : IntKind) (n : Int) : V.ok (.int k n) = true := rfl
theorem ce_int (k : IntKind) (n : Int) : V.cells (.int k n) = [.int k n] := rfl
theorem ic_int (k : IntKind) (n : Int) : VO.evW.isCell (.int k n) = true := rfl
theorem le_int (k : IntKind) (n : Int) (ob : List (Option VObj)) : lendV ob (.int k n) = some (.int k n) := rfl
theorem ok_str (l : List UInt8) : V.ok (.str l) = true := rfl
theorem ce_str (l : List UInt8) : V.cells (.str l) = [.str l] := rfl
theorem ic_str (l : List UInt8) : VO.evW.isCell (.str l) = true := rfl
theorem le_str (l : List UInt8) (ob : List (Option VObj)) : lendV ob (.str l) = some (.str l) := rfl
theorem ok_nils  : V.ok .nils = true := rfl
theorem ce_nils  : V.cells .nils = [.nils] := rfl
theorem ic_nils  : VO.evW.isCell .nils = true := rfl
theorem le_nils  (ob : List (Option VObj)) : lendV ob .nils = some .nils := rfl
theorem ok_sl (z : Nat) (rows : List (List V)) : V.ok (.sl z rows) = true := rfl
theorem ce_sl (z : Nat) (rows : List (List V)) : V.cells (.sl z rows) = [.sl z rows] := rfl
theorem ic_sl (z : Nat) (rows : List (List V)) : VO.evW.isCell (.sl z rows) = true := rfl
theorem le_sl (z : Nat) (rows : List (List V)) (ob : List (Option VObj)) : lendV ob (.sl z rows) = some (.sl z rows) := rfl
theorem ok_ref (k n : Nat) : V.ok (.ref k n) = true := rfl
theorem ce_ref (k n : Nat) : V.cells (.ref k n) = [.ref k n] := rfl
theorem ic_ref (k n : Nat) : VO.evW.isCell (.ref k n) = true := rfl
theorem ok_ptr (k o : Nat) : V.ok (.ptr k o) = true := rfl
theorem ce_ptr (k o : Nat) : V.cells (.ptr k o) = [.ptr k o] := rfl
theorem ic_ptr (k o : Nat) : VO.evW.isCell (.ptr k o) = true := rfl
theorem ok_eptr (k i z o : Nat) : V.ok (.eptr k i z o) = true := rfl
theorem ce_eptr (k i z o : Nat) : V.cells (.eptr k i z o) = [.eptr k i z o] := rfl
theorem ic_eptr (k i z o : Nat) : VO.evW.isCell (.eptr k i z o) = true := rfl
theorem ok_iptr (cs : List V) : V.ok (.iptr cs) = true := rfl
theorem ce_iptr (cs : List V) : V.cells (.iptr cs) = [.iptr cs] := rfl
theorem ic_iptr (cs : List V) : VO.evW.isCell (.iptr cs) = true := rfl
theorem le_iptr (cs : List V) (ob : List (Option VObj)) : lendV ob (.iptr cs) = some (.iptr cs) := rfl
theorem ok_agg (cs : List V) : V.ok (.agg cs) = true := rfl
theorem ok_tup (cs : List V) : V.ok (.tup cs) = true := rfl
theorem ce_tup (cs : List V) : V.cells (.tup cs) = [.tup cs] := rfl
theorem ok_fn (f : FuncId) (a b : List V) : V.ok (.fn f a b) = true := rfl
theorem ce_fn (f : FuncId) (a b : List V) : V.cells (.fn f a b) = [.fn f a b] := rfl
theorem ic_fn (f : FuncId) (a b : List V) : VO.evW.isCell (.fn f a b) = true := rfl
theorem ok_nilp  : V.ok .nilp = true := rfl
theorem ce_nilp  : V.cells .nilp = [.nilp] := rfl
theorem ic_nilp  : VO.evW.isCell .nilp = true := rfl
theorem le_nilp  (ob : List (Option VObj)) : lendV ob .nilp = some .nilp := rfl
theorem ok_nilm  : V.ok .nilm = true := rfl
theorem ce_nilm  : V.cells .nilm = [.nilm] := rfl
theorem ic_nilm  : VO.evW.isCell .nilm = true := rfl
theorem le_nilm  (ob : List (Option VObj)) : lendV ob .nilm = some .nilm := rfl
theorem ok_nilf  : V.ok .nilf = true := rfl
theorem ce_nilf  : V.cells .nilf = [.nilf] := rfl
theorem ic_nilf  : VO.evW.isCell .nilf = true := rfl
theorem le_nilf  (ob : List (Option VObj)) : lendV ob .nilf = some .nilf := rfl
theorem ok_nili  : V.ok .nili = true := rfl
theorem ce_nili  : V.cells .nili = [.nili] := rfl
theorem ic_nili  : VO.evW.isCell .nili = true := rfl
theorem le_nili  (ob : List (Option VObj)) : lendV ob .nili = some .nili := rfl
theorem ok_mapr (k : Nat) : V.ok (.mapr k) = true := rfl
theorem ce_mapr (k : Nat) : V.cells (.mapr k) = [.mapr k] := rfl
theorem ic_mapr (k : Nat) : VO.evW.isCell (.mapr k) = true := rfl
theorem nm_bool (b : Bool) : V.names (.bool b) = [] := rfl
theorem nm_int (k : IntKind) (n : Int) : V.names (.int k n) = [] := rfl
theorem nm_str (l : List UInt8) : V.names (.str l) = [] := rfl
theorem nm_nils  : V.names .nils = [] := rfl
theorem nm_sl (z : Nat) (rows : List (List V)) : V.names (.sl z rows) = [] := rfl
theorem nm_iptr (cs : List V) : V.names (.iptr cs) = [] := rfl
theorem nm_nilp  : V.names .nilp = [] := rfl
theorem nm_nilm  : V.names .nilm = [] := rfl
theorem nm_nilf  : V.names .nilf = [] := rfl
theorem nm_nili  : V.names .nili = [] := rfl
theorem bi_add (k : IntKind) (a b : Int) : evBin .add (.int k a) (.int k b) = evInt .add k a b := by simp only [evBin, if_true]
theorem bi_sub (k : IntKind) (a b : Int) : evBin .sub (.int k a) (.int k b) = evInt .sub k a b := by simp only [evBin, if_true]
theorem bi_mul (k : IntKind) (a b : Int) : evBin .mul (.int k a) (.int k b) = evInt .mul k a b := by simp only [evBin, if_true]
theorem bi_quo (k : IntKind) (a b : Int) : evBin .quo (.int k a) (.int k b) = evInt .quo k a b := by simp only [evBin, if_true]
theorem bi_rem (k : IntKind) (a b : Int) : evBin .rem (.int k a) (.int k b) = evInt .rem k a b := by simp only [evBin, if_true]
theorem bi_and (k : IntKind) (a b : Int) : evBin .and (.int k a) (.int k b) = evInt .and k a b := by simp only [evBin, if_true]
theorem bi_or (k : IntKind) (a b : Int) : evBin .or (.int k a) (.int k b) = evInt .or k a b := by simp only [evBin, if_true]
theorem bi_xor (k : IntKind) (a b : Int) : evBin .xor (.int k a) (.int k b) = evInt .xor k a b := by simp only [evBin, if_true]
theorem bi_andNot (k : IntKind) (a b : Int) : evBin .andNot (.int k a) (.int k b) = evInt .andNot k a b := by simp only [evBin, if_true]
theorem bi_eql (k : IntKind) (a b : Int) : evBin .eql (.int k a) (.int k b) = evInt .eql k a b := by simp only [evBin, if_true]
theorem bi_neq (k : IntKind) (a b : Int) : evBin .neq (.int k a) (.int k b) = evInt .neq k a b := by simp only [evBin, if_true]
theorem bi_lss (k : IntKind) (a b : Int) : evBin .lss (.int k a) (.int k b) = evInt .lss k a b := by simp only [evBin, if_true]
theorem bi_leq (k : IntKind) (a b : Int) : evBin .leq (.int k a) (.int k b) = evInt .leq k a b := by simp only [evBin, if_true]
theorem bi_gtr (k : IntKind) (a b : Int) : evBin .gtr (.int k a) (.int k b) = evInt .gtr k a b := by simp only [evBin, if_true]
theorem bi_geq (k : IntKind) (a b : Int) : evBin .geq (.int k a) (.int k b) = evInt .geq k a b := by simp only [evBin, if_true]
theorem retV_n (rs : List RV) (r : V) (s : St) : RetV rs r .normal s = ∃ x y, resV s rs = some x ∧ lendV s.ob x = some y ∧ Sub y r := nr rfl
theorem retV_r (rs : List RV) (r : V) (s : St) : RetV rs r .ret s = ∃ x y, resV s rs = some x ∧ lendV s.ob x = some y ∧ Sub y r := nr rfl
theorem retC_n (rs : List RV) (r : V) (ob : List (Option VObj)) (s : St) : RetC rs r ob .normal s = ∃ x, resV s rs = some x ∧ (St.mk [(0, x)] s.ob s.base).fg (St.mk [(0, r)] ob s.base) := nr rfl
theorem retC_r (rs : List RV) (r : V) (ob : List (Option VObj)) (s : St) : RetC rs r ob .ret s = ∃ x, resV s rs = some x ∧ (St.mk [(0, x)] s.ob s.base).fg (St.mk [(0, r)] ob s.base) := nr rfl
theorem vkA_c {P : Program} {os : List (Option (Bool × Bool) × VOper)} {c : VC} {fs : List Fr} {Q : VX → St → Prop} {s : St} {d : Option Nat} {old : Option Nat} {rows rows2 : List (List V)} {e sz bytes : Nat} (h1 : rows.length + rows2.length ≤ 140737488355328) (h2 : (rows.length + rows2.length) * bytes ≤ 140737488355328) : vkA (some (old, rows)) (some rows2) e sz bytes P d os c fs Q s = vk P os c fs Q (({ s with ob := dropOb s.ob old ++ [some (.arr e sz (rows ++ rows2))] } : St).putO d (.ref s.ob.length (rows ++ rows2).length)) := by rw [vkA_some]; exact propext ⟨fun h => h.2, fun h => ⟨⟨h1, h2⟩, h⟩⟩
theorem vkA_1 {P : Program} {os : List (Option (Bool × Bool) × VOper)} {c : VC} {fs : List Fr} {Q : VX → St → Prop} {s : St} {d : Option Nat} {old : Option Nat} {rows : List (List V)} {r : List V} {e sz bytes : Nat} (h1 : rows.length + 1 ≤ 140737488355328) (h2 : (rows.length + 1) * bytes ≤ 140737488355328) : vkA (some (old, rows)) (some [r]) e sz bytes P d os c fs Q s = vk P os c fs Q (({ s with ob := dropOb s.ob old ++ [some (.arr e sz (rows ++ [r]))] } : St).putO d (.ref s.ob.length (rows ++ [r]).length)) := vkA_c h1 h2
theorem vkA_2 {P : Program} {os : List (Option (Bool × Bool) × VOper)} {c : VC} {fs : List Fr} {Q : VX → St → Prop} {s : St} {d : Option Nat} {old : Option Nat} {rows : List (List V)} {r r2 : List V} {e sz bytes : Nat} (h1 : rows.length + 2 ≤ 140737488355328) (h2 : (rows.length + 2) * bytes ≤ 140737488355328) : vkA (some (old, rows)) (some [r, r2]) e sz bytes P d os c fs Q s = vk P os c fs Q (({ s with ob := dropOb s.ob old ++ [some (.arr e sz (rows ++ [r, r2]))] } : St).putO d (.ref s.ob.length (rows ++ [r, r2]).length)) := vkA_c h1 h2
theorem nil_slE (z : Nat) : isNil .s (.sl z []) = none := rfl
theorem vkA_0 {P : Program} {os : List (Option (Bool × Bool) × VOper)} {c : VC} {fs : List Fr} {Q : VX → St → Prop} {s : St} {d : Option Nat} {old : Option Nat} {rows2 : List (List V)} {e sz bytes : Nat} (h1 : rows2.length ≤ 140737488355328) (h2 : rows2.length * bytes ≤ 140737488355328) : vkA (some (old, [])) (some rows2) e sz bytes P d os c fs Q s = vk P os c fs Q (({ s with ob := dropOb s.ob old ++ [some (.arr e sz rows2)] } : St).putO d (.ref s.ob.length rows2.length)) := by rw [vkA_c (by simpa using h1) (by simpa using h2)]; rfl
theorem vkA_00 {P : Program} {os : List (Option (Bool × Bool) × VOper)} {c : VC} {fs : List Fr} {Q : VX → St → Prop} {s : St} {d : Option Nat} {old : Option Nat} {e sz bytes : Nat} : vkA (some (old, [])) (some []) e sz bytes P d os c fs Q s = vk P os c fs Q (({ s with ob := dropOb s.ob old ++ [some (.arr e sz [])] } : St).putO d (.ref s.ob.length 0)) := by rw [vkA_c (by simp) (by simp)]; rfl
theorem vkAs_0 {P : Program} {os : List (Option (Bool × Bool) × VOper)} {c : VC} {fs : List Fr} {Q : VX → St → Prop} {s : St} {d : Option Nat} {old : Option Nat} {l : List UInt8} {e : Nat} (h1 : l.length ≤ 140737488355328) : vkAs (some (old, [])) (.str l) e P d os c fs Q s = vk P os c fs Q (({ s with ob := dropOb s.ob old ++ [some (.arr e 1 (bRows l))] } : St).putO d (.ref s.ob.length (bRows l).length)) := by rw [vkAs_some]; exact propext ⟨fun h => h.2, fun h => ⟨by simpa using h1, h⟩⟩
theorem vkAs_c {P : Program} {os : List (Option (Bool × Bool) × VOper)} {c : VC} {fs : List Fr} {Q : VX → St → Prop} {s : St} {d : Option Nat} {old : Option Nat} {rows : List (List V)} {l : List UInt8} {e : Nat} (h1 : rows.length + l.length ≤ 140737488355328) : vkAs (some (old, rows)) (.str l) e P d os c fs Q s = vk P os c fs Q (({ s with ob := dropOb s.ob old ++ [some (.arr e 1 (rows ++ bRows l))] } : St).putO d (.ref s.ob.length (rows ++ bRows l).length)) := by rw [vkAs_some]; exact propext ⟨fun h => h.2, fun h => ⟨h1, h⟩⟩
theorem vkM_c {P : Program} {os : List (Option (Bool × Bool) × VOper)} {c : VC} {fs : List Fr} {Q : VX → St → Prop} {s : St} {d : Option Nat} {k k' : IntKind} {n q : Int} {e sz bytes : Nat} {z : List V} (h0 : 0 ≤ n) (h1 : n = q) (h2 : n ≤ 140737488355328) (h3 : bytes * n ≤ 281474976710656) : vkM (.int k n) (.int k' q) e sz bytes z P d os c fs Q s = (z.all idFree = true ∧ vk P os c fs Q (({ s with ob := s.ob ++ [some (.arr e sz (List.replicate n.toNat z))] } : St).putO d (.ref s.ob.length n.toNat))) := by rw [vkM_int]; exact propext ⟨fun h => ⟨h.1.2.2.2.2, h.2⟩, fun h => ⟨⟨h0, h1, h2, h3, h.1⟩, h.2⟩⟩
theorem beqI_t {a b : Int} (h : a = b) : (a == b) = true := by simp [h]
theorem beqI_f {a b : Int} (h : ¬ a = b) : (a == b) = false := by simp [h]
theorem bneI_t {a b : Int} (h : ¬ a = b) : (a != b) = true := by simp [h]
theorem bneI_f {a b : Int} (h : a = b) : (a != b) = false := by simp [h]
theorem dec_t {p : Prop} [Decidable p] (h : p) : decide p = true := by simp [h]
theorem dec_f {p : Prop} [Decidable p] (h : ¬ p) : decide p = false := by simp [h]
theorem w_i8 {n : Int} (h1 : -128 ≤ n) (h2 : n ≤ 127) : IntKind.i8.wrap n = n := by
  simp only [IntKind.wrap, IntKind.bits, IntKind.signed]
  first | omega | (simp; omega)
theorem w_i16 {n : Int} (h1 : -32768 ≤ n) (h2 : n ≤ 32767) : IntKind.i16.wrap n = n := by
  simp only [IntKind.wrap, IntKind.bits, IntKind.signed]
  first | omega | (simp; omega)
theorem w_i32 {n : Int} (h1 : -2147483648 ≤ n) (h2 : n ≤ 2147483647) : IntKind.i32.wrap n = n := by
  simp only [IntKind.wrap, IntKind.bits, IntKind.signed]
  first | omega | (simp; omega)
theorem w_i64 {n : Int} (h1 : -9223372036854775808 ≤ n) (h2 : n ≤ 9223372036854775807) : IntKind.i64.wrap n = n := by
  simp only [IntKind.wrap, IntKind.bits, IntKind.signed]
  first | omega | (simp; omega)
theorem w_u8 {n : Int} (h1 : 0 ≤ n) (h2 : n ≤ 255) : IntKind.u8.wrap n = n := by
  simp only [IntKind.wrap, IntKind.bits, IntKind.signed]
  first | omega | (simp; omega)
theorem w_u16 {n : Int} (h1 : 0 ≤ n) (h2 : n ≤ 65535) : IntKind.u16.wrap n = n := by
  simp only [IntKind.wrap, IntKind.bits, IntKind.signed]
  first | omega | (simp; omega)
theorem w_u32 {n : Int} (h1 : 0 ≤ n) (h2 : n ≤ 4294967295) : IntKind.u32.wrap n = n := by
  simp only [IntKind.wrap, IntKind.bits, IntKind.signed]
  first | omega | (simp; omega)
theorem w_u64 {n : Int} (h1 : 0 ≤ n) (h2 : n ≤ 18446744073709551615) : IntKind.u64.wrap n = n := by
  simp only [IntKind.wrap, IntKind.bits, IntKind.signed]
  first | omega | (simp; omega)

theorem EW : type_of% (A (A (A (A (A (A (A (A (@e_seq) (A (@e_block) (@e_skip_seq))) (A (A (@e_skip_block) (@e_skip_nil)) (A (@e_exit_seq) (@e_exit_block)))) (A (A (@e_exit_nil) (A (@e_ret_cons) (@e_ret_nil))) (A (A (@e_reg) (@e_dreg)) (A (@e_mv) (@e_pick))))) (A (A (A (@e_bin) (A (@e_eqb) (@e_eqn))) (A (A (@e_eqa) (@e_un)) (A (@e_cint) (@e_cstr)))) (A (A (A (@e_build) (@e_nilck)) (A (@e_fadr) (@e_fld))) (A (A (@e_iadr) (@e_iadrA)) (A (@e_idxs) (@e_idxa)))))) (A (A (A (A (@e_slcs) (A (@e_slc) (@e_ext))) (A (A (@e_fn) (@e_lns)) (A (@e_ln) (@e_mm)))) (A (A (@e_alloc) (A (@e_box) (@e_load))) (A (A (@e_bslI) (@e_bslO)) (A (@e_msl) (@e_b2s))))) (A (A (A (@e_s2b) (A (@e_store) (@e_app))) (A (A (@e_apps) (@e_guardB)) (A (@vkV_some) (@vkV_none)))) (A (A (A (@vkW_some) (@vkW_none)) (A (@vkO_some) (@vkO_none))) (A (A (@vkC_bool) (@vkG_bool)) (A (@vkG_undef) (@evPick.eq_1))))))) (A (A (A (A (A (@evBslI.eq_1) (A (@evBslI.eq_2) (@evBslO.eq_1))) (A (A (@evBslO.eq_2) (@evEqb.eq_1)) (A (@evEqn.eq_1) (@evEqa.eq_1)))) (A (A (@eqCells.eq_1) (A (@eqCells.eq_2) (@eqCell.eq_1))) (A (A (@eqCell.eq_2) (@eqCell.eq_3)) (A (@isNil.eq_1) (@isNil.eq_2))))) (A (A (A (@isNil.eq_3) (A (@isNil.eq_4) (@isNil.eq_5))) (A (A (@isNil.eq_6) (@isNil.eq_7)) (A (@isNil.eq_8) (@isNil.eq_9)))) (A (A (A (@isNil.eq_10) (@isNil.eq_11)) (A (@isNil.eq_12) (@evCint.eq_1))) (A (A (@evCstr.eq_1) (@evNilck.eq_1)) (A (@evNilck.eq_2) (@evNilck.eq_3)))))) (A (A (A (A (@evNilck.eq_4) (A (@evFadr.eq_1) (@evFadr.eq_2))) (A (A (@evFadr.eq_3) (@evFld.eq_1)) (A (@rowPtr.eq_1) (@rowPtr.eq_2)))) (A (A (@evIadr.eq_1) (A (@evIadr.eq_2) (@evIadr.eq_3))) (A (A (@evIadrA.eq_1) (@evIadrA.eq_2)) (A (@byteV.eq_1) (@byteV.eq_2))))) (A (A (A (@evIdxs.eq_1) (A (@evIdxa.eq_1) (@evSlcs.eq_1))) (A (A (@evSlc.eq_1) (@evSlc.eq_2)) (A (@evSlc.eq_3) (@evSlc.eq_4)))) (A (A (A (@boundsV.eq_1) (@boundsV.eq_2)) (A (@boundsV.eq_3) (@asI.eq_1))) (A (A (@evExt.eq_1) (@evLns.eq_1)) (A (@evLn.eq_1) (@evLn.eq_2)))))))) (A (A (A (A (A (A (@evLn.eq_3) (A (@evLn.eq_4) (@evMm.eq_1))) (A (A (@mmInt.eq_1) (@mmInt.eq_2)) (A (@evB2s.eq_1) (@evB2s.eq_2)))) (A (A (@evB2s.eq_3) (A (@evS2b.eq_1) (@evStore.eq_1))) (A (A (@evStore.eq_2) (@VO.evW.isCell.eq_1)) (A (@VO.evW.isCell.eq_2) (@VO.evW.isCell.eq_3))))) (A (A (A (@evBin.eq_1) (A (@evBin.eq_2) (@evBin.eq_4))) (A (A (@evInt.eq_1) (@evInt.eq_2)) (A (@evInt.eq_3) (@evInt.eq_4)))) (A (A (A (@evInt.eq_5) (@evInt.eq_6)) (A (@evInt.eq_7) (@evInt.eq_8))) (A (A (@evInt.eq_9) (@evInt.eq_10)) (A (@evInt.eq_11) (@evInt.eq_12)))))) (A (A (A (A (@evInt.eq_13) (A (@evInt.eq_14) (@evInt.eq_15))) (A (A (@evStr.eq_1) (@evStr.eq_2)) (A (@evStr.eq_3) (@evStr.eq_4)))) (A (A (@evStr.eq_5) (A (@evStr.eq_6) (@evStr.eq_7))) (A (A (@evUn.eq_1) (@evUn.eq_3)) (A (@evUn.eq_4) (@fillV.eq_1))))) (A (A (A (@fillV.eq_2) (A (@putCells.eq_1) (@putCells.eq_2))) (A (A (@fillRows.eq_1) (@fillRows.eq_2)) (A (@loadFrom.eq_1) (@loadFrom.eq_2)))) (A (A (A (@loadFrom.eq_3) (@loadV.eq_1)) (A (@objRows.eq_1) (@appRows.eq_1))) (A (A (@appRows.eq_2) (@srcRows.eq_1)) (A (@srcRows.eq_2) (@srcRows.eq_3))))))) (A (A (A (A (A (@dropOb.eq_1) (A (@dropOb.eq_2) (@V.ok.eq_1))) (A (A (@V.cells.eq_1) (@idFree.eq_1)) (A (@idFree.eq_2) (@idFree.eq_3)))) (A (A (@idFree.eq_4) (A (@idFree.eq_5) (@idFree.eq_6))) (A (A (@idFree.eq_7) (@idFree.eq_8)) (A (@idFree.eq_9) (@idFree.eq_10))))) (A (A (A (@tagN.eq_1) (A (@tagN.eq_2) (@tagD.eq_1))) (A (A (@tagD.eq_2) (@St.putO.eq_1)) (A (@St.putO.eq_2) (@St.put.eq_1)))) (A (A (A (@St.x.eq_1) (@St.x.eq_2)) (A (@St.get.eq_1) (@St.init.eq_1))) (A (A (@List.lookup.eq_1.{0,0}) (@List.lookup.eq_2.{0,0})) (A (@loopQ.eq_1) (@loopQ.eq_2)))))) (A (A (A (A (@joinQ.eq_1) (A (@joinQ.eq_2) (@RetV.eq_1))) (A (A (@RetC.eq_1) (@resV.eq_1)) (A (@resL.eq_1) (@resL.eq_2)))) (A (A (A (@RV.get.eq_1) (@RV.get.eq_2)) (A (@lendV.eq_1) (@lendV.eq_2))) (A (A (@lendV.eq_3) (@lendV.eq_4)) (A (@lendV.eq_5) (@lendV.eq_6))))) (A (A (A (@lendV.eq_7) (A (@lendV.eq_8) (@lendV.eq_9))) (A (A (@lendL.eq_1) (@lendL.eq_2)) (A (@Q0.{0}) (@Q1.{0})))) (A (A (A (@Q2.{0,0}) (@Q3.{0,0})) (A (@Q4.{0}) (@Q5.{0}))) (A (A (@Q6.{0,0}) (@Q7.{0,0})) (A (@Q8.{0,0}) (@Q9.{0,0}))))))))) (A (A (A (A (A (A (A (@Q10.{0}) (A (@Q11.{0}) (@Q12.{0}))) (A (A (@Q13.{0}) (@Q14.{0})) (A (@Q15.{0}) (@Q16)))) (A (A (@Q17) (A (@Q18.{0}) (@Q19.{0}))) (A (A (@Q20.{0}) (@Q21.{0})) (A (@Q22.{0}) (@Q23.{0}))))) (A (A (A (@Q24.{0}) (A (@Q25.{0}) (@Q26.{0}))) (A (A (@Q27) (@Q28)) (A (@Q29) (@Q30.{0})))) (A (A (A (@Q31.{0}) (@Q32.{0})) (A (@Q33.{0}) (@Q34))) (A (A (@Q35) (@Q36)) (A (@Q37) (@Q38)))))) (A (A (A (A (@Q39) (A (@Q40) (@Q41))) (A (A (@Q42) (@Q43)) (A (@Q44.{1}) (@Q44.{0})))) (A (A (@Q45.{1}) (A (@Q45.{0}) (@Q46))) (A (A (@Q47) (@Q48.{0})) (A (@Q49.{0,0}) (@Q50.{0}))))) (A (A (A (@Q51.{0}) (A (@Q52.{0}) (@Q53.{0}))) (A (A (@Q54.{0}) (@Q55.{0})) (A (@Q56.{0}) (@Q57)))) (A (A (A (@Q58) (@Q59)) (A (@Q60.{0}) (@Q61.{0}))) (A (A (@Q62.{0}) (@Q63)) (A (@Q64) (@Q65.{0}))))))) (A (A (A (A (A (@Q66.{0}) (A (@Q67.{0}) (@vkE_some))) (A (A (@vkE_none) (@e_eqnD)) (A (@unkS.eq_1) (@unkS.eq_2)))) (A (A (@List.length_drop.{0}) (A (@List.getElem?_drop.{0}) (@List.drop_drop.{0}))) (A (A (@List.contains_nil.{0}) (@List.contains_cons.{0})) (A (@Bool.or_false) (@Bool.false_or))))) (A (A (A (@Bool.or_true) (A (@Bool.true_or) (@e_dregF))) (A (A (@e_chk) (@chkS.eq_1)) (A (@namesL.eq_1) (@namesL.eq_2)))) (A (A (A (@V.names.eq_1) (@V.names.eq_2)) (A (@V.names.eq_3) (@V.names.eq_4))) (A (A (@V.names.eq_5) (@V.names.eq_6)) (A (@V.names.eq_7) (@ok_bool)))))) (A (A (A (A (@ce_bool) (A (@ic_bool) (@le_bool))) (A (A (@ok_int) (@ce_int)) (A (@ic_int) (@le_int)))) (A (A (@ok_str) (A (@ce_str) (@ic_str))) (A (A (@le_str) (@ok_nils)) (A (@ce_nils) (@ic_nils))))) (A (A (A (@le_nils) (A (@ok_sl) (@ce_sl))) (A (A (@ic_sl) (@le_sl)) (A (@ok_ref) (@ce_ref)))) (A (A (A (@ic_ref) (@ok_ptr)) (A (@ce_ptr) (@ic_ptr))) (A (A (@ok_eptr) (@ce_eptr)) (A (@ic_eptr) (@ok_iptr)))))))) (A (A (A (A (A (A (@ce_iptr) (A (@ic_iptr) (@le_iptr))) (A (A (@ok_agg) (@ok_tup)) (A (@ce_tup) (@ok_fn)))) (A (A (@ce_fn) (A (@ic_fn) (@ok_nilp))) (A (A (@ce_nilp) (@ic_nilp)) (A (@le_nilp) (@ok_nilm))))) (A (A (A (@ce_nilm) (A (@ic_nilm) (@le_nilm))) (A (A (@ok_nilf) (@ce_nilf)) (A (@ic_nilf) (@le_nilf)))) (A (A (A (@ok_nili) (@ce_nili)) (A (@ic_nili) (@le_nili))) (A (A (@ok_mapr) (@ce_mapr)) (A (@ic_mapr) (@nm_bool)))))) (A (A (A (A (@nm_int) (A (@nm_str) (@nm_nils))) (A (A (@nm_sl) (@nm_iptr)) (A (@nm_nilp) (@nm_nilm)))) (A (A (@nm_nilf) (A (@nm_nili) (@bi_add))) (A (A (@bi_sub) (@bi_mul)) (A (@bi_quo) (@bi_rem))))) (A (A (A (@bi_and) (A (@bi_or) (@bi_xor))) (A (A (@bi_andNot) (@bi_eql)) (A (@bi_neq) (@bi_lss)))) (A (A (A (@bi_leq) (@bi_gtr)) (A (@bi_geq) (@retV_n))) (A (A (@retV_r) (@retC_n)) (A (@retC_r) (@vkA_c))))))) (A (A (A (A (A (@vkA_1) (A (@vkA_2) (@nil_slE))) (A (A (@vkA_0) (@vkA_00)) (A (@vkAs_0) (@vkAs_c)))) (A (A (@vkM_c) (A (@beqI_t) (@beqI_f))) (A (A (@bneI_t) (@bneI_f)) (A (@dec_t) (@dec_f))))) (A (A (A (@e_condB) (A (@if_pos.{0}) (@if_pos.{1}))) (A (A (@if_neg.{0}) (@if_neg.{1})) (A (@w_i64) (@w_u8)))) (A (A (A (@w_i32) (@w_u32)) (A (@w_u64) (@w_i8))) (A (A (@w_i16) (@w_u16)) (A (@e_boxI) (@e_mkmap)))))) (A (A (A (A (@e_look) (A (@e_rng) (@e_upd))) (A (A (@e_del) (@e_clr)) (A (@isInt.eq_1) (@lookV.eq_1)))) (A (A (A (@lookV.eq_2) (@objLook.eq_1)) (A (@evLook.eq_1) (@evLook.eq_2))) (A (A (@objRng.eq_1) (@evRng.eq_1)) (A (@evRng.eq_2) (@updV.eq_1))))) (A (A (A (@updV.eq_2) (A (@objUpd.eq_1) (@evUpd.eq_1))) (A (A (@delV.eq_1) (@delV.eq_2)) (A (@objDel.eq_1) (@evDel.eq_1)))) (A (A (A (@objClr.eq_1) (@evClr.eq_1)) (A (@evClr.eq_2) (@evClr.eq_3))) (A (A (@isKey_i) (@isKey_s)) (A (@elemFree_agg) (@nkArr.eq_1)))))))))) := A (A (A (A (A (A (A (A (@e_seq) (A (@e_block) (@e_skip_seq))) (A (A (@e_skip_block) (@e_skip_nil)) (A (@e_exit_seq) (@e_exit_block)))) (A (A (@e_exit_nil) (A (@e_ret_cons) (@e_ret_nil))) (A (A (@e_reg) (@e_dreg)) (A (@e_mv) (@e_pick))))) (A (A (A (@e_bin) (A (@e_eqb) (@e_eqn))) (A (A (@e_eqa) (@e_un)) (A (@e_cint) (@e_cstr)))) (A (A (A (@e_build) (@e_nilck)) (A (@e_fadr) (@e_fld))) (A (A (@e_iadr) (@e_iadrA)) (A (@e_idxs) (@e_idxa)))))) (A (A (A (A (@e_slcs) (A (@e_slc) (@e_ext))) (A (A (@e_fn) (@e_lns)) (A (@e_ln) (@e_mm)))) (A (A (@e_alloc) (A (@e_box) (@e_load))) (A (A (@e_bslI) (@e_bslO)) (A (@e_msl) (@e_b2s))))) (A (A (A (@e_s2b) (A (@e_store) (@e_app))) (A (A (@e_apps) (@e_guardB)) (A (@vkV_some) (@vkV_none)))) (A (A (A (@vkW_some) (@vkW_none)) (A (@vkO_some) (@vkO_none))) (A (A (@vkC_bool) (@vkG_bool)) (A (@vkG_undef) (@evPick.eq_1))))))) (A (A (A (A (A (@evBslI.eq_1) (A (@evBslI.eq_2) (@evBslO.eq_1))) (A (A (@evBslO.eq_2) (@evEqb.eq_1)) (A (@evEqn.eq_1) (@evEqa.eq_1)))) (A (A (@eqCells.eq_1) (A (@eqCells.eq_2) (@eqCell.eq_1))) (A (A (@eqCell.eq_2) (@eqCell.eq_3)) (A (@isNil.eq_1) (@isNil.eq_2))))) (A (A (A (@isNil.eq_3) (A (@isNil.eq_4) (@isNil.eq_5))) (A (A (@isNil.eq_6) (@isNil.eq_7)) (A (@isNil.eq_8) (@isNil.eq_9)))) (A (A (A (@isNil.eq_10) (@isNil.eq_11)) (A (@isNil.eq_12) (@evCint.eq_1))) (A (A (@evCstr.eq_1) (@evNilck.eq_1)) (A (@evNilck.eq_2) (@evNilck.eq_3)))))) (A (A (A (A (@evNilck.eq_4) (A (@evFadr.eq_1) (@evFadr.eq_2))) (A (A (@evFadr.eq_3) (@evFld.eq_1)) (A (@rowPtr.eq_1) (@rowPtr.eq_2)))) (A (A (@evIadr.eq_1) (A (@evIadr.eq_2) (@evIadr.eq_3))) (A (A (@evIadrA.eq_1) (@evIadrA.eq_2)) (A (@byteV.eq_1) (@byteV.eq_2))))) (A (A (A (@evIdxs.eq_1) (A (@evIdxa.eq_1) (@evSlcs.eq_1))) (A (A (@evSlc.eq_1) (@evSlc.eq_2)) (A (@evSlc.eq_3) (@evSlc.eq_4)))) (A (A (A (@boundsV.eq_1) (@boundsV.eq_2)) (A (@boundsV.eq_3) (@asI.eq_1))) (A (A (@evExt.eq_1) (@evLns.eq_1)) (A (@evLn.eq_1) (@evLn.eq_2)))))))) (A (A (A (A (A (A (@evLn.eq_3) (A (@evLn.eq_4) (@evMm.eq_1))) (A (A (@mmInt.eq_1) (@mmInt.eq_2)) (A (@evB2s.eq_1) (@evB2s.eq_2)))) (A (A (@evB2s.eq_3) (A (@evS2b.eq_1) (@evStore.eq_1))) (A (A (@evStore.eq_2) (@VO.evW.isCell.eq_1)) (A (@VO.evW.isCell.eq_2) (@VO.evW.isCell.eq_3))))) (A (A (A (@evBin.eq_1) (A (@evBin.eq_2) (@evBin.eq_4))) (A (A (@evInt.eq_1) (@evInt.eq_2)) (A (@evInt.eq_3) (@evInt.eq_4)))) (A (A (A (@evInt.eq_5) (@evInt.eq_6)) (A (@evInt.eq_7) (@evInt.eq_8))) (A (A (@evInt.eq_9) (@evInt.eq_10)) (A (@evInt.eq_11) (@evInt.eq_12)))))) (A (A (A (A (@evInt.eq_13) (A (@evInt.eq_14) (@evInt.eq_15))) (A (A (@evStr.eq_1) (@evStr.eq_2)) (A (@evStr.eq_3) (@evStr.eq_4)))) (A (A (@evStr.eq_5) (A (@evStr.eq_6) (@evStr.eq_7))) (A (A (@evUn.eq_1) (@evUn.eq_3)) (A (@evUn.eq_4) (@fillV.eq_1))))) (A (A (A (@fillV.eq_2) (A (@putCells.eq_1) (@putCells.eq_2))) (A (A (@fillRows.eq_1) (@fillRows.eq_2)) (A (@loadFrom.eq_1) (@loadFrom.eq_2)))) (A (A (A (@loadFrom.eq_3) (@loadV.eq_1)) (A (@objRows.eq_1) (@appRows.eq_1))) (A (A (@appRows.eq_2) (@srcRows.eq_1)) (A (@srcRows.eq_2) (@srcRows.eq_3))))))) (A (A (A (A (A (@dropOb.eq_1) (A (@dropOb.eq_2) (@V.ok.eq_1))) (A (A (@V.cells.eq_1) (@idFree.eq_1)) (A (@idFree.eq_2) (@idFree.eq_3)))) (A (A (@idFree.eq_4) (A (@idFree.eq_5) (@idFree.eq_6))) (A (A (@idFree.eq_7) (@idFree.eq_8)) (A (@idFree.eq_9) (@idFree.eq_10))))) (A (A (A (@tagN.eq_1) (A (@tagN.eq_2) (@tagD.eq_1))) (A (A (@tagD.eq_2) (@St.putO.eq_1)) (A (@St.putO.eq_2) (@St.put.eq_1)))) (A (A (A (@St.x.eq_1) (@St.x.eq_2)) (A (@St.get.eq_1) (@St.init.eq_1))) (A (A (@List.lookup.eq_1.{0,0}) (@List.lookup.eq_2.{0,0})) (A (@loopQ.eq_1) (@loopQ.eq_2)))))) (A (A (A (A (@joinQ.eq_1) (A (@joinQ.eq_2) (@RetV.eq_1))) (A (A (@RetC.eq_1) (@resV.eq_1)) (A (@resL.eq_1) (@resL.eq_2)))) (A (A (A (@RV.get.eq_1) (@RV.get.eq_2)) (A (@lendV.eq_1) (@lendV.eq_2))) (A (A (@lendV.eq_3) (@lendV.eq_4)) (A (@lendV.eq_5) (@lendV.eq_6))))) (A (A (A (@lendV.eq_7) (A (@lendV.eq_8) (@lendV.eq_9))) (A (A (@lendL.eq_1) (@lendL.eq_2)) (A (@Q0.{0}) (@Q1.{0})))) (A (A (A (@Q2.{0,0}) (@Q3.{0,0})) (A (@Q4.{0}) (@Q5.{0}))) (A (A (@Q6.{0,0}) (@Q7.{0,0})) (A (@Q8.{0,0}) (@Q9.{0,0}))))))))) (A (A (A (A (A (A (A (@Q10.{0}) (A (@Q11.{0}) (@Q12.{0}))) (A (A (@Q13.{0}) (@Q14.{0})) (A (@Q15.{0}) (@Q16)))) (A (A (@Q17) (A (@Q18.{0}) (@Q19.{0}))) (A (A (@Q20.{0}) (@Q21.{0})) (A (@Q22.{0}) (@Q23.{0}))))) (A (A (A (@Q24.{0}) (A (@Q25.{0}) (@Q26.{0}))) (A (A (@Q27) (@Q28)) (A (@Q29) (@Q30.{0})))) (A (A (A (@Q31.{0}) (@Q32.{0})) (A (@Q33.{0}) (@Q34))) (A (A (@Q35) (@Q36)) (A (@Q37) (@Q38)))))) (A (A (A (A (@Q39) (A (@Q40) (@Q41))) (A (A (@Q42) (@Q43)) (A (@Q44.{1}) (@Q44.{0})))) (A (A (@Q45.{1}) (A (@Q45.{0}) (@Q46))) (A (A (@Q47) (@Q48.{0})) (A (@Q49.{0,0}) (@Q50.{0}))))) (A (A (A (@Q51.{0}) (A (@Q52.{0}) (@Q53.{0}))) (A (A (@Q54.{0}) (@Q55.{0})) (A (@Q56.{0}) (@Q57)))) (A (A (A (@Q58) (@Q59)) (A (@Q60.{0}) (@Q61.{0}))) (A (A (@Q62.{0}) (@Q63)) (A (@Q64) (@Q65.{0}))))))) (A (A (A (A (A (@Q66.{0}) (A (@Q67.{0}) (@vkE_some))) (A (A (@vkE_none) (@e_eqnD)) (A (@unkS.eq_1) (@unkS.eq_2)))) (A (A (@List.length_drop.{0}) (A (@List.getElem?_drop.{0}) (@List.drop_drop.{0}))) (A (A (@List.contains_nil.{0}) (@List.contains_cons.{0})) (A (@Bool.or_false) (@Bool.false_or))))) (A (A (A (@Bool.or_true) (A (@Bool.true_or) (@e_dregF))) (A (A (@e_chk) (@chkS.eq_1)) (A (@namesL.eq_1) (@namesL.eq_2)))) (A (A (A (@V.names.eq_1) (@V.names.eq_2)) (A (@V.names.eq_3) (@V.names.eq_4))) (A (A (@V.names.eq_5) (@V.names.eq_6)) (A (@V.names.eq_7) (@ok_bool)))))) (A (A (A (A (@ce_bool) (A (@ic_bool) (@le_bool))) (A (A (@ok_int) (@ce_int)) (A (@ic_int) (@le_int)))) (A (A (@ok_str) (A (@ce_str) (@ic_str))) (A (A (@le_str) (@ok_nils)) (A (@ce_nils) (@ic_nils))))) (A (A (A (@le_nils) (A (@ok_sl) (@ce_sl))) (A (A (@ic_sl) (@le_sl)) (A (@ok_ref) (@ce_ref)))) (A (A (A (@ic_ref) (@ok_ptr)) (A (@ce_ptr) (@ic_ptr))) (A (A (@ok_eptr) (@ce_eptr)) (A (@ic_eptr) (@ok_iptr)))))))) (A (A (A (A (A (A (@ce_iptr) (A (@ic_iptr) (@le_iptr))) (A (A (@ok_agg) (@ok_tup)) (A (@ce_tup) (@ok_fn)))) (A (A (@ce_fn) (A (@ic_fn) (@ok_nilp))) (A (A (@ce_nilp) (@ic_nilp)) (A (@le_nilp) (@ok_nilm))))) (A (A (A (@ce_nilm) (A (@ic_nilm) (@le_nilm))) (A (A (@ok_nilf) (@ce_nilf)) (A (@ic_nilf) (@le_nilf)))) (A (A (A (@ok_nili) (@ce_nili)) (A (@ic_nili) (@le_nili))) (A (A (@ok_mapr) (@ce_mapr)) (A (@ic_mapr) (@nm_bool)))))) (A (A (A (A (@nm_int) (A (@nm_str) (@nm_nils))) (A (A (@nm_sl) (@nm_iptr)) (A (@nm_nilp) (@nm_nilm)))) (A (A (@nm_nilf) (A (@nm_nili) (@bi_add))) (A (A (@bi_sub) (@bi_mul)) (A (@bi_quo) (@bi_rem))))) (A (A (A (@bi_and) (A (@bi_or) (@bi_xor))) (A (A (@bi_andNot) (@bi_eql)) (A (@bi_neq) (@bi_lss)))) (A (A (A (@bi_leq) (@bi_gtr)) (A (@bi_geq) (@retV_n))) (A (A (@retV_r) (@retC_n)) (A (@retC_r) (@vkA_c))))))) (A (A (A (A (A (@vkA_1) (A (@vkA_2) (@nil_slE))) (A (A (@vkA_0) (@vkA_00)) (A (@vkAs_0) (@vkAs_c)))) (A (A (@vkM_c) (A (@beqI_t) (@beqI_f))) (A (A (@bneI_t) (@bneI_f)) (A (@dec_t) (@dec_f))))) (A (A (A (@e_condB) (A (@if_pos.{0}) (@if_pos.{1}))) (A (A (@if_neg.{0}) (@if_neg.{1})) (A (@w_i64) (@w_u8)))) (A (A (A (@w_i32) (@w_u32)) (A (@w_u64) (@w_i8))) (A (A (@w_i16) (@w_u16)) (A (@e_boxI) (@e_mkmap)))))) (A (A (A (A (@e_look) (A (@e_rng) (@e_upd))) (A (A (@e_del) (@e_clr)) (A (@isInt.eq_1) (@lookV.eq_1)))) (A (A (A (@lookV.eq_2) (@objLook.eq_1)) (A (@evLook.eq_1) (@evLook.eq_2))) (A (A (@objRng.eq_1) (@evRng.eq_1)) (A (@evRng.eq_2) (@updV.eq_1))))) (A (A (A (@updV.eq_2) (A (@objUpd.eq_1) (@evUpd.eq_1))) (A (A (@delV.eq_1) (@delV.eq_2)) (A (@objDel.eq_1) (@evDel.eq_1)))) (A (A (A (@objClr.eq_1) (@evClr.eq_1)) (A (@evClr.eq_2) (@evClr.eq_3))) (A (A (@isKey_i) (@isKey_s)) (A (@elemFree_agg) (@nkArr.eq_1)))))))))
theorem fin {x r : V} {ob : List (Option VObj)} (h : lendV ob x = some r) : ∃ a b, some x = some a ∧ lendV ob a = some b ∧ Sub b r := ⟨_, _, rfl, h, .refl _⟩
end Go.Proofs.VL

namespace Go.Proofs.VL
set_option linter.unusedVariables false

/-! ### runs of origins: the plain words -/
abbrev LT := List (UInt8 × Int)
abbrev Runs := List (Int × Int)

def nearI (o : Int) : Int := min (max o 0) 65536

def putS (l : Runs) (n o : Int) : Runs :=
  if n < 1 then l else match l.getLast? with
    | some (a, o') => if o' = o then l.dropLast ++ [(a + n, o)] else l ++ [(n, o)]
    | none => [(n, o)]

def rle (os : List Int) : Runs := os.foldl (fun l o => putS l 1 o) []

theorem rle_snoc (os : List Int) (o : Int) : rle (os ++ [o]) = putS (rle os) 1 o := by simp [rle]
theorem rle_nil : rle [] = [] := rfl

theorem putS_putS (l : Runs) (n : Nat) (o : Int) : putS (putS l 1 o) n o = putS l (n + 1) o := by
  rcases Nat.eq_zero_or_pos n with rfl | hn
  · rw [putS, if_pos (by simp)]; simp
  · have h1 : ¬ ((n : Int) < 1) := by omega
    have h2 : ¬ ((n : Int) + 1 < 1) := by omega
    have h3 : ¬ ((1 : Int) < 1) := by omega
    rcases List.eq_nil_or_concat l with rfl | ⟨init, ⟨a, o'⟩, rfl⟩
    · simp only [putS, h1, h2, h3, if_false, List.getLast?_nil, List.getLast?_singleton, if_true, List.dropLast_singleton, List.nil_append]
      congr 2; omega
    · by_cases h : o' = o
      · subst h
        simp only [putS, h1, h2, h3, if_false, List.concat_eq_append, List.getLast?_concat, List.dropLast_concat, if_true]
        congr 3; omega
      · simp only [putS, h1, h2, h3, if_false, List.concat_eq_append, List.getLast?_concat, if_neg h, List.dropLast_concat, if_true]
        congr 3; omega

theorem rle_put (os : List Int) (n : Nat) (o : Int) : putS (rle os) n o = rle (os ++ List.replicate n o) := by
  induction n generalizing os with
  | zero => rw [putS, if_pos (by simp)]; simp
  | succ n ih =>
    have := ih (os ++ [o])
    rw [rle_snoc, putS_putS] at this
    rw [List.replicate_succ, show os ++ o :: List.replicate n o = os ++ [o] ++ List.replicate n o by simp, ← this]
    congr 1

theorem rle_putI (os : List Int) (n : Int) (o : Int) : putS (rle os) n o = rle (os ++ List.replicate n.toNat o) := by
  rcases Int.lt_or_le n 0 with h | h
  · have : n.toNat = 0 := by omega
    rw [this, putS, if_pos (by omega)]; simp
  · rw [← rle_put]; congr 1; omega

/-- What runs there are: each of one byte or more, all together as many as the origins. -/
theorem putS_len (l : Runs) (n o : Int) : l.length ≤ (putS l n o).length ∧ (putS l n o).length ≤ l.length + 1 := by
  unfold putS
  split
  · omega
  · rcases List.eq_nil_or_concat l with rfl | ⟨init, ⟨a, o'⟩, rfl⟩
    · simp
    · simp only [List.concat_eq_append, List.getLast?_concat, List.dropLast_concat]
      split <;> simp

theorem snoc_ind {α : Type} {p : List α → Prop} (h0 : p []) (h1 : ∀ l a, p l → p (l ++ [a])) (l : List α) : p l := by
  have : ∀ n (l : List α), l.length = n → p l := by
    intro n
    induction n with
    | zero => intro l hl; rw [List.eq_nil_of_length_eq_zero hl]; exact h0
    | succ n ih =>
      intro l hl
      rcases List.eq_nil_or_concat l with rfl | ⟨init, a, rfl⟩
      · simp at hl
      · rw [List.concat_eq_append]
        exact h1 init a (ih init (by simpa using hl))
  exact this _ l rfl

theorem rle_len (os : List Int) : (rle os).length ≤ os.length := by
  induction os using snoc_ind with
  | h0 => simp [rle]
  | h1 os o ih => rw [rle_snoc]; have := (putS_len (rle os) 1 o).2; simp; omega

/-- The origins that runs stand for. -/
def expand (l : Runs) : List Int := l.flatMap fun r => List.replicate r.1.toNat r.2

theorem expand_putS (l : Runs) (o : Int) (hp : ∀ r ∈ l, 1 ≤ r.1) : expand (putS l 1 o) = expand l ++ [o] ∧ ∀ r ∈ putS l 1 o, 1 ≤ r.1 := by
  unfold putS
  rw [if_neg (by omega)]
  rcases List.eq_nil_or_concat l with rfl | ⟨init, ⟨a, o'⟩, rfl⟩
  · simp [expand]
  · simp only [List.concat_eq_append, List.getLast?_concat, List.dropLast_concat] at hp ⊢
    have ha := hp (a, o') (by simp)
    simp only at ha
    by_cases h : o' = o
    · subst h
      rw [if_pos rfl]
      refine ⟨?_, ?_⟩
      · simp only [expand, List.flatMap_append, List.flatMap_cons, List.flatMap_nil, List.append_nil]
        rw [show (a + 1).toNat = a.toNat + 1 by omega, List.replicate_succ']; simp
      · intro r hr
        simp only [List.mem_append, List.mem_singleton] at hr
        rcases hr with hr | rfl
        · exact hp r (by simp [hr])
        · simp; omega
    · rw [if_neg h]
      refine ⟨?_, ?_⟩
      · simp [expand]
      · intro r hr
        simp only [List.mem_append, List.mem_singleton] at hr
        rcases hr with hr | rfl
        · exact hp r (by simpa using hr)
        · simp

theorem expand_rle (os : List Int) : expand (rle os) = os ∧ ∀ r ∈ rle os, 1 ≤ r.1 := by
  induction os using snoc_ind with
  | h0 => simp [rle, expand]
  | h1 os o ih =>
    rw [rle_snoc]
    obtain ⟨h1, h2⟩ := expand_putS (rle os) o ih.2
    exact ⟨by rw [h1, ih.1], h2⟩

theorem rle_inj {a b : List Int} (h : rle a = rle b) : a = b := by rw [← (expand_rle a).1, h, (expand_rle b).1]

theorem expand_mem {l : Runs} {r : Int × Int} (h : r ∈ l) : r.1.toNat ≤ (expand l).length := by
  induction l with
  | nil => simp at h
  | cons x l ih =>
    simp only [expand, List.flatMap_cons, List.length_append, List.length_replicate] at ih ⊢
    rcases List.mem_cons.1 h with rfl | h
    · omega
    · have := ih h; omega

theorem rle_mem {os : List Int} {r : Int × Int} (h : r ∈ rle os) : 1 ≤ r.1 ∧ r.1 ≤ os.length := by
  have h1 := (expand_rle os).2 r h
  have h2 := expand_mem h
  rw [(expand_rle os).1] at h2
  omega

/-- The origins that a labelled text has, as it is taken: so many bytes. -/
def orig : Nat → Runs → List Int
  | k, [] => List.replicate k 65536
  | k, (n, o) :: r => List.replicate (min n.toNat k) (nearI o) ++ orig (k - min n.toNat k) r

theorem orig_length : ∀ (k : Nat) (r : Runs), (orig k r).length = k
  | k, [] => by simp [orig]
  | k, (n, o) :: r => by simp only [orig, List.length_append, List.length_replicate, orig_length]; omega

/-- What is taken of some runs, and how many bytes are left. -/
def takeR (k : Nat) (l : Runs) : List Int × Nat := l.foldl (fun s r => (s.1 ++ List.replicate (min r.1.toNat s.2) (nearI r.2), s.2 - min r.1.toNat s.2)) ([], k)

theorem takeR_snoc (k : Nat) (l : Runs) (r : Int × Int) : takeR k (l ++ [r]) = ((takeR k l).1 ++ List.replicate (min r.1.toNat (takeR k l).2) (nearI r.2), (takeR k l).2 - min r.1.toNat (takeR k l).2) := by
  simp [takeR]

theorem takeR_orig (k : Nat) (l : Runs) : orig k l = (takeR k l).1 ++ List.replicate (takeR k l).2 65536 := by
  have : ∀ (l : Runs) (acc : List Int) (k : Nat), acc ++ orig k l = (l.foldl (fun s r => (s.1 ++ List.replicate (min r.1.toNat s.2) (nearI r.2), s.2 - min r.1.toNat s.2)) (acc, k)).1 ++ List.replicate (l.foldl (fun s r => (s.1 ++ List.replicate (min r.1.toNat s.2) (nearI r.2), s.2 - min r.1.toNat s.2)) (acc, k)).2 65536 := by
    intro l
    induction l with
    | nil => intro acc k; simp [orig]
    | cons r l ih =>
      intro acc k
      simp only [orig, List.foldl_cons]
      rw [← ih, List.append_assoc]
  simpa [takeR] using this l [] k

theorem takeR_len (k : Nat) (l : Runs) : (takeR k l).1.length + (takeR k l).2 = k := by
  have := congrArg List.length (takeR_orig k l)
  simp only [orig_length, List.length_append, List.length_replicate] at this
  omega

theorem nearI_idem (o : Int) : nearI (nearI o) = nearI o := by unfold nearI; omega
theorem near_top : nearI 65536 = 65536 := by unfold nearI; omega

theorem orig_good : ∀ (k : Nat) (r : Runs), ∀ o ∈ orig k r, nearI o = o
  | k, [], o, h => by simp only [orig, List.mem_replicate] at h; rw [h.2, near_top]
  | k, (n, o') :: r, o, h => by
    simp only [orig, List.mem_append, List.mem_replicate] at h
    rcases h with h | h
    · rw [h.2, nearI_idem]
    · exact orig_good _ r o h

theorem orig_expand : ∀ (l : Runs), orig (expand l).length l = (expand l).map nearI
  | [] => rfl
  | (n, o) :: l => by
    have ih := orig_expand l
    simp only [expand, List.flatMap_cons, List.length_append, List.length_replicate, orig, List.map_append, List.map_replicate] at ih ⊢
    rw [show min n.toNat (n.toNat + (List.flatMap (fun r => List.replicate r.1.toNat r.2) l).length) = n.toNat by omega,
      show n.toNat + (List.flatMap (fun r => List.replicate r.1.toNat r.2) l).length - n.toNat = (List.flatMap (fun r => List.replicate r.1.toNat r.2) l).length by omega, ih]

theorem orig_rle {os : List Int} (h : ∀ o ∈ os, nearI o = o) : orig os.length (rle os) = os := by
  have := orig_expand (rle os)
  rw [(expand_rle os).1] at this
  rw [this]
  conv => rhs; rw [← List.map_id os]
  exact List.map_congr_left h

/-- Its origins may be. -/
def Near (l : LT) : Prop := ∀ c ∈ l, nearI c.2 = c.2

def lab (t : List UInt8) (rs : Runs) : LT := t.zip (orig t.length rs)

theorem lab_near (t : List UInt8) (rs : Runs) : Near (lab t rs) := by
  intro c hc
  exact orig_good _ _ _ (List.of_mem_zip hc).2
theorem lab_fst (t : List UInt8) (rs : Runs) : (lab t rs).map (·.1) = t := by
  unfold lab; rw [List.map_fst_zip]; rw [orig_length]; exact Nat.le_refl _
theorem lab_snd (t : List UInt8) (rs : Runs) : (lab t rs).map (·.2) = orig t.length rs := by
  unfold lab; rw [List.map_snd_zip]; rw [orig_length]; exact Nat.le_refl _
theorem lab_length (t : List UInt8) (rs : Runs) : (lab t rs).length = t.length := by simp [lab, orig_length]
theorem lab_str {l : LT} (h : Near l) : lab (l.map (·.1)) (rle (l.map (·.2))) = l := by
  unfold lab
  have : (l.map (·.1)).length = (l.map (·.2)).length := by simp
  rw [this, orig_rle (by intro o ho; obtain ⟨c, hc, rfl⟩ := List.mem_map.1 ho; exact h c hc)]
  have z : ∀ (l : LT), (l.map (·.1)).zip (l.map (·.2)) = l := by
    intro l
    induction l with
    | nil => rfl
    | cons c l ih => simp [ih]
  exact z l

theorem Near.append {a b : LT} (ha : Near a) (hb : Near b) : Near (a ++ b) := fun c hc => by
  rcases List.mem_append.1 hc with h | h
  · exact ha c h
  · exact hb c h
theorem Near.take {a : LT} (ha : Near a) (n : Nat) : Near (a.take n) := fun c hc => ha c (List.mem_of_mem_take hc)
theorem Near.drop {a : LT} (ha : Near a) (n : Nat) : Near (a.drop n) := fun c hc => ha c (List.mem_of_mem_drop hc)
theorem Near.nil : Near [] := fun c hc => by simp at hc
end Go.Proofs.VL

namespace Go.Proofs.VL
set_option linter.unusedVariables false

/-! ### escaped texts -/
/-- A text for a byte. -/
def swapL (old : UInt8) (by' : List UInt8) (l : LT) : LT := l.flatMap fun c => if c.1 = old then by'.map (fun b => (b, c.2)) else [c]
theorem swapL_append (old : UInt8) (by' : List UInt8) (a b : LT) : swapL old by' (a ++ b) = swapL old by' a ++ swapL old by' b := by simp [swapL]
theorem swapL_length (old : UInt8) (by' : List UInt8) (l : LT) (h : by'.length ≤ 10) : (swapL old by' l).length ≤ 10 * l.length := by
  induction l with
  | nil => simp [swapL]
  | cons c l ih =>
    simp only [swapL, List.flatMap_cons, List.length_append, List.length_cons] at ih ⊢
    split
    · simp only [List.length_map]; omega
    · simp only [List.length_singleton]; omega
theorem Near.map_const {o : Int} (h : nearI o = o) (t : List UInt8) : Near (t.map fun b => (b, o)) := by
  intro c hc
  obtain ⟨b, _, rfl⟩ := List.mem_map.1 hc
  exact h

def changes : List (UInt8 × List UInt8) := [(38, [38, 97, 109, 112, 59]), (60, [38, 108, 116, 59]), (62, [38, 103, 116, 59]), (13, [38, 35, 49, 51, 59]), (34, [38, 113, 117, 111, 116, 59])]

/-- What stands for a byte behind so many changes. -/
def escB (n : Nat) (b : UInt8) : List UInt8 :=
  if 1 ≤ n ∧ b = 38 then [38, 97, 109, 112, 59] else if 2 ≤ n ∧ b = 60 then [38, 108, 116, 59] else if 3 ≤ n ∧ b = 62 then [38, 103, 116, 59] else if 4 ≤ n ∧ b = 13 then [38, 35, 49, 51, 59] else if 5 ≤ n ∧ b = 34 then [38, 113, 117, 111, 116, 59] else [b]

def escL (n : Nat) (l : LT) : LT := l.flatMap fun c => (escB n c.1).map fun b => (b, c.2)

theorem escL_append (n : Nat) (a b : LT) : escL n (a ++ b) = escL n a ++ escL n b := by simp [escL]
theorem escL_zero (l : LT) : escL 0 l = l := by
  induction l with
  | nil => rfl
  | cons c l ih => simp only [escL, List.flatMap_cons] at ih ⊢; rw [ih]; simp [escB]

theorem swapL_flat (old : UInt8) (by' : List UInt8) (f : UInt8 × Int → LT) (l : LT) : swapL old by' (l.flatMap f) = l.flatMap fun c => swapL old by' (f c) := by
  induction l with
  | nil => rfl
  | cons c l ih => rw [List.flatMap_cons, swapL_append, ih, List.flatMap_cons]

theorem swapL_map (old : UInt8) (by' : List UInt8) (t : List UInt8) (o : Int) : swapL old by' (t.map fun b => (b, o)) = (t.flatMap fun b => if b = old then by' else [b]).map fun b => (b, o) := by
  induction t with
  | nil => rfl
  | cons b t ih =>
    simp only [swapL, List.map_cons, List.flatMap_cons, List.map_append] at ih ⊢
    rw [ih]
    split <;> simp

theorem escB_step (n : Nat) (old : UInt8) (by' : List UInt8) (h : changes[n]? = some (old, by')) (b : UInt8) : ((escB n b).flatMap fun b => if b = old then by' else [b]) = escB (n + 1) b := by
  have hn : n < 5 := by
    rcases Nat.lt_or_ge n 5 with h' | h'
    · exact h'
    · rw [List.getElem?_eq_none h'] at h; cases h
  have : ∀ b : Fin 256, ((escB n ⟨⟨b⟩⟩).flatMap fun b => if b = old then by' else [b]) = escB (n + 1) ⟨⟨b⟩⟩ := by
    match n, hn with
    | 0, _ => simp [changes] at h; obtain ⟨rfl, rfl⟩ := h; decide +kernel
    | 1, _ => simp [changes] at h; obtain ⟨rfl, rfl⟩ := h; decide +kernel
    | 2, _ => simp [changes] at h; obtain ⟨rfl, rfl⟩ := h; decide +kernel
    | 3, _ => simp [changes] at h; obtain ⟨rfl, rfl⟩ := h; decide +kernel
    | 4, _ => simp [changes] at h; obtain ⟨rfl, rfl⟩ := h; decide +kernel
  exact this b.toBitVec.toFin

theorem escL_step (n : Nat) (old : UInt8) (by' : List UInt8) (h : changes[n]? = some (old, by')) (l : LT) : swapL old by' (escL n l) = escL (n + 1) l := by
  unfold escL
  rw [swapL_flat]
  congr 1
  funext c
  rw [swapL_map, escB_step n old by' h]

theorem escB_len (n : Nat) (b : UInt8) : 1 ≤ (escB n b).length ∧ (escB n b).length ≤ 6 := by
  unfold escB
  repeat' split
  all_goals simp

theorem escL_len (n : Nat) (l : LT) : (escL n l).length ≤ 6 * l.length := by
  induction l with
  | nil => simp [escL]
  | cons c l ih =>
    simp only [escL, List.flatMap_cons, List.length_append, List.length_map, List.length_cons] at ih ⊢
    have := (escB_len n c.1).2
    omega

theorem escL_near {n : Nat} {l : LT} (h : Near l) : Near (escL n l) := by
  intro c hc
  simp only [escL, List.mem_flatMap] at hc
  obtain ⟨d, hd, hc⟩ := hc
  obtain ⟨b, _, rfl⟩ := List.mem_map.1 hc
  exact h d hd

def worstO (l : LT) : Int := l.foldl (fun m c => max m c.2) 0

theorem worst_esc (n : Nat) (l : LT) : worstO (escL n l) = worstO l := by
  have one : ∀ (t : List UInt8) (o m : Int), t ≠ [] → (t.map fun b => (b, o)).foldl (fun m (c : UInt8 × Int) => max m c.2) m = max m o := by
    intro t
    induction t with
    | nil => intro o m h; exact absurd rfl h
    | cons b t ih =>
      intro o m _
      rw [List.map_cons, List.foldl_cons]
      by_cases ht : t = []
      · subst ht; rfl
      · rw [ih o _ ht]; simp only; omega
  have : ∀ (l : LT) (m : Int), (escL n l).foldl (fun m c => max m c.2) m = l.foldl (fun m c => max m c.2) m := by
    intro l
    induction l with
    | nil => intro m; rfl
    | cons c l ih =>
      intro m
      have e : escL n (c :: l) = ((escB n c.1).map fun b => (b, c.2)) ++ escL n l := by simp [escL]
      rw [e, List.foldl_append, one _ _ _ (by intro he; have := (escB_len n c.1).1; rw [he] at this; simp at this), ih, List.foldl_cons]
  exact this l 0
end Go.Proofs.VL

namespace Go.Proofs.VL
open Go Go.RowKit
set_option linter.unusedSimpArgs false
set_option linter.unusedVariables false

/-! ### rows of one's own, given away to a function of values -/
def keepO (ks : List Nat) (ob : List (Option VObj)) : List (Option VObj) := ob.zipIdx.map fun p => if ks.contains p.2 then p.1 else none
def dropO (ks : List Nat) (ob : List (Option VObj)) : List (Option VObj) := ob.zipIdx.map fun p => if ks.contains p.2 then none else p.1

theorem keepO_get {ks : List Nat} {ob : List (Option VObj)} {k : Nat} {o : VObj} (h : (keepO ks ob)[k]? = some (some o)) : ob[k]? = some (some o) ∧ k ∈ ks := by
  simp only [keepO, List.getElem?_map, List.getElem?_zipIdx, Option.map_eq_some_iff] at h
  obtain ⟨⟨q, j⟩, hq, he⟩ := h
  obtain ⟨q', hq', he'⟩ := hq
  simp only [Prod.mk.injEq] at he'
  obtain ⟨rfl, rfl⟩ := he'
  simp only [Nat.zero_add] at he
  split at he
  · rename_i hk
    subst he
    exact ⟨hq', by simpa using hk⟩
  · cases he

theorem dropO_get {ks : List Nat} {ob : List (Option VObj)} {k : Nat} {o : VObj} (h : (dropO ks ob)[k]? = some (some o)) : ob[k]? = some (some o) ∧ k ∉ ks := by
  simp only [dropO, List.getElem?_map, List.getElem?_zipIdx, Option.map_eq_some_iff] at h
  obtain ⟨⟨q, j⟩, hq, he⟩ := h
  obtain ⟨q', hq', he'⟩ := hq
  simp only [Prod.mk.injEq] at he'
  obtain ⟨rfl, rfl⟩ := he'
  simp only [Nat.zero_add] at he
  split at he
  · cases he
  · rename_i hk
    subst he
    exact ⟨hq', by simpa using hk⟩

theorem dropO_length (ks : List Nat) (ob : List (Option VObj)) : (dropO ks ob).length = ob.length := by simp [dropO]

theorem VFn.eat {P : Program} {g : FuncId} {as args : List V} {r : V} {ob : List (Option VObj)} (h : VFn P g as r) (ks : List Nat) (hl : lendL (keepO ks ob) args = some as) : VCall P g args ob r (dropO ks ob) := by
  refine ⟨h.1, fun w E vs hdom hob hf hr => ?_⟩
  have hob1 : ∀ k o, E.dom k → (keepO ks ob)[k]? = some (some o) → ObjRep w E k o := fun k o _ hk => hob k o (keepO_get hk).1
  have hrep := lendL_rep hob1 args as vs hl hr
  refine (h.2 w (E.lend (keepO ks ob)) vs (fun k => by simp [Env.lend]) (fun k o h => by simp at h) (fun b hb => lend_imm.2 (.inl (hf b hb))) hrep).mono ?_
  rintro e w' ⟨v, E1, rfl, hres⟩
  have hsame : ∀ b, b < w.heap.size → w'.heap[b]? = w.heap[b]? := by
    intro b hb
    rcases lend_or (E := E) (ob := keepO ks ob) b with hl | hl
    · exact (hres.ext.imm b hb hl).2
    · exact (hres.ext.ext b hb hl).2
  have hcls : ∀ b, Decidable ((E.lend (keepO ks ob)).lab b = .imm) := fun b => Classical.propDecidable _
  let E' : Env := { E with lab := fun b => if b < w.heap.size then (if (E.lend (keepO ks ob)).lab b = .imm then .imm else E.lab b) else if E1.lab b = .imm then .imm else .ext }
  have hold : ∀ b, b < w.heap.size → E'.lab b = if (E.lend (keepO ks ob)).lab b = .imm then .imm else E.lab b := fun b hb => if_pos hb
  have hnew : ∀ b, ¬ b < w.heap.size → E'.lab b = if E1.lab b = .imm then .imm else .ext := fun b hb => if_neg hb
  have hx : Ext w E w' E' := by
    refine ⟨hres.ext.os, hres.ext.tape, hres.ext.output, hres.ext.size, fun b hb hl => ⟨?_, hsame b hb⟩, fun b hb hl => ⟨?_, hsame b hb⟩, fun _ h => h, fun _ _ => rfl, fun _ _ => rfl, fun _ _ => rfl⟩
    · rw [hold b hb, if_pos (lend_imm.2 (.inl hl))]
    · rw [hold b hb, if_neg]
      · exact hl
      · intro hi
        rcases lend_imm.1 hi with h1 | ⟨k, o, h1, h2, h3, h4⟩
        · rw [hl] at h1; cases h1
        · have := lend_lab (hob k _ (keepO_get h2).1) h3
          rw [h4, hl] at this; cases this
  refine ⟨v, E', rfl, hx, fun k => by rw [dropO_length]; exact hdom k, ?_, ?_, ?_⟩
  · refine Rep.iext ⟨Nat.le_refl _, ?_, ?_, ?_, ?_, ?_⟩ r v hres.rep
    · intro b hb hlb
      refine ⟨?_, rfl⟩
      by_cases hbw : b < w.heap.size
      · rw [hold b hbw, if_pos]
        rcases lend_or (E := E) (ob := keepO ks ob) b with hl | hl
        · exact hl
        · have := (hres.ext.ext b hbw hl).1
          rw [this] at hlb; cases hlb
      · rw [hnew b hbw, if_pos hlb]
    all_goals
      intro k hk
      have := (hres.dom k).1 hk
      simp at this
  · intro k o hk
    obtain ⟨h1, h2⟩ := dropO_get hk
    have hkl := getElem?_lt h1
    refine (hob k o h1).move hx ((hdom k).2 hkl) ?_
    rintro (hl | hl) hb
    · refine ⟨hsame _ hb, ?_⟩
      rw [hold _ hb, if_neg]
      intro hi
      rcases lend_imm.1 hi with h3 | ⟨k', o', h3, h4, h5, h6⟩
      · rw [hl] at h3; cases h3
      · have := lend_lab (hob k' _ (keepO_get h4).1) h5
        rw [h6, hl] at this
        injection this with this
        exact h2 (this ▸ (keepO_get h4).2)
    · refine ⟨hsame _ hb, ?_⟩
      rw [hold _ hb, if_pos (lend_imm.2 (.inl hl))]; exact hl.symm
  · intro b hb
    rw [hnew b (by have := hres.ext.size; omega), if_pos (hres.fresh b hb)]
end Go.Proofs.VL

namespace Go.Proofs.VL
open Go

/-! ### the origins there are, each once -/
def insO (o : Int) : List Int → List Int
  | [] => [o]
  | x :: r => if x < o then x :: insO o r else if x = o then x :: r else o :: x :: r

theorem insO_mem (o : Int) : ∀ (s : List Int) (x : Int), x ∈ insO o s ↔ x = o ∨ x ∈ s
  | [], x => by simp [insO]
  | y :: r, x => by
    simp only [insO]
    split
    · simp only [List.mem_cons, insO_mem o r x]
      constructor
      · rintro (h | h | h)
        · exact .inr (.inl h)
        · exact .inl h
        · exact .inr (.inr h)
      · rintro (h | h | h)
        · exact .inr (.inl h)
        · exact .inl h
        · exact .inr (.inr h)
    · split
      · rename_i h1 h2
        subst h2
        simp
      · simp

theorem insO_sorted (o : Int) : ∀ (s : List Int), s.Pairwise (· < ·) → (insO o s).Pairwise (· < ·)
  | [], _ => by simp [insO]
  | y :: r, h => by
    have h1 := List.pairwise_cons.1 h
    simp only [insO]
    split
    · rename_i hlt
      refine List.pairwise_cons.2 ⟨fun a ha => ?_, insO_sorted o r h1.2⟩
      rcases (insO_mem o r a).1 ha with rfl | ha
      · exact hlt
      · exact h1.1 a ha
    · split
      · exact h
      · rename_i h2 h3
        refine List.pairwise_cons.2 ⟨fun a ha => ?_, h⟩
        rcases List.mem_cons.1 ha with rfl | ha
        · omega
        · have := h1.1 a ha; omega

theorem insO_at (o : Int) : ∀ (s : List Int) (n : Nat), n ≤ s.length → (∀ x ∈ s.take n, x < o) → (∀ x, s[n]? = some x → ¬ x < o) →
    insO o s = if s[n]? = some o then s else s.take n ++ o :: s.drop n
  | [], n, hn, _, _ => by
    simp only [List.length_nil, Nat.le_zero] at hn
    subst hn
    simp [insO]
  | y :: r, 0, _, _, h2 => by
    have := h2 y rfl
    simp only [insO, if_neg this, List.getElem?_cons_zero, Option.some.injEq, List.take_zero, List.drop_zero, List.nil_append]
  | y :: r, n + 1, hn, h1, h2 => by
    have hy := h1 y (by simp)
    simp only [insO, if_pos hy, List.getElem?_cons_succ, List.take_succ_cons, List.drop_succ_cons, List.cons_append]
    rw [insO_at o r n (by simpa using hn) (fun x hx => h1 x (by simp [hx])) (fun x hx => h2 x (by simpa using hx))]
    split <;> rfl

theorem eq_of_mem : ∀ (a b : List Int), a.Pairwise (· < ·) → b.Pairwise (· < ·) → (∀ x, x ∈ a ↔ x ∈ b) → a = b
  | [], [], _, _, _ => rfl
  | [], y :: b, _, _, h => by have := (h y).2 (by simp); simp at this
  | x :: a, [], _, _, h => by have := (h x).1 (by simp); simp at this
  | x :: a, y :: b, ha, hb, h => by
    have h1 := List.pairwise_cons.1 ha
    have h2 := List.pairwise_cons.1 hb
    have hxy : x = y := by
      rcases List.mem_cons.1 ((h x).1 (by simp)) with h3 | h3
      · exact h3
      · rcases List.mem_cons.1 ((h y).2 (by simp)) with h4 | h4
        · exact h4.symm
        · have := h2.1 x h3; have := h1.1 y h4; omega
    subst hxy
    rw [eq_of_mem a b h1.2 h2.2 fun z => ?_]
    constructor
    · intro hz
      rcases List.mem_cons.1 ((h z).1 (by simp [hz])) with h3 | h3
      · have := h1.1 z hz; omega
      · exact h3
    · intro hz
      rcases List.mem_cons.1 ((h z).2 (by simp [hz])) with h3 | h3
      · have := h2.1 z hz; omega
      · exact h3

theorem compact_upto (zs : List Int) (h : zs.Pairwise (· ≤ ·)) : ∀ m, m ≤ zs.length → (Lib.compactUpTo zs.toArray m).Pairwise (· < ·) ∧ (∀ x, x ∈ Lib.compactUpTo zs.toArray m ↔ x ∈ zs.take m)
  | 0, _ => by simp [Lib.compactUpTo]
  | m + 1, hm => by
    obtain ⟨h1, h2⟩ := compact_upto zs h m (by omega)
    have hz : zs[m]? = some (zs.toArray[m]!) := by
      have : m < zs.length := by omega
      simp [this]
    have htk : zs.take (m + 1) = zs.take m ++ [zs.toArray[m]!] := by rw [List.take_add_one, hz]; rfl
    have hle : ∀ x ∈ zs.take m, x ≤ zs.toArray[m]! := by
      intro x hx
      have h3 : (zs.take (m + 1)).Pairwise (· ≤ ·) := h.take
      rw [htk] at h3
      exact (List.pairwise_append.1 h3).2.2 x hx _ (by simp)
    rw [Lib.compactUpTo_succ]
    by_cases hk : Lib.keeps zs.toArray m = true
    · rw [if_pos hk]
      refine ⟨List.pairwise_append.2 ⟨h1, by simp, ?_⟩, fun x => by rw [htk]; simp [h2]⟩
      intro a ha b hb
      simp only [List.mem_singleton] at hb
      subst hb
      have ha' := (h2 a).1 ha
      have := hle a ha'
      simp only [Lib.keeps, decide_eq_true_eq] at hk
      rcases hk with rfl | hk
      · simp at ha'
      · have hm0 : 0 < m := by
          rcases Nat.eq_zero_or_pos m with rfl | h4
          · simp at ha'
          · exact h4
        have hp : zs[m - 1]? = some (zs.toArray[m - 1]!) := by
          have : m - 1 < zs.length := by omega
          simp [this]
        have htp : zs.take m = zs.take (m - 1) ++ [zs.toArray[m - 1]!] := by
          have := List.take_add_one (i := m - 1) (l := zs)
          rw [show m - 1 + 1 = m by omega, hp] at this
          exact this
        have hlp : zs.toArray[m - 1]! ≤ zs.toArray[m]! := hle _ (by rw [htp]; simp)
        have hap : a ≤ zs.toArray[m - 1]! := by
          rw [htp] at ha'
          rcases List.mem_append.1 ha' with h5 | h5
          · have h6 : (zs.take m).Pairwise (· ≤ ·) := h.take
            rw [htp] at h6
            exact (List.pairwise_append.1 h6).2.2 a h5 _ (by simp)
          · rw [List.mem_singleton] at h5; omega
        omega
    · rw [if_neg hk, List.append_nil]
      refine ⟨h1, fun x => ?_⟩
      rw [h2, htk]
      simp only [Lib.keeps, decide_eq_true_eq, not_or, Decidable.not_not] at hk
      have hp : zs[m - 1]? = some (zs.toArray[m - 1]!) := by
        have : m - 1 < zs.length := by omega
        simp [this]
      have htp : zs.take m = zs.take (m - 1) ++ [zs.toArray[m - 1]!] := by
        have := List.take_add_one (i := m - 1) (l := zs)
        rw [show m - 1 + 1 = m by omega, hp] at this
        exact this
      constructor
      · intro hx; simp [hx]
      · intro hx
        rcases List.mem_append.1 hx with hx | hx
        · exact hx
        · simp only [List.mem_singleton] at hx
          rw [htp, hx, hk.2]; simp

theorem compact_sorted (zs : List Int) (h : zs.Pairwise (· ≤ ·)) : (Lib.compact zs).Pairwise (· < ·) ∧ (∀ x, x ∈ Lib.compact zs ↔ x ∈ zs) := by
  have := compact_upto zs h zs.length (Nat.le_refl _)
  rw [List.take_length] at this
  exact this

theorem sorted_le (zs : List Int) : (zs.mergeSort fun x y => decide (x ≤ y)).Pairwise (· ≤ ·) := by
  have := List.pairwise_mergeSort (le := fun (x y : Int) => decide (x ≤ y)) (fun a b c h1 h2 => by simp at *; omega) (fun a b => by simp; omega) zs
  exact this.imp (by intro a b h; simpa using h)

def origs (os : List Int) : List Int := os.foldl (fun s o => insO o s) []

theorem origs_snoc (os : List Int) (o : Int) : origs (os ++ [o]) = insO o (origs os) := by simp [origs]

theorem origs_facts (os : List Int) : (origs os).Pairwise (· < ·) ∧ ∀ x, x ∈ origs os ↔ x ∈ os := by
  refine snoc_ind (p := fun os => (origs os).Pairwise (· < ·) ∧ ∀ x, x ∈ origs os ↔ x ∈ os) ?_ ?_ os
  · simp [origs]
  · rintro l a ⟨h1, h2⟩
    rw [origs_snoc]
    refine ⟨insO_sorted a _ h1, fun x => ?_⟩
    rw [insO_mem, h2]
    simp [or_comm]

theorem rle_origs (os : List Int) : ∀ x, x ∈ (rle os).map (·.2) ↔ x ∈ os := by
  intro x
  obtain ⟨h1, h2⟩ := expand_rle os
  constructor
  · intro h
    obtain ⟨r, hr, rfl⟩ := List.mem_map.1 h
    rw [← h1]
    refine List.mem_flatMap.2 ⟨r, hr, ?_⟩
    have := h2 r hr
    exact List.mem_replicate.2 ⟨by omega, rfl⟩
  · intro h
    rw [← h1] at h
    obtain ⟨r, hr, hx⟩ := List.mem_flatMap.1 h
    exact List.mem_map.2 ⟨r, hr, (List.mem_replicate.1 hx).2.symm⟩

/-- What Origins tells is the origins there are, rising, each once. -/
theorem origins_eq (os : List Int) : Lib.compact (((rle os).map (·.2)).mergeSort fun x y => decide (x ≤ y)) = origs os := by
  obtain ⟨h1, h2⟩ := compact_sorted _ (sorted_le ((rle os).map (·.2)))
  obtain ⟨h3, h4⟩ := origs_facts os
  refine eq_of_mem _ _ h1 h3 fun x => ?_
  rw [h2, h4, List.mem_mergeSort, rle_origs]

theorem origs_len (os : List Int) : (origs os).length ≤ os.length := by
  refine snoc_ind (p := fun os => (origs os).length ≤ os.length) ?_ ?_ os
  · simp [origs]
  · intro l a h
    rw [origs_snoc]
    have : ∀ s, (insO a s).length ≤ s.length + 1 := by
      intro s
      induction s with
      | nil => simp [insO]
      | cons y r ih => simp only [insO]; split <;> (try split) <;> simp <;> omega
    have := this (origs l)
    simp; omega
end Go.Proofs.VL

namespace Go.Proofs.VL
open Go Go.RowKit
theorem dropO_one (k : Nat) (ob : List (Option VObj)) : dropO [k] ob = ob.set k none := by
  apply List.ext_getElem?
  intro i
  simp only [dropO, List.getElem?_map, List.getElem?_zipIdx, List.getElem?_set, Nat.zero_add]
  by_cases h : k = i
  · subst h
    by_cases h2 : k < ob.length
    · rw [List.getElem?_eq_getElem h2]; simp [h2]
    · rw [List.getElem?_eq_none (by omega)]; simp [h2]
  · have h3 : i ≠ k := fun e => h e.symm
    rw [if_neg h]
    cases ob[i]? with
    | none => rfl
    | some o => simp [h3]
/-- An own array is handed over, and is gone. -/
theorem VFn.eat1 {P : Program} {g : FuncId} {as args : List V} {r : V} {ob : List (Option VObj)} (h : VFn P g as r) (k : Nat) (hl : lendL (keepO [k] ob) args = some as) : VCall P g args ob r (ob.set k none) := dropO_one k ob ▸ VFn.eat h [k] hl
theorem lend_2 {ob : List (Option VObj)} {x y y' : V} (h : lendV ob y = some y') {sz : Nat} {rows : List (List V)} (hx : x = .sl sz rows := by rfl) : lendL ob [x, y] = some [x, y'] := by
  subst hx
  simp only [lendL, lendV, h]
mutual
theorem wfV_mono {n m : Nat} (h : n ≤ m) : (x : V) → wfV n x = true → wfV m x = true
  | .ref k _, hx => by simp only [wfV, decide_eq_true_eq] at hx ⊢; omega
  | .ptr k _, hx => by simp only [wfV, decide_eq_true_eq] at hx ⊢; omega
  | .eptr k _ _ _, hx => by simp only [wfV, decide_eq_true_eq] at hx ⊢; omega
  | .mapr k, hx => by simp only [wfV, decide_eq_true_eq] at hx ⊢; omega
  | .refs k _ _ _, hx => by simp only [wfV, decide_eq_true_eq] at hx ⊢; omega
  | .agg cs, hx => by simp only [wfV] at hx ⊢; exact wfL_mono h cs hx
  | .tup cs, hx => by simp only [wfV] at hx ⊢; exact wfL_mono h cs hx
  | .fn _ a b, hx => by simp only [wfV, Bool.and_eq_true] at hx ⊢; exact ⟨wfL_mono h a hx.1, wfL_mono h b hx.2⟩
  | .bool _, _ | .int _ _, _ | .str _, _ | .nils, _ | .sl _ _, _ | .iptr _, _ | .nilp, _ | .nilm, _ | .nilf, _ | .nili, _ | .junk, _ => by simp only [wfV]
theorem wfL_mono {n m : Nat} (h : n ≤ m) : (xs : List V) → wfL n xs = true → wfL m xs = true
  | [], _ => rfl
  | x :: xs, hx => by simp only [wfL, Bool.and_eq_true] at hx ⊢; exact ⟨wfV_mono h x hx.1, wfL_mono h xs hx.2⟩
end
theorem SubM.refE {ms : FM} {j k a b : Nat} (h : ms.ms[k]? = some (some j)) (e : a = b) : SubM ms (.ref j a) (.ref k b) := e ▸ .ref h
theorem SubM.lentA {m : FM} {k n sz : Nat} {rows : List (List V)} (h : m.fz k = some (sz, rows)) (e : n = rows.length) : SubM m (.ref k n) (.sl sz rows) := .lent h (by omega) (by rw [e, List.take_length])
theorem SubML.same {ms : FM} : ∀ (xs : List V), wfL 0 xs = true → SubML ms xs xs
  | [], _ => .nil
  | x :: xs, h => by
    simp only [wfL, Bool.and_eq_true] at h
    exact .cons (.same x h.1) (SubML.same xs h.2)
end Go.Proofs.VL

namespace Go.Proofs.VL
open Go Go.RowKit

/-- A callee may know the caller's nil slices as own arrays of no row. -/
theorem VCall.adopt {P : Program} {f : FuncId} {args args1 : List V} {ob ob1 : List (Option VObj)} {r : V} {ob' : List (Option VObj)} (h : VCall P f args1 ob1 r ob') (hlen : args1.length = args.length)
    (hfg : (St.init args ob).fg { tm := (St.init args1 []).tm, ob := ob1, base := ob.length }) : VCall P f args ob r ob' := by
  refine ⟨h.1, fun w E vs hdom hob hf hv => ?_⟩
  have hvl := hv.length
  have h0 := Rel.init (nt := args.length) (Nat.le_refl _) hdom hob hf hv
  obtain ⟨E1, h1⟩ := h0.forget hfg
  have hargs : RepL w E1 args1 vs := by
    refine RepL.of_get (by omega) ?_
    intro i x v hx hv
    have h2 := h1.tmps i
    have hg : (St.mk (St.init args1 []).tm ob1 ob.length).get i = x := by
      have := init_get (args := args1) (ob := []) i
      show (((St.init args1 []).tm.lookup i).getD .junk) = x
      have e : ((St.init args1 []).tm.lookup i).getD .junk = (args1[i]?).getD .junk := this
      rw [e, hx]; rfl
    rw [hg] at h2
    have he : ((⟨vs⟩ : Array Value) ++ Array.replicate (args.length - (⟨vs⟩ : Array Value).size) undef).getD i undef = v := by
      have hil : i < vs.length := (List.getElem?_eq_some_iff.1 hv).1
      rw [Array.getD_eq_getD_getElem?, Array.getElem?_append_left (by simpa using hil)]
      simp [hv]
    rwa [he] at h2
  refine (h.2 w E1 vs h1.dom h1.objs h1.fresh hargs).mono ?_
  rintro e w' ⟨v, E', rfl, hres⟩
  exact ⟨v, E', rfl, h1.ext.trans hres.ext, hres.dom, hres.rep, hres.objs, hres.fresh⟩
end Go.Proofs.VL

namespace Go.Proofs.VL
open Go Go.RowKit
set_option linter.unusedSimpArgs false
set_option linter.unusedVariables false

/-! ### a call over few objects, in a region that draws its order -/
def atF (m : Nat → Nat) (ob : List (Option VObj)) (nm : List Nat) : List Nat → List (Option VObj) → Prop
  | j :: js, some o :: os => (j < ob.length ∧ j ∈ nm ∧ ob[j]? = some (some (renO m o))) ∧ atF m ob nm js os
  | j :: js, none :: os => (j < ob.length ∧ j ∈ nm) ∧ atF m ob nm js os
  | [], [] => True
  | _, _ => False

theorem atF_get {m : Nat → Nat} {ob : List (Option VObj)} {nm : List Nat} : ∀ {ms : List Nat} {obs : List (Option VObj)}, atF m ob nm ms obs → ms.length = obs.length ∧ ∀ (i j : Nat), ms[i]? = some j → j < ob.length ∧ j ∈ nm ∧ ∀ o, obs[i]? = some (some o) → ob[j]? = some (some (renO m o))
  | [], [], _ => ⟨rfl, fun i j h => by simp at h⟩
  | [], _ :: _, h => h.elim
  | j :: js, [], h => h.elim
  | j :: js, some o :: os, h => by
    obtain ⟨⟨h1, h2, h3⟩, h⟩ := h
    obtain ⟨g1, g2⟩ := atF_get h
    refine ⟨by simp [g1], fun i q hq => ?_⟩
    cases i with
    | zero => simp at hq; subst hq; exact ⟨h1, h2, fun o' ho => by simp at ho; subst ho; exact h3⟩
    | succ i => exact g2 i q (by simpa using hq)
  | j :: js, none :: os, h => by
    obtain ⟨⟨h1, h2⟩, h⟩ := h
    obtain ⟨g1, g2⟩ := atF_get h
    refine ⟨by simp [g1], fun i q hq => ?_⟩
    cases i with
    | zero => simp at hq; subst hq; exact ⟨h1, h2, fun o' ho => by simp at ho⟩
    | succ i => exact g2 i q (by simpa using hq)

/-- The call of a contract over few objects; behind it the list has as many objects as before, or the new ones are named by the result. -/
theorem vk_callS {P : Program} {os : List (Option (Bool × Bool) × VOper)} {c : VC} {fs : List Fr} {Q : VX → St → Prop} {s : St} {d : Option Nat} {f : X} {args : List X} {g : FuncId} {first caps : List V} {args0 : List V} {obs obs' : List (Option VObj)} {r0 : V} (ms : List Nat) (hf : s.x f = .fn g first caps) (hc : VCall P g args0 obs r0 obs')
    (ha : first ++ args.map s.x ++ caps = renL (nameOf ms s.ob.length) args0) (nd : ms.Nodup) (at_ : atF (nameOf ms s.ob.length) s.ob (namesL (renL (nameOf ms s.ob.length) args0)) ms obs)
    (wfa : wfL obs.length args0 = true) (wfo : wfOb obs.length obs = true) (wfr : wfV obs'.length r0 = true) (wfo' : wfOb obs'.length obs' = true) (le : obs.length ≤ obs'.length)
    (news : ∀ k, s.ob.length ≤ k → k < (putObs (nameOf ms s.ob.length) s.ob ms obs').length → k ∈ (renV (nameOf ms s.ob.length) r0).names)
    (h : vk P os c fs Q (({ s with ob := putObs (nameOf ms s.ob.length) s.ob ms obs' } : St).putO d (renV (nameOf ms s.ob.length) r0))) : vk P ((some (false, true), ⟨d, .call f args, none⟩) :: os) c fs Q s :=
  vk_callF (ms := ms) (args0 := args0) (obs := obs) (obs' := obs') (r0 := r0) hf
    { call := hc, len := (atF_get at_).1, nodup := nd, at_ := by rw [ha]; exact (atF_get at_).2, wfa := wfa, wfo := wfo, wfr := wfr, wfo' := wfo', le := le, args := ha, res := rfl, obj := rfl, news := news } h

/-- The same in a region that keeps its order. -/
theorem vk_callS0 {P : Program} {os : List (Option (Bool × Bool) × VOper)} {c : VC} {fs : List Fr} {Q : VX → St → Prop} {s : St} {d : Option Nat} {f : X} {args : List X} {g : FuncId} {first caps : List V} {args0 : List V} {obs obs' : List (Option VObj)} {r0 : V} (ms : List Nat) (hf : s.x f = .fn g first caps) (hc : VCall P g args0 obs r0 obs')
    (ha : first ++ args.map s.x ++ caps = renL (nameOf ms s.ob.length) args0) (nd : ms.Nodup) (at_ : atF (nameOf ms s.ob.length) s.ob ms ms obs)
    (wfa : wfL obs.length args0 = true) (wfo : wfOb obs.length obs = true) (wfr : wfV obs'.length r0 = true) (wfo' : wfOb obs'.length obs' = true) (le : obs.length ≤ obs'.length)
    (h : vk P os c fs Q (({ s with ob := putObs (nameOf ms s.ob.length) s.ob ms obs' } : St).putO d (renV (nameOf ms s.ob.length) r0))) : vk P ((none, ⟨d, .call f args, none⟩) :: os) c fs Q s := by
  refine vk_call hf (r := renV (nameOf ms s.ob.length) r0) (ob' := putObs (nameOf ms s.ob.length) s.ob ms obs') ?_ h
  rw [ha]
  exact hc.frame ms s.ob ⟨(atF_get at_).1, nd, fun i j hij => ⟨((atF_get at_).2 i j hij).1, ((atF_get at_).2 i j hij).2.2⟩⟩ wfa wfo wfr wfo' le

/-- A call that knows but one box, wherever the box lies. -/
theorem box_at {P : Program} {f : FuncId} {args : List V} {c c' : List V} {r : V} (h : VCall P f (.ptr 0 0 :: args) [some (.box c)] r [some (.box c')]) (ha : wfL 0 args = true) (hc : wfL 0 c = true) (hc' : wfL 0 c' = true) (hr : wfV 0 r = true) {B : List (Option VObj)} {k : Nat}
    (h0 : B[k]? = some (some (.box c))) : VCall P f (.ptr k 0 :: args) B r (B.set k (some (.box c'))) := by
  have id0 : ∀ (i : Nat), i < 0 → nameOf [k] B.length i = i := fun i hi => by omega
  have hf := VCall.frame h [k] B ⟨rfl, by simp, fun i j hj => by
    match i, hj with
    | 0, hj => simp at hj; subst hj; exact ⟨getElem?_lt h0, fun o' ho => by simp at ho; subst ho; rw [renO, renL_id id0 c hc]; exact h0⟩
    | i + 1, hj => simp at hj⟩ (by simp only [wfL, wfV, Bool.and_eq_true]; exact ⟨rfl, wfL_mono (Nat.zero_le _) args ha⟩) (by simp [wfOb, wfO, wfL_mono (Nat.zero_le _) c hc]) (wfV_mono (Nat.zero_le _) r hr) (by simp [wfOb, wfO, wfL_mono (Nat.zero_le _) c' hc']) (Nat.le_refl _)
  have e : putObs (nameOf [k] B.length) B [k] [some (.box c')] = B.set k (some (.box c')) := by
    simp [putObs, renO, renL_id id0 c' hc']
  rw [e, renV_id id0 r hr] at hf
  have e2 : renL (nameOf [k] B.length) (.ptr 0 0 :: args) = .ptr k 0 :: args := by
    rw [renL, renV, renL_id id0 args ha]; rfl
  rwa [e2] at hf

/-- The same in a region that draws its order. -/
theorem vk_callB {P : Program} {os : List (Option (Bool × Bool) × VOper)} {cc : VC} {fs : List Fr} {Q : VX → St → Prop} {s : St} {d : Option Nat} {f : X} {xs : List X} {g : FuncId} {first caps : List V} {args : List V} {c c' : List V} {r : V} {k : Nat} (hf : s.x f = .fn g first caps) (h : VCall P g (.ptr 0 0 :: args) [some (.box c)] r [some (.box c')]) (he : first ++ xs.map s.x ++ caps = .ptr k 0 :: args)
    (h0 : s.ob[k]? = some (some (.box c))) (ha : wfL 0 args = true) (hc : wfL 0 c = true) (hc' : wfL 0 c' = true) (hr : wfV 0 r = true)
    (hh : vk P os cc fs Q (({ s with ob := s.ob.set k (some (.box c')) } : St).putO d r)) : vk P ((some (false, true), ⟨d, .call f xs, none⟩) :: os) cc fs Q s := by
  have id0 : ∀ (i : Nat), i < 0 → nameOf [k] s.ob.length i = i := fun i hi => by omega
  have e2 : renL (nameOf [k] s.ob.length) (.ptr 0 0 :: args) = .ptr k 0 :: args := by
    rw [renL, renV, renL_id id0 args ha]; rfl
  have e : putObs (nameOf [k] s.ob.length) s.ob [k] [some (.box c')] = s.ob.set k (some (.box c')) := by
    simp [putObs, renO, renL_id id0 c' hc']
  refine vk_callS [k] hf h (by rw [he, e2]) (by simp) ?_ (by simp only [wfL, wfV, Bool.and_eq_true]; exact ⟨rfl, wfL_mono (Nat.zero_le _) args ha⟩) (by simp [wfOb, wfO, wfL_mono (Nat.zero_le _) c hc]) (wfV_mono (Nat.zero_le _) r hr) (by simp [wfOb, wfO, wfL_mono (Nat.zero_le _) c' hc']) (Nat.le_refl _) ?_ ?_
  · refine ⟨⟨getElem?_lt h0, ?_, ?_⟩, trivial⟩
    · rw [e2]; simp [namesL, V.names]
    · rw [renO, renL_id id0 c hc]; exact h0
  · intro i h1 h2; rw [e, List.length_set] at h2; omega
  · rw [e, renV_id id0 r hr]; exact hh
end Go.Proofs.VL

namespace Go.Proofs.VL
open Go Go.RowKit
set_option linter.unusedSimpArgs false
set_option linter.unusedVariables false

/-- A contract that says less of its result. -/
theorem VCall.less {P : Program} {f : FuncId} {args : List V} {ob ob' ob2 : List (Option VObj)} {r r2 : V} (h : VCall P f args ob r ob') (hfg : (St.mk [(0, r)] ob' ob.length).fg (St.mk [(0, r2)] ob2 ob.length)) : VCall P f args ob r2 ob2 := by
  refine ⟨h.1, fun w E vs hdom hob hf hv => ?_⟩
  refine (h.2 w E vs hdom hob hf hv).mono ?_
  rintro e w' ⟨v, E', rfl, hres⟩
  have h3 : Rel w E 1 (St.mk [(0, r)] ob' ob.length) { tmps := #[v], defers := [] } w' E' := by
    refine ⟨rfl, rfl, fun t => ?_, hres.dom, hres.objs, hres.fresh, hres.ext, fun k hk => (hdom k).1 hk⟩
    cases t with
    | zero => exact hres.rep
    | succ t => simp [St.get, List.lookup, Rep]
  obtain ⟨E2, h4⟩ := h3.forget hfg
  exact ⟨v, E2, rfl, h4.ext, h4.dom, h4.tmps 0, h4.objs, h4.fresh⟩

/-- A contract over no objects serves in any list of objects; what it makes stands behind. -/
theorem VCall.app {P : Program} {f : FuncId} {args : List V} {obs' : List (Option VObj)} {r : V} (h : VCall P f args [] r obs') (B : List (Option VObj)) (hwa : wfL 0 args = true) (hwr : wfV obs'.length r = true) (hwo' : wfOb obs'.length obs' = true) :
    VCall P f args B (renV (fun k => B.length + k) r) (B ++ obs'.map (Option.map (renO fun k => B.length + k))) := by
  have hf := VCall.frame h [] B ⟨rfl, by simp, fun i j hj => by simp at hj⟩ hwa rfl hwr hwo' (Nat.zero_le _)
  have hn : nameOf [] B.length = fun k => B.length + k := by funext k; simp [nameOf]
  rw [hn] at hf
  have ha : renL (fun k => B.length + k) args = args := renL_id (n := 0) (fun k hk => by omega) args hwa
  rw [ha] at hf
  have hp : putObs (fun k => B.length + k) B [] obs' = B ++ obs'.map (Option.map (renO fun k => B.length + k)) := by
    simp [putObs]
  rw [hp] at hf
  exact hf
end Go.Proofs.VL

/- A logic of values over the model, part 5: symbolic states, their soundness, rules for calls and loops. No law is stated here. -/
import Derived.Test.YtdhfnmbbdcpnbaaV3
import Derived.Test.YtdhfnmbbdcpnbaaV0
namespace Go.Proofs.VL
open Go Go.RowKit
set_option linter.unusedSimpArgs false
set_option linter.unusedVariables false
noncomputable section

/-! ### carrying out, with own arrays given up where an operation wants that -/
def vopsF (P : Program) : List VOper → St → (St → Prop) → Prop
  | [], s, K => K s
  | o :: os, s, K => (o.step P s fun s' => vopsF P os s' K) ∨ ∃ s1, s.fg s1 ∧ o.step P s1 fun s' => vopsF P os s' K

theorem vopsF_sound {fo : List Nat} {P : Program} {ops : Array Oper} {nt : Nat} {w0 : World} {E0 : Env} {Q : Exit → Act → World → Prop} {K : St → Prop} (hQ : ∀ a w, Good w0 E0 nt K a w → Q .normal a w) :
    ∀ (os : List Oper) (vs : List VOper), cOpers fo P nt ops.toList os = some vs → ∀ (s : St) (a : Act) (w : World) (E : Env), Rel w0 E0 nt s a w E → vopsF P vs s K → wpList P ops Q os a w
  | [], vs, hc, s, a, w, E, hr, h => by
    simp only [cOpers, Option.some.injEq] at hc; subst hc
    exact hQ a w ⟨s, E, h, hr⟩
  | o :: os, vs, hc, s, a, w, E, hr, h => by
    simp only [cOpers] at hc
    split at hc <;> simp only [reduceCtorEq, Option.some.injEq] at hc
    rename_i v vs' h1 h2
    subst hc
    have go : ∀ (s : St) (E : Env), Rel w0 E0 nt s a w E → (v.step P s fun s' => vopsF P vs' s' K) → wpList P ops Q (o :: os) a w := by
      intro s E hr h
      refine wpList_step fun K' hK' => ?_
      have := vop_sound (ops := ops) (Q := Q) h1 hr h
      split at this
      · rename_i hw
        rw [if_pos hw]
        exact Oper.wp_mono (fun a w ⟨s', E', hk, hr'⟩ => hK' a w (vopsF_sound hQ os vs' h2 s' a w E' hr' hk)) this
      · rename_i hw
        rw [if_neg hw]
        obtain ⟨s', E', hk, hr'⟩ := this
        exact hK' _ _ (vopsF_sound hQ os vs' h2 s' _ w E' hr' hk)
    simp only [vopsF] at h
    rcases h with h | ⟨s1, hfg, h⟩
    · exact go s E hr h
    · obtain ⟨E1, hr1⟩ := hr.forget hfg
      exact go s1 E1 hr1 h

def vwpF (P : Program) : VC → (VX → St → Prop) → St → Prop
  | .skip, Q, s => Q .normal s
  | .reg ops, Q, s => vopsF P ops s (Q .normal)
  | .dreg ops wc, Q, s => ∃ s1, (s = s1 ∨ s.fg s1) ∧ dvops P true ops wc s1 (Q .normal)
  | .dregF ops wc sp, Q, s => ∃ s1, (s = s1 ∨ s.fg s1) ∧ dvops P false ops wc s1 fun s' => chkS sp s' = true ∧ Q .normal s'
  | .areg _ _ _, _, _ => False
  | .chk sp, Q, s => chkS sp s = true ∧ Q .normal s
  | .seq a b, Q, s => vwpF P a (fun e s' => match e with | .normal => vwpF P b Q s' | e => Q e s') s
  | .seqc a b, Q, s => vwpF P a (fun e s' => match e with | .normal => vwpF P b Q s' | e => Q e s') s
  | .cond x a b, Q, s => match s.x x with | .bool c => if c = true then vwpF P a Q s else vwpF P b Q s | _ => False
  | .block id c, Q, s => vwpF P c (fun e s' => match e with | .exit i => if i = id then Q .normal s' else Q (.exit i) s' | e => Q e s') s
  | .loop c, Q, s => ∃ (I : Nat → St → Prop) (n : Nat), (∃ s1, s.thin s1 ∧ I n s1) ∧ ∀ n s, I n s → vwpF P c (fun e s' => match e with | .normal => ∃ m s1, m < n ∧ s'.thin s1 ∧ I m s1 | e => Q e s') s
  | .exit id, Q, s => Q (.exit id) s
  | .ret, Q, s => Q .ret s

theorem vwpF_sound {fo : List Nat} {P : Program} {nt : Nat} {w0 : World} {E0 : Env} : ∀ (c : Code) (vc : VC), comp fo P nt c = some vc → ∀ (Q : VX → St → Prop) (s : St) (a : Act) (w : World) (E : Env), Rel w0 E0 nt s a w E → vwpF P vc Q s → c.wp P (lift w0 E0 nt Q) a w
  | .skip, vc, hc, Q, s, a, w, E, hr, h => by
    simp only [comp, Option.some.injEq] at hc; subst hc
    exact wp_skip ⟨s, E, h, hr⟩
  | .exit id, vc, hc, Q, s, a, w, E, hr, h => by
    simp only [comp, Option.some.injEq] at hc; subst hc
    exact wp_exit ⟨s, E, h, hr⟩
  | .ret, vc, hc, Q, s, a, w, E, hr, h => by
    simp only [comp, Option.some.injEq] at hc; subst hc
    exact wp_ret ⟨s, E, h, hr⟩
  | .region id ops draw, vc, hc, Q, s, a, w, E, hr, h => by
    cases draw with
    | false =>
      simp only [comp] at hc
      obtain ⟨vs, hvs, rfl⟩ := opt_bind hc
      exact wp_region_list (vopsF_sound (fun a w hg => hg) _ _ hvs s a w E hr h)
    | true =>
      simp only [comp] at hc
      obtain ⟨vs, hvs, hc⟩ := Option.bind_eq_some_iff.1 hc
      by_cases hany : anyO fo vs = true
      · rw [if_pos hany] at hc
        split at hc <;> simp only [reduceCtorEq, Option.some.injEq] at hc
        subst hc
        exact h.elim
      rw [if_neg hany] at hc
      split at hc <;> simp only [reduceCtorEq, Option.some.injEq] at hc
      rename_i hok
      subst hc
      simp only [Bool.and_eq_true] at hok
      have less : ∀ s1, (s = s1 ∨ s.fg s1) → ∃ E1, Rel w0 E0 nt s1 a w E1 := by
        rintro s1 (rfl | hfg)
        · exact ⟨E, hr⟩
        · exact hr.forget hfg
      split at h
      · rename_i he
        obtain ⟨s1, hs1, h⟩ := h
        obtain ⟨E1, hr⟩ := less s1 hs1
        obtain ⟨S, h1, h2, h3⟩ := dvops_chain h
        rw [he] at hok
        exact dreg_sound hok.1 (dOk_of hok.2) hvs h2 (fun a w E hr => ⟨_, E, h3, hr⟩) (fun _ => rfl) rfl (h1 ▸ hr)
      · obtain ⟨s1, hs1, h⟩ := h
        obtain ⟨E1, hr⟩ := less s1 hs1
        obtain ⟨S, h1, h2, h3⟩ := dvops_chain h
        exact dreg_sound hok.1 (dOk_of hok.2) hvs h2 (fun a w E hr => ⟨_, E, h3.2, hr⟩) (fun e => by cases e) h3.1 (h1 ▸ hr)
  | .seq x y, vc, hc, Q, s, a, w, E, hr, h => by
    simp only [comp] at hc
    split at hc <;> simp only [reduceCtorEq, Option.some.injEq] at hc
    rename_i vx vy hx hy
    have h' : vwpF P (.seq vx vy) Q s := by
      subst hc
      unfold mkSeq at h
      split at h
      · split at h
        · exact h
        · exact h
      · exact h
    simp only [vwpF] at h'
    refine wp_seq (wp_mono (vwpF_sound x vx hx _ s a w E hr h') ?_)
    intro e a' w' hl
    cases e <;> simp only [lift, Exit.then] at hl ⊢
    · obtain ⟨s', E', hk, hr'⟩ := hl
      exact vwpF_sound y vy hy Q s' a' w' E' hr' hk
    all_goals exact hl
  | .cond c x y, vc, hc, Q, s, a, w, E, hr, h => by
    simp only [comp] at hc
    split at hc <;> simp only [reduceCtorEq, Option.some.injEq] at hc
    rename_i X vx vy hX hx hy
    subst hc
    simp only [vwpF] at h
    split at h <;> try (exact h.elim)
    rename_i b hb
    have hv := hr.x hX
    rw [hb] at hv
    simp only [Rep] at hv
    refine wp_cond hv ?_
    cases b
    · simp only [Bool.false_eq_true, if_false] at h ⊢
      exact vwpF_sound y vy hy Q s a w E hr h
    · simp only [if_true] at h ⊢
      exact vwpF_sound x vx hx Q s a w E hr h
  | .block id c, vc, hc, Q, s, a, w, E, hr, h => by
    simp only [comp] at hc
    obtain ⟨v, hv, rfl⟩ := opt_bind hc
    simp only [vwpF] at h
    refine wp_block (wp_mono (vwpF_sound c v hv _ s a w E hr h) ?_)
    intro e a' w' hl
    cases e with
    | exit i =>
      simp only [lift, Exit.inBlock] at hl ⊢
      split
      · rename_i hi
        simp only [hi, if_true] at hl
        exact hl
      · rename_i hi
        simp only [hi, if_false] at hl
        exact hl
    | _ => exact hl
  | .loop c, vc, hc, Q, s, a, w, E, hr, h => by
    simp only [comp] at hc
    obtain ⟨v, hv, rfl⟩ := opt_bind hc
    simp only [vwpF] at h
    obtain ⟨I, n, ⟨s1, hth, h0⟩, hround⟩ := h
    have key : ∀ n s a w E, I n s → Rel w0 E0 nt s a w E → (Code.loop c).wp P (lift w0 E0 nt Q) a w := by
      intro n0 s0 a0 w0' E0' hI0 hr0
      refine wp_loop_ghost (fun m a w => ∃ s E, I m s ∧ Rel w0 E0 nt s a w E) n0 ⟨s0, E0', hI0, hr0⟩ ?_
      rintro m a w ⟨s, E, hI, hr⟩
      refine wp_mono (vwpF_sound c v hv _ s a w E hr (hround m s hI)) ?_
      intro e a' w' hl
      cases e <;> simp only [lift, Exit.then] at hl ⊢
      · obtain ⟨s', E', ⟨m', s2, hm, hth', hI'⟩, hr'⟩ := hl
        exact ⟨m', hm, s2, E', hI', hr'.thin hth'⟩
      all_goals exact hl
    exact key n s1 a w E h0 (hr.thin hth)
  | .rangeFunc _ _ _ _, vc, hc, Q, s, a, w, E, hr, h => by simp [comp] at hc
  | .scope _, vc, hc, Q, s, a, w, E, hr, h => by simp [comp] at hc
  | .label _, vc, hc, Q, s, a, w, E, hr, h => by simp [comp] at hc
  | .goto _, vc, hc, Q, s, a, w, E, hr, h => by simp [comp] at hc
  | .refuse _, vc, hc, Q, s, a, w, E, hr, h => by simp [comp] at hc

theorem VCall.introF {fo : List Nat} {P : Program} {f : FuncId} {fn : Func} {vc : VC} {rs : List RV} (hok : FnOkF fo P f fn vc rs) {args : List V} {r : V} {ob ob' : Obs} (hn : args.length ≤ fn.ntmps) (h : vwpF P vc (RetE rs r ob') (St.init args ob)) : VCall P f args ob r ob' := by
  refine ⟨hok.enter, fun w E vs hdom hob hf hr => ?_⟩
  obtain ⟨c, hb, hc⟩ := Option.bind_eq_some_iff.1 hok.body
  refine calls_of_wp hok.func hb ?_
  refine wp_mono (vwpF_sound c vc hc _ _ _ _ _ (Rel.init hn hdom hob hf hr) h) ?_
  intro e a w' hl
  have fin : (∃ s E', (resV s rs = some r ∧ s.ob = ob') ∧ Rel w E.dry fn.ntmps s a w' E') → a.defers = [] ∧ ∃ v, (results fn a.tmps).run P w' = .ok v w' ∧ ∃ v_1 E', Ending.returned v = .returned v_1 ∧ WRes E w r ob' v_1 w' E' := by
    rintro ⟨s, E', ⟨hx, rfl⟩, hrel⟩
    obtain ⟨v, h1, h2⟩ := res_sound hok.res hrel hx
    exact ⟨hrel.defers, v, h1, v, E', rfl, hrel.ext.ofBare, hrel.dom, h2, hrel.objs, hrel.fresh⟩
  cases e with
  | normal => exact fin hl
  | ret => exact fin hl
  | exit id => obtain ⟨s, E', hk, _⟩ := hl; exact hk.elim
  | goto l => exact hl.elim
  | panic ch => exact hl.elim
  | outgrown => exact hl.elim

/-! #### giving own arrays up -/
abbrev Fz := Nat → Option (Nat × List (List V))
mutual
def frzV (z : Fz) (n : Nat) : V → V
  | .ref k m => match z k with
    | some (sz, rows) => if m ≤ rows.length then .sl sz (rows.take m) else .junk
    | none => if k < n then .ref k m else .junk
  | .ptr k o => if k < n then .ptr k o else .junk
  | .eptr k i s o => match z k with | some _ => .junk | none => if k < n then .eptr k i s o else .junk
  | .agg cs => .agg (frzL z n cs)
  | .tup cs => .tup (frzL z n cs)
  | .fn f a b => .fn f (frzL z n a) (frzL z n b)
  | .mapr k => if k < n then .mapr k else .junk
  | .refs k s o m => match z k with | some _ => .junk | none => if k < n then .refs k s o m else .junk
  | v => v
def frzL (z : Fz) (n : Nat) : List V → List V
  | [] => []
  | x :: xs => frzV z n x :: frzL z n xs
end

mutual
theorem frzV_sub {z : Fz} {n : Nat} {m : FM} (hz : ∀ k p, z k = some p → m.fz k = some p) (hm : ∀ k, k < n → m.ms[k]? = some (some k)) : (x : V) → SubM m x (frzV z n x)
  | .ref k q => by
    simp only [frzV]
    split
    · rename_i sz rows hk
      split
      · rename_i hle; exact .lent (hz _ _ hk) hle rfl
      · exact .junk _
    · split
      · rename_i h; exact .ref (hm _ h)
      · exact .junk _
  | .ptr k o => by
    simp only [frzV]
    split
    · rename_i h; exact .ptr (hm _ h)
    · exact .junk _
  | .eptr k i s o => by
    simp only [frzV]
    split
    · exact .junk _
    · split
      · rename_i h; exact .eptr (hm _ h)
      · exact .junk _
  | .agg cs => by simp only [frzV]; exact .agg (frzL_sub hz hm cs)
  | .tup cs => by simp only [frzV]; exact .tup (frzL_sub hz hm cs)
  | .fn f a b => by simp only [frzV]; exact .fn (frzL_sub hz hm a) (frzL_sub hz hm b)
  | .mapr k => by
    simp only [frzV]
    split
    · rename_i h; exact .mapr (hm _ h)
    · exact .junk _
  | .refs k s o q => by
    simp only [frzV]
    split
    · exact .junk _
    · split
      · rename_i h; exact .refs (hm _ h)
      · exact .junk _
  | .bool _ => by simp only [frzV]; exact .same _ rfl
  | .int _ _ => by simp only [frzV]; exact .same _ rfl
  | .str _ => by simp only [frzV]; exact .same _ rfl
  | .nils => by simp only [frzV]; exact .same _ rfl
  | .sl _ _ => by simp only [frzV]; exact .same _ rfl
  | .iptr _ => by simp only [frzV]; exact .same _ rfl
  | .nilp => by simp only [frzV]; exact .same _ rfl
  | .nilm => by simp only [frzV]; exact .same _ rfl
  | .nilf => by simp only [frzV]; exact .same _ rfl
  | .nili => by simp only [frzV]; exact .same _ rfl
  | .junk => by simp only [frzV]; exact .same _ rfl
theorem frzL_sub {z : Fz} {n : Nat} {m : FM} (hz : ∀ k p, z k = some p → m.fz k = some p) (hm : ∀ k, k < n → m.ms[k]? = some (some k)) : (xs : List V) → SubML m xs (frzL z n xs)
  | [] => by simp only [frzL]; exact .nil
  | x :: xs => by simp only [frzL]; exact .cons (frzV_sub hz hm x) (frzL_sub hz hm xs)
end

def frzO (z : Fz) (n : Nat) : VObj → Option VObj
  | .box cs => some (.box (frzL z n cs))
  | .miter (some j) a b c => if j < n then some (.miter (some j) a b c) else none
  | o => some o

def idL (i : Nat) : Nat → List (Option Nat)
  | 0 => []
  | n + 1 => some i :: idL (i + 1) n

/-- The objects, those of some names given up. -/
def frzOb (z : Fz) (n i : Nat) : List (Option VObj) → List (Option VObj)
  | [] => []
  | o :: os => (match z i with | some _ => none | none => o.bind (frzO z n)) :: frzOb z n (i + 1) os

theorem idL_get : ∀ (n i k : Nat), k < n → (idL i n)[k]? = some (some (i + k))
  | n + 1, i, 0, _ => rfl
  | n + 1, i, k + 1, h => by
    simp only [idL, List.getElem?_cons_succ]
    rw [idL_get n (i + 1) k (by omega)]
    congr 2; omega
theorem idL_B : ∀ (b n i : Nat), b ≤ n → fgB b i (idL i n) = true
  | 0, n, i, _ => by simp [fgB]
  | b + 1, n + 1, i, h => by simp only [idL, fgB, beq_self_eq_true, Bool.true_and]; exact idL_B b n (i + 1) (by omega)
theorem idL_L : ∀ (n i N : Nat), i + n ≤ N → fgL N (idL i n) = true
  | 0, i, N, _ => rfl
  | n + 1, i, N, h => by
    simp only [idL, fgL, Bool.and_eq_true, decide_eq_true_eq]
    exact ⟨by omega, idL_L n (i + 1) N (by omega)⟩
theorem fgU_ge : ∀ (n i : Nat) (obs : List (Option VObj)) (k : Nat), k ∈ fgU (idL i n) obs → i ≤ k ∧ ∃ o, obs[k - i]? = some (some o)
  | 0, i, obs, k, h => by simp [idL, fgU] at h
  | n + 1, i, [], k, h => by simp [idL, fgU] at h
  | n + 1, i, none :: obs, k, h => by
    simp only [idL, fgU] at h
    obtain ⟨h1, o, h2⟩ := fgU_ge n (i + 1) obs k h
    refine ⟨by omega, o, ?_⟩
    have e : k - i = (k - (i + 1)) + 1 := by omega
    rw [e, List.getElem?_cons_succ]; exact h2
  | n + 1, i, some o :: obs, k, h => by
    simp only [idL, fgU, List.mem_cons] at h
    rcases h with rfl | h
    · exact ⟨Nat.le_refl _, o, by simp⟩
    · obtain ⟨h1, o', h2⟩ := fgU_ge n (i + 1) obs k h
      refine ⟨by omega, o', ?_⟩
      have e : k - i = (k - (i + 1)) + 1 := by omega
      rw [e, List.getElem?_cons_succ]; exact h2
theorem fgU_nodup : ∀ (n i : Nat) (obs : List (Option VObj)), nodupB (fgU (idL i n) obs) = true
  | 0, i, obs => by simp [idL, fgU, nodupB]
  | n + 1, i, [] => by simp [idL, fgU, nodupB]
  | n + 1, i, none :: obs => by simp only [idL, fgU]; exact fgU_nodup n (i + 1) obs
  | n + 1, i, some o :: obs => by
    simp only [idL, fgU, nodupB, Bool.and_eq_true, Bool.not_eq_true', List.contains_eq_mem, decide_eq_false_iff_not]
    refine ⟨fun h => ?_, fgU_nodup n (i + 1) obs⟩
    have := (fgU_ge n (i + 1) obs i h).1
    omega
theorem frzOb_get (z : Fz) (n : Nat) : ∀ (l : List (Option VObj)) (i k : Nat), (frzOb z n i l)[k]? = (l[k]?).map fun o => match z (i + k) with | some _ => none | none => o.bind (frzO z n)
  | [], i, k => by simp [frzOb]
  | o :: l, i, 0 => by simp [frzOb]
  | o :: l, i, k + 1 => by
    simp only [frzOb, List.getElem?_cons_succ]
    rw [frzOb_get z n l (i + 1) k]
    have e : i + 1 + k = i + (k + 1) := by omega
    rw [e]
theorem frzOb_len (z : Fz) (n : Nat) : ∀ (l : List (Option VObj)) (i : Nat), (frzOb z n i l).length = l.length
  | [], i => rfl
  | o :: l, i => by simp [frzOb, frzOb_len z n l (i + 1)]

theorem subR_refl : (a : List (List V)) → SubR a a
  | [] => .nil
  | x :: a => .cons (SubL.refl x) (subR_refl a)

theorem frzO_m {z : Fz} {n : Nat} {m : FM} (hz : ∀ k p, z k = some p → m.fz k = some p) (hm : ∀ k, k < n → m.ms[k]? = some (some k)) {o o1 : VObj} (h : frzO z n o = some o1) : ObjM m o o1 := by
  cases o with
  | box cs =>
    simp only [frzO, Option.some.injEq] at h
    subst h
    exact .box (frzL_sub hz hm cs)
  | arr e sz rows =>
    simp only [frzO, Option.some.injEq] at h
    subst h
    exact .arr (subR_refl _)
  | fro sz rows =>
    simp only [frzO, Option.some.injEq] at h
    subst h
    exact .fro
  | map es c =>
    simp only [frzO, Option.some.injEq] at h
    subst h
    exact .map (SubE.refl _)
  | miter q a b c =>
    cases q with
    | none =>
      simp only [frzO, Option.some.injEq] at h
      subst h
      exact .miter0
    | some j =>
      simp only [frzO] at h
      split at h <;> simp only [reduceCtorEq, Option.some.injEq] at h
      rename_i hj
      subst h
      exact .miter (hm j hj)

theorem frzOb_O {z : Fz} {N : Nat} {s : St} {m : FM} (hz : ∀ k p, z k = some p → m.fz k = some p) (hm : ∀ k, k < N → m.ms[k]? = some (some k)) : ∀ (l : List (Option VObj)) (i : Nat), (∀ k, l[k]? = s.ob[i + k]?) → fgO s m (idL i l.length) (frzOb z N i l)
  | [], i, h => trivial
  | o :: l, i, h => by
    have IH := frzOb_O hz hm l (i + 1) (fun k => by have := h (k + 1); rw [List.getElem?_cons_succ] at this; rw [this]; congr 1; omega)
    have h0 := h 0
    simp only [List.getElem?_cons_zero, Nat.add_zero] at h0
    show fgO s m (some i :: idL (i + 1) l.length) ((match z i with | some _ => none | none => o.bind (frzO z N)) :: frzOb z N (i + 1) l)
    generalize hq : (match z i with | some _ => none | none => o.bind (frzO z N)) = q
    cases q with
    | none => exact IH
    | some o1 =>
      refine ⟨?_, IH⟩
      split at hq
      · cases hq
      · cases o with
        | none => cases hq
        | some o' =>
          exact ⟨o', h0.symm, frzO_m hz hm hq⟩

theorem dd_mem (t : Nat) (v : V) : ∀ (l : List (Nat × V)) (seen : List Nat), (t, v) ∈ dd l seen → t ∉ seen ∧ gt t l = v
  | [], seen, h => by cases h
  | p :: l, seen, h => by
    change (t, v) ∈ (match seen.any (Nat.beq p.1) with | true => dd l seen | false => p :: dd l (p.1 :: seen)) at h
    show _ ∧ (match Nat.beq t p.1 with | true => p.2 | false => gt t l) = v
    cases hs : seen.any (Nat.beq p.1) with
    | true =>
      rw [hs] at h
      obtain ⟨h1, h2⟩ := dd_mem t v l seen h
      refine ⟨h1, ?_⟩
      have hm : p.1 ∈ seen := by
        obtain ⟨x, hx, hb⟩ := List.any_eq_true.1 hs
        have : p.1 = x := Nat.eq_of_beq_eq_true hb
        exact this ▸ hx
      cases hq : Nat.beq t p.1 with
      | false => exact h2
      | true => exact absurd (Nat.eq_of_beq_eq_true hq ▸ hm) h1
    | false =>
      rw [hs] at h
      rcases List.mem_cons.1 h with e | h
      · subst e
        refine ⟨fun hm => ?_, by simp⟩
        have : seen.any (Nat.beq t) = true := List.any_eq_true.2 ⟨t, hm, by simp⟩
        rw [hs] at this; cases this
      · obtain ⟨h1, h2⟩ := dd_mem t v l _ h
        refine ⟨fun hm => h1 (List.mem_cons_of_mem _ hm), ?_⟩
        cases hq : Nat.beq t p.1 with
        | false => exact h2
        | true => exact absurd (Nat.eq_of_beq_eq_true hq ▸ List.mem_cons_self) h1

def frzT (z : Fz) (n : Nat) (l : List (Nat × V)) : List (Nat × V) := l.map fun p => (p.1, frzV z n p.2)
theorem fgT_of {s : St} {z : Fz} {n : Nat} {m : FM} (hz : ∀ k p, z k = some p → m.fz k = some p) (hm : ∀ k, k < n → m.ms[k]? = some (some k)) : ∀ l : List (Nat × V), (∀ p ∈ l, s.get p.1 = p.2) → fgT s m (frzT z n l)
  | [], _ => trivial
  | p :: l, h => by
    refine ⟨?_, fgT_of hz hm l fun q hq => h q (List.mem_cons_of_mem _ hq)⟩
    show SubM m (s.get p.1) (frzV z n p.2)
    rw [h p List.mem_cons_self]
    exact frzV_sub hz hm p.2

/-- Own arrays of some names, given up. -/
def frzZ (s : St) (ks : List Nat) : Fz := fun k => match ks.any (Nat.beq k) with
  | true => match s.ob[k]? with | some (some (.arr _ sz rows)) => some (sz, rows) | _ => none
  | false => none
def frzS (s : St) (ks : List Nat) : St := { tm := frzT (frzZ s ks) s.ob.length (dd s.tm []), ob := frzOb (frzZ s ks) s.ob.length 0 s.ob, base := s.base }

theorem frzS_fg (s : St) (ks : List Nat) (hb : s.base ≤ s.ob.length) : s.fg (frzS s ks) := by
  have hm : ∀ k, k < s.ob.length → (idL 0 s.ob.length)[k]? = some (some k) := fun k hk => by rw [idL_get _ 0 k hk]; simp
  have hz : ∀ k p, frzZ s ks k = some p → s.frz (fgU (idL 0 s.ob.length) (frzS s ks).ob) k = some p := by
    intro k p hk
    have hk0 := hk
    unfold frzZ at hk
    split at hk
    · split at hk <;> simp only [reduceCtorEq, Option.some.injEq] at hk
      rename_i e sz rows ho
      subst hk
      have hn : k ∉ fgU (idL 0 s.ob.length) (frzS s ks).ob := by
        intro hmem
        obtain ⟨_, o, h2⟩ := fgU_ge _ _ _ _ hmem
        have h2' : (frzOb (frzZ s ks) s.ob.length 0 s.ob)[k]? = some (some o) := by simpa [frzS] using h2
        rw [frzOb_get, Nat.zero_add, hk0, ho] at h2'
        simp at h2'
      unfold St.frz
      have hc : (!(fgU (idL 0 s.ob.length) (frzS s ks).ob).contains k) = true := by
        simp only [Bool.not_eq_true', List.contains_eq_mem, decide_eq_false_iff_not]; exact hn
      rw [hc]
      simp only [ho]
    · cases hk
  refine ⟨idL 0 s.ob.length, rfl, idL_B _ _ _ hb, idL_L _ _ _ (by omega), fgU_nodup _ _ _, ?_, ?_⟩
  · refine fgT_of hz hm _ ?_
    rintro ⟨t, v⟩ hp
    obtain ⟨_, h⟩ := dd_mem t v _ _ hp
    show (s.tm.lookup t).getD .junk = v
    rw [← gt_eq]; exact h
  · exact frzOb_O hz hm s.ob 0 (fun k => by rw [Nat.zero_add])

/-- What an operation wants given up. -/
def fzX : VO → List X
  | .bsl _ _ _ _ _ parts => parts.map (·.2)
  | .upd _ _ _ x => [x]
  | .store _ _ x => [x]
  | .slc _ x _ _ _ => [x]
  | .boxI x => [x]
  | _ => []
mutual
def refsV : V → List Nat
  | .ref k _ => [k]
  | .agg cs => refsL cs
  | .tup cs => refsL cs
  | _ => []
def refsL : List V → List Nat
  | [] => []
  | x :: xs => refsV x ++ refsL xs
end
def evGF (C : Orac) (o : VOper) (s : St) : Option St :=
  match evG (evO C) o s with
  | some s' => some s'
  | none => match fzX o.op with
    | [] => none
    | xs => match Nat.ble s.base s.ob.length with
      | true => evG (evO C) o (frzS s ((refsL (xs.map (gx s.tm))).filter fun k => Nat.ble s.base k))
      | false => none
def evOpsF (C : Orac) (os : List VOper) : St → Option St :=
  List.rec (motive := fun _ => St → Option St) (fun s => some s) (fun o _ ih s => match evGF C o s with | some s' => ih s' | none => none) os

/-- What the first operation that does not go wants given up. -/
def badD (C : Orac) (fl : Bool) (os : List VOper) : List Bool → St → List Nat :=
  List.rec (motive := fun _ => List Bool → St → List Nat) (fun _ _ => []) (fun o _ ih wc s => match evG (evOD C fl (wc.headD false)) o s with | some s' => ih wc.tail s' | none => refsL ((fzX o.op).map (gx s.tm))) os
def evRD (C : Orac) (fl : Bool) (os : List VOper) (wc : List Bool) (s : St) : Option St :=
  match evOpsD C fl os wc s with
  | some s' => some s'
  | none => match (badD C fl os wc s).filter fun k => Nat.ble s.base k with
    | [] => none
    | ks => match Nat.ble s.base s.ob.length with
      | true => evOpsD C fl os wc (frzS s ks)
      | false => none
theorem evRD_sound {P : Program} {C : Orac} (hC : ∀ g as ob r ob', C g as ob = some (r, ob') → VCall P g as ob r ob') {fl : Bool} {os : List VOper} {wc : List Bool} {s s' : St} {K : St → Prop} (h : evRD C fl os wc s = some s') (hk : K s') : ∃ s1, (s = s1 ∨ s.fg s1) ∧ dvops P fl os wc s1 K := by
  unfold evRD at h
  split at h
  · rename_i s1 h1
    simp only [Option.some.injEq] at h
    subst h
    exact ⟨s, .inl rfl, evOpsD_sound hC os wc s _ K h1 hk⟩
  · split at h
    · cases h
    · split at h
      · rename_i hb
        exact ⟨_, .inr (frzS_fg s _ (Nat.le_of_ble_eq_true hb)), evOpsD_sound hC os wc _ _ K h hk⟩
      · cases h

def evf (C : Orac) (L : Nat) (c : VC) : St → Option (VX × St) :=
  VC.rec (motive := fun _ => St → Option (VX × St))
    (fun s => some (.normal, s))
    (fun ops s => match evOpsF C ops s with | some s' => some (.normal, s') | none => none)
    (fun ops wc s => match evRD C true ops wc s with | some s' => some (.normal, s') | none => none)
    (fun ops wc sp s => match evRD C false ops wc s with | some s' => if chkS sp s' = true then some (.normal, s') else none | none => none)
    (fun _ _ _ _ => none)
    (fun sp s => if chkS sp s = true then some (.normal, s) else none)
    (fun _ _ iha ihb s => match iha s with | some (.normal, s') => ihb s' | r => r)
    (fun _ _ iha ihb s => match iha s with | some (.normal, s') => ihb s' | r => r)
    (fun x _ _ iha ihb s => match gx s.tm x with | .bool c => (match c with | true => iha s | false => ihb s) | _ => none)
    (fun id _ ih s => match ih s with | some (.exit i, s') => (match Nat.beq i id with | true => some (.normal, s') | false => some (.exit i, s')) | r => r)
    (fun _ ih s => iter ih L (tidy s))
    (fun id s => some (.exit id, s))
    (fun s => some (.ret, s))
    c

theorem evGF_step {P : Program} {C : Orac} (hC : ∀ g as ob r ob', C g as ob = some (r, ob') → VCall P g as ob r ob') {o : VOper} {s s' : St} {K : St → Prop} (h : evGF C o s = some s') (hk : K s') : o.step P s K ∨ ∃ s1, s.fg s1 ∧ o.step P s1 K := by
  have go : ∀ s, evG (evO C) o s = some s' → o.step P s K := fun s h => evG_step (P := P) (S := fun o ρ ob K => o.step P ρ ob K) (fun o ρ ob v ob' K hf hk => evO_step hC hf hk) h hk
  unfold evGF at h
  split at h
  · rename_i s1 h1
    simp only [Option.some.injEq] at h
    subst h
    exact .inl (go s h1)
  · split at h
    · cases h
    · split at h
      · rename_i hb
        exact .inr ⟨_, frzS_fg s _ (Nat.le_of_ble_eq_true hb), go _ h⟩
      · cases h

theorem evOpsF_sound {P : Program} {C : Orac} (hC : ∀ g as ob r ob', C g as ob = some (r, ob') → VCall P g as ob r ob') : ∀ (os : List VOper) (s s' : St) (K : St → Prop), evOpsF C os s = some s' → K s' → vopsF P os s K
  | [], s, s', K, h, hk => by
    change some s = some s' at h
    simp only [Option.some.injEq] at h
    subst h
    exact hk
  | o :: os, s, s', K, h, hk => by
    change (match evGF C o s with | some s' => evOpsF C os s' | none => none) = some s' at h
    split at h <;> try (cases h; done)
    rename_i s1 h1
    exact evGF_step (P := P) (K := fun s' => vopsF P os s' K) hC h1 (evOpsF_sound hC os s1 s' K h hk)

theorem iterF_sound {P : Program} {c : VC} {f : St → Option (VX × St)} (hf : ∀ s e s' (Q : VX → St → Prop), f s = some (e, s') → Q e s' → vwpF P c Q s) (n : Nat) (s : St) (e : VX) (s' : St) (Q : VX → St → Prop) (h : iter f n (tidy s) = some (e, s')) (hQ : Q e s') : vwpF P (.loop c) Q s := by
  refine ⟨fun n s => iter f n s = some (e, s'), n, ⟨tidy s, tidy_thin s, h⟩, ?_⟩
  intro n s h
  cases n with
  | zero => cases h
  | succ n =>
    change (match f s with | some (.normal, s') => iter f n (tidy s') | r => r) = some (e, s') at h
    split at h
    · rename_i s1 h1
      refine hf _ _ _ _ h1 ?_
      exact ⟨n, tidy s1, Nat.lt_succ_self n, tidy_thin s1, h⟩
    · rename_i hne
      refine hf _ _ _ _ h ?_
      cases e with
      | normal => exact absurd h (hne _)
      | exit i => exact hQ
      | ret => exact hQ

theorem evf_sound {P : Program} {C : Orac} (hC : ∀ g as ob r ob', C g as ob = some (r, ob') → VCall P g as ob r ob') (L : Nat) (c : VC) : ∀ (s : St) (e : VX) (s' : St) (Q : VX → St → Prop), evf C L c s = some (e, s') → Q e s' → vwpF P c Q s := by
  induction c with
  | skip =>
    intro s e s' Q h hQ
    change some (VX.normal, s) = some (e, s') at h
    simp only [Option.some.injEq, Prod.mk.injEq] at h
    obtain ⟨rfl, rfl⟩ := h
    exact hQ
  | exit id =>
    intro s e s' Q h hQ
    change some (VX.exit id, s) = some (e, s') at h
    simp only [Option.some.injEq, Prod.mk.injEq] at h
    obtain ⟨rfl, rfl⟩ := h
    exact hQ
  | ret =>
    intro s e s' Q h hQ
    change some (VX.ret, s) = some (e, s') at h
    simp only [Option.some.injEq, Prod.mk.injEq] at h
    obtain ⟨rfl, rfl⟩ := h
    exact hQ
  | reg ops =>
    intro s e s' Q h hQ
    change (match evOpsF C ops s with | some s' => some (VX.normal, s') | none => none) = some (e, s') at h
    split at h <;> simp only [reduceCtorEq, Option.some.injEq, Prod.mk.injEq] at h
    rename_i s1 h1
    obtain ⟨rfl, rfl⟩ := h
    exact evOpsF_sound hC ops s s1 _ h1 hQ
  | dreg ops wc =>
    intro s e s' Q h hQ
    change (match evRD C true ops wc s with | some s' => some (VX.normal, s') | none => none) = some (e, s') at h
    split at h <;> simp only [reduceCtorEq, Option.some.injEq, Prod.mk.injEq] at h
    rename_i s1 h1
    obtain ⟨rfl, rfl⟩ := h
    exact evRD_sound hC h1 hQ
  | dregF ops wc sp =>
    intro s e s' Q h hQ
    change (match evRD C false ops wc s with | some s' => if chkS sp s' = true then some (VX.normal, s') else none | none => none) = some (e, s') at h
    split at h <;> try (cases h; done)
    rename_i s1 h1
    split at h <;> simp only [reduceCtorEq, Option.some.injEq, Prod.mk.injEq] at h
    rename_i hc
    obtain ⟨rfl, rfl⟩ := h
    exact evRD_sound hC h1 ⟨hc, hQ⟩
  | areg ops dirs done => intro s e s' Q h hQ; cases h
  | chk sp =>
    intro s e s' Q h hQ
    change (if chkS sp s = true then some (VX.normal, s) else none) = some (e, s') at h
    split at h <;> simp only [reduceCtorEq, Option.some.injEq, Prod.mk.injEq] at h
    rename_i hc
    obtain ⟨rfl, rfl⟩ := h
    exact ⟨hc, hQ⟩
  | seq a b iha ihb =>
    intro s e s' Q h hQ
    change (match evf C L a s with | some (.normal, s') => evf C L b s' | r => r) = some (e, s') at h
    split at h
    · rename_i s1 h1
      exact iha _ _ _ _ h1 (ihb _ _ _ _ h hQ)
    · rename_i hne
      refine iha _ _ _ _ h ?_
      cases e with
      | normal => exact absurd h (hne _)
      | exit i => exact hQ
      | ret => exact hQ
  | seqc a b iha ihb =>
    intro s e s' Q h hQ
    change (match evf C L a s with | some (.normal, s') => evf C L b s' | r => r) = some (e, s') at h
    split at h
    · rename_i s1 h1
      exact iha _ _ _ _ h1 (ihb _ _ _ _ h hQ)
    · rename_i hne
      refine iha _ _ _ _ h ?_
      cases e with
      | normal => exact absurd h (hne _)
      | exit i => exact hQ
      | ret => exact hQ
  | cond x a b iha ihb =>
    intro s e s' Q h hQ
    change (match gx s.tm x with | .bool c => (match c with | true => evf C L a s | false => evf C L b s) | _ => none) = some (e, s') at h
    rw [gx_eq] at h
    simp only [vwpF]
    split at h <;> try (cases h; done)
    rename_i c hc
    cases c
    · rw [if_neg (by decide)]; exact ihb _ _ _ _ h hQ
    · rw [if_pos rfl]; exact iha _ _ _ _ h hQ
  | block id c ih =>
    intro s e s' Q h hQ
    change (match evf C L c s with | some (.exit i, s') => (match Nat.beq i id with | true => some (.normal, s') | false => some (.exit i, s')) | r => r) = some (e, s') at h
    split at h
    · rename_i i s1 h1
      refine ih _ _ _ _ h1 ?_
      simp only
      split at h
      · rename_i hb
        rw [if_pos (Nat.eq_of_beq_eq_true hb)]
        simp only [Option.some.injEq, Prod.mk.injEq] at h
        obtain ⟨rfl, rfl⟩ := h
        exact hQ
      · rename_i hb
        rw [if_neg (Nat.ne_of_beq_eq_false hb)]
        simp only [Option.some.injEq, Prod.mk.injEq] at h
        obtain ⟨rfl, rfl⟩ := h
        exact hQ
    · rename_i hne
      refine ih _ _ _ _ h ?_
      cases e with
      | normal => exact hQ
      | exit i => exact absurd h (hne _ _)
      | ret => exact hQ
  | loop c ih =>
    intro s e s' Q h hQ
    exact iterF_sound ih L s e s' Q h hQ

def lentF (ih : Orac) (L : Nat) (nt : Nat) (vc : VC) (rs : List RV) (args : List V) : Option V :=
  match lendL [] args with
  | none => none
  | some as => match Nat.ble as.length nt with
    | false => none
    | true => match evf ih L vc (St.init as []) with
      | some (.exit _, _) => none
      | some (_, s) => match resV s rs with | some x => lendV s.ob x | none => none
      | none => none
theorem lentF_sound {P : Program} {ih : Orac} (hih : ∀ g as ob r ob', ih g as ob = some (r, ob') → VCall P g as ob r ob') {L : Nat} {f : FuncId} {fo : List Nat} {fn : Func} {vc : VC} {rs : List RV} (hok : FnOkF fo P f fn vc rs) {args : List V} {y : V} (h : lentF ih L fn.ntmps vc rs args = some y) (ob : Obs) : VCall P f args ob y ob := by
  unfold lentF at h
  split at h <;> try (cases h; done)
  rename_i as hl
  split at h <;> try (cases h; done)
  rename_i hle
  have go : ∀ e s, evf ih L vc (St.init as []) = some (e, s) → (∀ i, e ≠ .exit i) → (match resV s rs with | some x => lendV s.ob x | none => none) = some y → VCall P f args ob y ob := by
    intro e s he hne h
    split at h <;> try (cases h; done)
    rename_i x hx
    refine CallR.call ⟨as, .inl hl, VCall.lent (VCall.introF (ob' := s.ob) hok (Nat.le_of_ble_eq_true hle) (evf_sound hih L vc _ e s _ he ?_)) h⟩
    cases e with
    | normal => exact ⟨hx, rfl⟩
    | exit i => exact absurd rfl (hne i)
    | ret => exact ⟨hx, rfl⟩
  split at h <;> try (cases h; done)
  rename_i e s hne he
  exact go e s he (fun i hi => hne i hi) h
def callF (ih : Orac) (L : Nat) (f : FuncId) (args : List V) (ob : Obs) (T : List (Nat × FE)) : Option (V × Obs) :=
  List.rec none (fun p _ rest => match Nat.beq f p.1 with
    | false => rest
    | true => match p.2 with
      | .lent nt vc rs => match lentF ih L nt vc rs args with | some y => some (y, ob) | none => rest
      | .spec F => match F args ob with
        | some r => some r
        | none => rest
      | .code nt vc rs => match Nat.ble args.length nt with
        | true => match evf ih L vc (St.init args ob) with
          | some (.exit _, _) => none
          | some (_, s) => match resV s rs with | some x => some (trimR ob.length x s.ob) | none => none
          | none => none
        | false => none) T

def runF (T : List (Nat × FE)) (L : Nat) (n : Nat) : Orac :=
  Nat.rec (motive := fun _ => Orac) (fun _ _ _ => none) (fun _ ih f args ob => callF ih L f args ob T) n

theorem callF_sound {P : Program} {ih : Orac} (hih : ∀ g as ob r ob', ih g as ob = some (r, ob') → VCall P g as ob r ob') (L : Nat) {f : FuncId} {args : List V} {ob : Obs} {r : V} {ob' : Obs} {T : List (Nat × FE)} (hT : TOk P T) : callF ih L f args ob T = some (r, ob') → VCall P f args ob r ob' := by
  induction hT with
  | nil => intro h; cases h
  | @spec g F T h1 _ IH =>
    intro h
    change (match Nat.beq f g with
      | false => callF ih L f args ob T
      | true => match F args ob with
        | some r => some r
        | none => callF ih L f args ob T) = some (r, ob') at h
    split at h
    · exact IH h
    · rename_i hb
      have := Nat.eq_of_beq_eq_true hb
      subst this
      split at h
      · rename_i q hq
        rw [h] at hq
        exact h1 _ _ _ _ hq
      · exact IH h
  | @lent g fo fn vc rs T hok _ IH =>
    intro h
    change (match Nat.beq f g with
      | false => callF ih L f args ob T
      | true => match lentF ih L fn.ntmps vc rs args with | some y => some (y, ob) | none => callF ih L f args ob T) = some (r, ob') at h
    split at h
    · exact IH h
    · rename_i hb
      have := Nat.eq_of_beq_eq_true hb
      subst this
      split at h
      · rename_i y hy
        simp only [Option.some.injEq, Prod.mk.injEq] at h
        obtain ⟨rfl, rfl⟩ := h
        exact lentF_sound hih hok hy ob
      · exact IH h
  | @code g fo fn vc rs T hok _ IH =>
    intro h
    change (match Nat.beq f g with
      | false => callF ih L f args ob T
      | true => match Nat.ble args.length fn.ntmps with
        | true => match evf ih L vc (St.init args ob) with
          | some (.exit _, _) => none
          | some (_, s) => match resV s rs with | some x => some (trimR ob.length x s.ob) | none => none
          | none => none
        | false => none) = some (r, ob') at h
    split at h
    · exact IH h
    · rename_i hb
      have := Nat.eq_of_beq_eq_true hb
      subst this
      split at h <;> try (cases h; done)
      rename_i hle
      have go : ∀ e s, evf ih L vc (St.init args ob) = some (e, s) → (∀ i, e ≠ .exit i) → (match resV s rs with | some x => some (trimR ob.length x s.ob) | none => none) = some (r, ob') → VCall P f args ob r ob' := by
        intro e s he hne h
        split at h <;> simp only [reduceCtorEq, Option.some.injEq] at h
        rename_i x hx
        refine trim_ok (VCall.introF hok (Nat.le_of_ble_eq_true hle) (evf_sound hih L vc _ e s _ he ?_)) h
        cases e with
        | normal => exact ⟨hx, rfl⟩
        | exit i => exact absurd rfl (hne i)
        | ret => exact ⟨hx, rfl⟩
      split at h <;> try (cases h; done)
      rename_i e s hne he
      exact go e s he (fun i hi => hne i hi) h

theorem runF_sound {P : Program} {T : List (Nat × FE)} (hT : TOk P T) (L : Nat) : ∀ (n : Nat) (f : FuncId) (args : List V) (ob : Obs) (r : V) (ob' : Obs), runF T L n f args ob = some (r, ob') → VCall P f args ob r ob'
  | 0, f, args, ob, r, ob', h => by cases h
  | n + 1, f, args, ob, r, ob', h => callF_sound (runF_sound hT L n) L hT h

def runFT (T : List (Nat × FE)) (L D : Nat) (f : FuncId) (args : List V) : Bool := match runF T L D f args [] with | some (.bool b, _) => b | _ => false
theorem runFT_sound {P : Program} {T : List (Nat × FE)} (hT : TOk P T) (L D : Nat) {f : FuncId} {args : List V} (h : runFT T L D f args = true) : VFn P f args (.bool true) := by
  unfold runFT at h
  split at h <;> try (cases h; done)
  rename_i b ob' hb
  subst h
  exact (runF_sound hT L D _ _ _ _ _ hb).lent rfl

theorem vk_evF {P : Program} {T : List (Nat × FE)} (hT : TOk P T) (L D : Nat) {os : List (Option (Bool × Bool) × VOper)} {c : VC} {fs : List Fr} {rs : List RV} {s : St} (h : isT rs (vkRun (runF T L D) L os c fs s) = true) : vk P os c fs (RetV rs (.bool true)) s := by
  unfold isT at h
  split at h <;> try (cases h; done)
  rename_i e s' hne he
  split at h <;> try (cases h; done)
  rename_i b hb
  subst h
  refine vkRun_sound (runF_sound hT L D) he ?_
  cases e with
  | exit i => exact absurd rfl (hne i)
  | normal => exact ⟨_, _, hb, rfl, .refl _⟩
  | ret => exact ⟨_, _, hb, rfl, .refl _⟩
/-- What a call comes to, its own objects lent. -/
def runFV (T : List (Nat × FE)) (L D : Nat) (f : FuncId) (args : List V) : Option V := match runF T L D f args [] with | some (r, ob') => lendV ob' r | none => none
theorem runFV_sound {P : Program} {T : List (Nat × FE)} (hT : TOk P T) (L D : Nat) {f : FuncId} {args : List V} {y : V} (h : runFV T L D f args = some y) : VFn P f args y := by
  unfold runFV at h
  split at h <;> try (cases h; done)
  rename_i r ob' hb
  exact (runF_sound hT L D _ _ _ _ _ hb).lent h

end
end Go.Proofs.VL

namespace Go.Proofs.VL
set_option linter.unusedVariables false

/-! ### escaped texts -/
/-- A text for a byte. -/
def swapL (old : UInt8) (by' : List UInt8) (l : LT) : LT := l.flatMap fun c => if c.1 = old then by'.map (fun b => (b, c.2)) else [c]
theorem swapL_append (old : UInt8) (by' : List UInt8) (a b : LT) : swapL old by' (a ++ b) = swapL old by' a ++ swapL old by' b := by simp [swapL]
theorem swapL_length (old : UInt8) (by' : List UInt8) (l : LT) (h : by'.length ≤ 10) : (swapL old by' l).length ≤ 10 * l.length := by
  induction l with
  | nil => simp [swapL]
  | cons c l ih =>
    simp only [swapL, List.flatMap_cons, List.length_append, List.length_cons] at ih ⊢
    split
    · simp only [List.length_map]; omega
    · simp only [List.length_singleton]; omega
theorem Near.map_const {o : Int} (h : nearI o = o) (t : List UInt8) : Near (t.map fun b => (b, o)) := by
  intro c hc
  obtain ⟨b, _, rfl⟩ := List.mem_map.1 hc
  exact h

def changes : List (UInt8 × List UInt8) := [(38, [38, 97, 109, 112, 59]), (60, [38, 108, 116, 59]), (62, [38, 103, 116, 59]), (13, [38, 35, 49, 51, 59]), (34, [38, 113, 117, 111, 116, 59])]

/-- What stands for a byte behind so many changes. -/
def escB (n : Nat) (b : UInt8) : List UInt8 :=
  if 1 ≤ n ∧ b = 38 then [38, 97, 109, 112, 59] else if 2 ≤ n ∧ b = 60 then [38, 108, 116, 59] else if 3 ≤ n ∧ b = 62 then [38, 103, 116, 59] else if 4 ≤ n ∧ b = 13 then [38, 35, 49, 51, 59] else if 5 ≤ n ∧ b = 34 then [38, 113, 117, 111, 116, 59] else [b]

def escL (n : Nat) (l : LT) : LT := l.flatMap fun c => (escB n c.1).map fun b => (b, c.2)

theorem escL_append (n : Nat) (a b : LT) : escL n (a ++ b) = escL n a ++ escL n b := by simp [escL]
theorem escL_zero (l : LT) : escL 0 l = l := by
  induction l with
  | nil => rfl
  | cons c l ih => simp only [escL, List.flatMap_cons] at ih ⊢; rw [ih]; simp [escB]

theorem swapL_flat (old : UInt8) (by' : List UInt8) (f : UInt8 × Int → LT) (l : LT) : swapL old by' (l.flatMap f) = l.flatMap fun c => swapL old by' (f c) := by
  induction l with
  | nil => rfl
  | cons c l ih => rw [List.flatMap_cons, swapL_append, ih, List.flatMap_cons]

theorem swapL_map (old : UInt8) (by' : List UInt8) (t : List UInt8) (o : Int) : swapL old by' (t.map fun b => (b, o)) = (t.flatMap fun b => if b = old then by' else [b]).map fun b => (b, o) := by
  induction t with
  | nil => rfl
  | cons b t ih =>
    simp only [swapL, List.map_cons, List.flatMap_cons, List.map_append] at ih ⊢
    rw [ih]
    split <;> simp

theorem escB_step (n : Nat) (old : UInt8) (by' : List UInt8) (h : changes[n]? = some (old, by')) (b : UInt8) : ((escB n b).flatMap fun b => if b = old then by' else [b]) = escB (n + 1) b := by
  have hn : n < 5 := by
    rcases Nat.lt_or_ge n 5 with h' | h'
    · exact h'
    · rw [List.getElem?_eq_none h'] at h; cases h
  have : ∀ b : Fin 256, ((escB n ⟨⟨b⟩⟩).flatMap fun b => if b = old then by' else [b]) = escB (n + 1) ⟨⟨b⟩⟩ := by
    match n, hn with
    | 0, _ => simp [changes] at h; obtain ⟨rfl, rfl⟩ := h; decide +kernel
    | 1, _ => simp [changes] at h; obtain ⟨rfl, rfl⟩ := h; decide +kernel
    | 2, _ => simp [changes] at h; obtain ⟨rfl, rfl⟩ := h; decide +kernel
    | 3, _ => simp [changes] at h; obtain ⟨rfl, rfl⟩ := h; decide +kernel
    | 4, _ => simp [changes] at h; obtain ⟨rfl, rfl⟩ := h; decide +kernel
  exact this b.toBitVec.toFin

theorem escL_step (n : Nat) (old : UInt8) (by' : List UInt8) (h : changes[n]? = some (old, by')) (l : LT) : swapL old by' (escL n l) = escL (n + 1) l := by
  unfold escL
  rw [swapL_flat]
  congr 1
  funext c
  rw [swapL_map, escB_step n old by' h]

theorem escB_len (n : Nat) (b : UInt8) : 1 ≤ (escB n b).length ∧ (escB n b).length ≤ 6 := by
  unfold escB
  repeat' split
  all_goals simp

theorem escL_len (n : Nat) (l : LT) : (escL n l).length ≤ 6 * l.length := by
  induction l with
  | nil => simp [escL]
  | cons c l ih =>
    simp only [escL, List.flatMap_cons, List.length_append, List.length_map, List.length_cons] at ih ⊢
    have := (escB_len n c.1).2
    omega

theorem escL_near {n : Nat} {l : LT} (h : Near l) : Near (escL n l) := by
  intro c hc
  simp only [escL, List.mem_flatMap] at hc
  obtain ⟨d, hd, hc⟩ := hc
  obtain ⟨b, _, rfl⟩ := List.mem_map.1 hc
  exact h d hd

def worstO (l : LT) : Int := l.foldl (fun m c => max m c.2) 0

theorem worst_esc (n : Nat) (l : LT) : worstO (escL n l) = worstO l := by
  have one : ∀ (t : List UInt8) (o m : Int), t ≠ [] → (t.map fun b => (b, o)).foldl (fun m (c : UInt8 × Int) => max m c.2) m = max m o := by
    intro t
    induction t with
    | nil => intro o m h; exact absurd rfl h
    | cons b t ih =>
      intro o m _
      rw [List.map_cons, List.foldl_cons]
      by_cases ht : t = []
      · subst ht; rfl
      · rw [ih o _ ht]; simp only; omega
  have : ∀ (l : LT) (m : Int), (escL n l).foldl (fun m c => max m c.2) m = l.foldl (fun m c => max m c.2) m := by
    intro l
    induction l with
    | nil => intro m; rfl
    | cons c l ih =>
      intro m
      have e : escL n (c :: l) = ((escB n c.1).map fun b => (b, c.2)) ++ escL n l := by simp [escL]
      rw [e, List.foldl_append, one _ _ _ (by intro he; have := (escB_len n c.1).1; rw [he] at this; simp at this), ih, List.foldl_cons]
  exact this l 0
end Go.Proofs.VL

namespace Go.Proofs.VL
set_option linter.unusedVariables false

/-- how many bytes go on behind a first byte; none: it is no first byte. -/
def leadN (c : Nat) : Int := if c < 128 then 0 else if c < 194 then -1 else if c < 224 then 1 else if c < 240 then 2 else if c < 245 then 3 else -1
def secA (c : Nat) : Nat := if c = 224 then 160 else if c = 240 then 144 else 128
def secB (c : Nat) : Nat := if c = 237 then 159 else if c = 244 then 143 else 191

def inR (t : List UInt8) (i : Nat) (a b : Nat) : Bool := match t[i]? with
  | none => false
  | some c => decide (a ≤ c.toNat ∧ c.toNat ≤ b)

def tailF (t : List UInt8) : Nat → Nat → Nat → Nat → Nat × Bool
  | 0, i, _, _ => (i, true)
  | m + 1, i, a, b => if inR t i a b = true then tailF t m (i + 1) 128 191 else (i, false)

def nextF : List UInt8 → Nat × Bool
  | [] => (0, false)
  | c :: r => if leadN c.toNat < 0 then (1, false) else tailF (c :: r) (leadN c.toNat).toNat 1 (secA c.toNat) (secB c.toNat)

theorem tailF_pos (t : List UInt8) : ∀ (m i a b : Nat), i < t.length + 1 → i ≤ (tailF t m i a b).1 ∧ (tailF t m i a b).1 ≤ t.length
  | 0, i, a, b, h => by simp [tailF]; omega
  | m + 1, i, a, b, h => by
    unfold tailF
    split
    · next hin =>
      have hi : i < t.length := by
        unfold inR at hin
        split at hin
        · cases hin
        · next c hc => exact (List.getElem?_eq_some_iff.1 hc).1
      have := tailF_pos t m (i + 1) 128 191 (by omega)
      omega
    · simp; omega

theorem nextF_cons (c : UInt8) (r : List UInt8) : nextF (c :: r) = if leadN c.toNat < 0 then (1, false) else tailF (c :: r) (leadN c.toNat).toNat 1 (secA c.toNat) (secB c.toNat) := rfl
theorem tailF_zero (t : List UInt8) (i a b : Nat) : tailF t 0 i a b = (i, true) := rfl
theorem tailF_yes {t : List UInt8} {m i a b : Nat} (h : inR t i a b = true) : tailF t (m + 1) i a b = tailF t m (i + 1) 128 191 := by show (if _ then _ else _) = _; rw [if_pos h]
theorem tailF_no {t : List UInt8} {m i a b : Nat} (h : inR t i a b = false) : tailF t (m + 1) i a b = (i, false) := by show (if _ then _ else _) = _; rw [if_neg (by rw [h]; simp)]

theorem nextF_pos {t : List UInt8} (h : t ≠ []) : 1 ≤ (nextF t).1 ∧ (nextF t).1 ≤ t.length := by
  cases t with
  | nil => exact absurd rfl h
  | cons c r =>
    show 1 ≤ (if leadN c.toNat < 0 then (1, false) else tailF (c :: r) (leadN c.toNat).toNat 1 (secA c.toNat) (secB c.toNat)).1 ∧ (if leadN c.toNat < 0 then (1, false) else tailF (c :: r) (leadN c.toNat).toNat 1 (secA c.toNat) (secB c.toNat)).1 ≤ (c :: r).length
    split
    · simp
    · exact tailF_pos (c :: r) _ 1 _ _ (by simp)

/-- the runes of a text: where, how long, whether each is good (and not nought). -/
def seqs : Nat → List UInt8 → Nat → List (Nat × Nat × Bool)
  | 0, _, _ => []
  | k + 1, t, i => if i < t.length then
      (i, (nextF (t.drop i)).1, (nextF (t.drop i)).2 && decide (t[i]? ≠ some 0)) :: seqs k t (i + (nextF (t.drop i)).1) else []

def validF (t : List UInt8) : Nat → Nat → Bool
  | 0, _ => true
  | k + 1, i => if i < t.length then ((nextF (t.drop i)).2 && decide (t[i]? ≠ some 0)) && validF t k (i + (nextF (t.drop i)).1) else true

theorem seqs_valid (t : List UInt8) : ∀ k i, (seqs k t i).all (fun s => s.2.2) = validF t k i
  | 0, i => rfl
  | k + 1, i => by
    unfold seqs validF
    split
    · simp only [List.all_cons, seqs_valid t k]
    · rfl

def isValid (t : List UInt8) : Bool := validF t t.length 0
def isRaw (t : List UInt8) : Bool := isValid t && t.all fun c => decide (c ≠ 60 ∧ c ≠ 13)
end Go.Proofs.VL

namespace Go.Proofs.VL
open Go Go.RowKit
set_option linter.unusedVariables false

theorem bits64 : IntKind.i64.bits = 64 := rfl
theorem wrap_lt {x : Int} (h0 : 0 ≤ x) (h : x < 4611686018427387904) : IntKind.i64.wrap x = x := by
  unfold IntKind.wrap
  simp [IntKind.bits, IntKind.signed]
  omega
theorem wrap_u8 {x : Int} (h0 : 0 ≤ x) (h : x < 256) : IntKind.u8.wrap x = x := by
  unfold IntKind.wrap
  simp [IntKind.bits, IntKind.signed]
  omega

theorem or_nat (a b : Nat) (ha : a < 2 ^ 61) (hb : b < 2 ^ 61) : IntKind.i64.wrap ((BitVec.ofInt IntKind.i64.bits (a : Int) ||| BitVec.ofInt IntKind.i64.bits (b : Int)).toNat : Int) = ((a ||| b : Nat) : Int) := by
  have h1 : (BitVec.ofInt IntKind.i64.bits (a : Int) ||| BitVec.ofInt IntKind.i64.bits (b : Int)).toNat = a ||| b := by
    rw [BitVec.toNat_or, bits64]
    simp only [BitVec.ofInt_natCast, BitVec.toNat_ofNat]
    rw [Nat.mod_eq_of_lt (by omega), Nat.mod_eq_of_lt (by omega)]
  rw [h1]
  have h2 : a ||| b < 2 ^ 61 := Nat.or_lt_two_pow ha hb
  exact wrap_lt (by omega) (by omega)

theorem and_nat (a b : Nat) (ha : a < 2 ^ 61) (hb : b < 2 ^ 61) : IntKind.i64.wrap ((BitVec.ofInt IntKind.i64.bits (a : Int) &&& BitVec.ofInt IntKind.i64.bits (b : Int)).toNat : Int) = ((a &&& b : Nat) : Int) := by
  have h1 : (BitVec.ofInt IntKind.i64.bits (a : Int) &&& BitVec.ofInt IntKind.i64.bits (b : Int)).toNat = a &&& b := by
    rw [BitVec.toNat_and, bits64]
    simp only [BitVec.ofInt_natCast, BitVec.toNat_ofNat]
    rw [Nat.mod_eq_of_lt (by omega), Nat.mod_eq_of_lt (by omega)]
  rw [h1]
  have h2 : a &&& b < 2 ^ 61 := Nat.and_lt_two_pow a hb
  exact wrap_lt (by omega) (by omega)

theorem and63 (n : Nat) (h : n < 2 ^ 61) : IntKind.i64.wrap ((BitVec.ofInt IntKind.i64.bits (n : Int) &&& BitVec.ofInt IntKind.i64.bits 63).toNat : Int) = ((n % 64 : Nat) : Int) := by
  have := and_nat n 63 h (by decide)
  rw [show n % 64 = n &&& 63 from (Nat.and_two_pow_sub_one_eq_mod n 6).symm]
  exact this

theorem or_hi {c i k : Nat} (hc : c = 2 ^ i * k) {x : Nat} (hx : x < 2 ^ i) : c ||| x = c + x := by
  subst hc
  exact (Nat.two_pow_add_eq_or_of_lt hx k).symm

theorem or128 {x : Nat} (hx : x < 64) : IntKind.i64.wrap ((BitVec.ofInt IntKind.i64.bits 128 ||| BitVec.ofInt IntKind.i64.bits (x : Int)).toNat : Int) = ((128 + x : Nat) : Int) := by
  rw [← or_hi (i := 6) (k := 2) (by decide) hx]; exact or_nat 128 x (by decide) (by omega)
theorem or192 {x : Nat} (hx : x < 64) : IntKind.i64.wrap ((BitVec.ofInt IntKind.i64.bits 192 ||| BitVec.ofInt IntKind.i64.bits (x : Int)).toNat : Int) = ((192 + x : Nat) : Int) := by
  rw [← or_hi (i := 6) (k := 3) (by decide) hx]; exact or_nat 192 x (by decide) (by omega)
theorem or224 {x : Nat} (hx : x < 32) : IntKind.i64.wrap ((BitVec.ofInt IntKind.i64.bits 224 ||| BitVec.ofInt IntKind.i64.bits (x : Int)).toNat : Int) = ((224 + x : Nat) : Int) := by
  rw [← or_hi (i := 5) (k := 7) (by decide) hx]; exact or_nat 224 x (by decide) (by omega)
theorem or240 {x : Nat} (hx : x < 16) : IntKind.i64.wrap ((BitVec.ofInt IntKind.i64.bits 240 ||| BitVec.ofInt IntKind.i64.bits (x : Int)).toNat : Int) = ((240 + x : Nat) : Int) := by
  rw [← or_hi (i := 4) (k := 15) (by decide) hx]; exact or_nat 240 x (by decide) (by omega)

theorem shr_nat (n s : Nat) : ((n : Int)).fdiv (2 ^ min s IntKind.i64.bits) = ((n / 2 ^ min s 64 : Nat) : Int) := by
  rw [bits64, Int.fdiv_eq_ediv_of_nonneg _ (Int.pow_nonneg (by decide))]
  norm_cast

/-- The bytes of a number's sequence. -/
def runeB (n : Int) : List UInt8 :=
  if n < 1 ∨ 1114111 < n ∨ (55296 ≤ n ∧ n ≤ 57343) then [239, 191, 189] else
  let m := n.toNat
  if m < 128 then [UInt8.ofNat m]
  else if m < 2048 then [UInt8.ofNat (192 + m / 64), UInt8.ofNat (128 + m % 64)]
  else if m < 65536 then [UInt8.ofNat (224 + m / 4096), UInt8.ofNat (128 + m / 64 % 64), UInt8.ofNat (128 + m % 64)]
  else [UInt8.ofNat (240 + m / 262144), UInt8.ofNat (128 + m / 4096 % 64), UInt8.ofNat (128 + m / 64 % 64), UInt8.ofNat (128 + m % 64)]

theorem rune_bad {n : Int} (h : n < 1 ∨ 1114111 < n ∨ (55296 ≤ n ∧ n ≤ 57343)) : runeB n = [239, 191, 189] := by unfold runeB; rw [if_pos h]
theorem rune_1 {m : Nat} (h : 1 ≤ m ∧ m < 128) : runeB m = [UInt8.ofNat m] := by unfold runeB; rw [if_neg (by omega)]; simp only [Int.toNat_natCast]; rw [if_pos h.2]
theorem rune_2 {m : Nat} (h : 128 ≤ m ∧ m < 2048) : runeB m = [UInt8.ofNat (192 + m / 64), UInt8.ofNat (128 + m % 64)] := by unfold runeB; rw [if_neg (by omega)]; simp only [Int.toNat_natCast]; rw [if_neg (by omega), if_pos h.2]
theorem rune_3 {m : Nat} (h : 2048 ≤ m ∧ m < 65536) (hs : ¬ (55296 ≤ m ∧ m ≤ 57343)) : runeB m = [UInt8.ofNat (224 + m / 4096), UInt8.ofNat (128 + m / 64 % 64), UInt8.ofNat (128 + m % 64)] := by unfold runeB; rw [if_neg (by omega)]; simp only [Int.toNat_natCast]; rw [if_neg (by omega), if_neg (by omega), if_pos h.2]
theorem rune_4 {m : Nat} (h : 65536 ≤ m ∧ m ≤ 1114111) : runeB m = [UInt8.ofNat (240 + m / 262144), UInt8.ofNat (128 + m / 4096 % 64), UInt8.ofNat (128 + m / 64 % 64), UInt8.ofNat (128 + m % 64)] := by unfold runeB; rw [if_neg (by omega)]; simp only [Int.toNat_natCast]; rw [if_neg (by omega), if_neg (by omega), if_neg (by omega)]

theorem shr6 (n : Nat) : ((n : Int)).fdiv (2 ^ min 6 IntKind.i64.bits) = ((n / 64 : Nat) : Int) := shr_nat n 6
theorem shr12 (n : Nat) : ((n : Int)).fdiv (2 ^ min 12 IntKind.i64.bits) = ((n / 4096 : Nat) : Int) := shr_nat n 12
theorem shr18 (n : Nat) : ((n : Int)).fdiv (2 ^ min 18 IntKind.i64.bits) = ((n / 262144 : Nat) : Int) := shr_nat n 18
end Go.Proofs.VL

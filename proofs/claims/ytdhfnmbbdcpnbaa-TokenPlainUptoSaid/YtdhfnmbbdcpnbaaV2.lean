/- A logic of values over the model, part 3: symbolic states, their soundness, rules for calls and loops. No law is stated here. -/
import Derived.Test.YtdhfnmbbdcpnbaaV1
import Derived.Carry
namespace Go.Proofs.VL
open Go Go.RowKit
set_option linter.unusedSimpArgs false
set_option linter.unusedVariables false

theorem cOpers_get {fo : List Nat} {P : Program} {nt : Nat} {ops : List Oper} : ∀ {os : List Oper} {vs : List VOper}, cOpers fo P nt ops os = some vs → vs.length = os.length ∧ ∀ (i : Nat) o v, os[i]? = some o → vs[i]? = some v → cOper fo P nt ops o = some v
  | [], vs, h => by simp only [cOpers, Option.some.injEq] at h; subst h; exact ⟨rfl, fun i o v h => by simp at h⟩
  | o :: os, vs, h => by
    simp only [cOpers] at h
    split at h <;> simp only [reduceCtorEq, Option.some.injEq] at h
    rename_i v vs' h1 h2
    subst h
    obtain ⟨q1, q2⟩ := cOpers_get h2
    refine ⟨by simp [q1], fun i o' v' ho hv => ?_⟩
    cases i with
    | zero => simp at ho hv; subst ho; subst hv; exact h1
    | succ i => exact q2 i o' v' (by simpa using ho) (by simpa using hv)

theorem ready_iff {ops : Array Oper} {listed : Array Bool} {i : Nat} : i ∈ Region.ready .any ops listed ↔ i < ops.size ∧ listed.getD i true = false ∧ ∃ o, ops.toList[i]? = some o ∧ ∀ e ∈ Oper.dirs o, listed.getD e false = true := by
  unfold Region.ready
  simp only [List.mem_filter, List.mem_range, Bool.and_eq_true, Bool.not_eq_true', Array.getElem?_toList]
  constructor
  · rintro ⟨h1, h2, h3⟩
    refine ⟨h1, h2, ?_⟩
    rw [Array.getElem?_eq_getElem h1] at h3 ⊢
    refine ⟨_, rfl, ?_⟩
    intro e he
    simp only [Oper.dirs, List.mem_map, List.mem_filter, Array.mem_toList_iff] at he
    obtain ⟨d, ⟨hd1, hd2⟩, rfl⟩ := he
    simp only [Option.map_some, Option.getD_some, Array.all_eq_true_iff_forall_mem, Bool.or_eq_true, Bool.not_eq_true'] at h3
    rcases h3 d hd1 with h | h
    · rw [hd2] at h; cases h
    · exact h
  · rintro ⟨h1, h2, o, ho, h3⟩
    refine ⟨h1, h2, ?_⟩
    rw [ho]
    simp only [Option.map_some, Option.getD_some, Array.all_eq_true_iff_forall_mem, Bool.or_eq_true, Bool.not_eq_true']
    intro e he
    cases hb : Region.binds .any e with
    | false => exact .inl rfl
    | true =>
      right
      refine h3 _ ?_
      simp only [Oper.dirs, List.mem_map, List.mem_filter, Array.mem_toList_iff]
      exact ⟨e, ⟨he, hb⟩, rfl⟩

/-- What an operation looks at, and no more. -/
noncomputable def maskX (xs : List X) (x : X → V) (y : X) : V := by
  classical exact if y ∈ xs then x y else .junk

theorem maskX_mem {xs : List X} {x : X → V} {y : X} (h : y ∈ xs) : maskX xs x y = x y := by simp [maskX, h]

theorem ObjRep.moveI {w w' : World} {E E' : Env} {k : Nat} {o : VObj} (hx : IExt w E w' E') (hk : E.dom k) (hb : (E.lab (E.blk k) = .obj k ∨ E.lab (E.blk k) = .imm) → E.blk k < w.heap.size → w'.heap[E.blk k]? = w.heap[E.blk k]? ∧ E'.lab (E.blk k) = E.lab (E.blk k)) (h : ObjRep w E k o) : ObjRep w' E' k o := by
  cases o with
  | box cs =>
    simp only [ObjRep] at h ⊢
    obtain ⟨h1, c, e, h2, h3⟩ := h
    obtain ⟨g1, g2⟩ := hb (.inl h1) (block_lt h2)
    rw [hx.blk k hk]
    exact ⟨by rw [g2]; exact h1, c, e, by rw [g1]; exact h2, RepL.iext hx _ _ h3⟩
  | arr e sz rows =>
    simp only [ObjRep] at h ⊢
    obtain ⟨h1, h2, h3, vs, h4, h5, h6⟩ := h
    rw [hx.blk k hk, hx.cap k hk, hx.nil k hk, aval_iext hx hk]
    refine ⟨h1, h2, ?_, vs, ?_, RepFlat.iext hx.pure _ _ _ h5, h6⟩
    · intro hn
      have hlt : E.blk k < w.heap.size := by
        rcases h4.2 with ⟨h, _⟩ | ⟨g, cap, cur, h, _, ⟨te, fr, hh, _⟩, _⟩
        · simp [aval, hn] at h
        · simp [aval, hn] at h; rw [h.1]; exact block_lt hh
      rw [(hb (.inl (h3 hn)) hlt).2]; exact h3 hn
    · refine ownsV_block ?_ h4
      intro b hbv
      have hn : E.nil k = false := by
        cases hn : E.nil k with
        | false => rfl
        | true => simp [aval, hn, Value.ownBlock] at hbv
      have hbe : E.blk k = b := by simpa [aval, hn, Value.ownBlock] using hbv
      have hlt : E.blk k < w.heap.size := by
        rcases h4.2 with ⟨h, _⟩ | ⟨g, cap, cur, h, _, ⟨te, fr, hh, _⟩, _⟩
        · simp [aval, hn] at h
        · simp [aval, hn] at h; rw [h.1]; exact block_lt hh
      rw [← hbe]; exact (hb (.inl (h3 hn)) hlt).1
  | fro sz rows =>
    simp only [ObjRep] at h ⊢
    obtain ⟨h1, h2, vs, h3, h8, h4⟩ := h
    rw [hx.blk k hk, hx.cap k hk, hx.nil k hk]
    refine ⟨h1, h2, vs, RepFlat.iext hx.pure _ _ _ h3, h8, ?_⟩
    rcases h4 with h4 | ⟨h4, h5, h6, h7⟩
    · exact .inl h4
    · obtain ⟨g1, g2⟩ := hb (.inr h5) h6
      exact .inr ⟨h4, by rw [g2]; exact h5, Nat.lt_of_lt_of_le h6 hx.size, h7.of_block g1⟩
  | map es clock =>
    simp only [ObjRep] at h ⊢
    obtain ⟨h1, ms, h2, h3⟩ := h
    obtain ⟨g1, g2⟩ := hb (.inl h1) (block_lt h2)
    rw [hx.blk k hk]
    exact ⟨by rw [g2]; exact h1, ms, by rw [g1]; exact h2, MapRep.iext hx.pure h3⟩
  | miter m since seen last =>
    simp only [ObjRep] at h ⊢
    obtain ⟨h1, h2, h3⟩ := h
    obtain ⟨g1, g2⟩ := hb (.inl h1) (block_lt h3)
    rw [hx.blk k hk]
    refine ⟨by rw [g2]; exact h1, fun j hj => hx.dom j (h2 j hj), ?_⟩
    rw [g1, h3]
    cases m with
    | none => rfl
    | some j => simp only [Option.map_some, hx.blk j (h2 j rfl)]

/-! only some of the objects are seen -/
def mskO (T : List Nat) (ob : List (Option VObj)) : List (Option VObj) := ob.zipIdx.map fun p => if T.contains p.2 then p.1 else none

theorem msk_length (T : List Nat) (ob : List (Option VObj)) : (mskO T ob).length = ob.length := by simp [mskO]
theorem msk_get {T : List Nat} {ob : List (Option VObj)} {k : Nat} (h : k ∈ T) : (mskO T ob)[k]? = ob[k]? := by
  simp only [mskO, List.getElem?_map, List.getElem?_zipIdx, Nat.zero_add]
  cases ob[k]? with
  | none => rfl
  | some o => simp [h]
theorem msk_some {T : List Nat} {ob : List (Option VObj)} {k : Nat} {o : VObj} (h : (mskO T ob)[k]? = some (some o)) : k ∈ T ∧ ob[k]? = some (some o) := by
  by_cases hk : k ∈ T
  · exact ⟨hk, by rw [← msk_get hk]; exact h⟩
  · simp only [mskO, List.getElem?_map, List.getElem?_zipIdx, Nat.zero_add, Option.map_eq_some_iff] at h
    obtain ⟨p, h1, h2⟩ := h
    obtain ⟨q, h3, h4⟩ := h1
    subst h4
    simp [hk] at h2
theorem msk_set {T : List Nat} {ob : List (Option VObj)} {k : Nat} (h : k ∈ T) (o : Option VObj) : (mskO T ob).set k o = mskO T (ob.set k o) := by
  apply List.ext_getElem?
  intro i
  by_cases hi : k = i
  · subst hi
    rw [msk_get h, List.getElem?_set, List.getElem?_set, msk_length, if_pos rfl, if_pos rfl]
  · rw [List.getElem?_set_ne hi]
    simp only [mskO, List.getElem?_map, List.getElem?_zipIdx, Nat.zero_add, List.getElem?_set_ne hi]

theorem msk_rows {T : List Nat} {ob : List (Option VObj)} {k : Nat} (h : k ∈ T) : objRows (mskO T ob) k = objRows ob k := by
  unfold objRows; rw [msk_get h]

theorem msk_load {T : List Nat} {ob : List (Option VObj)} {x : V} (h : ∀ k ∈ x.names, k ∈ T) : loadFrom (mskO T ob) x = loadFrom ob x := by
  cases x <;> simp only [loadFrom]
  case ptr k off => rw [msk_get (h k (by simp [V.names]))]
  case eptr k i s off => rw [msk_rows (h k (by simp [V.names]))]

theorem mem_names {xs : List X} {ρ : X → V} {x : X} (hx : x ∈ xs) {k : Nat} (hk : k ∈ (ρ x).names) : k ∈ namesL (xs.map ρ) := by
  induction xs with
  | nil => cases hx
  | cons y ys ih =>
    simp only [List.map_cons, namesL, List.mem_append]
    rcases List.mem_cons.1 hx with rfl | h
    · exact .inl hk
    · exact .inr (ih h)

theorem evR_mask {o : VO} {ρ : X → V} {ob : List (Option VObj)} {T : List Nat} (hT : ∀ k ∈ namesL (o.xs.map ρ), k ∈ T) : o.evR ρ (mskO T ob) = o.evR ρ ob := by
  cases hR : o.isR with
  | false => rw [evR_P hR, evR_P hR]
  | true =>
    cases o <;> simp [VO.isR] at hR <;> simp only [VO.evR, msk_length]
    case load agg sz a => rw [msk_load (fun k hk => hT k (mem_names (by simp [VO.xs]) hk))]
    case b2s x =>
      have : ∀ k n, ρ x = .ref k n → objRows (mskO T ob) k = objRows ob k := fun k n he => msk_rows (hT k (mem_names (x := x) (by simp [VO.xs]) (by rw [he]; simp [V.names])))
      split <;> try rfl
      rename_i k n he
      rw [this k n he]
    case look ck kd z x i =>
      have : ∀ k, ρ x = .mapr k → (mskO T ob)[k]? = ob[k]? := fun k he => msk_get (hT k (mem_names (x := x) (by simp [VO.xs]) (by rw [he]; simp [V.names])))
      split
      · split <;> try rfl
        rename_i k he
        rw [this k he]
      · rfl
    case rng x =>
      have : ∀ k, ρ x = .mapr k → (mskO T ob)[k]? = ob[k]? := fun k he => msk_get (hT k (mem_names (x := x) (by simp [VO.xs]) (by rw [he]; simp [V.names])))
      split <;> try rfl
      rename_i k he
      rw [this k he]

theorem app_mask {ob : List (Option VObj)} {T : List Nat} {x : V} {e sz : Nat} (h : ∀ k ∈ x.names, k ∈ T) : appRows (mskO T ob) e sz x = appRows ob e sz x := by
  cases x <;> simp only [appRows]
  case ref k n => rw [msk_get (h k (by simp [V.names]))]

theorem src_mask {ob : List (Option VObj)} {T : List Nat} {x : V} {sz : Nat} (h : ∀ k ∈ x.names, k ∈ T) : srcRows (mskO T ob) sz x = srcRows ob sz x := by
  cases x <;> simp only [srcRows]
  case ref k n => rw [msk_rows (h k (by simp [V.names]))]
  case refs k s off n => rw [msk_rows (h k (by simp [V.names]))]

theorem app_old {ob : List (Option VObj)} {x : V} {e sz k : Nat} {rows : List (List V)} (h : appRows ob e sz x = some (some k, rows)) : k ∈ x.names := by
  cases x <;> simp only [appRows, reduceCtorEq] at h
  case nils => simp at h
  case ref k' n =>
    split at h <;> try (cases h; done)
    split at h <;> try (cases h; done)
    simp only [Option.some.injEq, Prod.mk.injEq] at h
    simp [V.names, h.1]

theorem drop_mask {ob : List (Option VObj)} {T : List Nat} {old : Option Nat} (h : ∀ k, old = some k → k ∈ T) : dropOb (mskO T ob) old = mskO T (dropOb ob old) := by
  cases old with
  | none => rfl
  | some k => exact msk_set (h k rfl) none

theorem evW_mask {o : VO} {ρ : X → V} {ob ob' : List (Option VObj)} {r : V} {T : List Nat} (hT : ∀ k ∈ namesL (o.xs.map ρ), k ∈ T) (h : o.evW ρ ob = some (r, ob')) :
    ∃ obm, o.evW ρ (mskO T ob) = some (r, obm) ∧ obm.length = ob'.length ∧ ∀ k, (k ∈ T ∨ ob.length ≤ k) → obm[k]? = ob'[k]? := by
  cases o <;> simp only [VO.evW, reduceCtorEq] at h
  case store sz a x =>
    have ha : ∀ k ∈ (ρ a).names, k ∈ T := fun k hk => hT k (mem_names (by simp [VO.xs]) hk)
    have fin : ∀ (k : Nat) (o : Option VObj), k ∈ T → (mskO T (ob.set k o)).length = (ob.set k o).length ∧ ∀ j, (j ∈ T ∨ ob.length ≤ j) → (mskO T (ob.set k o))[j]? = (ob.set k o)[j]? := by
      intro k o hk
      refine ⟨msk_length _ _, ?_⟩
      rintro j (hj | hj)
      · exact msk_get hj
      · rw [List.getElem?_eq_none (by rw [msk_length]; simpa using hj), List.getElem?_eq_none (by simpa using hj)]
    simp only [VO.evW]
    split at h <;> try (cases h; done)
    rename_i hc
    rw [if_pos hc]
    split at h <;> try (cases h; done)
    · rename_i k off hx
      have hk : k ∈ T := ha k (by rw [hx]; simp [V.names])
      rw [msk_get hk]
      split at h <;> try (cases h; done)
      rename_i cs ho
      split at h <;> try (cases h; done)
      rename_i hfit
      simp only [Option.some.injEq, Prod.mk.injEq] at h
      obtain ⟨rfl, rfl⟩ := h
      refine ⟨_, by rw [if_pos hfit], ?_⟩
      rw [msk_set hk]
      exact fin k _ hk
    · rename_i k i s off hx
      have hk : k ∈ T := ha k (by rw [hx]; simp [V.names])
      rw [msk_get hk]
      split at h <;> try (cases h; done)
      rename_i e s2 rows ho
      split at h <;> try (cases h; done)
      rename_i hc2
      split at h <;> try (cases h; done)
      rename_i row hrow
      split at h <;> try (cases h; done)
      rename_i hfit
      simp only [Option.some.injEq, Prod.mk.injEq] at h
      obtain ⟨rfl, rfl⟩ := h
      refine ⟨_, by rw [if_pos hc2]; exact if_pos hfit, ?_⟩
      rw [msk_set hk]
      exact fin k _ hk
  case upd kd a kx x =>
    have ha : ∀ k ∈ (ρ a).names, k ∈ T := fun k hk => hT k (mem_names (by simp [VO.xs]) hk)
    have fin : ∀ (k : Nat) (o : Option VObj), k ∈ T → (mskO T (ob.set k o)).length = (ob.set k o).length ∧ ∀ j, (j ∈ T ∨ ob.length ≤ j) → (mskO T (ob.set k o))[j]? = (ob.set k o)[j]? := by
      intro k o hk
      refine ⟨msk_length _ _, ?_⟩
      rintro j (hj | hj)
      · exact msk_get hj
      · rw [List.getElem?_eq_none (by rw [msk_length]; simpa using hj), List.getElem?_eq_none (by simpa using hj)]
    simp only [VO.evW]
    split at h <;> try (cases h; done)
    rename_i hc
    rw [if_pos hc]
    split at h <;> try (cases h; done)
    rename_i k hx
    have hk : k ∈ T := ha k (by rw [hx]; simp [V.names])
    rw [msk_get hk]
    split at h <;> try (cases h; done)
    rename_i es clock ho
    split at h <;> try (cases h; done)
    all_goals
      rename_i hfd
      simp only [Option.some.injEq, Prod.mk.injEq] at h
      obtain ⟨rfl, rfl⟩ := h
      refine ⟨_, rfl, ?_⟩
      rw [msk_set hk]
      exact fin k _ hk
  case del kd a kx =>
    have ha : ∀ k ∈ (ρ a).names, k ∈ T := fun k hk => hT k (mem_names (by simp [VO.xs]) hk)
    have fin : ∀ (k : Nat) (o : Option VObj), k ∈ T → (mskO T (ob.set k o)).length = (ob.set k o).length ∧ ∀ j, (j ∈ T ∨ ob.length ≤ j) → (mskO T (ob.set k o))[j]? = (ob.set k o)[j]? := by
      intro k o hk
      refine ⟨msk_length _ _, ?_⟩
      rintro j (hj | hj)
      · exact msk_get hj
      · rw [List.getElem?_eq_none (by rw [msk_length]; simpa using hj), List.getElem?_eq_none (by simpa using hj)]
    simp only [VO.evW]
    split at h <;> try (cases h; done)
    rename_i hc
    rw [if_pos hc]
    split at h <;> try (cases h; done)
    rename_i k hx
    have hk : k ∈ T := ha k (by rw [hx]; simp [V.names])
    rw [msk_get hk]
    split at h <;> try (cases h; done)
    rename_i es clock ho
    split at h <;> try (cases h; done)
    all_goals
      rename_i hfd
      simp only [Option.some.injEq, Prod.mk.injEq] at h
      obtain ⟨rfl, rfl⟩ := h
      refine ⟨_, rfl, ?_⟩
      rw [msk_set hk]
      exact fin k _ hk
  case clr sz z a =>
    have ha : ∀ k ∈ (ρ a).names, k ∈ T := fun k hk => hT k (mem_names (by simp [VO.xs]) hk)
    have fin : ∀ (k : Nat) (o : Option VObj), k ∈ T → (mskO T (ob.set k o)).length = (ob.set k o).length ∧ ∀ j, (j ∈ T ∨ ob.length ≤ j) → (mskO T (ob.set k o))[j]? = (ob.set k o)[j]? := by
      intro k o hk
      refine ⟨msk_length _ _, ?_⟩
      rintro j (hj | hj)
      · exact msk_get hj
      · rw [List.getElem?_eq_none (by rw [msk_length]; simpa using hj), List.getElem?_eq_none (by simpa using hj)]
    simp only [VO.evW]
    split at h <;> try (cases h; done)
    · simp only [Option.some.injEq, Prod.mk.injEq] at h
      obtain ⟨rfl, rfl⟩ := h
      refine ⟨_, rfl, msk_length _ _, ?_⟩
      rintro j (hj | hj)
      · exact msk_get hj
      · rw [List.getElem?_eq_none (by rw [msk_length]; exact hj), List.getElem?_eq_none hj]
    · rename_i k n hx
      have hk : k ∈ T := ha k (by rw [hx]; simp [V.names])
      rw [msk_get hk]
      split at h <;> try (cases h; done)
      rename_i e s rows ho
      split at h <;> try (cases h; done)
      rename_i hc
      simp only [Option.some.injEq, Prod.mk.injEq] at h
      obtain ⟨rfl, rfl⟩ := h
      refine ⟨_, if_pos hc, ?_⟩
      rw [msk_set hk]
      exact fin k _ hk
    · rename_i k s1 off n hx
      have hk : k ∈ T := ha k (by rw [hx]; simp [V.names])
      rw [msk_get hk]
      split at h <;> try (cases h; done)
      rename_i e s rows ho
      split at h <;> try (cases h; done)
      rename_i hc
      simp only [Option.some.injEq, Prod.mk.injEq] at h
      obtain ⟨rfl, rfl⟩ := h
      refine ⟨_, if_pos hc, ?_⟩
      rw [msk_set hk]
      exact fin k _ hk
  case app e sz b x y =>
    simp only [VO.evW]
    have hx : ∀ k ∈ (ρ x).names, k ∈ T := fun k hk => hT k (mem_names (by simp [VO.xs]) hk)
    have hy : ∀ k ∈ (ρ y).names, k ∈ T := fun k hk => hT k (mem_names (by simp [VO.xs]) hk)
    rw [app_mask hx, src_mask hy]
    split at h <;> try (cases h; done)
    rename_i old rows rows2 hA hS
    split at h <;> try (cases h; done)
    rename_i hb
    simp only [Option.some.injEq, Prod.mk.injEq] at h
    obtain ⟨rfl, rfl⟩ := h
    have ho : ∀ k, old = some k → k ∈ T := fun k he => hx k (app_old (by rw [hA, he]))
    refine ⟨_, by rw [if_pos hb, msk_length], ?_, ?_⟩
    · rw [drop_mask ho]; simp [msk_length]
    · rintro k (hk | hk)
      · rw [drop_mask ho]
        rcases Nat.lt_or_ge k ob.length with hl | hl
        · rw [List.getElem?_append_left (by rw [msk_length, dropOb_length]; exact hl), List.getElem?_append_left (by rw [dropOb_length]; exact hl), msk_get hk]
        · rw [List.getElem?_append_right (by rw [msk_length, dropOb_length]; exact hl), List.getElem?_append_right (by rw [dropOb_length]; exact hl), msk_length]
      · rw [drop_mask ho]
        rw [List.getElem?_append_right (by rw [msk_length, dropOb_length]; exact hk), List.getElem?_append_right (by rw [dropOb_length]; exact hk), msk_length]
  case apps e x y =>
    simp only [VO.evW]
    have hx : ∀ k ∈ (ρ x).names, k ∈ T := fun k hk => hT k (mem_names (by simp [VO.xs]) hk)
    rw [app_mask hx]
    split at h <;> try (cases h; done)
    rename_i old rows l hA hS
    split at h <;> try (cases h; done)
    rename_i hb
    simp only [Option.some.injEq, Prod.mk.injEq] at h
    obtain ⟨rfl, rfl⟩ := h
    have ho : ∀ k, old = some k → k ∈ T := fun k he => hx k (app_old (by rw [hA, he]))
    refine ⟨_, by rw [if_pos hb, msk_length], ?_, ?_⟩
    · rw [drop_mask ho]; simp [msk_length]
    · rintro k (hk | hk)
      · rw [drop_mask ho]
        rcases Nat.lt_or_ge k ob.length with hl | hl
        · rw [List.getElem?_append_left (by rw [msk_length, dropOb_length]; exact hl), List.getElem?_append_left (by rw [dropOb_length]; exact hl), msk_get hk]
        · rw [List.getElem?_append_right (by rw [msk_length, dropOb_length]; exact hl), List.getElem?_append_right (by rw [dropOb_length]; exact hl), msk_length]
      · rw [drop_mask ho]
        rw [List.getElem?_append_right (by rw [msk_length, dropOb_length]; exact hk), List.getElem?_append_right (by rw [dropOb_length]; exact hk), msk_length]

mutual
theorem lendV_mask {ob : List (Option VObj)} {T : List Nat} : (x : V) → (∀ k ∈ x.names, k ∈ T) → lendV (mskO T ob) x = lendV ob x
  | .ref k n, h => by simp only [lendV]; rw [msk_rows (h k (by simp [V.names]))]
  | .agg cs, h => by simp only [lendV]; rw [lendL_mask cs (fun k hk => h k (by simpa [V.names] using hk))]
  | .tup cs, h => by simp only [lendV]; rw [lendL_mask cs (fun k hk => h k (by simpa [V.names] using hk))]
  | .fn f a b, h => by simp only [lendV]; rw [lendL_mask a (fun k hk => h k (by simp [V.names, hk])), lendL_mask b (fun k hk => h k (by simp [V.names, hk]))]
  | .ptr k off, h => by simp only [lendV]; rw [msk_get (h k (by simp [V.names]))]
  | .eptr _ _ _ _, _ | .mapr _, _ | .refs _ _ _ _, _ | .junk, _ | .bool _, _ | .int _ _, _ | .str _, _ | .nils, _ | .sl _ _, _ | .iptr _, _ | .nilp, _ | .nilm, _ | .nilf, _ | .nili, _ => by simp only [lendV]
theorem lendL_mask {ob : List (Option VObj)} {T : List Nat} : (xs : List V) → (∀ k ∈ namesL xs, k ∈ T) → lendL (mskO T ob) xs = lendL ob xs
  | [], _ => rfl
  | x :: xs, h => by
    simp only [lendL]
    rw [lendV_mask x (fun k hk => h k (by simp [namesL, hk])), lendL_mask xs (fun k hk => h k (by simp [namesL, hk]))]
end

mutual
theorem name_dom {w : World} {E : Env} : (x : V) → (v : Value) → Rep w E x v → ∀ k ∈ x.names, E.dom k
  | .ref k n, v, h, j, hj => by simp only [V.names, List.mem_singleton] at hj; subst hj; simp only [Rep] at h; exact h.1
  | .ptr k n, v, h, j, hj => by simp only [V.names, List.mem_singleton] at hj; subst hj; simp only [Rep] at h; exact h.1
  | .eptr k a b c, v, h, j, hj => by simp only [V.names, List.mem_singleton] at hj; subst hj; simp only [Rep] at h; exact h.1
  | .mapr k, v, h, j, hj => by simp only [V.names, List.mem_singleton] at hj; subst hj; simp only [Rep] at h; exact h.1
  | .refs k _ _ _, v, h, j, hj => by simp only [V.names, List.mem_singleton] at hj; subst hj; simp only [Rep] at h; exact h.1
  | .agg cs, v, h, j, hj => by simp only [V.names] at hj; simp only [Rep] at h; obtain ⟨vs, rfl, h⟩ := h; exact names_dom h j hj
  | .tup cs, v, h, j, hj => by simp only [V.names] at hj; simp only [Rep] at h; obtain ⟨vs, rfl, h⟩ := h; exact names_dom h j hj
  | .fn f a b, v, h, j, hj => by
    simp only [V.names, List.mem_append] at hj; simp only [Rep] at h
    obtain ⟨p, q, rfl, h1, h2⟩ := h
    rcases hj with hj | hj
    · exact names_dom h1 j hj
    · exact names_dom h2 j hj
  | .bool _, _, _, j, hj | .int _ _, _, _, j, hj | .str _, _, _, j, hj | .nils, _, _, j, hj | .sl _ _, _, _, j, hj | .iptr _, _, _, j, hj | .nilp, _, _, j, hj | .nilm, _, _, j, hj | .nilf, _, _, j, hj | .nili, _, _, j, hj | .junk, _, _, j, hj => by simp [V.names] at hj
theorem names_dom {w : World} {E : Env} : {xs : List V} → {vs : List Value} → RepL w E xs vs → ∀ k ∈ namesL xs, E.dom k
  | [], vs, h, j, hj => by simp [namesL] at hj
  | x :: xs, vs, h, j, hj => by
    simp only [RepL] at h
    obtain ⟨v, vs', rfl, h1, h2⟩ := h
    simp only [namesL, List.mem_append] at hj
    rcases hj with hj | hj
    · exact name_dom x v h1 j hj
    · exact names_dom h2 j hj
end

/-! what is not looked at stays -/
open Classical in
noncomputable def Env.hide (E : Env) (F : Nat → Prop) : Env := { E with lab := fun b => match E.lab b with | .obj k => if F k then .obj k else .ext | l => l }

theorem hide_imm {E : Env} {F : Nat → Prop} {b : Nat} : (E.hide F).lab b = .imm ↔ E.lab b = .imm := by
  simp only [Env.hide]
  cases E.lab b <;> simp
  split <;> simp

theorem hide_ext (w : World) (E : Env) (F : Nat → Prop) : Ext w E w (E.hide F) := by
  refine ⟨rfl, rfl, rfl, Nat.le_refl _, fun b _ h => ⟨hide_imm.2 h, rfl⟩, fun b _ h => ⟨by simp [Env.hide, h], rfl⟩, fun _ h => h, fun _ _ => rfl, fun _ _ => rfl, fun _ _ => rfl⟩

theorem hide_obj {w : World} {E : Env} {F : Nat → Prop} {k : Nat} {o : VObj} (hd : E.dom k) (hk : F k) (h : ObjRep w E k o) : ObjRep w (E.hide F) k o := by
  refine h.move (hide_ext w E F) hd ?_
  rintro hl _
  refine ⟨rfl, ?_⟩
  rcases hl with hl | hl <;> simp [Env.hide, hl, hk]

open Classical in
theorem surg {w w' : World} {E E1 : Env} {ob ob' obm : List (Option VObj)} {r : V} {val : Value} {F : Nat → Prop} (h : WResG (E.hide F) w ob r obm val w' E1) (hlen : obm.length = ob'.length) (hnew : ∀ k, ob.length ≤ k → ¬ F k)
    (hobm : ∀ k, (F k ∨ ob.length ≤ k) → obm[k]? = ob'[k]?) :
    ∃ E', Ext w E w' E' ∧ (∀ k, E'.dom k ↔ E.dom k ∨ (ob.length ≤ k ∧ k < ob'.length)) ∧ Rep w' E' r val ∧ (∀ k o, E'.dom k → (F k ∨ ob.length ≤ k) → ob'[k]? = some (some o) → ObjRep w' E' k o) ∧
      (∀ k o, E.dom k → ¬ F k → ObjRep w E k o → ObjRep w' E' k o) ∧ (∀ b, w'.heap.size ≤ b → E'.lab b = .imm) := by
  let C : Nat → Prop := fun b => b < w.heap.size ∧ ∃ k, E.lab b = .obj k ∧ ¬ F k
  let E' : Env := { E1 with lab := fun b => if C b then E.lab b else E1.lab b }
  have hC : ∀ b, C b → E1.lab b = .ext ∧ w'.heap[b]? = w.heap[b]? := by
    rintro b ⟨hb, k, hk, hf⟩
    exact h.ext.ext b hb (by simp [Env.hide, hk, hf])
  have hlabN : ∀ b, ¬ C b → E'.lab b = E1.lab b := fun b hb => if_neg hb
  have hlabC : ∀ b, C b → E'.lab b = E.lab b := fun b hb => if_pos hb
  have hx : Ext w E w' E' := by
    refine ⟨h.ext.os, h.ext.tape, h.ext.output, h.ext.size, ?_, ?_, h.ext.dom, h.ext.blk, h.ext.cap, h.ext.nil⟩
    · intro b hb hl
      have hn : ¬ C b := by rintro ⟨_, k, hk, _⟩; rw [hl] at hk; cases hk
      rw [hlabN b hn]
      exact h.ext.imm b hb (hide_imm.2 hl)
    · intro b hb hl
      have hn : ¬ C b := by rintro ⟨_, k, hk, _⟩; rw [hl] at hk; cases hk
      rw [hlabN b hn]
      exact h.ext.ext b hb (by simp [Env.hide, hl])
  have hix : IExt w' E1 w' E' := by
    refine ⟨Nat.le_refl _, ?_, fun _ h => h, fun _ _ => rfl, fun _ _ => rfl, fun _ _ => rfl⟩
    intro b hb hl
    have hn : ¬ C b := by intro hc; rw [(hC b hc).1] at hl; cases hl
    rw [hlabN b hn]
    exact ⟨hl, rfl⟩
  refine ⟨E', hx, ?_, Rep.iext hix _ _ h.rep, ?_, ?_, ?_⟩
  · intro k
    have := h.dom k
    rw [hlen] at this
    exact this
  · intro k o hk hkF ho
    rw [← hobm k hkF] at ho
    refine (h.objs k o hk ho).moveI hix hk ?_
    intro hl _
    have hn : ¬ C (E1.blk k) := by intro hc; rw [(hC _ hc).1] at hl; rcases hl with hl | hl <;> cases hl
    exact ⟨rfl, hlabN _ hn⟩
  · intro k o hk hkF ho
    refine ho.move hx hk ?_
    intro hl hlt
    rcases hl with hl | hl
    · have hc : C (E.blk k) := ⟨hlt, k, hl, hkF⟩
      exact ⟨(hC _ hc).2, hlabC _ hc⟩
    · obtain ⟨q1, q2⟩ := h.ext.imm (E.blk k) hlt (hide_imm.2 hl)
      have hn : ¬ C (E.blk k) := by rintro ⟨_, k', hk', _⟩; rw [hl] at hk'; cases hk'
      exact ⟨q2, by rw [hlabN _ hn, q1, hl]⟩
  · intro b hb
    have hn : ¬ C b := by rintro ⟨hlt, _⟩; have := h.ext.size; omega
    rw [hlabN b hn]
    exact h.fresh b hb

section
variable {fl : Bool} {P : Program} {ops : Array Oper} {vs : List VOper} {wc : List Bool} {pre : List (List Nat)} {ips : List (Nat × Nat)} {nt : Nat} {w0 : World} {E0 : Env} {S : Nat → St}

theorem St.x_of (s : St) {w : World} {E : Env} {a : Act} {o : Operand} {x : X} (hx : cX o = some x) (h : ∀ t, x = .t t → Rep w E (s.get t) (a.tmps.getD t undef)) : Rep w E (s.x x) (a.eval o) := by
  cases o with
  | tmp t => simp only [cX, Option.some.injEq] at hx; subst hx; exact h t rfl
  | const v => simp only [cX, Option.some.injEq] at hx; subst hx; exact rep_const w E v
  | func f => simp only [cX, Option.some.injEq] at hx; subst hx; exact ⟨[], [], rfl, rfl, rfl⟩
  | global g => simp [cX] at hx

theorem call_shape {ow : Bool} {o : Oper} {f : X} {as : List X} (hc : cop ow P o = some (.call f as)) : ∃ dst fo args ats ty pos after guard, o = ⟨dst, .call ⟨.value fo, args, ats⟩, ty, pos, after, guard⟩ ∧ cX fo = some f ∧ cXs args.toList = some as := by
  obtain ⟨dst, op, ty, pos, after, guard⟩ := o
  unfold cop at hc
  cases op <;> simp only [reduceCtorEq] at hc
  case call c =>
    obtain ⟨callee, args, ats⟩ := c
    simp only at hc
    split at hc
    · rename_i fo xs hxs
      obtain ⟨F, hF, he⟩ := opt_bind hc
      simp only [VO.call.injEq] at he
      obtain ⟨rfl, rfl⟩ := he
      exact ⟨_, _, _, _, _, _, _, _, rfl, hF, hxs⟩
    all_goals
      exfalso
      revert hc
      repeat' split
      all_goals (intro hc; first | contradiction | (simp at hc; done) | (obtain ⟨_, _, hc⟩ := opt_bind hc; simp at hc; done) | (cases hc; done))
  case makeFunc f' first' caps' =>
    cases f' <;> try (cases hc; done)
    simp only at hc
    split at hc <;> simp at hc
  all_goals
    exfalso
    revert hc
    (try simp only [copBin, copConv])
    repeat' split
    all_goals (intro hc; simp at hc)

theorem dstep {fo : List Nat} (hd : DOk ops.toList vs wc pre ips) (hcf : Conf fl vs wc pre S) (hcs : cOpers fo P nt ops.toList ops.toList = some vs) (hst : ∀ i v, vs[i]? = some v → Step1 P fl (wc.getD i false) v (S i) (S (i + 1))) {L : Nat → Prop} {a : Act} {w : World} {E : Env} (h : DInv ops vs wc pre nt w0 E0 S L a w E)
    {Q : Exit → Act → World → Prop} {K : Act → World → Prop} {i : Nat} {o : Oper} (ho : ops[i]? = some o) (hi : ¬ L i) (hpre : ∀ j ∈ pre.getD i [], L j)
    (hK : ∀ a w E, DInv ops vs wc pre nt w0 E0 S (fun q => L q ∨ q = i) a w E → K a w) :
    if Region.wanted o (yielded ops a.tmps) then o.wp P a w K Q else K (a.put o.dst undef) w := by
  obtain ⟨hl, hget⟩ := cOpers_get hcs
  have ho' : ops.toList[i]? = some o := by simpa using ho
  have hil : i < vs.length := by rw [hl]; exact getElem?_lt ho'
  have hv : vs[i]? = some vs[i] := List.getElem?_eq_getElem hil
  generalize hvi : vs[i] = v at hv
  have hc := hget i o v ho' hv
  obtain ⟨h1, h2, h3, h4⟩ := cOper_some hc
  have hnt : ∀ t, v.dst = some t → t < nt := fun t ht => h3 t (by rw [← h2]; exact ht)
  have hread : ∀ t, t ∈ v.reads → Rep w E ((S i).get t) (a.tmps.getD t undef) := fun t ht => h.operand hd hst hv hi hpre ht
  have hst' := hst i v hv
  have hput : ∀ t, v.dst = some t → ∀ s : St, ∀ x, (s.putO v.dst x).get t = x := by intro t ht s x; rw [putO_get, if_pos ht]
  -- the guard
  have hguard : (v.guard = none ∨ ∃ t want, v.guard = some (t, want) ∧ (S i).get t = .bool want) → Region.wanted o (yielded ops a.tmps) = true := by
    intro hg
    rcases h4 with ⟨q1, q2⟩ | ⟨j, want, t, q1, q2, q3⟩
    · simp [Region.wanted, q1]
    · rcases hg with hg | ⟨t', want', hg, hb⟩
      · rw [q3] at hg; cases hg
      · rw [q3] at hg
        simp only [Option.some.injEq, Prod.mk.injEq] at hg
        obtain ⟨rfl, rfl⟩ := hg
        have hrd := hread t (by simp [VOper.reads, q3])
        rw [hb] at hrd
        simp only [Rep] at hrd
        have hy := yielded_bool (ops := ops) (a := a) (j := j) (t := t) (by simpa using q2) hrd
        simp [Region.wanted, q1, hy]
  have hmask : ∀ op X, cX op = some X → Rep w E (maskX v.op.xs (S i).x X) (a.eval op) := by
    intro op X hX
    by_cases hm : X ∈ v.op.xs
    · rw [maskX_mem hm]
      refine St.x_of _ hX ?_
      rintro t rfl
      exact hread t (by simp only [VOper.reads, List.mem_append, List.mem_filterMap]; exact .inl ⟨_, hm, rfl⟩)
    · have : maskX v.op.xs (S i).x X = .junk := by simp [maskX, hm]
      rw [this]; trivial
  have hagree : ∀ X ∈ v.op.xs, (S i).x X = maskX v.op.xs (S i).x X := fun X hX => (maskX_mem hX).symm
  -- the names that it looks at
  obtain ⟨T, hTd⟩ : ∃ T : List Nat, T = namesL (v.op.tx.map (S i).x) := ⟨_, rfl⟩
  have hTx : v.op.isP = false → ∀ k ∈ namesL (v.op.xs.map (S i).x), k ∈ T := by
    intro hp k hk
    rw [hTd]; unfold VO.tx; rw [hp]; exact hk
  have hT : v.op.isP = false → ∀ k j, j < vs.length → j ≠ i → (k ∈ T ∨ isWC fl (wc.getD i false) v = true) → chg S j k → j ∈ pre.getD i [] ∨ i ∈ pre.getD j [] := by
    intro hp k j hj hji hk hch
    have hu : vs[j]? = some vs[j] := List.getElem?_eq_getElem hj
    rcases hk with hk | hk
    · rcases hcf.open' j i _ v k hu hv hji hch hp with q | ⟨_, _, q, _⟩
      · exact q.symm
      · rw [← hTd] at q; exact absurd hk q
    · have hWj : vs[j].op.isP = false := by
        refine isW_notP (wc := wc.getD j false) ?_
        cases hw : vs[j].op.isW (wc.getD j false) with
        | true => rfl
        | false => exact absurd ((hst j _ hu).ob hw hch.1) hch.2
      exact hcf.call i j v _ hv hu hk hWj (fun e => hji e.symm)
  have hobjs : v.op.isP = false → ∀ k q, (k ∈ T ∨ isWC fl (wc.getD i false) v = true) → E.dom k → (S i).ob[k]? = some (some q) → ObjRep w E k q := by
    intro hp k q hkT hk hq
    exact h.objs i (Nat.le_of_lt hil) k q (cond_at hd h.closed hv hi hpre (fun j hj hji hch => hT hp k j hj hji hkT hch)) hk (getElem?_lt hq) hq
  have hobm : v.op.isP = false → ∀ k q, E.dom k → (mskO T (S i).ob)[k]? = some (some q) → ObjRep w E k q := by
    intro hp k q hk hq
    obtain ⟨q1, q2⟩ := msk_some hq
    exact hobjs hp k q (.inl q1) hk q2
  have hppS : v.op.isP = true → (S (i + 1)).ob = (S i).ob := fun hp => (hst i v hv).obP hp
  have hlS := lens hst (i := i) (j := i + 1) (by omega) hil
  have hnewD : ∀ k, (S i).ob.length ≤ k → k < (S (i + 1)).ob.length → ¬ E.dom k := by
    intro k hk1 hk2 hdk
    rw [h.dom] at hdk
    rcases hdk with hk | ⟨j, hL, hj1, hj2⟩
    · have := lens hst (Nat.zero_le i) (Nat.le_of_lt hil); omega
    · have hjl := (h.closed j hL).1
      have hji : j ≠ i := fun e => hi (e ▸ hL)
      rcases Nat.lt_or_ge j i with q | q
      · have := lens hst (i := j + 1) (j := i) q (Nat.le_of_lt hil); omega
      · have := lens hst (i := i + 1) (j := j) (by omega) (Nat.le_of_lt hjl); omega
  -- a step that only looks
  have quiet : ∀ {w' E' val} (news : List VObj), (S (i + 1)).ob = (S i).ob ++ news.map some → RExt w E w' E' → (∀ k, E'.dom k ↔ E.dom k ∨ ((S i).ob.length ≤ k ∧ k < (S i).ob.length + news.length)) → (∀ t, v.dst = some t → Rep w' E' ((S (i + 1)).get t) val) →
      (∀ j o, news[j]? = some o → ObjRep w' E' ((S i).ob.length + j) o) → (∀ b, w'.heap.size ≤ b → E'.lab b = .imm) → K (a.put v.dst val) w' := by
    intro w' E' val news hob hx hdom hr hn hf
    refine hK _ _ _ (h.step hd hcf hst hv hi hpre hnt (fun _ => False) (fun _ _ _ _ hk _ => hk.elim) ?_ hppS hx.ext ?_ hr ?_ ?_ hf)
    · rintro k ⟨hk, hne⟩
      rw [hob, List.getElem?_append_left hk] at hne
      exact hne rfl
    · intro k; rw [hdom, hob]; simp
    · intro k o hk hkn hkl hko
      have hge := hkn.resolve_left (fun h => h)
      rw [hob, List.getElem?_append_right hge] at hko
      simp only [List.getElem?_map, Option.map_eq_some_iff] at hko
      obtain ⟨o', ho, he⟩ := hko
      injection he with he
      subst he
      have := hn _ _ ho
      rwa [show (S i).ob.length + (k - (S i).ob.length) = k by omega] at this
    · intro k o hk _ ho
      exact ho.rext hx hk
  rw [← h2]
  generalize hS : S (i + 1) = s' at hst'
  cases hst' with
  | skip t want g1 g2 =>
    have hnw : Region.wanted o (yielded ops a.tmps) = false := by
      rcases h4 with ⟨q1, q2⟩ | ⟨j, want', t', q1, q2, q3⟩
      · rw [q2] at g1; cases g1
      · rw [q3] at g1
        simp only [Option.some.injEq, Prod.mk.injEq] at g1
        obtain ⟨rfl, rfl⟩ := g1
        have hrd := hread t' (by simp [VOper.reads, q3])
        have hy := yielded_ne (ops := ops) (a := a) (j := j) (t := t') (by simpa using q2) (g2 _ _ _ hrd)
        simp only [Region.wanted, q1, hy]
    rw [if_neg (by rw [hnw]; simp)]
    have hob : (S (i + 1)).ob = (S i).ob := by rw [hS, putO_ob]
    have hrj : ∀ t, v.dst = some t → Rep w E ((S (i + 1)).get t) undef := by
      intro t ht; rw [hS, hput t ht]; exact rep_undef _ _
    exact quiet [] (by simp [hob]) (RExt.refl w E) (fun k => by simp; omega) hrj (fun j o h => by simp at h) h.fresh
  | read r news g hw he hnc =>
    rw [if_pos (hguard g)]
    have hob : (S (i + 1)).ob = (S i).ob ++ news.map some := by rw [hS, putO_ob]
    have hlenS : (S (i + 1)).ob.length = (S i).ob.length + news.length := by rw [hob]; simp
    have hres : ∃ val w' E', (execOp a.eval o).run P w = .ok (.value val) w' ∧ RRes P E w (S i).ob r news val w' E' := by
      cases hp : v.op.isP with
      | true =>
        rw [evR_congr hagree] at he
        have hR : v.op.isR = false := by
          cases hv : v.op <;> rw [hv] at hp <;> simp [VO.isP, VO.isR] at hp ⊢
        rw [evR_P hR] at he
        obtain ⟨q, hq, he⟩ := opt_bind he
        simp only [Prod.mk.injEq] at he
        obtain ⟨rfl, rfl⟩ := he
        have he' : v.op.evR (maskX v.op.xs (S i).x) [] = some (q, []) := by rw [evR_P hR, hq]; rfl
        obtain ⟨val, w', E', q1, q2⟩ := r_sound h1 hmask he' (fun k o _ h => by simp at h) h.fresh (fun h => absurd rfl h)
        refine ⟨val, w', E', q1, q2.ext, fun k => ?_, q2.rep, fun j o h => by simp at h, q2.fresh⟩
        rw [q2.dom]; simp; omega
      | false =>
        have he' : v.op.evR (maskX v.op.xs (S i).x) (mskO T (S i).ob) = some (r, news) := by
          rw [← evR_congr hagree, evR_mask (hTx hp)]; exact he
        obtain ⟨val, w', E', q1, q2⟩ := r_sound h1 hmask he' (hobm hp) h.fresh (fun hne => by
          rw [msk_length]
          refine hnewD _ (Nat.le_refl _) ?_
          have hnl : 0 < news.length := by cases news with | nil => exact absurd rfl hne | cons => simp
          omega)
        refine ⟨val, w', E', q1, q2.ext, fun k => ?_, q2.rep, fun j o hj => ?_, q2.fresh⟩
        · rw [q2.dom, msk_length]
        · have := q2.objs j o hj
          rwa [msk_length] at this
    obtain ⟨val, w', E', q1, q2⟩ := hres
    unfold Oper.wp
    rw [q1]
    show K (a.put o.dst val) w'
    rw [← h2]
    exact quiet news hob q2.ext q2.dom (fun t ht => by rw [hS, hput t ht]; exact q2.rep) q2.objs q2.fresh
  | write r ob' g hw he hle =>
    rw [if_pos (hguard g)]
    have hob : (S (i + 1)).ob = ob' := by rw [hS, putO_ob]
    have hp := isW_notP hw
    have hnc : v.op.isC = false := by cases hop : v.op <;> first | rfl | (rw [hop] at he; simp [VO.evW] at he)
    have hwc0 : isWC fl (wc.getD i false) v = false := by simp [isWC, hnc]
    obtain ⟨obm, he', hlm, hgm⟩ := evW_mask (hTx hp) he
    rw [evW_congr hagree] at he'
    have hix : IExt w E w (E.hide fun k => k ∈ T ∧ k < (S i).ob.length) := (hide_ext w E _).i
    obtain ⟨nx, val, w', E1, q1, q2, q3⟩ := w_soundG (E := E.hide fun k => k ∈ T ∧ k < (S i).ob.length) h1 (fun op X hX => Rep.iext hix _ _ (hmask op X hX)) he' (by
        rw [msk_length, hlm]
        intro hlt hdk
        exact hnewD _ (Nat.le_refl _) (by rw [hob]; exact hlt) hdk)
      (fun k q hk hq => by
        obtain ⟨m1, m2⟩ := msk_some hq
        exact hide_obj hk ⟨m1, getElem?_lt m2⟩ (hobjs hp k q (.inl m1) hk m2)) (fun b hb => hide_imm.2 (h.fresh b hb))
    have hsurg : ∀ (obm' : List (Option VObj)), (mskO T (S i).ob).length = (S i).ob.length → True := fun _ _ => trivial
    obtain ⟨E', s1, s2, s3, s4, s5, s6⟩ := surg (F := fun k => k ∈ T ∧ k < (S i).ob.length) (ob' := ob') q3 hlm (fun k hk hF => by rw [msk_length] at hk; omega) (fun k hk => hgm k (by rw [msk_length] at hk; exact hk.imp (fun q => q.1) id))
    rw [msk_length] at s2 s4
    have hfin := hK _ _ _ (h.step hd hcf hst hv hi hpre hnt (fun k => k ∈ T) (fun k j hj hji hk hch => hT hp k j hj hji (.inl hk) hch) (fun k hch => by
        have := ((hst i v hv).wnames hwc0 hch.1 hch.2).2
        rw [hTd]; exact names_sub (wx_tx hp) this) hppS s1 (fun k => by rw [s2, hob]) (fun t ht => by rw [hS, hput t ht]; exact s3)
      (fun k o hk hkn hkl hko => by
        rw [hob] at hkl hko
        refine s4 k o hk ?_ hko
        rcases Nat.lt_or_ge k (S i).ob.length with q | q
        · exact .inl ⟨hkn.resolve_right (by omega), q⟩
        · exact .inr q) s5 s6)
    unfold Oper.wp
    rw [q1]
    rcases q2 with rfl | ⟨rfl, rfl⟩
    · show K (a.put o.dst val) w'
      rw [← h2]; exact hfin
    · show K (a.put o.dst undef) w'
      rw [← h2]; exact hfin
  | callR f as g first caps r gg hop hf hcall =>
    rw [if_pos (hguard gg)]
    have hob : (S (i + 1)).ob = (S i).ob ++ ([] : List VObj).map some := by rw [hS, putO_ob]; simp
    rw [hop] at h1
    obtain ⟨dst, fo, args, ats, ty, pos, after, guard, rfl, hF, hxs⟩ := call_shape h1
    have hp : v.op.isP = false := by rw [hop]; rfl
    have hfr := hmask fo f hF
    have hmem : ∀ X, X = f ∨ X ∈ as → X ∈ v.op.xs := by intro X hX; rw [hop]; simpa [VO.xs] using hX
    rw [maskX_mem (hmem f (.inl rfl)), hf] at hfr
    simp only [Rep] at hfr
    obtain ⟨p, q, hpq, hp', hq'⟩ := hfr
    have hargs := RepL.cXs (P := P) hmask hxs
    have hmm : as.map (maskX v.op.xs (S i).x) = as.map (S i).x := List.map_congr_left fun X hX => maskX_mem (hmem X (.inr hX))
    rw [hmm] at hargs
    have hall := (hp'.append hargs).append hq'
    unfold Oper.wp
    have hcall' : CallR P (mskO T (S i).ob) g (first ++ as.map (S i).x ++ caps) r := by
      obtain ⟨as', hl, hE⟩ := hcall
      refine ⟨as', ?_, hE⟩
      rcases hl with hl | hl
      · exact .inl hl
      · refine .inr ⟨?_, hl.2⟩
        rw [lendL_mask]
        · exact hl.1
        · intro k hk
          refine hTx hp k ?_
          rw [hop]
          simp only [VO.xs, List.map_cons, namesL, hf, V.names]
          rw [namesL_app, namesL_app] at hk
          simp only [List.mem_append] at hk ⊢
          rcases hk with (hk | hk) | hk
          · exact .inl (.inl hk)
          · exact .inr hk
          · exact .inl (.inr hk)
    rw [exec_call hpq (by obtain ⟨_, _, hE, _⟩ := hcall; exact hE)]
    refine (callR_sound hcall' hall (hobm hp) h.fresh).mono ?_
    rintro e w' ⟨val, E', rfl, q2⟩
    show K (a.put dst val) w'
    have hdd : v.dst = dst := h2
    rw [← hdd]
    exact quiet [] hob q2.ext (fun k => by rw [q2.dom, msk_length]) (fun t ht => by rw [hS, hput t ht]; exact q2.rep) (fun j o h => by simp at h) q2.fresh
  | callW f as g first caps r ob' gg hwc hop hf hcall hle =>
    rw [if_pos (hguard gg)]
    have hob : (S (i + 1)).ob = ob' := by rw [hS, putO_ob]
    rw [hop] at h1
    obtain ⟨dst, fo, args, ats, ty, pos, after, guard, rfl, hF, hxs⟩ := call_shape h1
    have hp : v.op.isP = false := by rw [hop]; rfl
    have hww : isWC fl (wc.getD i false) v = true := by unfold isWC; rw [hop, hwc.1, hwc.2]; rfl
    have hdk := fun k => dom_at hd hcf hst h hv hww hi hpre k
    have hfr := hmask fo f hF
    have hmem : ∀ X, X = f ∨ X ∈ as → X ∈ v.op.xs := by intro X hX; rw [hop]; simpa [VO.xs] using hX
    rw [maskX_mem (hmem f (.inl rfl)), hf] at hfr
    simp only [Rep] at hfr
    obtain ⟨p, q, hpq, hp', hq'⟩ := hfr
    have hargs := RepL.cXs (P := P) hmask hxs
    have hmm : as.map (maskX v.op.xs (S i).x) = as.map (S i).x := List.map_congr_left fun X hX => maskX_mem (hmem X (.inr hX))
    rw [hmm] at hargs
    have hall := (hp'.append hargs).append hq'
    unfold Oper.wp
    rw [exec_call hpq hcall.1]
    refine (hcall.2 w E _ hdk (fun k q hq => hobjs hp k q (.inr hww) ((hdk k).2 (getElem?_lt hq)) hq) h.fresh hall).mono ?_
    rintro e w' ⟨val, E', rfl, q3⟩
    show K (a.put dst val) w'
    have hdd : v.dst = dst := h2
    rw [← hdd]
    refine hK _ _ _ (h.step hd hcf hst hv hi hpre hnt (fun _ => True) (fun k j hj hji _ hch => hT hp k j hj hji (.inr hww) hch) (fun _ _ => trivial) hppS q3.ext ?_ (fun t ht => by rw [hS, hput t ht]; exact q3.rep)
      (fun k o _ _ _ hko => q3.objs k o (by rw [← hob]; exact hko)) (fun k o hk hn _ => absurd ⟨trivial, (hdk k).1 hk⟩ hn) q3.fresh)
    intro k
    rw [q3.dom, hdk, hob]
    have : (S i).ob.length ≤ ob'.length := hle
    omega
  | callF f as g first caps r ob' ms args0 obs obs' r0 gg hwc hop hf hcall =>
    rw [if_pos (hguard gg)]
    have hob : (S (i + 1)).ob = ob' := by rw [hS, putO_ob]
    rw [hop] at h1
    obtain ⟨dst, fo, args, ats, ty, pos, after, guard, rfl, hF, hxs⟩ := call_shape h1
    have hp : v.op.isP = false := by rw [hop]; rfl
    have hfr := hmask fo f hF
    have hmem : ∀ X, X = f ∨ X ∈ as → X ∈ v.op.xs := by intro X hX; rw [hop]; simpa [VO.xs] using hX
    rw [maskX_mem (hmem f (.inl rfl)), hf] at hfr
    simp only [Rep] at hfr
    obtain ⟨p, q, hpq, hp', hq'⟩ := hfr
    have hargs := RepL.cXs (P := P) hmask hxs
    have hmm : as.map (maskX v.op.xs (S i).x) = as.map (S i).x := List.map_congr_left fun X hX => maskX_mem (hmem X (.inr hX))
    rw [hmm] at hargs
    have hall := (hp'.append hargs).append hq'
    have hTn : ∀ k ∈ namesL (first ++ as.map (S i).x ++ caps), k ∈ T := by
      intro k hk
      refine hTx hp k ?_
      rw [hop]
      simp only [VO.xs, List.map_cons, namesL, hf, V.names]
      rw [namesL_app, namesL_app] at hk
      simp only [List.mem_append] at hk ⊢
      rcases hk with (hk | hk) | hk
      · exact .inl (.inl hk)
      · exact .inr hk
      · exact .inl (.inr hk)
    have hdom1 : ∀ k ∈ namesL (first ++ as.map (S i).x ++ caps), E.dom k := names_dom hall
    have hmT : ∀ (a j : Nat), ms[a]? = some j → j ∈ T := fun a j h => hTn j (hcall.at_ a j h).2.1
    have hlenN : ob'.length = (S i).ob.length + (obs'.length - obs.length) := by
      have h1 := hcall.len
      have h2 := hcall.le
      rw [hcall.obj, putObs_length _ _ _ _ (by omega)]; omega
    rw [hcall.args] at hall
    unfold Oper.wp
    rw [exec_call hpq hcall.call.1]
    refine (hcall.call.frameG ms (S i).ob.length hcall.len hcall.nodup (fun j hj => by obtain ⟨a, ha⟩ := List.getElem?_of_mem hj; exact (hcall.at_ a j ha).1) hcall.wfa hcall.wfo hcall.wfr hcall.wfo' hcall.le
      (fun j hj => by obtain ⟨a, ha⟩ := List.getElem?_of_mem hj; exact hdom1 j (hcall.at_ a j ha).2.1)
      (fun k hk1 hk2 => hnewD k hk1 (by rw [hob, hlenN]; exact hk2))
      (fun a j o ha ho => hobjs hp j _ (.inl (hmT a j ha)) (hdom1 j (hcall.at_ a j ha).2.1) ((hcall.at_ a j ha).2.2 o ho)) h.fresh hall).mono ?_
    rintro e w' ⟨val, E', rfl, s1, s2, s3, s4, s5, s6⟩
    show K (a.put dst val) w'
    have hdd : v.dst = dst := h2
    rw [← hdd]
    have hml : ms.length ≤ obs'.length := by have := hcall.len; have := hcall.le; omega
    have hmsL : ∀ j ∈ ms, j < (S i).ob.length := fun j hj => by obtain ⟨a, ha⟩ := List.getElem?_of_mem hj; exact (hcall.at_ a j ha).1
    refine hK _ _ _ (h.step hd hcf hst hv hi hpre hnt (fun k => k ∈ ms) (fun k j hj hji hk hch => ?_) (fun k hch => ?_) hppS s1 (fun k => by rw [s2, hob, hlenN]) (fun t ht => by rw [hS, hput t ht, hcall.res]; exact s3) ?_ ?_ s6)
    · obtain ⟨b, hb⟩ := List.getElem?_of_mem hk
      exact hT hp k j hj hji (.inl (hmT b k hb)) hch
    · refine Classical.byContradiction fun hn => hch.2 ?_
      rw [hob]; exact hcall.same hch.1 hn
    · intro k o hk hkn hkl hko
      rw [hob, hcall.obj] at hko
      obtain ⟨p1, p2, p3⟩ := putObs_get (nameOf ms (S i).ob.length) ms obs' (S i).ob hml hcall.nodup hmsL k
      have back : ∀ {a : Nat}, (obs'[a]?).map (Option.map (renO (nameOf ms (S i).ob.length))) = some (some o) → ∃ o', obs'[a]? = some (some o') ∧ renO (nameOf ms (S i).ob.length) o' = o := by
        intro a h
        cases ha : obs'[a]? with
        | none => rw [ha] at h; cases h
        | some q =>
          rw [ha] at h
          cases q with
          | none => simp at h
          | some q => exact ⟨q, rfl, by simpa using h⟩
      by_cases hkm : k ∈ ms
      · obtain ⟨b, hb⟩ := List.getElem?_of_mem hkm
        rw [p2 b hb] at hko
        obtain ⟨o', ho, rfl⟩ := back hko
        have := s4 b o' ho
        rwa [nameOf_lt hb] at this
      · have hge := hkn.resolve_left hkm
        rw [p3 hge] at hko
        obtain ⟨o', ho, rfl⟩ := back hko
        have := s4 _ o' ho
        have he : nameOf ms (S i).ob.length (ms.length + (k - (S i).ob.length)) = k := by
          unfold nameOf
          rw [if_neg (by omega)]; omega
        rwa [he] at this
    · intro k o hk hn ho
      refine s5 k o hk ?_ ho
      intro hkm
      exact hn ⟨hkm, hmsL k hkm⟩
end
end Go.Proofs.VL

namespace Go.Proofs.VL
open Go Go.RowKit
set_option linter.unusedSimpArgs false
set_option linter.unusedVariables false
section
variable {fl : Bool} {P : Program} {ops : Array Oper} {vs : List VOper} {wc : List Bool} {pre : List (List Nat)} {ips : List (Nat × Nat)} {nt : Nat} {w0 : World} {E0 : Env} {S : Nat → St}

theorem DInv.finish (hd : DOk ops.toList vs wc pre ips) (hst : ∀ i v, vs[i]? = some v → Step1 P fl (wc.getD i false) v (S i) (S (i + 1))) {L : Nat → Prop} {a : Act} {w : World} {E : Env} (h : DInv ops vs wc pre nt w0 E0 S L a w E) (hall : ∀ i, i < vs.length → L i) :
    Rel w0 E0 nt (S vs.length) a w E where
  defers := h.defers
  size := h.size
  tmps := by
    intro t
    by_cases hw : ∃ (j : Nat) (u : VOper), vs[j]? = some u ∧ u.dst = some t
    · obtain ⟨j, u, hu, hut⟩ := hw
      have hjl := getElem?_lt hu
      have huniq : ∀ (q : Nat) (x : VOper), vs[q]? = some x → x.dst = some t → q = j := fun q x hq hx => hd.dst q j x u t hq hu hx hut
      rw [same_get hst (i := j + 1) (j := vs.length) hjl (Nat.le_refl _) (fun q x hq h1 h2 hx => by have := huniq q x hq hx; omega)]
      exact h.done j u t (hall j hjl) hu hut
    · have hno : ∀ (q : Nat) (x : VOper), vs[q]? = some x → x.dst ≠ some t := fun q x hq hx => hw ⟨q, x, hq, hx⟩
      rw [same_get hst (i := 0) (j := vs.length) (Nat.zero_le _) (Nat.le_refl _) (fun q x hq _ _ => hno q x hq)]
      exact h.rest t (fun q x _ hq => hno q x hq)
  dom := dom_tel hst h (Nat.le_refl _) (fun j v hv hj _ => hall j hj) (fun j v hv hL hj => by have := getElem?_lt hv; omega)
  objs := by
    intro k o hk
    have hdk := dom_tel hst h (Nat.le_refl _) (fun j v hv hj _ => hall j hj) (fun j v hv hL hj => by have := getElem?_lt hv; omega) k
    exact h.objs vs.length (Nat.le_refl _) k o (fun j hj _ => ⟨fun _ => hall j hj, fun _ => hj⟩) (hdk.2 (getElem?_lt hk)) (getElem?_lt hk) hk
  fresh := h.fresh
  ext := h.ext
  base := fun k hk => by rw [same_base hst (Nat.le_refl _)]; exact h.base k hk

theorem DInv.start (hst : ∀ i v, vs[i]? = some v → Step1 P fl (wc.getD i false) v (S i) (S (i + 1))) {a : Act} {w : World} {E : Env} (hr : Rel w0 E0 nt (S 0) a w E) : DInv ops vs wc pre nt w0 E0 S (fun _ => False) a w E where
  closed := fun i h => h.elim
  defers := hr.defers
  size := hr.size
  done := fun j v t h => h.elim
  rest := fun t _ => hr.tmps t
  dom := fun k => by rw [hr.dom]; simp
  objs := by
    intro m hm k o hc hk hkm hko
    rw [hr.dom] at hk
    refine hr.objs k o ?_
    rw [← hko]
    refine (same_ob hst (i := 0) (j := m) (Nat.zero_le _) hm ?_ hk).symm
    intro q _ hqm hch
    exact ((hc q (by omega) hch).1 hqm).elim
  fresh := hr.fresh
  ext := hr.ext
  base := hr.base

theorem count_set {l : Array Bool} {i : Nat} (hi : i < l.size) (hf : l.getD i true = false) : (l.setIfInBounds i true).toList.count false + 1 = l.toList.count false := by
  have hg : l.toList[i]'(by simpa using hi) = false := by
    simpa [Array.getD_eq_getD_getElem?, Array.getElem?_eq_getElem hi] using hf
  rw [Array.toList_setIfInBounds]
  have hp : 0 < l.toList.count false := List.count_pos_iff.2 (by rw [← hg]; exact List.getElem_mem _)
  have hcs := List.count_set (a := true) (b := false) (l := l.toList) (i := i) (by simpa using hi)
  have e1 : (l.toList[i]'(by simpa using hi) == false) = true := by rw [hg]; rfl
  rw [hcs, if_pos e1, if_neg (by decide)]
  omega

theorem drun {fo : List Nat} (hd : DOk ops.toList vs wc pre ips) (hcf : Conf fl vs wc pre S) (hcs : cOpers fo P nt ops.toList ops.toList = some vs) (hst : ∀ i v, vs[i]? = some v → Step1 P fl (wc.getD i false) v (S i) (S (i + 1))) {Q : Exit → Act → World → Prop} (hQ : ∀ a w E, Rel w0 E0 nt (S vs.length) a w E → Q .normal a w) :
    ∀ (fuel : Nat) (listed : Array Bool) (a : Act) (w : World) (E : Env), listed.size = ops.size → listed.toList.count false ≤ fuel → DInv ops vs wc pre nt w0 E0 S (fun i => listed.getD i false = true) a w E → wpAny P .any ops Q fuel listed a w := by
  obtain ⟨hl, hget⟩ := cOpers_get hcs
  have hls : vs.length = ops.size := by rw [hl]; simp
  have hall : ∀ {listed : Array Bool}, listed.size = ops.size → Region.ready .any ops listed = [] → ∀ i, i < vs.length → listed.getD i false = true := by
    intro listed hsz hr i
    induction i using Nat.strongRecOn with
    | _ i ih =>
      intro hi
      have ho : ops.toList[i]? = some (ops.toList[i]'(by rw [← hl]; exact hi)) := List.getElem?_eq_getElem _
      rcases Bool.eq_false_or_eq_true (listed.getD i false) with h | h
      · exact h
      · exfalso
        have hi' : i < listed.size := by omega
        have : i ∈ Region.ready .any ops listed := by
          rw [ready_iff]
          refine ⟨by omega, ?_, _, ho, ?_⟩
          · simpa [Array.getD_eq_getD_getElem?, Array.getElem?_eq_getElem hi'] using h
          · intro e he
            have := hd.dirs i _ ho e he
            exact ih e this (by omega)
        rw [hr] at this
        cases this
  intro fuel
  induction fuel with
  | zero =>
    intro listed a w E hsz hc h
    have hall' : ∀ i, i < vs.length → listed.getD i false = true := by
      intro i hi
      have hi' : i < listed.size := by omega
      rcases Bool.eq_false_or_eq_true (listed.getD i false) with h' | h'
      · exact h'
      · exfalso
        have hg : listed.toList[i]'(by simpa using hi') = false := by
          simpa [Array.getD_eq_getD_getElem?, Array.getElem?_eq_getElem hi'] using h'
        have : 0 < listed.toList.count false := List.count_pos_iff.2 (by rw [← hg]; exact List.getElem_mem _)
        omega
    have hr : Region.ready .any ops listed = [] := by
      rw [List.eq_nil_iff_forall_not_mem]
      intro i hi
      obtain ⟨h1, h2, _⟩ := ready_iff.1 hi
      have := hall' i (by omega)
      have hi' : i < listed.size := by omega
      simp [Array.getD_eq_getD_getElem?, Array.getElem?_eq_getElem hi'] at this h2
      rw [this] at h2; cases h2
    exact ⟨hr, hQ a w E (h.finish hd hst hall')⟩
  | succ fuel ih =>
    intro listed a w E hsz hc h
    refine ⟨fun hr => hQ a w E (h.finish hd hst (hall hsz hr)), ?_⟩
    intro i hi
    obtain ⟨h1, h2, o, ho, h3⟩ := ready_iff.1 hi
    have hil : i < listed.size := by omega
    have hnL : ¬ (listed.getD i false = true) := by
      intro he
      simp [Array.getD_eq_getD_getElem?, Array.getElem?_eq_getElem hil] at he h2
      rw [he] at h2; cases h2
    have hpre : ∀ j ∈ pre.getD i [], listed.getD j false = true := by
      intro j hj
      obtain ⟨q1, q2⟩ := hd.clo i o ho j hj
      rcases q2 with q2 | ⟨e, q2, q3⟩
      · exact h3 j q2
      · exact (h.closed e (h3 e q2)).2 j q3
    have ho' : ops[i]? = some o := by simpa using ho
    refine wpOp_step ho' ?_
    intro K' hK'
    refine dstep hd hcf hcs hst h ho' hnL hpre ?_
    intro a' w' E' hinv
    refine hK' a' w' (ih _ a' w' E' (by simp [hsz]) ?_ ?_)
    · have := count_set hil h2; omega
    · have heq : (fun q => listed.getD q false = true ∨ q = i) = (fun q => (listed.setIfInBounds i true).getD q false = true) := by
        funext q
        apply propext
        simp only [Array.getD_eq_getD_getElem?, Array.getElem?_setIfInBounds]
        by_cases hq : i = q
        · subst hq; simp [hil]
        · have : q ≠ i := fun e => hq e.symm
          simp [hq, this]
      rw [← heq]; exact hinv

/-- A region that draws its order comes to what the text's order comes to. -/
theorem dreg_sound {fo : List Nat} (hm : P.follows .mixedOrders = true) (hd : DOk ops.toList vs wc pre ips) (hcs : cOpers fo P nt ops.toList ops.toList = some vs) (hst : ∀ i v, vs[i]? = some v → Step1 P fl (wc.getD i false) v (S i) (S (i + 1))) {Q : Exit → Act → World → Prop} (hQ : ∀ a w E, Rel w0 E0 nt (S vs.length) a w E → Q .normal a w)
    (hfl : fl = true → ips = []) (hc : chkS (mkSp vs ips) (S vs.length) = true) {id : Nat} {a : Act} {w : World} {E : Env} (hr : Rel w0 E0 nt (S 0) a w E) : (Code.region id ops true).wp P Q a w := by
  obtain ⟨hl, hget⟩ := cOpers_get hcs
  refine wp_region_any hm ?_
  have hr' : Rel w0 E0 nt (S 0) a { w with drawn := w.drawn + 1 } E := by
    have hx := (RExt.drew w E).ext
    exact ⟨hr.defers, hr.size, fun t => Rep.ext hx _ _ (hr.tmps t), hr.dom, fun k o hk => (hr.objs k o hk).rext (RExt.drew w E) ((hr.dom k).2 (getElem?_lt hk)), hr.fresh, hr.ext.trans hx, hr.base⟩
  refine drun hd (conf_of hd hst hfl hc) hcs hst hQ _ _ a _ E (by simp) ?_ ?_
  · simp [List.count_replicate]
  · have heq : (fun i => (Array.replicate ops.size false).getD i false = true) = (fun _ : Nat => False) := by
      funext i
      apply propext
      simp [Array.getD_eq_getD_getElem?, Array.getElem?_replicate]
      split <;> simp
    rw [heq]
    exact DInv.start hst hr'
end
end Go.Proofs.VL

namespace Go.Proofs.VL
open Go Go.RowKit
set_option linter.unusedSimpArgs false
set_option linter.unusedVariables false

/-! ### a state that says less: values said more loosely, objects named anew -/
/-- New names (each one's elder name, or none: a nil slice of one's own), and the own arrays that are given up: nobody writes to them any more. -/
structure FM where
  ms : List (Option Nat)
  fz : Nat → Option (Nat × List (List V))

mutual
/-- A value, and what is said of it when the objects have other names. -/
inductive SubM (m : FM) : V → V → Prop
  | same (x : V) : wfV 0 x = true → SubM m x x
  | junk (x : V) : SubM m x .junk
  | nil (sz : Nat) : SubM m .nils (.sl sz [])
  | sl {s : Nat} {a b : List (List V)} : SubR a b → SubM m (.sl s a) (.sl s b)
  | agg {a b : List V} : SubML m a b → SubM m (.agg a) (.agg b)
  | tup {a b : List V} : SubML m a b → SubM m (.tup a) (.tup b)
  | fn {f : FuncId} {a b a' b' : List V} : SubML m a a' → SubML m b b' → SubM m (.fn f a b) (.fn f a' b')
  | ref {j k n : Nat} : m.ms[k]? = some (some j) → SubM m (.ref j n) (.ref k n)
  | nref {k : Nat} : m.ms[k]? = some none → SubM m .nils (.ref k 0)
  | ptr {j k n : Nat} : m.ms[k]? = some (some j) → SubM m (.ptr j n) (.ptr k n)
  | eptr {j k a b c : Nat} : m.ms[k]? = some (some j) → SubM m (.eptr j a b c) (.eptr k a b c)
  | mapr {j k : Nat} : m.ms[k]? = some (some j) → SubM m (.mapr j) (.mapr k)
  | refs {j k s o n : Nat} : m.ms[k]? = some (some j) → SubM m (.refs j s o n) (.refs k s o n)
  | lent {k n sz : Nat} {rows rows' : List (List V)} : m.fz k = some (sz, rows) → n ≤ rows.length → rows.take n = rows' → SubM m (.ref k n) (.sl sz rows')
inductive SubML (m : FM) : List V → List V → Prop
  | nil : SubML m [] []
  | cons {x y : V} {xs ys : List V} : SubM m x y → SubML m xs ys → SubML m (x :: xs) (y :: ys)
end

theorem SubM.of_eq {ms : FM} {x y : V} (h : x = y) (hw : wfV 0 x = true) : SubM ms x y := h ▸ .same x hw

/-- Entries of a map, said more loosely. -/
inductive SubE : List (Nat × V × V) → List (Nat × V × V) → Prop
  | nil : SubE [] []
  | cons {s : Nat} {k x y : V} {a b : List (Nat × V × V)} : Sub x y → SubE a b → SubE ((s, k, x) :: a) ((s, k, y) :: b)
theorem SubE.refl : (es : List (Nat × V × V)) → SubE es es
  | [] => .nil
  | (_, _, x) :: es => .cons (.refl x) (SubE.refl es)
theorem SubE.append {a b c d : List (Nat × V × V)} (h : SubE a b) (g : SubE c d) : SubE (a ++ c) (b ++ d) := by
  induction h with
  | nil => exact g
  | cons hx _ ih => exact .cons hx ih
theorem MapRep.sub {w : World} {E : Env} {a b : List (Nat × V × V)} (h : SubE a b) : ∀ {ms : List MapEntry}, MapRep w E a ms → MapRep w E b ms := by
  induction h with
  | nil => intro ms h; exact h
  | cons hx _ ih =>
    intro ms h
    simp only [MapRep] at h ⊢
    obtain ⟨m, ms', rfl, h1, h2, h3, h4⟩ := h
    exact ⟨m, ms', rfl, h1, h2, Rep.sub hx h3, ih h4⟩

inductive ObjM (ms : FM) : VObj → VObj → Prop
  | box {a b : List V} : SubML ms a b → ObjM ms (.box a) (.box b)
  | arr {e s : Nat} {a b : List (List V)} : SubR a b → ObjM ms (.arr e s a) (.arr e s b)
  | fro {s : Nat} {a : List (List V)} : ObjM ms (.fro s a) (.fro s a)
  | map {c : Nat} {a b : List (Nat × V × V)} : SubE a b → ObjM ms (.map a c) (.map b c)
  | miter0 {a c : Nat} {b : List Nat} : ObjM ms (.miter none a b c) (.miter none a b c)
  | miter {j k a c : Nat} {b : List Nat} : ms.ms[k]? = some (some j) → ObjM ms (.miter (some j) a b c) (.miter (some k) a b c)

/-- The objects' new list against the elder one. -/
def fgO (s : St) (all : FM) : List (Option Nat) → List (Option VObj) → Prop
  | [], [] => True
  | _ :: js, none :: os => fgO s all js os
  | some j :: js, some o :: os => (∃ o', s.ob[j]? = some (some o') ∧ ObjM all o' o) ∧ fgO s all js os
  | none :: js, some o :: os => (∃ e sz, o = .arr e sz []) ∧ fgO s all js os
  | _, _ => False

def fgT (s : St) (ms : FM) : List (Nat × V) → Prop
  | [] => True
  | p :: r => SubM ms (s.get p.1) p.2 ∧ fgT s ms r

/-- The elder names of those that are still there. -/
def fgU : List (Option Nat) → List (Option VObj) → List Nat
  | some j :: js, some _ :: os => j :: fgU js os
  | _ :: js, _ :: os => fgU js os
  | _, _ => []

def nodupB : List Nat → Bool
  | [] => true
  | x :: xs => !xs.contains x && nodupB xs

theorem nodupB_spec : ∀ {l : List Nat}, nodupB l = true → l.Nodup
  | [], _ => List.nodup_nil
  | x :: xs, h => by
    simp only [nodupB, Bool.and_eq_true, Bool.not_eq_true', List.contains_eq_mem, decide_eq_false_iff_not] at h
    exact List.nodup_cons.2 ⟨h.1, nodupB_spec h.2⟩

def fgB : Nat → Nat → List (Option Nat) → Bool
  | 0, _, _ => true
  | n + 1, i, some j :: js => j == i && fgB n (i + 1) js
  | _ + 1, _, _ => false

def fgL (n : Nat) : List (Option Nat) → Bool
  | [] => true
  | some j :: js => decide (j < n) && fgL n js
  | none :: js => fgL n js

/-- The own arrays that are given up. -/
def St.frz (s : St) (kept : List Nat) (k : Nat) : Option (Nat × List (List V)) :=
  match !kept.contains k with
  | true => match s.ob[k]? with | some (some (.arr _ sz rows)) => some (sz, rows) | _ => none
  | false => none

theorem St.frz_spec {s : St} {kept : List Nat} {k sz : Nat} {rows : List (List V)} (h : s.frz kept k = some (sz, rows)) : k ∉ kept ∧ ∃ e, s.ob[k]? = some (some (.arr e sz rows)) := by
  unfold St.frz at h
  split at h
  · rename_i hb
    simp only [Bool.not_eq_true', List.contains_eq_mem, decide_eq_false_iff_not] at hb
    split at h
    · rename_i e sz' rows' ho
      simp only [Option.some.injEq, Prod.mk.injEq] at h
      obtain ⟨rfl, rfl⟩ := h
      exact ⟨hb, e, ho⟩
    · cases h
  · cases h

def St.fg (s s1 : St) : Prop := ∃ ms : List (Option Nat), s1.base = s.base ∧ fgB s.base 0 ms = true ∧ fgL s.ob.length ms = true ∧ nodupB (fgU ms s1.ob) = true ∧ fgT s ⟨ms, s.frz (fgU ms s1.ob)⟩ s1.tm ∧ fgO s ⟨ms, s.frz (fgU ms s1.ob)⟩ ms s1.ob

theorem fgB_get : ∀ {n i : Nat} {ms : List (Option Nat)}, fgB n i ms = true → ∀ k, k < n → ms[k]? = some (some (i + k))
  | 0, _, _, _, k, hk => by omega
  | n + 1, i, some j :: js, h, k, hk => by
    simp only [fgB, Bool.and_eq_true, beq_iff_eq] at h
    cases k with
    | zero => simp [h.1]
    | succ k =>
      have := fgB_get h.2 k (by omega)
      simp only [List.getElem?_cons_succ, this]
      congr 2; omega
  | n + 1, i, [], h, _, _ => by simp [fgB] at h
  | n + 1, i, none :: js, h, _, _ => by simp [fgB] at h

theorem fgL_get {n : Nat} : ∀ {ms : List (Option Nat)}, fgL n ms = true → ∀ (k j : Nat), ms[k]? = some (some j) → j < n
  | [], _, k, j, h => by simp at h
  | some q :: js, h, k, j, hk => by
    simp only [fgL, Bool.and_eq_true, decide_eq_true_eq] at h
    cases k with
    | zero => simp at hk; omega
    | succ k => exact fgL_get h.2 k j (by simpa using hk)
  | none :: js, h, k, j, hk => by
    simp only [fgL] at h
    cases k with
    | zero => simp at hk
    | succ k => exact fgL_get h k j (by simpa using hk)

theorem fgT_get {s : St} {ms : FM} : ∀ {l : List (Nat × V)}, fgT s ms l → ∀ p ∈ l, SubM ms (s.get p.1) p.2
  | [], _, p, hp => by simp at hp
  | q :: l, h, p, hp => by
    simp only [fgT] at h
    rcases List.mem_cons.1 hp with rfl | hp
    · exact h.1
    · exact fgT_get h.2 p hp

theorem fgO_get {s : St} {all : FM} : ∀ {ms : List (Option Nat)} {os : List (Option VObj)}, fgO s all ms os → ms.length = os.length ∧ ∀ (k : Nat) o, os[k]? = some (some o) →
    (∃ j o', ms[k]? = some (some j) ∧ s.ob[j]? = some (some o') ∧ ObjM all o' o) ∨ (ms[k]? = some none ∧ ∃ e sz, o = .arr e sz [])
  | [], [], _ => ⟨rfl, fun k o h => by simp at h⟩
  | [], _ :: _, h => by simp [fgO] at h
  | _ :: _, [], h => by simp [fgO] at h
  | m :: js, none :: os, h => by
    have h' : fgO s all js os := by cases m <;> simpa [fgO] using h
    obtain ⟨h1, h2⟩ := fgO_get h'
    refine ⟨by simp [h1], fun k q hq => ?_⟩
    cases k with
    | zero => simp at hq
    | succ k => simpa using h2 k q (by simpa using hq)
  | some j :: js, some o :: os, h => by
    simp only [fgO] at h
    obtain ⟨h1, h2⟩ := fgO_get h.2
    refine ⟨by simp [h1], fun k q hq => ?_⟩
    cases k with
    | zero =>
      simp at hq
      subst hq
      obtain ⟨o', g2, g3⟩ := h.1
      exact .inl ⟨j, o', rfl, g2, g3⟩
    | succ k => simpa using h2 k q (by simpa using hq)
  | none :: js, some o :: os, h => by
    simp only [fgO] at h
    obtain ⟨h1, h2⟩ := fgO_get h.2
    refine ⟨by simp [h1], fun k q hq => ?_⟩
    cases k with
    | zero => simp at hq; subst hq; exact .inr ⟨rfl, h.1⟩
    | succ k => simpa using h2 k q (by simpa using hq)

theorem fgU_mem : ∀ {ms : List (Option Nat)} {os : List (Option VObj)} {k j : Nat} {o : VObj}, ms[k]? = some (some j) → os[k]? = some (some o) → j ∈ fgU ms os
  | [], _, k, j, o, h, _ => by simp at h
  | _ :: _, [], k, j, o, _, h => by simp at h
  | m :: js, q :: os, k, j, o, h, g => by
    cases k with
    | zero =>
      simp at h g
      subst h; subst g
      simp [fgU]
    | succ k =>
      have := fgU_mem (ms := js) (os := os) (by simpa using h) (by simpa using g)
      cases m <;> cases q <;> simp [fgU, this]

theorem fgU_inj : ∀ {ms : List (Option Nat)} {os : List (Option VObj)}, (fgU ms os).Nodup → ∀ {k k' j : Nat} {o o' : VObj}, ms[k]? = some (some j) → os[k]? = some (some o) → ms[k']? = some (some j) → os[k']? = some (some o') → k = k'
  | [], _, _, k, k', j, o, o', h, _, _, _ => by simp at h
  | _ :: _, [], _, k, k', j, o, o', _, h, _, _ => by simp at h
  | m :: js, q :: os, hn, k, k', j, o, o', h1, h2, h3, h4 => by
    have hn' : (fgU js os).Nodup := by
      cases m <;> cases q <;> simp [fgU] at hn ⊢ <;> first | exact hn | exact hn.2
    cases k with
    | zero =>
      cases k' with
      | zero => rfl
      | succ k' =>
        simp at h1 h2 h3 h4
        subst h1; subst h2
        simp only [fgU, List.nodup_cons] at hn
        exact absurd (fgU_mem h3 h4) hn.1
    | succ k =>
      cases k' with
      | zero =>
        simp at h1 h2 h3 h4
        subst h3; subst h4
        simp only [fgU, List.nodup_cons] at hn
        exact absurd (fgU_mem h1 h2) hn.1
      | succ k' =>
        have := fgU_inj hn' (k := k) (k' := k') (by simpa using h1) (by simpa using h2) (by simpa using h3) (by simpa using h4)
        rw [this]

open Classical in
/-- What is known of memory in the new words. -/
noncomputable def Env.named (E : Env) (m : FM) (os : List (Option VObj)) : Env :=
  { dom := fun k => k < m.ms.length,
    blk := fun k => match m.ms[k]? with | some (some j) => E.blk j | _ => 0,
    cap := fun k => match m.ms[k]? with | some (some j) => E.cap j | _ => 0,
    nil := fun k => match m.ms[k]? with | some (some j) => E.nil j | _ => true,
    lab := fun b => match E.lab b with
      | .imm => .imm
      | .ext => .ext
      | .obj j => if h : ∃ k o, m.ms[k]? = some (some j) ∧ os[k]? = some (some o) then .obj h.choose else if (m.fz j).isSome = true then .imm else .ext }

theorem named_imm {E : Env} {ms : FM} {os : List (Option VObj)} {b : Nat} (h : E.lab b = .imm) : (E.named ms os).lab b = .imm := by
  unfold Env.named
  simp only [h]

theorem named_ext {E : Env} {ms : FM} {os : List (Option VObj)} {b : Nat} (h : E.lab b = .ext) : (E.named ms os).lab b = .ext := by
  unfold Env.named
  simp only [h]

theorem named_obj {E : Env} {ms : FM} {os : List (Option VObj)} (hu : (fgU ms.ms os).Nodup) {b k j : Nat} {o : VObj} (h1 : ms.ms[k]? = some (some j)) (h2 : os[k]? = some (some o)) (hl : E.lab b = .obj j) : (E.named ms os).lab b = .obj k := by
  unfold Env.named
  simp only [hl]
  have hex : ∃ k o, ms.ms[k]? = some (some j) ∧ os[k]? = some (some o) := ⟨k, o, h1, h2⟩
  rw [dif_pos hex]
  obtain ⟨o', g1, g2⟩ := hex.choose_spec
  rw [fgU_inj hu g1 g2 h1 h2]

theorem named_fz {E : Env} {m : FM} {os : List (Option VObj)} {b k : Nat} (hl : E.lab b = .obj k) (hz : (m.fz k).isSome = true) (hg : ∀ (q : Nat) (o : VObj), m.ms[q]? = some (some k) → os[q]? = some (some o) → False) : (E.named m os).lab b = .imm := by
  unfold Env.named
  simp only [hl]
  rw [dif_neg (fun h => by obtain ⟨q, o, h1, h2⟩ := h; exact hg q o h1 h2), if_pos hz]

structure FMok (w : World) (E : Env) (m : FM) (os ob : List (Option VObj)) : Prop where
  rep : ∀ (k : Nat) o, E.dom k → ob[k]? = some (some o) → ObjRep w E k o
  at_ : ∀ (k : Nat) sz rows, m.fz k = some (sz, rows) → ∃ e, ob[k]? = some (some (.arr e sz rows))
  gone : ∀ (k : Nat) sz rows, m.fz k = some (sz, rows) → ∀ (q : Nat) (o : VObj), m.ms[q]? = some (some k) → os[q]? = some (some o) → False

theorem imm_flat {w : World} {E E' : Env} (h : ∀ b, E.lab b = .imm → E'.lab b = .imm) {sz : Nat} {rows : List (List V)} {vs : List Value} (hr : RepFlat w E.pure sz rows vs) : RepFlat w E'.pure sz rows vs :=
  RepFlat.iext (pure_iext fun b _ hb => (h b) hb) _ _ _ hr
theorem imm_list {w : World} {E E' : Env} (h : ∀ b, E.lab b = .imm → E'.lab b = .imm) {xs : List V} {vs : List Value} (hr : RepL w E.pure xs vs) : RepL w E'.pure xs vs :=
  RepL.iext (pure_iext fun b _ hb => (h b) hb) _ _ hr

mutual
theorem rep_same {w : World} {E E' : Env} (h : ∀ b, E.lab b = .imm → E'.lab b = .imm) : (x : V) → (v : Value) → wfV 0 x = true → Rep w E x v → Rep w E' x v
  | .bool _, _, _, h => h
  | .int _ _, _, _, h => h
  | .str _, _, _, h => h
  | .nils, _, _, h => h
  | .nilp, _, _, h => h
  | .nilm, _, _, h => h
  | .nilf, _, _, h => h
  | .nili, _, _, h => h
  | .junk, _, _, _ => trivial
  | .sl sz rows, v, _, hr => by
    simp only [Rep] at hr ⊢
    obtain ⟨a, cap, vs, rfl, h1, h2, h3, h4⟩ := hr
    refine ⟨a, cap, vs, rfl, h1, imm_flat h h2, h3, ?_⟩
    rcases h4 with h4 | ⟨b, off, q1, q2, q3⟩
    · exact .inl h4
    · exact .inr ⟨b, off, q1, (h b) q2, q3⟩
  | .iptr cs, v, _, hr => by
    simp only [Rep] at hr ⊢
    obtain ⟨b, off, vs, rfl, q2, q3, q4, q5⟩ := hr
    exact ⟨b, off, vs, rfl, (h b) q2, q3, q4, imm_list h q5⟩
  | .ref k q, v, hw, _ => by simp [wfV] at hw
  | .ptr k off, v, hw, _ => by simp [wfV] at hw
  | .eptr k _ _ _, v, hw, _ => by simp [wfV] at hw
  | .mapr k, v, hw, _ => by simp [wfV] at hw
  | .refs k _ _ _, v, hw, _ => by simp [wfV] at hw
  | .agg cs, v, hw, hr => by
    simp only [Rep] at hr ⊢
    obtain ⟨vs, rfl, hr⟩ := hr
    exact ⟨vs, rfl, repL_same h cs vs (by simpa [wfV] using hw) hr⟩
  | .tup cs, v, hw, hr => by
    simp only [Rep] at hr ⊢
    obtain ⟨vs, rfl, hr⟩ := hr
    exact ⟨vs, rfl, repL_same h cs vs (by simpa [wfV] using hw) hr⟩
  | .fn f a b, v, hw, hr => by
    simp only [wfV, Bool.and_eq_true] at hw
    simp only [Rep] at hr ⊢
    obtain ⟨p, q, rfl, h1, h2⟩ := hr
    exact ⟨p, q, rfl, repL_same h a p hw.1 h1, repL_same h b q hw.2 h2⟩
theorem repL_same {w : World} {E E' : Env} (h : ∀ b, E.lab b = .imm → E'.lab b = .imm) : (xs : List V) → (vs : List Value) → wfL 0 xs = true → RepL w E xs vs → RepL w E' xs vs
  | [], _, _, hr => hr
  | x :: xs, vs, hw, hr => by
    simp only [wfL, Bool.and_eq_true] at hw
    simp only [RepL] at hr ⊢
    obtain ⟨v, vs', rfl, h1, h2⟩ := hr
    exact ⟨v, vs', rfl, rep_same h x v hw.1 h1, repL_same h xs vs' hw.2 h2⟩
end

mutual
theorem Rep.subM {w : World} {E : Env} {ms : FM} {os ob : List (Option VObj)} (hF : FMok w E ms os ob) {x y : V} {v : Value} (hs : SubM ms x y) (h : Rep w E x v) : Rep w (E.named ms os) y v := by
  have hlt : ∀ {k j : Nat}, ms.ms[k]? = some (some j) → (E.named ms os).dom k := fun h => getElem?_lt h
  cases hs with
  | same _ hw => exact rep_same (fun b => named_imm) x v hw h
  | junk => trivial
  | nil sz =>
    simp only [Rep] at h ⊢; subst h
    exact ⟨none, 0, [], rfl, Nat.le_refl _, by simp [RepFlat], Ones.nil, by simp⟩
  | sl hs => exact rep_same (fun b => named_imm) _ v rfl (Rep.sub (.sl hs) h)
  | agg hs =>
    simp only [Rep] at h ⊢; obtain ⟨vs, rfl, h⟩ := h
    exact ⟨vs, rfl, RepL.subM hF hs h⟩
  | tup hs =>
    simp only [Rep] at h ⊢; obtain ⟨vs, rfl, h⟩ := h
    exact ⟨vs, rfl, RepL.subM hF hs h⟩
  | fn h1 h2 =>
    simp only [Rep] at h ⊢; obtain ⟨p, q, rfl, g1, g2⟩ := h
    exact ⟨p, q, rfl, RepL.subM hF h1 g1, RepL.subM hF h2 g2⟩
  | ref hk =>
    simp only [Rep] at h ⊢
    obtain ⟨g1, g2, g3, rfl⟩ := h
    exact ⟨hlt hk, by simpa [Env.named, hk] using g2, by simpa [Env.named, hk] using g3, by simp [VL.aval, Env.named, hk]⟩
  | nref hk =>
    simp only [Rep] at h ⊢
    subst h
    exact ⟨getElem?_lt hk, by simp [Env.named, hk], by simp [Env.named, hk], by simp [VL.aval, Env.named, hk]⟩
  | ptr hk =>
    simp only [Rep] at h ⊢
    obtain ⟨g1, rfl⟩ := h
    exact ⟨hlt hk, by simp [Env.named, hk]⟩
  | eptr hk =>
    simp only [Rep] at h ⊢
    obtain ⟨g1, g2, rfl⟩ := h
    exact ⟨hlt hk, by simpa [Env.named, hk] using g2, by simp [Env.named, hk]⟩
  | mapr hk =>
    simp only [Rep] at h ⊢
    obtain ⟨g1, rfl⟩ := h
    exact ⟨hlt hk, by simp [Env.named, hk]⟩
  | refs hk =>
    simp only [Rep] at h ⊢
    obtain ⟨g1, g2, g3, a, rfl, g4⟩ := h
    exact ⟨hlt hk, by simpa [Env.named, hk] using g2, by simpa [Env.named, hk] using g3, a, by simp [Env.named, hk], by simpa [Env.named, hk] using g4⟩
  | @lent k n sz rows rows' hz hn hr =>
    subst hr
    obtain ⟨e, ho⟩ := hF.at_ _ _ _ hz
    simp only [Rep] at h ⊢
    obtain ⟨hk, hnc, hnil, rfl⟩ := h
    obtain ⟨vs, q1, q2, q3⟩ := objRows_rep hF.rep hk (sz := sz) (rows := rows) (by simp [objRows, ho])
    have hlen : (rows.take n).length = n := by simp; omega
    refine ⟨_, _, vs.take (n * sz), by rw [aval, hlen], by rw [hlen]; exact hnc, imm_flat (fun b => named_imm) (q1.take n), q3.take _, ?_⟩
    rcases q2 with q2 | ⟨q2, q4⟩
    · left; rw [q2]; simp
    · by_cases hz' : rows.take n = []
      · exact .inl hz'
      · right
        have hlab : E.lab (E.blk k) = .obj k := (hF.rep k _ hk ho).2.2.1 q2
        refine ⟨E.blk k, 0, by rw [q2]; rfl, named_fz hlab (by rw [hz]; rfl) (hF.gone _ _ _ hz), ?_, q4.take _⟩
        have := hF.rep k _ hk ho
        simp only [ObjRep] at this
        obtain ⟨_, _, _, vs', hown, _⟩ := this
        rcases hown.2 with ⟨hav, _⟩ | ⟨g, c, cur, hav, _, ⟨te, fr, hh, _⟩, _⟩
        · simp [aval, q2] at hav
        · simp [aval, q2] at hav
          rw [hav.1]; exact block_lt hh
theorem RepL.subM {w : World} {E : Env} {ms : FM} {os ob : List (Option VObj)} (hF : FMok w E ms os ob) {xs ys : List V} {vs : List Value} (hs : SubML ms xs ys) (h : RepL w E xs vs) : RepL w (E.named ms os) ys vs := by
  cases hs with
  | nil => exact h
  | cons h1 h2 =>
    simp only [RepL] at h ⊢
    obtain ⟨v, vs', rfl, g1, g2⟩ := h
    exact ⟨v, vs', rfl, Rep.subM hF h1 g1, RepL.subM hF h2 g2⟩
end

theorem ObjRep.named {w : World} {E : Env} {ms : FM} {os ob : List (Option VObj)} (hF : FMok w E ms os ob) (hu : (fgU ms.ms os).Nodup) {k j : Nat} {o o' : VObj} (h1 : ms.ms[k]? = some (some j)) (h2 : os[k]? = some (some o)) (hs : ObjM ms o' o) (h : ObjRep w E j o') : ObjRep w (E.named ms os) k o := by
  have hb : (E.named ms os).blk k = E.blk j := by simp [Env.named, h1]
  have hc : (E.named ms os).cap k = E.cap j := by simp [Env.named, h1]
  have hn : (E.named ms os).nil k = E.nil j := by simp [Env.named, h1]
  cases hs with
  | box hs =>
    simp only [ObjRep, hb] at h ⊢
    obtain ⟨g1, c, e, g2, g3⟩ := h
    exact ⟨named_obj hu h1 h2 g1, c, e, g2, RepL.subM hF hs g3⟩
  | arr hs =>
    have ha : ∀ n, VL.aval (E.named ms os) k n = VL.aval E j n := fun n => by simp only [VL.aval, hb, hc, hn]
    simp only [ObjRep, hb, hc, hn, ha] at h ⊢
    rw [← hs.len]
    obtain ⟨g1, g2, g3, vs, g4, g5, g6⟩ := h
    exact ⟨g1, g2, fun q => named_obj hu h1 h2 (g3 q), vs, g4, imm_flat (fun b => named_imm) (RepFlat.sub hs g5), g6⟩
  | fro =>
    simp only [ObjRep, hb, hc, hn] at h ⊢
    obtain ⟨g1, g2, vs, g4, g5, g6⟩ := h
    refine ⟨g1, g2, vs, imm_flat (fun b => named_imm) g4, g5, ?_⟩
    rcases g6 with g6 | ⟨q1, q2, q3⟩
    · exact .inl g6
    · exact .inr ⟨q1, named_imm q2, q3⟩
  | map hs =>
    simp only [ObjRep, hb] at h ⊢
    obtain ⟨g1, m, g2, g3⟩ := h
    exact ⟨named_obj hu h1 h2 g1, m, g2, MapRep.iext (pure_iext fun b _ hb => named_imm hb) (MapRep.sub hs g3)⟩
  | miter0 =>
    simp only [ObjRep, hb] at h ⊢
    obtain ⟨g1, g2, g3⟩ := h
    exact ⟨named_obj hu h1 h2 g1, by simp, g3⟩
  | miter hk =>
    simp only [ObjRep, hb] at h ⊢
    obtain ⟨g1, g2, g3⟩ := h
    refine ⟨named_obj hu h1 h2 g1, fun q hq => by simp at hq; subst hq; exact getElem?_lt hk, ?_⟩
    rw [g3]; simp [Env.named, hk]

theorem lookup_mem {t : Nat} {v : V} : ∀ {l : List (Nat × V)}, l.lookup t = some v → (t, v) ∈ l
  | [], h => by simp at h
  | (u, y) :: l, h => by
    simp only [List.lookup] at h
    split at h
    · rename_i he
      have : t = u := by simpa using he
      subst this
      simp at h; subst h; simp
    · exact List.mem_cons_of_mem _ (lookup_mem h)

theorem Rel.forget {w0 w : World} {E0 E : Env} {nt : Nat} {s s1 : St} {a : Act} (hr : Rel w0 E0 nt s a w E) (hf : s.fg s1) : ∃ E', Rel w0 E0 nt s1 a w E' := by
  obtain ⟨ms, hb, hpre, hlt, hu', f1, f2⟩ := hf
  have hu := nodupB_spec hu'
  obtain ⟨hlen, f3⟩ := fgO_get f2
  have hbase : ∀ k, E0.dom k → ms[k]? = some (some k) := fun k hk => by
    have := fgB_get hpre k (hr.base k hk)
    simpa using this
  have hF : FMok w E ⟨ms, s.frz (fgU ms s1.ob)⟩ s1.ob s.ob := ⟨fun k o _ h => hr.objs k o h, fun k sz rows h => (St.frz_spec h).2, fun k sz rows h q o h1 h2 => (St.frz_spec h).1 (fgU_mem h1 h2)⟩
  refine ⟨E.named ⟨ms, s.frz (fgU ms s1.ob)⟩ s1.ob, hr.defers, hr.size, ?_, fun k => by show k < ms.length ↔ _; rw [hlen], ?_, fun b hb' => named_imm (hr.fresh b hb'), ?_, fun k hk => by rw [hb]; exact hr.base k hk⟩
  · intro t
    cases hl : s1.tm.lookup t with
    | none =>
      have : s1.get t = .junk := by simp [St.get, hl]
      rw [this]; trivial
    | some v =>
      have h1 : s1.get t = v := by simp [St.get, hl]
      rw [h1]
      exact Rep.subM hF (fgT_get f1 _ (lookup_mem hl)) (hr.tmps t)
  · intro k o hk
    rcases f3 k o hk with ⟨j, o', h1, h2, h3⟩ | ⟨h1, e, sz, rfl⟩
    · exact ObjRep.named hF hu h1 hk h3 (hr.objs j o' h2)
    · simp only [ObjRep]
      refine ⟨by simp [Env.named, h1], by simp, by simp [Env.named, h1], [], ?_, by simp [RepFlat], Ones.nil⟩
      have ha : VL.aval (E.named ⟨ms, s.frz (fgU ms s1.ob)⟩ s1.ob) k 0 = .slice none 0 0 := by simp [VL.aval, Env.named, h1]
      simpa [ha] using ownsV_nil w e sz
  · have hx := hr.ext
    refine ⟨hx.os, hx.tape, hx.output, hx.size, fun b hb' hl => ?_, fun b hb' hl => ?_, fun k hk => ?_, fun k hk => ?_, fun k hk => ?_, fun k hk => ?_⟩
    · obtain ⟨q1, q2⟩ := hx.imm b hb' hl
      exact ⟨named_imm q1, q2⟩
    · obtain ⟨q1, q2⟩ := hx.ext b hb' hl
      exact ⟨named_ext q1, q2⟩
    · exact getElem?_lt (hbase k hk)
    · simp only [Env.named, hbase k hk]; exact hx.blk k hk
    · simp only [Env.named, hbase k hk]; exact hx.cap k hk
    · simp only [Env.named, hbase k hk]; exact hx.nil k hk
end Go.Proofs.VL

namespace Go.Proofs.VL
open Go Go.RowKit
set_option linter.unusedSimpArgs false
set_option linter.unusedVariables false

/-- An operation of a region that draws its order. -/
def VO.stepD (P : Program) (fl wc : Bool) (o : VO) (ρ : X → V) (ob : List (Option VObj)) (K : V → List (Option VObj) → Prop) : Prop :=
  match o with
  | .call f args => match ρ f with
    | .fn g first caps => match wc with
      | true => match fl with
        | true => ∃ r ob', VCall P g (first ++ args.map ρ ++ caps) ob r ob' ∧ ob.length ≤ ob'.length ∧ K r ob'
        | false => (∃ r, CallR P ob g (first ++ args.map ρ ++ caps) r ∧ K r ob) ∨ ∃ r ob' ms args0 obs obs' r0, FCall P ob g (first ++ args.map ρ ++ caps) r ob' ms args0 obs obs' r0 ∧ K r ob'
      | false => ∃ r, CallR P ob g (first ++ args.map ρ ++ caps) r ∧ K r ob
    | _ => False
  | .store sz a x => match VO.evW (.store sz a x) ρ ob with | some (v, ob') => K v ob' | none => False
  | .app e sz b x y => match VO.evW (.app e sz b x y) ρ ob with | some (v, ob') => K v ob' | none => False
  | .apps e x y => match VO.evW (.apps e x y) ρ ob with | some (v, ob') => K v ob' | none => False
  | .upd kd m k x => match VO.evW (.upd kd m k x) ρ ob with | some (v, ob') => K v ob' | none => False
  | .del kd m k => match VO.evW (.del kd m k) ρ ob with | some (v, ob') => K v ob' | none => False
  | .clr s z x => match VO.evW (.clr s z x) ρ ob with | some (v, ob') => K v ob' | none => False
  | o => match o.evR ρ ob with | some (v, news) => K v (ob ++ news.map some) | none => False

def VOper.stepD (P : Program) (fl : Bool) (o : VOper) (wc : Bool) (s : St) (K : St → Prop) : Prop :=
  match o.guard with
  | none => o.op.stepD P fl wc s.x s.ob fun v ob' => K (({ s with ob := ob' } : St).putO o.dst v)
  | some (t, want) => match s.get t with
    | .bool b => if b = want then o.op.stepD P fl wc s.x s.ob fun v ob' => K (({ s with ob := ob' } : St).putO o.dst v) else K (s.putO o.dst (.tup []))
    | .tup [] => K (s.putO o.dst (.tup []))
    | _ => False

def dvops (P : Program) (fl : Bool) : List VOper → List Bool → St → (St → Prop) → Prop
  | [], _, s, K => K s
  | o :: os, wc, s, K => o.stepD P fl (wc.headD false) s fun s' => dvops P fl os wc.tail s' K

theorem dropOb_len (ob : List (Option VObj)) (k : Option Nat) : (dropOb ob k).length = ob.length := by
  cases k <;> simp [dropOb]

theorem evW_len {o : VO} {ρ : X → V} {ob ob' : List (Option VObj)} {r : V} (h : o.evW ρ ob = some (r, ob')) : ob.length ≤ ob'.length := by
  cases o <;> simp only [VO.evW, reduceCtorEq] at h
  case store =>
    repeat' split at h
    all_goals first | (cases h; done) | (simp only [Option.some.injEq, Prod.mk.injEq] at h; rw [← h.2]; simp)
  all_goals
    repeat' split at h
    all_goals first | (cases h; done) | (simp only [Option.some.injEq, Prod.mk.injEq] at h; rw [← h.2]; simp [dropOb_len])

theorem stepD_step1 {P : Program} {o : VOper} {fl wc : Bool} {s : St} {K : St → Prop} (h : o.stepD P fl wc s K) : ∃ s', Step1 P fl wc o s s' ∧ K s' := by
  have core : ∀ (g : o.guard = none ∨ ∃ t want, o.guard = some (t, want) ∧ s.get t = .bool want), o.op.stepD P fl wc s.x s.ob (fun v ob' => K (({ s with ob := ob' } : St).putO o.dst v)) → ∃ s', Step1 P fl wc o s s' ∧ K s' := by
    intro g h
    have wr : o.op.isW wc = true → ∀ v ob', o.op.evW s.x s.ob = some (v, ob') → K (({ s with ob := ob' } : St).putO o.dst v) → ∃ s', Step1 P fl wc o s s' ∧ K s' :=
      fun hw v ob' he hk => ⟨_, .write v ob' g hw he (evW_len he), hk⟩
    have rd : o.op.isW wc = false → (∀ f as, o.op ≠ .call f as) → ∀ v news, o.op.evR s.x s.ob = some (v, news) → K (({ s with ob := s.ob ++ news.map some } : St).putO o.dst v) → ∃ s', Step1 P fl wc o s s' ∧ K s' :=
      fun hw hnc v news he hk => ⟨_, .read v news g hw he hnc, hk⟩
    unfold VO.stepD at h
    split at h
    · rename_i f args hop
      split at h <;> try (exact h.elim)
      rename_i g' first caps hg
      cases wc with
      | true =>
        cases fl with
        | true =>
          obtain ⟨r, ob', h1, h2, h3⟩ := h
          exact ⟨_, .callW f args g' first caps r ob' g ⟨rfl, rfl⟩ hop hg h1 h2, h3⟩
        | false =>
          rcases h with ⟨r, h1, h3⟩ | ⟨r, ob', ms, args0, obs, obs', r0, h1, h3⟩
          · exact ⟨_, .callR f args g' first caps r g hop hg h1, h3⟩
          · exact ⟨_, .callF f args g' first caps r ob' ms args0 obs obs' r0 g rfl hop hg h1, h3⟩
      | false =>
        obtain ⟨r, h1, h3⟩ := h
        exact ⟨_, .callR f args g' first caps r g hop hg h1, h3⟩
    · rename_i hop
      split at h <;> try (exact h.elim)
      exact wr (by rw [hop]; rfl) _ _ (by rw [hop]; assumption) h
    · rename_i hop
      split at h <;> try (exact h.elim)
      exact wr (by rw [hop]; rfl) _ _ (by rw [hop]; assumption) h
    · rename_i hop
      split at h <;> try (exact h.elim)
      exact wr (by rw [hop]; rfl) _ _ (by rw [hop]; assumption) h
    · rename_i hop
      split at h <;> try (exact h.elim)
      exact wr (by rw [hop]; rfl) _ _ (by rw [hop]; assumption) h
    · rename_i hop
      split at h <;> try (exact h.elim)
      exact wr (by rw [hop]; rfl) _ _ (by rw [hop]; assumption) h
    · rename_i hop
      split at h <;> try (exact h.elim)
      exact wr (by rw [hop]; rfl) _ _ (by rw [hop]; assumption) h
    · rename_i h1 h2 h3 h4 h5 h6 h7
      split at h <;> try (exact h.elim)
      refine rd ?_ h1 _ _ (by assumption) h
      cases hop : o.op <;> first | rfl | (exact absurd hop (h1 _ _)) | (exact absurd hop (h2 _ _ _)) | (exact absurd hop (h3 _ _ _ _ _)) | (exact absurd hop (h4 _ _ _)) | (exact absurd hop (h5 _ _ _ _)) | (exact absurd hop (h6 _ _ _)) | (exact absurd hop (h7 _ _ _))
  unfold VOper.stepD at h
  split at h
  · exact core (.inl ‹_›) h
  · rename_i t want hg
    split at h <;> try (exact h.elim)
    · rename_i b hb
      split at h
      · rename_i hbw
        subst hbw
        exact core (.inr ⟨t, b, hg, hb⟩) h
      · rename_i hbw
        refine ⟨_, .skip t want hg (fun w E val hr e => ?_), h⟩
        rw [hb] at hr
        simp only [Rep] at hr
        rw [hr] at e
        simp only [Value.bool.injEq] at e
        exact hbw e
    · rename_i hb
      refine ⟨_, .skip t want hg (fun w E val hr e => ?_), h⟩
      rw [hb] at hr
      simp only [Rep] at hr
      obtain ⟨vs, rfl, _⟩ := hr
      cases e

theorem dvops_chain {P : Program} {fl : Bool} {K : St → Prop} : ∀ {vs : List VOper} {wc : List Bool} {s : St}, dvops P fl vs wc s K → ∃ S : Nat → St, S 0 = s ∧ (∀ (i : Nat) v, vs[i]? = some v → Step1 P fl (wc.getD i false) v (S i) (S (i + 1))) ∧ K (S vs.length)
  | [], wc, s, h => ⟨fun _ => s, rfl, fun i v h => by simp at h, h⟩
  | o :: os, wc, s, h => by
    simp only [dvops] at h
    obtain ⟨s', h1, h2⟩ := stepD_step1 h
    obtain ⟨S, q1, q2, q3⟩ := dvops_chain h2
    refine ⟨fun i => match i with | 0 => s | i + 1 => S i, rfl, ?_, q3⟩
    intro i v hv
    cases i with
    | zero =>
      simp only [List.getElem?_cons_zero, Option.some.injEq] at hv
      subst hv
      simp only
      rw [q1]
      cases wc <;> exact h1
    | succ i =>
      have := q2 i v (by simpa using hv)
      cases wc with
      | nil => simpa using this
      | cons b wc => simpa using this

def mkWc (fo : List Nat) (vs : List VOper) (pre : List (List Nat)) : List Bool :=
  let n := vs.length
  (List.range n).map fun i => (match vs[i]? with | some v => v.op.isC && (match v.dst with | some t => fo.contains t | none => false) | none => false) || allIdx n fun j => i == j || ordered pre i j || (match vs[j]? with | some u => u.op.isP | none => true)

/-! ### code -/
inductive VC where
  | skip
  | reg (ops : List VOper)
  | dreg (ops : List VOper) (wc : List Bool)
  | dregF (ops : List VOper) (wc : List Bool) (sp : List (List X × List X))
  | areg (ops : List VOper) (dirs : List (List Nat)) (done : List Nat)
  | chk (sp : List (List X × List X))
  | seq (a b : VC)
  | seqc (a b : VC)
  | cond (x : X) (a b : VC)
  | block (id : Nat) (c : VC)
  | loop (c : VC)
  | exit (id : Nat)
  | ret

inductive VX where
  | normal
  | exit (id : Nat)
  | ret

/-- The same state, some slots forgotten. -/
def St.thin (s s1 : St) : Prop := s1.ob = s.ob ∧ s1.base = s.base ∧ ∀ t, s1.get t = s.get t ∨ s1.get t = .junk
theorem St.thin_refl (s : St) : s.thin s := ⟨rfl, rfl, fun _ => .inl rfl⟩

/-- Operations that may be next. -/
def readyL (dirs : List (List Nat)) (done : List Nat) : List Nat := (List.range dirs.length).filter fun i => !done.contains i && (dirs.getD i []).all fun j => done.contains j
/-- Operations in whatever order. -/
def vany (P : Program) (ops : List VOper) (dirs : List (List Nat)) : Nat → List Nat → St → (St → Prop) → Prop
  | 0, _, s, K => K s
  | n + 1, done, s, K => (readyL dirs done = [] → K s) ∧ ∀ i ∈ readyL dirs done, ∀ o, ops[i]? = some o → o.step P s fun s' => vany P ops dirs n (i :: done) s' K

def vwp (P : Program) : VC → (VX → St → Prop) → St → Prop
  | .skip, Q, s => Q .normal s
  | .reg ops, Q, s => vops P ops s (Q .normal)
  | .dreg ops wc, Q, s => dvops P true ops wc s (Q .normal)
  | .dregF ops wc sp, Q, s => dvops P false ops wc s fun s' => chkS sp s' = true ∧ Q .normal s'
  | .areg ops dirs done, Q, s => vany P ops dirs (ops.length - done.length) done s (Q .normal)
  | .chk sp, Q, s => chkS sp s = true ∧ Q .normal s
  | .seq a b, Q, s => vwp P a (fun e s' => match e with | .normal => vwp P b Q s' | e => Q e s') s
  | .seqc a b, Q, s => vwp P a (fun e s' => match e with | .normal => vwp P b Q s' ∨ ∃ s1, s'.fg s1 ∧ vwp P b Q s1 | e => Q e s') s
  | .cond x a b, Q, s => match s.x x with | .bool c => if c = true then vwp P a Q s else vwp P b Q s | _ => False
  | .block id c, Q, s => vwp P c (fun e s' => match e with | .exit i => if i = id then Q .normal s' else Q (.exit i) s' | e => Q e s') s
  | .loop c, Q, s => ∃ (I : Nat → St → Prop) (n : Nat), (∃ s1, (s.thin s1 ∨ s.fg s1) ∧ I n s1) ∧ ∀ n s, I n s → vwp P c (fun e s' => match e with | .normal => ∃ m s1, m < n ∧ (s'.thin s1 ∨ s'.fg s1) ∧ I m s1 | e => Q e s') s
  | .exit id, Q, s => Q (.exit id) s
  | .ret, Q, s => Q .ret s

def VC.falls : VC → Bool
  | .exit _ | .ret | .loop _ => false
  | .seq a b | .seqc a b => a.falls && b.falls
  | .cond _ a b => a.falls || b.falls
  | _ => true

def VC.exits (id : Nat) : VC → Nat
  | .exit i => if i == id then 1 else 0
  | .seq a b | .seqc a b => a.exits id + b.exits id
  | .cond _ a b => a.exits id + b.exits id
  | .block _ c | .loop c => c.exits id
  | _ => 0

/-- Do several ways come out of it? -/
def VC.joins : VC → Bool
  | .cond _ a b => a.falls && b.falls
  | .block id c => decide (2 ≤ c.exits id + if c.falls then 1 else 0)
  | .seq _ b | .seqc _ b => b.joins
  | _ => false

def mkSeq (a b : VC) : VC := if a.joins then (match b with | .skip => .seq a b | _ => .seqc a b) else .seq a b

/-- Is a region to be taken in any order? -/
def anyO (fo : List Nat) (vs : List VOper) : Bool := fo.any fun t => decide (100000 ≤ t) && vs.any fun v => match v.dst with | some d => decide (d + 100000 = t) | none => false

def comp (fo : List Nat) (P : Program) (nt : Nat) : Code → Option VC
  | .skip => some .skip
  | .region _ ops false => (cOpers fo P nt ops.toList ops.toList).map .reg
  | .region _ ops true => (cOpers fo P nt ops.toList ops.toList).bind fun vs =>
    if anyO fo vs then (if P.follows .mixedOrders then some (.areg vs (ops.toList.map Oper.dirs) []) else none) else
    let pre := mkPre ops.toList
    let wc := mkWc fo vs pre
    let ips := mkIps vs wc pre
    if P.follows .mixedOrders && dOkB ops.toList vs wc pre ips then some (match ips with | [] => .dreg vs wc | _ => .dregF vs wc (mkSp vs ips)) else none
  | .seq a b => match comp fo P nt a, comp fo P nt b with | some x, some y => some (mkSeq x y) | _, _ => none
  | .cond c a b => match cX c, comp fo P nt a, comp fo P nt b with | some c, some x, some y => some (.cond c x y) | _, _, _ => none
  | .block id c => (comp fo P nt c).map (.block id)
  | .loop c => (comp fo P nt c).map .loop
  | .exit id => some (.exit id)
  | .ret => some .ret
  | _ => none

theorem VO.step_mono {P : Program} {o : VO} {ρ : X → V} {ob : List (Option VObj)} {K K' : V → List (Option VObj) → Prop} (hk : ∀ v ob, K v ob → K' v ob) (h : o.step P ρ ob K) : o.step P ρ ob K' := by
  unfold VO.step at h ⊢
  split at h
  · split at h
    · obtain ⟨r, ob', h1, h2⟩ := h; exact ⟨r, ob', h1, hk _ _ h2⟩
    · exact h
  all_goals
    split at h
    · first | exact hk _ _ h | exact fun p hp => hk _ _ (h p hp)
    · first | exact h.elim | exact ⟨h.1, hk _ _ h.2.1, hk _ _ h.2.2⟩

theorem vops_mono {P : Program} : ∀ {os : List VOper} {s : St} {K K' : St → Prop}, (∀ s, K s → K' s) → vops P os s K → vops P os s K'
  | [], s, K, K', hk, h => hk s h
  | o :: os, s, K, K', hk, h => by
    simp only [vops, VOper.step] at h ⊢
    split at h
    · exact VO.step_mono (fun v ob h => vops_mono hk h) h
    · split at h
      · split at h
        · rename_i hb; simp only [hb, if_true]; exact VO.step_mono (fun v ob h => vops_mono hk h) h
        · rename_i hb; simp only [hb, if_false]; exact vops_mono hk h
      · exact vops_mono hk h
      · exact h

theorem VO.stepD_mono {P : Program} {o : VO} {fl wc : Bool} {ρ : X → V} {ob : List (Option VObj)} {K K' : V → List (Option VObj) → Prop} (hk : ∀ v ob, K v ob → K' v ob) (h : o.stepD P fl wc ρ ob K) : o.stepD P fl wc ρ ob K' := by
  unfold VO.stepD at h ⊢
  split at h
  · split at h
    · cases wc
      · obtain ⟨r, h1, h2⟩ := h; exact ⟨r, h1, hk _ _ h2⟩
      · cases fl
        · rcases h with ⟨r, h1, h2⟩ | ⟨r, ob', ms, args0, obs, obs', r0, h1, h2⟩
          · exact .inl ⟨r, h1, hk _ _ h2⟩
          · exact .inr ⟨r, ob', ms, args0, obs, obs', r0, h1, hk _ _ h2⟩
        · obtain ⟨r, ob', h1, h2, h3⟩ := h; exact ⟨r, ob', h1, h2, hk _ _ h3⟩
    · exact h
  all_goals
    split at h
    · exact hk _ _ h
    · exact h.elim

theorem dvops_mono {P : Program} {fl : Bool} : ∀ {os : List VOper} {wc : List Bool} {s : St} {K K' : St → Prop}, (∀ s, K s → K' s) → dvops P fl os wc s K → dvops P fl os wc s K'
  | [], _, s, K, K', hk, h => hk s h
  | o :: os, wc, s, K, K', hk, h => by
    simp only [dvops, VOper.stepD] at h ⊢
    split at h
    · exact VO.stepD_mono (fun v ob h => dvops_mono hk h) h
    · split at h
      · split at h
        · rename_i hb; simp only [hb, if_true]; exact VO.stepD_mono (fun v ob h => dvops_mono hk h) h
        · rename_i hb; simp only [hb, if_false]; exact dvops_mono hk h
      · exact dvops_mono hk h
      · exact h

theorem VOper.step_mono {P : Program} {o : VOper} {s : St} {K K' : St → Prop} (hk : ∀ s, K s → K' s) (h : o.step P s K) : o.step P s K' := by
  simp only [VOper.step] at h ⊢
  split at h
  · exact VO.step_mono (fun v ob h => hk _ h) h
  · split at h
    · split at h
      · rename_i hb; simp only [hb, if_true]; exact VO.step_mono (fun v ob h => hk _ h) h
      · rename_i hb; simp only [hb, if_false]; exact hk _ h
    · exact hk _ h
    · exact h
theorem vany_mono {P : Program} {ops : List VOper} {dirs : List (List Nat)} : ∀ {n : Nat} {done : List Nat} {s : St} {K K' : St → Prop}, (∀ s, K s → K' s) → vany P ops dirs n done s K → vany P ops dirs n done s K'
  | 0, done, s, K, K', hk, h => hk s h
  | n + 1, done, s, K, K', hk, h => ⟨fun hr => hk s (h.1 hr), fun i hi o ho => VOper.step_mono (fun s' h' => vany_mono hk h') (h.2 i hi o ho)⟩

theorem vwp_mono {P : Program} : ∀ (c : VC) (Q Q' : VX → St → Prop) (s : St), (∀ e s, Q e s → Q' e s) → vwp P c Q s → vwp P c Q' s := by
  intro c
  induction c with
  | skip => intro Q Q' s hq h; exact hq _ _ h
  | exit id => intro Q Q' s hq h; exact hq _ _ h
  | ret => intro Q Q' s hq h; exact hq _ _ h
  | reg ops =>
    intro Q Q' s hq h
    exact vops_mono (fun s h => hq _ _ h) h
  | dreg ops wc =>
    intro Q Q' s hq h
    exact dvops_mono (fun s h => hq _ _ h) h
  | dregF ops wc sp =>
    intro Q Q' s hq h
    exact dvops_mono (fun s h => ⟨h.1, hq _ _ h.2⟩) h
  | areg ops dirs done =>
    intro Q Q' s hq h
    exact vany_mono (fun s h => hq _ _ h) h
  | chk sp =>
    intro Q Q' s hq h
    exact ⟨h.1, hq _ _ h.2⟩
  | seq a b iha ihb =>
    intro Q Q' s hq h
    refine iha _ _ s ?_ h
    intro e s' he
    cases e
    · exact ihb _ _ s' hq he
    · exact hq _ _ he
    · exact hq _ _ he
  | seqc a b iha ihb =>
    intro Q Q' s hq h
    refine iha _ _ s ?_ h
    intro e s' he
    cases e
    · rcases he with he | ⟨s1, h1, he⟩
      · exact .inl (ihb _ _ s' hq he)
      · exact .inr ⟨s1, h1, ihb _ _ s1 hq he⟩
    · exact hq _ _ he
    · exact hq _ _ he
  | cond x a b iha ihb =>
    intro Q Q' s hq h
    simp only [vwp] at h ⊢
    split at h
    · split at h
      · rename_i hc; rw [if_pos hc]; exact iha _ _ s hq h
      · rename_i hc; rw [if_neg hc]; exact ihb _ _ s hq h
    · exact h
  | block id c ih =>
    intro Q Q' s hq h
    refine ih _ _ s ?_ h
    intro e s' he
    cases e
    · exact hq _ _ he
    · simp only at he ⊢
      split
      · rename_i hi; rw [if_pos hi] at he; exact hq _ _ he
      · rename_i hi; rw [if_neg hi] at he; exact hq _ _ he
    · exact hq _ _ he
  | loop c ih =>
    intro Q Q' s hq h
    obtain ⟨I, n, h0, h1⟩ := h
    refine ⟨I, n, h0, fun n s hI => ih _ _ s ?_ (h1 n s hI)⟩
    intro e s' he
    cases e
    · exact he
    · exact hq _ _ he
    · exact hq _ _ he

/-- The real ends of a piece of code, out of the symbolic ones. -/
def lift (w0 : World) (E0 : Env) (nt : Nat) (Q : VX → St → Prop) : Exit → Act → World → Prop
  | .normal, a, w => Good w0 E0 nt (Q .normal) a w
  | .exit id, a, w => Good w0 E0 nt (Q (.exit id)) a w
  | .ret, a, w => Good w0 E0 nt (Q .ret) a w
  | _, _, _ => False

theorem Rel.thin {w0 w : World} {E0 E : Env} {nt : Nat} {s s1 : St} {a : Act} (hr : Rel w0 E0 nt s a w E) (h : s.thin s1) : Rel w0 E0 nt s1 a w E where
  defers := hr.defers
  size := hr.size
  tmps := fun t => by
    rcases h.2.2 t with q | q
    · rw [q]; exact hr.tmps t
    · rw [q]; trivial
  dom := by rw [h.1]; exact hr.dom
  objs := by rw [h.1]; exact hr.objs
  fresh := hr.fresh
  ext := hr.ext
  base := by rw [h.2.1]; exact hr.base
theorem Rel.less {w0 w : World} {E0 E : Env} {nt : Nat} {s s1 : St} {a : Act} (hr : Rel w0 E0 nt s a w E) (h : s.thin s1 ∨ s.fg s1) : ∃ E', Rel w0 E0 nt s1 a w E' := by
  rcases h with h | h
  · exact ⟨E, hr.thin h⟩
  · exact hr.forget h

theorem nodup_len : ∀ (n : Nat) (l : List Nat), l.Nodup → (∀ i ∈ l, i < n) → l.length ≤ n
  | 0, l, _, h => by
    cases l with
    | nil => exact Nat.le_refl _
    | cons x l => exact absurd (h x List.mem_cons_self) (by omega)
  | n + 1, l, hn, h => by
    have h1 := nodup_len n (l.erase n) (hn.erase n) (fun i hi => by
      have h2 := h i (List.mem_of_mem_erase hi)
      have h3 : i ≠ n := fun e => by subst e; exact (List.Nodup.not_mem_erase hn) hi
      omega)
    have h4 : l.length ≤ (l.erase n).length + 1 := by rw [List.length_erase]; split <;> omega
    omega
theorem vany_sound {fo : List Nat} {P : Program} {ops : Array Oper} {nt : Nat} {w0 : World} {E0 : Env} {Q : Exit → Act → World → Prop} {K : St → Prop} (hQ : ∀ a w, Good w0 E0 nt K a w → Q .normal a w) {vs : List VOper} (hvs : cOpers fo P nt ops.toList ops.toList = some vs) :
    ∀ (n : Nat) (done : List Nat) (listed : Array Bool), listed.size = ops.size → done.length + n = ops.size → done.Nodup → (∀ i, i < ops.size → (listed.getD i false = true ↔ i ∈ done)) → (∀ i ∈ done, i < ops.size) →
    ∀ (s : St) (a : Act) (w : World) (E : Env), Rel w0 E0 nt s a w E → vany P vs (ops.toList.map Oper.dirs) n done s K → wpAny P .any ops Q n listed a w := by
  obtain ⟨hl, hget⟩ := cOpers_get hvs
  have hrd : ∀ (done : List Nat) (listed : Array Bool), listed.size = ops.size → (∀ i, i < ops.size → (listed.getD i false = true ↔ i ∈ done)) → (∀ (i : Nat) o, ops.toList[i]? = some o → ∀ j ∈ Oper.dirs o, j < ops.size ∨ listed.getD j false = false) → ∀ i, i ∈ Region.ready .any ops listed → i ∈ readyL (ops.toList.map Oper.dirs) done := by
    intro done listed hsz hd hdir i hi
    obtain ⟨h1, h2, o, ho, h3⟩ := ready_iff.1 hi
    have h1' : i < ops.size := by simpa using getElem?_lt ho
    unfold readyL
    rw [List.mem_filter, List.mem_range]
    refine ⟨by simpa using h1', ?_⟩
    have hli : listed.getD i false = false := by
      simpa [Array.getD_eq_getD_getElem?, Array.getElem?_eq_getElem (show i < listed.size by omega)] using h2
    have hnd : i ∉ done := fun hm => by rw [(hd i h1').2 hm] at hli; cases hli
    have hg : (ops.toList.map Oper.dirs).getD i [] = Oper.dirs o := by
      rw [List.getD_eq_getElem?_getD, List.getElem?_map, ho]; rfl
    rw [hg]
    simp only [Bool.and_eq_true, Bool.not_eq_true', List.contains_eq_mem, decide_eq_false_iff_not, List.all_eq_true, decide_eq_true_eq]
    refine ⟨hnd, fun j hj => ?_⟩
    have h4 := h3 j hj
    rcases hdir i o ho j hj with h5 | h5
    · exact (hd j h5).1 h4
    · rw [h5] at h4; cases h4
  intro n
  induction n with
  | zero =>
    intro done listed hsz hn hnd hd hdl s a w E hr h
    have hfull : ∀ i, i < ops.size → i ∈ done := by
      intro i hi
      apply Classical.byContradiction
      intro hni
      have h1 : (i :: done).Nodup := List.nodup_cons.2 ⟨hni, hnd⟩
      have h3 := nodup_len ops.size (i :: done) h1 (fun j hj => by
        rcases List.mem_cons.1 hj with rfl | hj
        · exact hi
        · exact hdl j hj)
      simp only [List.length_cons] at h3
      omega
    refine ⟨?_, hQ a w ⟨s, E, h, hr⟩⟩
    rw [List.eq_nil_iff_forall_not_mem]
    intro i hi
    obtain ⟨h1, h2, o, ho, h3⟩ := ready_iff.1 hi
    have h1' : i < ops.size := by simpa using getElem?_lt ho
    have hli : listed.getD i false = false := by
      simpa [Array.getD_eq_getD_getElem?, Array.getElem?_eq_getElem (show i < listed.size by omega)] using h2
    rw [(hd i h1').2 (hfull i h1')] at hli
    cases hli
  | succ n ih =>
    intro done listed hsz hn hnd hd hdl s a w E hr h
    have hdir : ∀ (i : Nat) o, ops.toList[i]? = some o → ∀ j ∈ Oper.dirs o, j < ops.size ∨ listed.getD j false = false := by
      intro i o ho j hj
      rcases Nat.lt_or_ge j ops.size with h' | h'
      · exact .inl h'
      · right
        simp [Array.getD_eq_getD_getElem?, Array.getElem?_eq_none (show listed.size ≤ j by omega)]
    refine ⟨fun hr0 => ?_, fun i hi => ?_⟩
    · refine hQ a w ⟨s, E, h.1 ?_, hr⟩
      rw [List.eq_nil_iff_forall_not_mem]
      intro i hi
      unfold readyL at hi
      rw [List.mem_filter, List.mem_range] at hi
      obtain ⟨hi1, hi2⟩ := hi
      simp only [List.length_map, Array.length_toList] at hi1
      obtain ⟨o, ho⟩ : ∃ o, ops.toList[i]? = some o := ⟨_, List.getElem?_eq_getElem (by simpa using hi1)⟩
      have hg : (ops.toList.map Oper.dirs).getD i [] = Oper.dirs o := by
        rw [List.getD_eq_getElem?_getD, List.getElem?_map, ho]; rfl
      rw [hg] at hi2
      simp only [Bool.and_eq_true, Bool.not_eq_true', List.contains_eq_mem, decide_eq_false_iff_not, List.all_eq_true, decide_eq_true_eq] at hi2
      have hli : listed.getD i false = false := by
        cases hq : listed.getD i false with
        | false => rfl
        | true => exact absurd ((hd i hi1).1 hq) hi2.1
      have hm : i ∈ Region.ready .any ops listed := by
        refine ready_iff.2 ⟨by omega, ?_, o, ho, fun j hj => ?_⟩
        · simpa [Array.getD_eq_getD_getElem?, Array.getElem?_eq_getElem (show i < listed.size by omega)] using hli
        · have := hi2.2 j hj
          exact (hd j (hdl j this)).2 this
      rw [hr0] at hm
      cases hm
    · have hi' := hrd done listed hsz hd hdir i hi
      obtain ⟨h1, h2, o, ho, h3⟩ := ready_iff.1 hi
      have h1' : i < ops.size := by simpa using getElem?_lt ho
      have hli : listed.getD i false = false := by
        simpa [Array.getD_eq_getD_getElem?, Array.getElem?_eq_getElem (show i < listed.size by omega)] using h2
      have hni : i ∉ done := fun hm => by rw [(hd i h1').2 hm] at hli; cases hli
      obtain ⟨v, hv⟩ : ∃ v, vs[i]? = some v := ⟨_, List.getElem?_eq_getElem (by rw [hl]; simpa using h1')⟩
      have hc := hget i o v ho hv
      have hstep := h.2 i hi' v hv
      have go := vop_sound (ops := ops) (Q := Q) hc hr hstep
      have next : ∀ a' w', Good w0 E0 nt (fun s' => vany P vs (ops.toList.map Oper.dirs) n (i :: done) s' K) a' w' → wpAny P .any ops Q n (listed.setIfInBounds i true) a' w' := by
        rintro a' w' ⟨s', E', hk, hr'⟩
        refine ih (i :: done) (listed.setIfInBounds i true) (by simpa using hsz) (by simp only [List.length_cons]; omega) (List.nodup_cons.2 ⟨hni, hnd⟩) ?_ ?_ s' a' w' E' hr' hk
        · intro j hj
          by_cases hij : i = j
          · subst hij
            have : (listed.setIfInBounds i true).getD i false = true := by
              simp [Array.getD_eq_getD_getElem?, Array.getElem?_setIfInBounds, show i < listed.size by omega]
            simp [this]
          · have : (listed.setIfInBounds i true).getD j false = listed.getD j false := by
              simp [Array.getD_eq_getD_getElem?, Array.getElem?_setIfInBounds, hij]
            rw [this, hd j hj, List.mem_cons]
            constructor
            · exact fun h => .inr h
            · rintro (h | h)
              · exact absurd h.symm hij
              · exact h
        · intro j hj
          rcases List.mem_cons.1 hj with rfl | hj
          · exact h1'
          · exact hdl j hj
      have hoi : ops[i]? = some o := by simpa using ho
      unfold wpOp
      rw [hoi]
      simp only
      split at go
      · rename_i hw
        rw [if_pos hw]
        exact .inl (Oper.wp_mono next go)
      · rename_i hw
        rw [if_neg hw]
        exact next _ _ go

theorem vwp_sound {fo : List Nat} {P : Program} {nt : Nat} {w0 : World} {E0 : Env} : ∀ (c : Code) (vc : VC), comp fo P nt c = some vc → ∀ (Q : VX → St → Prop) (s : St) (a : Act) (w : World) (E : Env), Rel w0 E0 nt s a w E → vwp P vc Q s → c.wp P (lift w0 E0 nt Q) a w
  | .skip, vc, hc, Q, s, a, w, E, hr, h => by
    simp only [comp, Option.some.injEq] at hc; subst hc
    exact wp_skip ⟨s, E, h, hr⟩
  | .exit id, vc, hc, Q, s, a, w, E, hr, h => by
    simp only [comp, Option.some.injEq] at hc; subst hc
    exact wp_exit ⟨s, E, h, hr⟩
  | .ret, vc, hc, Q, s, a, w, E, hr, h => by
    simp only [comp, Option.some.injEq] at hc; subst hc
    exact wp_ret ⟨s, E, h, hr⟩
  | .region id ops draw, vc, hc, Q, s, a, w, E, hr, h => by
    cases draw with
    | false =>
      simp only [comp] at hc
      obtain ⟨vs, hvs, rfl⟩ := opt_bind hc
      exact wp_region_list (vops_sound (fun a w hg => hg) _ _ hvs s a w E hr h)
    | true =>
      simp only [comp] at hc
      obtain ⟨vs, hvs, hc⟩ := Option.bind_eq_some_iff.1 hc
      by_cases hany : anyO fo vs = true
      · rw [if_pos hany] at hc
        split at hc <;> simp only [reduceCtorEq, Option.some.injEq] at hc
        rename_i hm
        subst hc
        refine wp_region_any hm ?_
        have hr' : Rel w0 E0 nt s a { w with drawn := w.drawn + 1 } E := by
          have hx := (RExt.drew w E).ext
          exact ⟨hr.defers, hr.size, fun t => Rep.ext hx _ _ (hr.tmps t), hr.dom, fun k o hk => (hr.objs k o hk).rext (RExt.drew w E) ((hr.dom k).2 (getElem?_lt hk)), hr.fresh, hr.ext.trans hx, hr.base⟩
        have hlv : vs.length = ops.size := by
          have := (cOpers_get hvs).1
          simpa using this
        have h2 : vany P vs (ops.toList.map Oper.dirs) (vs.length - 0) [] s (Q .normal) := h
        rw [Nat.sub_zero, hlv] at h2
        refine vany_sound (fun a w hg => hg) hvs ops.size [] _ (by simp) (by simp) List.nodup_nil ?_ (fun i hi => by cases hi) s a _ E hr' h2
        intro i hi
        simp [Array.getD_eq_getD_getElem?, Array.getElem?_replicate, hi]
      rw [if_neg hany] at hc
      split at hc <;> simp only [reduceCtorEq, Option.some.injEq] at hc
      rename_i hok
      subst hc
      simp only [Bool.and_eq_true] at hok
      split at h
      · rename_i he
        obtain ⟨S, h1, h2, h3⟩ := dvops_chain h
        rw [he] at hok
        exact dreg_sound hok.1 (dOk_of hok.2) hvs h2 (fun a w E hr => ⟨_, E, h3, hr⟩) (fun _ => rfl) rfl (h1 ▸ hr)
      · obtain ⟨S, h1, h2, h3⟩ := dvops_chain h
        exact dreg_sound hok.1 (dOk_of hok.2) hvs h2 (fun a w E hr => ⟨_, E, h3.2, hr⟩) (fun e => by cases e) h3.1 (h1 ▸ hr)
  | .seq x y, vc, hc, Q, s, a, w, E, hr, h => by
    simp only [comp] at hc
    split at hc <;> simp only [reduceCtorEq, Option.some.injEq] at hc
    rename_i vx vy hx hy
    have h' : vwp P (.seqc vx vy) Q s := by
      subst hc
      unfold mkSeq at h
      have up : vwp P (.seq vx vy) Q s → vwp P (.seqc vx vy) Q s := by
        intro h
        simp only [vwp] at h ⊢
        refine vwp_mono vx _ _ s (fun e s' he => ?_) h
        cases e
        · exact .inl he
        · exact he
        · exact he
      split at h
      · split at h
        · exact up h
        · exact h
      · exact up h
    simp only [vwp] at h'
    refine wp_seq (wp_mono (vwp_sound x vx hx _ s a w E hr h') ?_)
    intro e a' w' hl
    cases e <;> simp only [lift, Exit.then] at hl ⊢
    · obtain ⟨s', E', hk, hr'⟩ := hl
      rcases hk with hk | ⟨s1, hfg, hk⟩
      · exact vwp_sound y vy hy Q s' a' w' E' hr' hk
      · obtain ⟨E1, hr1⟩ := hr'.forget hfg
        exact vwp_sound y vy hy Q s1 a' w' E1 hr1 hk
    all_goals exact hl
  | .cond c x y, vc, hc, Q, s, a, w, E, hr, h => by
    simp only [comp] at hc
    split at hc <;> simp only [reduceCtorEq, Option.some.injEq] at hc
    rename_i X vx vy hX hx hy
    subst hc
    simp only [vwp] at h
    split at h <;> try (exact h.elim)
    rename_i b hb
    have hv := hr.x hX
    rw [hb] at hv
    simp only [Rep] at hv
    refine wp_cond hv ?_
    cases b
    · simp only [Bool.false_eq_true, if_false] at h ⊢
      exact vwp_sound y vy hy Q s a w E hr h
    · simp only [if_true] at h ⊢
      exact vwp_sound x vx hx Q s a w E hr h
  | .block id c, vc, hc, Q, s, a, w, E, hr, h => by
    simp only [comp] at hc
    obtain ⟨v, hv, rfl⟩ := opt_bind hc
    simp only [vwp] at h
    refine wp_block (wp_mono (vwp_sound c v hv _ s a w E hr h) ?_)
    intro e a' w' hl
    cases e with
    | exit i =>
      simp only [lift, Exit.inBlock] at hl ⊢
      split
      · rename_i hi
        simp only [hi, if_true] at hl
        exact hl
      · rename_i hi
        simp only [hi, if_false] at hl
        exact hl
    | _ => exact hl
  | .loop c, vc, hc, Q, s, a, w, E, hr, h => by
    simp only [comp] at hc
    obtain ⟨v, hv, rfl⟩ := opt_bind hc
    simp only [vwp] at h
    obtain ⟨I, n, ⟨s1, hfg, h0⟩, hround⟩ := h
    obtain ⟨E1, hr1⟩ := hr.less hfg
    -- by the measure
    have key : ∀ n s a w E, I n s → Rel w0 E0 nt s a w E → (Code.loop c).wp P (lift w0 E0 nt Q) a w := by
      intro n0 s0 a0 w0' E0' hI0 hr0
      refine wp_loop_ghost (fun m a w => ∃ s E, I m s ∧ Rel w0 E0 nt s a w E) n0 ⟨s0, E0', hI0, hr0⟩ ?_
      rintro m a w ⟨s, E, hI, hr⟩
      refine wp_mono (vwp_sound c v hv _ s a w E hr (hround m s hI)) ?_
      intro e a' w' hl
      cases e <;> simp only [lift, Exit.then] at hl ⊢
      · obtain ⟨s', E', ⟨m', s2, hm, hfg', hI'⟩, hr'⟩ := hl
        obtain ⟨E2, hr2⟩ := hr'.less hfg'
        exact ⟨m', hm, s2, E2, hI', hr2⟩
      all_goals exact hl
    exact key n s1 a w E1 h0 hr1
  | .rangeFunc _ _ _ _, vc, hc, Q, s, a, w, E, hr, h => by simp [comp] at hc
  | .scope _, vc, hc, Q, s, a, w, E, hr, h => by simp [comp] at hc
  | .label _, vc, hc, Q, s, a, w, E, hr, h => by simp [comp] at hc
  | .goto _, vc, hc, Q, s, a, w, E, hr, h => by simp [comp] at hc
  | .refuse _, vc, hc, Q, s, a, w, E, hr, h => by simp [comp] at hc
end Go.Proofs.VL

namespace Go.Proofs.VL
open Go Go.RowKit
set_option linter.unusedSimpArgs false
set_option linter.unusedVariables false

inductive RV where
  | t (n : Nat)
  | cell (t : Nat) (agg : Bool) (sz : Nat)

def cRes (P : Program) : List ResultVar → Option (List RV)
  | [] => some []
  | .tmp t :: r => (cRes P r).map (.t t :: ·)
  | .cell t ty :: r => match szB P ty, cRes P r with | some s, some l => some (.cell t (aggB P ty) s :: l) | _, _ => none

def RV.get (s : St) : RV → Option V
  | .t n => some (s.get n)
  | .cell c agg sz => (loadFrom s.ob (s.get c)).bind (loadV agg sz)

def resL (s : St) : List RV → Option (List V)
  | [] => some []
  | r :: rs => match r.get s, resL s rs with | some v, some vs => some (v :: vs) | _, _ => none

def resV (s : St) (rs : List RV) : Option V :=
  match resL s rs with
  | some [v] => some v
  | some l => some (.tup l)
  | none => none

def resFn (tmps : Array Value) : ResultVar → Sem Value
  | .tmp t => pure (tmps.getD t undef)
  | .cell c t => do loadVar t (← asAddr (tmps.getD c undef))

theorem results_eq (fn : Func) (tmps : Array Value) : results fn tmps = (do let vs ← fn.results.mapM (resFn tmps); pure (if h : vs.size = 1 then vs[0] else .tuple vs) : Sem Value) := by
  unfold results
  congr

theorem res_sound {P : Program} {fn : Func} {rs : List RV} (hc : cRes P fn.results.toList = some rs) {w0 w : World} {E0 E : Env} {nt : Nat} {s : St} {a : Act} (hr : Rel w0 E0 nt s a w E) {x : V} (h : resV s rs = some x) :
    ∃ v, (results fn a.tmps).run P w = .ok v w ∧ Rep w E x v := by
  have list : ∀ (rl : List ResultVar) (rs : List RV) (vs : List V), cRes P rl = some rs → resL s rs = some vs → ∃ us, (rl.mapM (resFn a.tmps)).run P w = .ok us w ∧ RepL w E vs us := by
    intro rl
    induction rl with
    | nil => intro rs vs h1 h2; simp [cRes] at h1; subst h1; simp [resL] at h2; subst h2; exact ⟨[], by simp, rfl⟩
    | cons q rl ih =>
      intro rs vs h1 h2
      cases q with
      | tmp t =>
        simp only [cRes] at h1
        obtain ⟨rs', h3, rfl⟩ := opt_bind h1
        simp only [resL, RV.get] at h2
        split at h2 <;> simp only [reduceCtorEq, Option.some.injEq] at h2
        rename_i v vs' h4 h5
        subst h2
        simp only [Option.some.injEq] at h4
        obtain ⟨us, g1, g2⟩ := ih rs' vs' h3 h5
        exact ⟨a.tmps.getD t undef :: us, by simp only [List.mapM_cons, resFn, Sem.run_bind, Sem.run_pure, Result.andThen_ok, g1], _, us, rfl, by rw [← h4]; exact hr.tmps t, g2⟩
      | cell c t =>
        simp only [cRes] at h1
        split at h1 <;> simp only [reduceCtorEq, Option.some.injEq] at h1
        rename_i sz rs' h3 h4
        subst h1
        simp only [resL, RV.get] at h2
        split at h2 <;> simp only [reduceCtorEq, Option.some.injEq] at h2
        rename_i v vs' h5 h6
        subst h2
        obtain ⟨cs, h7, h8⟩ := Option.bind_eq_some_iff.1 h5
        obtain ⟨b, off, us0, q1, q2, q3⟩ := loadFrom_rep (fun k o _ => hr.objs k o) (hr.tmps c) h7
        obtain ⟨u, g3, g4⟩ := loadVar_run (P := P) (w := w) h3 q2 q3 h8
        obtain ⟨us, g1, g2⟩ := ih rs' vs' h4 h6
        refine ⟨u :: us, ?_, _, us, rfl, g4, g2⟩
        have ha : (asAddr (a.tmps.getD c undef)).run P w = .ok ⟨b, off, none⟩ w := by rw [q1]; rfl
        simp only [List.mapM_cons, resFn, Sem.run_bind, ha, Sem.run_pure, Result.andThen_ok, g3, g1]
  unfold resV at h
  split at h <;> simp only [reduceCtorEq, Option.some.injEq] at h
  · rename_i v hl
    subst h
    obtain ⟨us, g1, g2⟩ := list _ _ _ hc hl
    simp only [RepL] at g2
    obtain ⟨u, us', rfl, g3, rfl⟩ := g2
    refine ⟨u, ?_, g3⟩
    rw [results_eq, Array.mapM_eq_mapM_toList]
    simp only [Sem.run_bind, Sem.run_map, g1, Result.andThen_ok, Sem.run_pure]
    rfl
  · rename_i l hne hl
    subst h
    obtain ⟨us, g1, g2⟩ := list _ _ _ hc hl
    have hul := g2.length
    have hne1 : ¬ us.length = 1 := by
      intro he
      rw [he] at hul
      cases l with
      | nil => simp at hul
      | cons v l =>
        cases l with
        | nil => exact hne v rfl
        | cons _ _ => simp at hul
    refine ⟨.tuple ⟨us⟩, ?_, us, rfl, g2⟩
    rw [results_eq, Array.mapM_eq_mapM_toList]
    simp only [Sem.run_bind, Sem.run_map, g1, Result.andThen_ok, Sem.run_pure]
    have : ¬ (List.toArray us).size = 1 := by simpa using hne1
    rw [dif_neg this]

def St.init (args : List V) (ob : List (Option VObj)) : St := { tm := args.zipIdx.map fun p => (p.2, p.1), ob := ob, base := ob.length }

theorem init_get {args : List V} {ob : List (Option VObj)} (t : Nat) : (St.init args ob).get t = (args[t]?).getD .junk := by
  unfold St.get St.init
  simp only
  have : ∀ (l : List V) (k : Nat), (List.lookup t ((l.zipIdx k).map fun p => (p.2, p.1))) = if k ≤ t then l[t - k]? else none := by
    intro l
    induction l with
    | nil => intro k; simp
    | cons x l ih =>
      intro k
      simp only [List.zipIdx_cons, List.map_cons, List.lookup]
      by_cases h : t = k
      · subst h; simp
      · have hb : (t == k) = false := by simpa using h
        rw [hb]
        simp only
        rw [ih (k + 1)]
        by_cases hle : k ≤ t
        · rw [if_pos hle, if_pos (by omega)]
          have : t - k = (t - (k + 1)) + 1 := by omega
          rw [this]; simp
        · rw [if_neg hle, if_neg (by omega)]
  rw [this args 0]
  simp

theorem Rel.init {w : World} {E : Env} {args : List V} {vs : List Value} {ob : List (Option VObj)} {nt : Nat} (hn : args.length ≤ nt) (hdom : ∀ k, E.dom k ↔ k < ob.length) (hob : ∀ k o, ob[k]? = some (some o) → ObjRep w E k o) (hf : ∀ b, w.heap.size ≤ b → E.lab b = .imm) (h : RepL w E args vs) :
    Rel w E.dry nt (St.init args ob) { tmps := (⟨vs⟩ : Array Value) ++ Array.replicate (nt - (⟨vs⟩ : Array Value).size) undef, defers := [] } w E where
  defers := rfl
  size := by have := h.length; simp; omega
  tmps := by
    intro t
    rw [init_get]
    cases hx : args[t]? with
    | none => trivial
    | some x =>
      obtain ⟨v, h1, h2⟩ := h.get hx
      simp only [Option.getD_some]
      have : ((⟨vs⟩ : Array Value) ++ Array.replicate (nt - (⟨vs⟩ : Array Value).size) undef).getD t undef = v := by
        rw [Array.getD_eq_getD_getElem?, Array.getElem?_append_left]
        · simp [h1]
        · rcases Nat.lt_or_ge t vs.length with h' | h'
          · simpa using h'
          · rw [List.getElem?_eq_none h'] at h1; cases h1
      rw [this]; exact h2
  dom := hdom
  objs := hob
  fresh := hf
  ext := (Ext.refl w E).toBare
  base := fun k hk => (hdom k).1 hk

/-- The end of a function whose result is a value. -/
def RetV (rs : List RV) (r : V) : VX → St → Prop
  | .exit _, _ => False
  | _, s => ∃ x y, resV s rs = some x ∧ lendV s.ob x = some y ∧ Sub y r

structure FnOkF (fo : List Nat) (P : Program) (f : FuncId) (fn : Func) (vc : VC) (rs : List RV) : Prop where
  func : P.funcs[f]? = some fn
  body : fn.body.bind (comp fo P fn.ntmps) = some vc
  res : cRes P fn.results.toList = some rs
  name : (fn.name == "runtime.NumGoroutine") = false

abbrev FnOk (P : Program) (f : FuncId) (fn : Func) (vc : VC) (rs : List RV) : Prop := FnOkF [] P f fn vc rs

theorem FnOkF.enter {fo : List Nat} {P : Program} {f : FuncId} {fn : Func} {vc : VC} {rs : List RV} (h : FnOkF fo P f fn vc rs) : Enter P f := by
  refine ⟨fn, h.func, ?_, h.name⟩
  have := h.body
  cases hb : fn.body with
  | none => rw [hb] at this; cases this
  | some c => rfl

/-- A function of values. -/
theorem VFn.intro {fo : List Nat} {P : Program} {f : FuncId} {fn : Func} {vc : VC} {rs : List RV} (hok : FnOkF fo P f fn vc rs) {args : List V} {r : V} (hn : args.length ≤ fn.ntmps) (h : vwp P vc (RetV rs r) (St.init args [])) : VFn P f args r := by
  refine ⟨hok.enter, fun w E vs hdom hob hf hr => ?_⟩
  obtain ⟨c, hb, hc⟩ := Option.bind_eq_some_iff.1 hok.body
  refine calls_of_wp hok.func hb ?_
  refine wp_mono (vwp_sound c vc hc _ _ _ _ _ (Rel.init hn hdom hob hf hr) h) ?_
  intro e a w' hl
  have fin : (∃ s E', (∃ x y, resV s rs = some x ∧ lendV s.ob x = some y ∧ Sub y r) ∧ Rel w E.dry fn.ntmps s a w' E') → a.defers = [] ∧ ∃ v, (results fn a.tmps).run P w' = .ok v w' ∧ ∃ v_1 E', Ending.returned v = .returned v_1 ∧ WRes E w r [] v_1 w' E' := by
    rintro ⟨s, E', ⟨x, y, hx, hlend, hsub⟩, hrel⟩
    obtain ⟨v, h1, h2⟩ := res_sound hok.res hrel hx
    refine ⟨hrel.defers, v, h1, v, E'.lend s.ob, rfl, ?_⟩
    have hrep := Rep.sub hsub (lend_rep (fun k o _ => hrel.objs k o) x y v hlend h2)
    refine ⟨?_, fun k => by simp [Env.lend], hrep, fun k o hk => by simp at hk, fun b hb => lend_imm.2 (.inl (hrel.fresh b hb))⟩
    have hx := hrel.ext.ofBare
    have hd0 : ∀ k, ¬ E.dom k := fun k hk => by have := (hdom k).1 hk; simp at this
    refine ⟨hx.os, hx.tape, hx.output, hx.size, ?_, ?_, fun k hk => absurd hk (hd0 k), fun k hk => absurd hk (hd0 k), fun k hk => absurd hk (hd0 k), fun k hk => absurd hk (hd0 k)⟩
    · intro b hb hl
      obtain ⟨q1, q2⟩ := hx.imm b hb hl
      exact ⟨lend_imm.2 (.inl q1), q2⟩
    · intro b hb hl
      obtain ⟨q1, q2⟩ := hx.ext b hb hl
      refine ⟨?_, q2⟩
      rcases lend_or (E := E') (ob := s.ob) b with h3 | h3
      · rcases lend_imm.1 h3 with h4 | ⟨k, o, hk, ho, hnk, hbk⟩
        · rw [q1] at h4; cases h4
        · have := lend_lab (hrel.objs k _ ho) hnk
          rw [hbk, q1] at this; cases this
      · exact h3
  cases e with
  | normal => exact fin hl
  | ret => exact fin hl
  | exit id => obtain ⟨s, E', hk, _⟩ := hl; exact hk.elim
  | goto l => exact hl.elim
  | panic ch => exact hl.elim
  | outgrown => exact hl.elim

/-- A loop, by a state for each value of what goes on. -/
theorem vwp_loop {P : Program} {c : VC} {Q : VX → St → Prop} {s : St} {γ : Type} (S : γ → St) (ok : γ → Prop) (μ : γ → Nat) (g0 : γ) (h0 : ok g0) (hs : s.fg (S g0))
    (hr : ∀ g, ok g → vwp P c (fun e s' => match e with | .normal => ∃ g', ok g' ∧ μ g' < μ g ∧ s'.fg (S g') | e => Q e s') (S g)) : vwp P (.loop c) Q s := by
  refine ⟨fun n s => ∃ g, ok g ∧ μ g = n ∧ s = S g, μ g0, ⟨S g0, .inr hs, g0, h0, rfl, rfl⟩, ?_⟩
  rintro n s ⟨g, hg, rfl, rfl⟩
  refine vwp_mono c _ _ _ ?_ (hr g hg)
  intro e s' he
  cases e
  · obtain ⟨g', h1, h2, h3⟩ := he
    exact ⟨μ g', S g', h2, .inr h3, g', h1, rfl, rfl⟩
  · exact he
  · exact he
end Go.Proofs.VL

namespace Go.Proofs.VL
open Go Go.RowKit
set_option linter.unusedSimpArgs false
set_option linter.unusedVariables false

/-- The end of a function that leaves objects. -/
def RetC (rs : List RV) (r : V) (ob' : List (Option VObj)) : VX → St → Prop
  | .exit _, _ => False
  | _, s => ∃ x, resV s rs = some x ∧ (St.mk [(0, x)] s.ob s.base).fg (St.mk [(0, r)] ob' s.base)

/-- A function of values and objects. -/
theorem VCall.intro {fo : List Nat} {P : Program} {f : FuncId} {fn : Func} {vc : VC} {rs : List RV} (hok : FnOkF fo P f fn vc rs) {args : List V} {r : V} {ob ob' : List (Option VObj)} (hn : args.length ≤ fn.ntmps) (h : vwp P vc (RetC rs r ob') (St.init args ob)) : VCall P f args ob r ob' := by
  refine ⟨hok.enter, fun w E vs hdom hob hf hr => ?_⟩
  obtain ⟨c, hb, hc⟩ := Option.bind_eq_some_iff.1 hok.body
  refine calls_of_wp hok.func hb ?_
  refine wp_mono (vwp_sound c vc hc _ _ _ _ _ (Rel.init hn hdom hob hf hr) h) ?_
  intro e a w' hl
  have fin : (∃ s E', (∃ x, resV s rs = some x ∧ (St.mk [(0, x)] s.ob s.base).fg (St.mk [(0, r)] ob' s.base)) ∧ Rel w E.dry fn.ntmps s a w' E') → a.defers = [] ∧ ∃ v, (results fn a.tmps).run P w' = .ok v w' ∧ ∃ v_1 E', Ending.returned v = .returned v_1 ∧ WRes E w r ob' v_1 w' E' := by
    rintro ⟨s, E', ⟨x, hx, hfg⟩, hrel⟩
    obtain ⟨v, h1, h2⟩ := res_sound hok.res hrel hx
    have h3 : Rel w E.dry 1 (St.mk [(0, x)] s.ob s.base) { tmps := #[v], defers := [] } w' E' := by
      refine ⟨rfl, rfl, fun t => ?_, hrel.dom, hrel.objs, hrel.fresh, hrel.ext, hrel.base⟩
      cases t with
      | zero => exact h2
      | succ t => simp [St.get, List.lookup, Rep]
    obtain ⟨E2, h4⟩ := h3.forget hfg
    exact ⟨hrel.defers, v, h1, v, E2, rfl, h4.ext.ofBare, h4.dom, h4.tmps 0, h4.objs, h4.fresh⟩
  cases e with
  | normal => exact fin hl
  | ret => exact fin hl
  | exit id => obtain ⟨s, E', hk, _⟩ := hl; exact hk.elim
  | goto l => exact hl.elim
  | panic ch => exact hl.elim
  | outgrown => exact hl.elim
end Go.Proofs.VL

namespace Go.Proofs.VL
open Go Go.RowKit
set_option linter.unusedSimpArgs false
set_option linter.unusedVariables false

theorem nr {α : Sort _} {a b : α} (h : a = b) : a = b := h

/-! ### stepping -/
def VO.isCall : VO → Bool
  | .call _ _ => true
  | _ => false

/-- The value of an operation that calls nothing, and the objects then. -/
def VO.run (o : VO) (ρ : X → V) (ob : List (Option VObj)) : Option (V × List (Option VObj)) :=
  match o with
  | .call _ _ => none
  | .store sz a x => VO.evW (.store sz a x) ρ ob
  | .app e sz b x y => VO.evW (.app e sz b x y) ρ ob
  | .apps e x y => VO.evW (.apps e x y) ρ ob
  | .upd kd m k x => VO.evW (.upd kd m k x) ρ ob
  | .del kd m k => VO.evW (.del kd m k) ρ ob
  | .clr s z x => VO.evW (.clr s z x) ρ ob
  | o => (o.evR ρ ob).map fun p => (p.1, ob ++ p.2.map some)

def VO.isE : VO → Bool
  | .eqn _ _ _ _ => true
  | .nxt _ => true
  | .ent _ => true
  | _ => false

theorem step_run {P : Program} {o : VO} (hc : o.isCall = false) {ρ : X → V} {ob : List (Option VObj)} {K : V → List (Option VObj) → Prop} {v : V} {ob' : List (Option VObj)} (h : o.run ρ ob = some (v, ob')) (hk : K v ob') : o.step P ρ ob K := by
  cases o <;> simp only [VO.isCall, Bool.true_eq_false] at hc <;> simp only [VO.run] at h <;> simp only [VO.step]
  case store => rw [h]; exact hk
  case app => rw [h]; exact hk
  case apps => rw [h]; exact hk
  case upd => rw [h]; exact hk
  case del => rw [h]; exact hk
  case clr => rw [h]; exact hk
  case nxt => simp [VO.evR] at h
  case ent => simp [VO.evR] at h
  all_goals
    rw [Option.map_eq_some_iff] at h
    obtain ⟨⟨a, b⟩, h1, h2⟩ := h
    simp only [Prod.mk.injEq] at h2
    obtain ⟨rfl, rfl⟩ := h2
    rw [h1]; exact hk

theorem stepD_run {P : Program} {o : VO} {wc : Bool × Bool} (hc : o.isCall = false) {ρ : X → V} {ob : List (Option VObj)} {K : V → List (Option VObj) → Prop} {v : V} {ob' : List (Option VObj)} (h : o.run ρ ob = some (v, ob')) (hk : K v ob') : o.stepD P wc.1 wc.2 ρ ob K := by
  cases o <;> simp only [VO.isCall, Bool.true_eq_false] at hc <;> simp only [VO.run] at h <;> simp only [VO.stepD]
  case store => rw [h]; exact hk
  case app => rw [h]; exact hk
  case apps => rw [h]; exact hk
  case upd => rw [h]; exact hk
  case del => rw [h]; exact hk
  case clr => rw [h]; exact hk
  all_goals
    rw [Option.map_eq_some_iff] at h
    obtain ⟨⟨a, b⟩, h1, h2⟩ := h
    simp only [Prod.mk.injEq] at h2
    obtain ⟨rfl, rfl⟩ := h2
    rw [h1]; exact hk

def mstep (P : Program) (m : Option (Bool × Bool)) (o : VOper) (s : St) (K : St → Prop) : Prop :=
  match m with
  | none => o.step P s K
  | some wc => o.stepD P wc.1 wc.2 s K

def mops (P : Program) : List (Option (Bool × Bool) × VOper) → St → (St → Prop) → Prop
  | [], s, K => K s
  | p :: os, s, K => mstep P p.1 p.2 s fun s' => mops P os s' K

def tagN : List VOper → List (Option (Bool × Bool) × VOper)
  | [] => []
  | o :: os => (none, o) :: tagN os

def tagD (fl : Bool) : List VOper → List Bool → List (Option (Bool × Bool) × VOper)
  | [], _ => []
  | o :: os, wc => (some (fl, wc.headD false), o) :: tagD fl os wc.tail

theorem mops_tagN {P : Program} : ∀ {os : List VOper} {s : St} {K : St → Prop}, mops P (tagN os) s K → vops P os s K
  | [], s, K, h => h
  | o :: os, s, K, h => by
    simp only [tagN, mops, mstep] at h
    simp only [vops, VOper.step] at h ⊢
    split at h
    · exact VO.step_mono (fun v ob h => mops_tagN h) h
    · split at h
      · split at h
        · rename_i hb; simp only [hb, if_true]; exact VO.step_mono (fun v ob h => mops_tagN h) h
        · rename_i hb; simp only [hb, if_false]; exact mops_tagN h
      · exact mops_tagN h
      · exact h

theorem mops_tagD {P : Program} {fl : Bool} : ∀ {os : List VOper} {wc : List Bool} {s : St} {K : St → Prop}, mops P (tagD fl os wc) s K → dvops P fl os wc s K
  | [], _, s, K, h => h
  | o :: os, wc, s, K, h => by
    simp only [tagD, mops, mstep] at h
    simp only [dvops, VOper.stepD] at h ⊢
    split at h
    · exact VO.stepD_mono (fun v ob h => mops_tagD h) h
    · split at h
      · split at h
        · rename_i hb; simp only [hb, if_true]; exact VO.stepD_mono (fun v ob h => mops_tagD h) h
        · rename_i hb; simp only [hb, if_false]; exact mops_tagD h
      · exact mops_tagD h
      · exact h

inductive Fr where
  | seq (b : VC)
  | block (id : Nat)

def kont (P : Program) : List Fr → (VX → St → Prop) → VX → St → Prop
  | [], Q => Q
  | .seq b :: fs, Q => fun e s' => match e with | .normal => vwp P b (kont P fs Q) s' | e => kont P fs Q e s'
  | .block id :: fs, Q => fun e s' => match e with | .exit i => if i = id then kont P fs Q .normal s' else kont P fs Q (.exit i) s' | e => kont P fs Q e s'

/-- What is still to do: operations, then code, then what stands around it. -/
def vk (P : Program) (os : List (Option (Bool × Bool) × VOper)) (c : VC) (fs : List Fr) (Q : VX → St → Prop) (s : St) : Prop := mops P os s fun s' => vwp P c (kont P fs Q) s'

section
variable {P : Program} {os : List (Option (Bool × Bool) × VOper)} {c a b : VC} {fs : List Fr} {Q : VX → St → Prop} {s : St}

theorem vk_start (h : vk P [] c [] Q s) : vwp P c Q s := h
theorem vk_seq (h : vk P [] a (.seq b :: fs) Q s) : vk P [] (.seq a b) fs Q s := h
theorem vk_block {id : Nat} (h : vk P [] a (.block id :: fs) Q s) : vk P [] (.block id a) fs Q s := h
theorem vk_skip_seq (h : vk P [] b fs Q s) : vk P [] .skip (.seq b :: fs) Q s := h
theorem vk_skip_block {id : Nat} (h : vk P [] .skip fs Q s) : vk P [] .skip (.block id :: fs) Q s := h
theorem vk_skip_nil (h : Q .normal s) : vk P [] .skip [] Q s := h
theorem vk_exit_seq {i : Nat} (h : vk P [] (.exit i) fs Q s) : vk P [] (.exit i) (.seq b :: fs) Q s := h
theorem vk_exit_eq {i : Nat} (h : vk P [] .skip fs Q s) : vk P [] (.exit i) (.block i :: fs) Q s := by
  show (if i = i then _ else _)
  rw [if_pos rfl]; exact h
theorem vk_exit_ne {i j : Nat} (hne : (i == j) = false) (h : vk P [] (.exit i) fs Q s) : vk P [] (.exit i) (.block j :: fs) Q s := by
  show (if i = j then _ else _)
  rw [if_neg (by simpa using hne)]; exact h
theorem vk_exit_nil {i : Nat} (h : Q (.exit i) s) : vk P [] (.exit i) [] Q s := h
theorem vk_ret_cons {f : Fr} (h : vk P [] .ret fs Q s) : vk P [] .ret (f :: fs) Q s := by cases f <;> exact h
theorem vk_ret_nil (h : Q .ret s) : vk P [] .ret [] Q s := h
theorem vk_reg {ops : List VOper} (h : vk P (tagN ops) .skip fs Q s) : vk P [] (.reg ops) fs Q s := mops_tagN (K := fun s' => kont P fs Q .normal s') h
theorem vk_dreg {ops : List VOper} {wc : List Bool} (h : vk P (tagD true ops wc) .skip fs Q s) : vk P [] (.dreg ops wc) fs Q s := mops_tagD (K := fun s' => kont P fs Q .normal s') h
theorem vk_true {x : X} (hx : s.x x = .bool true) (h : vk P [] a fs Q s) : vk P [] (.cond x a b) fs Q s := by
  show vwp P (.cond x a b) _ s
  simp only [vwp, hx, if_true]; exact h
theorem vk_false {x : X} (hx : s.x x = .bool false) (h : vk P [] b fs Q s) : vk P [] (.cond x a b) fs Q s := by
  show vwp P (.cond x a b) _ s
  simp only [vwp, hx, Bool.false_eq_true, if_false]; exact h
theorem vk_if {x : X} {p : Prop} [Decidable p] (hx : s.x x = .bool (decide p)) (h1 : p → vk P [] a fs Q s) (h2 : ¬ p → vk P [] b fs Q s) : vk P [] (.cond x a b) fs Q s := by
  by_cases hp : p
  · exact vk_true (by rw [hx]; simp [hp]) (h1 hp)
  · exact vk_false (by rw [hx]; simp [hp]) (h2 hp)
theorem vk_cond {x : X} {t : Bool} (hx : s.x x = .bool t) (h1 : t = true → vk P [] a fs Q s) (h2 : t = false → vk P [] b fs Q s) : vk P [] (.cond x a b) fs Q s := by
  cases t
  · exact vk_false hx (h2 rfl)
  · exact vk_true hx (h1 rfl)

theorem vk_op {m : Option (Bool × Bool)} {d : Option Nat} {o : VO} {v : V} {ob' : List (Option VObj)} (hc : o.isCall = false) (hr : o.run s.x s.ob = some (v, ob')) (h : vk P os c fs Q (({ s with ob := ob' } : St).putO d v)) : vk P ((m, ⟨d, o, none⟩) :: os) c fs Q s := by
  show mstep P m ⟨d, o, none⟩ s _
  cases m with
  | none => exact step_run (K := fun v ob' => mops P os (({ s with ob := ob' } : St).putO d v) fun s' => vwp P c (kont P fs Q) s') hc hr h
  | some wc => exact stepD_run (K := fun v ob' => mops P os (({ s with ob := ob' } : St).putO d v) fun s' => vwp P c (kont P fs Q) s') hc hr h

theorem vk_on {m : Option (Bool × Bool)} {d : Option Nat} {o : VO} {t : Nat} {want : Bool} (hg : s.get t = .bool want) (h : vk P ((m, ⟨d, o, none⟩) :: os) c fs Q s) : vk P ((m, ⟨d, o, some (t, want)⟩) :: os) c fs Q s := by
  show mstep P m ⟨d, o, some (t, want)⟩ s _
  cases m with
  | none =>
    simp only [mstep, VOper.step, hg, if_true]
    exact h
  | some wc =>
    simp only [mstep, VOper.stepD, hg, if_true]
    exact h

theorem vk_off {m : Option (Bool × Bool)} {d : Option Nat} {o : VO} {t : Nat} {want : Bool} (hg : s.get t = .bool !want) (h : vk P os c fs Q (s.putO d (.tup []))) : vk P ((m, ⟨d, o, some (t, want)⟩) :: os) c fs Q s := by
  show mstep P m ⟨d, o, some (t, want)⟩ s _
  have hne : ¬ (!want) = want := by cases want <;> simp
  cases m with
  | none =>
    simp only [mstep, VOper.step, hg, if_neg hne]
    exact h
  | some wc =>
    simp only [mstep, VOper.stepD, hg, if_neg hne]
    exact h

theorem vk_call {d : Option Nat} {f : X} {args : List X} {g : FuncId} {first caps : List V} {r : V} {ob' : List (Option VObj)} (hf : s.x f = .fn g first caps) (hc : VCall P g (first ++ args.map s.x ++ caps) s.ob r ob')
    (h : vk P os c fs Q (({ s with ob := ob' } : St).putO d r)) : vk P ((none, ⟨d, .call f args, none⟩) :: os) c fs Q s := by
  show VO.step P (.call f args) s.x s.ob _
  simp only [VO.step, hf]
  exact ⟨r, ob', hc, h⟩

theorem vk_callW {d : Option Nat} {f : X} {args : List X} {g : FuncId} {first caps : List V} {r : V} {ob' : List (Option VObj)} (hf : s.x f = .fn g first caps) (hc : VCall P g (first ++ args.map s.x ++ caps) s.ob r ob') (hl : s.ob.length ≤ ob'.length)
    (h : vk P os c fs Q (({ s with ob := ob' } : St).putO d r)) : vk P ((some (true, true), ⟨d, .call f args, none⟩) :: os) c fs Q s := by
  simp only [vk, mops, mstep, VOper.stepD, VO.stepD, hf]
  exact ⟨r, ob', hc, hl, h⟩

/-- A call of values alone, in any region. -/
theorem vk_callR {m : Option (Bool × Bool)} {d : Option Nat} {f : X} {args : List X} {g : FuncId} {first caps : List V} {r : V} (hf : s.x f = .fn g first caps) (hc : CallR P s.ob g (first ++ args.map s.x ++ caps) r)
    (h : vk P os c fs Q (s.putO d r)) : vk P ((m, ⟨d, .call f args, none⟩) :: os) c fs Q s := by
  cases m with
  | none => exact vk_call hf hc.call h
  | some wc =>
    obtain ⟨fl, wc⟩ := wc
    cases wc with
    | true =>
      cases fl with
      | true => exact vk_callW hf hc.call (Nat.le_refl _) h
      | false =>
        simp only [vk, mops, mstep, VOper.stepD, VO.stepD, hf]
        exact .inl ⟨r, hc, h⟩
    | false =>
      simp only [vk, mops, mstep, VOper.stepD, VO.stepD, hf]
      exact ⟨r, hc, h⟩

/-- A call that touches but the objects its arguments name. -/
theorem vk_callF {d : Option Nat} {f : X} {args : List X} {g : FuncId} {first caps : List V} {r : V} {ob' : List (Option VObj)} {ms : List Nat} {args0 : List V} {obs obs' : List (Option VObj)} {r0 : V} (hf : s.x f = .fn g first caps) (hc : FCall P s.ob g (first ++ args.map s.x ++ caps) r ob' ms args0 obs obs' r0)
    (h : vk P os c fs Q (({ s with ob := ob' } : St).putO d r)) : vk P ((some (false, true), ⟨d, .call f args, none⟩) :: os) c fs Q s := by
  simp only [vk, mops, mstep, VOper.stepD, VO.stepD, hf]
  exact .inr ⟨r, ob', ms, args0, obs, obs', r0, hc, h⟩

theorem vk_pass (h : vk P [] a (.seq b :: fs) Q s) : vk P [] (.seqc a b) fs Q s := by
  refine vwp_mono a _ _ s ?_ h
  intro e s' he
  cases e
  · exact .inl he
  · exact he
  · exact he

def joinQ (P : Program) {γ : Type} (S : γ → St) (ok : γ → Prop) (fs : List Fr) (Q : VX → St → Prop) : VX → St → Prop
  | .normal, s' => ∃ g, ok g ∧ s'.fg (S g)
  | .exit i, s' => vk P [] (.exit i) fs Q s'
  | .ret, s' => vk P [] .ret fs Q s'

/-- The ways meet again. -/
theorem vk_join {γ : Type} (S : γ → St) (ok : γ → Prop) (h : vk P [] a [] (joinQ P S ok fs Q) s) (hb : ∀ g, ok g → vk P [] b fs Q (S g)) : vk P [] (.seqc a b) fs Q s := by
  refine vwp_mono a _ _ s ?_ h
  intro e s' he
  cases e
  · obtain ⟨g, h1, h2⟩ := he
    exact .inr ⟨_, h2, hb g h1⟩
  · exact he
  · exact he

def loopQ (P : Program) {γ : Type} (S : γ → St) (ok : γ → Prop) (μ : γ → Nat) (g : γ) (fs : List Fr) (Q : VX → St → Prop) : VX → St → Prop
  | .normal, s' => ∃ g', ok g' ∧ μ g' < μ g ∧ s'.fg (S g')
  | .exit i, s' => vk P [] (.exit i) fs Q s'
  | .ret, s' => vk P [] .ret fs Q s'

theorem vk_loop {γ : Type} (S : γ → St) (ok : γ → Prop) (μ : γ → Nat) (g0 : γ) (h0 : ok g0) (hs : s.fg (S g0)) (hr : ∀ g, ok g → vk P [] c [] (loopQ P S ok μ g fs Q) (S g)) : vk P [] (.loop c) fs Q s := by
  refine vwp_loop S ok μ g0 h0 hs fun g hg => ?_
  refine Eq.mp (congrArg (fun q => vwp P c q (S g)) ?_) (hr g hg)
  funext e s'
  cases e <;> rfl

/-- A loop: what its round may end in has a name of its own. -/
theorem vk_loopR {γ : Type} (S : γ → St) (ok : γ → Prop) (μ : γ → Nat) (g0 : γ) (h0 : ok g0) (hs : s.fg (S g0))
    (hr : ∀ g, ok g → ∀ R : VX → St → Prop, (∀ s' g', ok g' → μ g' < μ g → s'.fg (S g') → R .normal s') → (∀ i s', vk P [] (.exit i) fs Q s' → R (.exit i) s') → (∀ s', vk P [] .ret fs Q s' → R .ret s') → vk P [] c [] R (S g)) : vk P [] (.loop c) fs Q s :=
  vk_loop S ok μ g0 h0 hs fun g hg => hr g hg _ (fun _ g' h1 h2 h3 => ⟨g', h1, h2, h3⟩) (fun _ _ h => h) (fun _ h => h)

/-- The ways meet again. -/
theorem vk_joinR {γ : Type} (S : γ → St) (ok : γ → Prop)
    (h : ∀ R : VX → St → Prop, (∀ s' g, ok g → s'.fg (S g) → R .normal s') → (∀ i s', vk P [] (.exit i) fs Q s' → R (.exit i) s') → (∀ s', vk P [] .ret fs Q s' → R .ret s') → vk P [] a [] R s)
    (hb : ∀ g, ok g → vk P [] b fs Q (S g)) : vk P [] (.seqc a b) fs Q s :=
  vk_join S ok (h _ (fun _ g h1 h2 => ⟨g, h1, h2⟩) (fun _ _ h => h) (fun _ h => h)) hb

theorem vops_tagN (os : List VOper) (K : St → Prop) : ∀ s, vops P os s K = mops P (tagN os) s K := by
  induction os with
  | nil => intro s; rfl
  | cons o os ih =>
    intro s
    simp only [vops, tagN, mops, mstep]
    congr 1
    funext s'
    exact ih s'

theorem dvops_tagD {fl : Bool} (os : List VOper) (K : St → Prop) : ∀ (wc : List Bool) s, dvops P fl os wc s K = mops P (tagD fl os wc) s K := by
  induction os with
  | nil => intro wc s; rfl
  | cons o os ih =>
    intro wc s
    simp only [dvops, tagD, mops, mstep]
    congr 1
    funext s'
    exact ih _ s'

theorem e_seq : vk P [] (.seq a b) fs Q s = vk P [] a (.seq b :: fs) Q s := nr rfl
theorem e_block {id : Nat} : vk P [] (.block id a) fs Q s = vk P [] a (.block id :: fs) Q s := nr rfl
theorem e_skip_seq : vk P [] .skip (.seq b :: fs) Q s = vk P [] b fs Q s := nr rfl
theorem e_skip_block {id : Nat} : vk P [] .skip (.block id :: fs) Q s = vk P [] .skip fs Q s := nr rfl
theorem e_skip_nil : vk P [] .skip [] Q s = Q .normal s := nr rfl
theorem e_exit_seq {i : Nat} : vk P [] (.exit i) (.seq b :: fs) Q s = vk P [] (.exit i) fs Q s := nr rfl
theorem e_exit_block {i j : Nat} : vk P [] (.exit i) (.block j :: fs) Q s = if i = j then vk P [] .skip fs Q s else vk P [] (.exit i) fs Q s := nr rfl
theorem e_exit_nil {i : Nat} : vk P [] (.exit i) [] Q s = Q (.exit i) s := nr rfl
theorem e_ret_cons {f : Fr} : vk P [] .ret (f :: fs) Q s = vk P [] .ret fs Q s := by cases f <;> exact nr rfl
theorem e_ret_nil : vk P [] .ret [] Q s = Q .ret s := nr rfl
theorem e_reg {ops : List VOper} : vk P [] (.reg ops) fs Q s = vk P (tagN ops) .skip fs Q s := vops_tagN ops _ s
theorem e_dregF {ops : List VOper} {wc : List Bool} {sp : List (List X × List X)} : vk P [] (.dregF ops wc sp) fs Q s = vk P (tagD false ops wc) (.chk sp) fs Q s := dvops_tagD ops (fun s' => chkS sp s' = true ∧ kont P fs Q .normal s') wc s
theorem e_chk {sp : List (List X × List X)} : vk P [] (.chk sp) fs Q s = if chkS sp s = true then vk P [] .skip fs Q s else False := by
  show (chkS sp s = true ∧ kont P fs Q .normal s) = _
  by_cases h : chkS sp s = true
  · rw [if_pos h]; exact propext ⟨fun k => k.2, fun k => ⟨h, k⟩⟩
  · rw [if_neg h]; exact propext ⟨fun k => (h k.1).elim, fun k => k.elim⟩
theorem e_dreg {ops : List VOper} {wc : List Bool} : vk P [] (.dreg ops wc) fs Q s = vk P (tagD true ops wc) .skip fs Q s := dvops_tagD ops _ wc s
theorem e_cond {x : X} : vk P [] (.cond x a b) fs Q s = match s.x x with | .bool c => if c = true then vk P [] a fs Q s else vk P [] b fs Q s | _ => False := nr rfl

theorem step_eq {o : VO} (hc : o.isCall = false) (hE : o.isE = false) (ρ : X → V) (ob : List (Option VObj)) (K : V → List (Option VObj) → Prop) : o.step P ρ ob K = match o.run ρ ob with | some (v, ob') => K v ob' | none => False := by
  cases o <;> simp only [VO.isCall, Bool.true_eq_false] at hc <;> simp only [VO.isE, Bool.true_eq_false] at hE <;> simp only [VO.run, VO.step]
  all_goals first | rfl | (split <;> rename_i h <;> simp [h])

theorem stepD_eq {o : VO} (hc : o.isCall = false) (wc : Bool × Bool) (ρ : X → V) (ob : List (Option VObj)) (K : V → List (Option VObj) → Prop) : o.stepD P wc.1 wc.2 ρ ob K = match o.run ρ ob with | some (v, ob') => K v ob' | none => False := by
  cases o <;> simp only [VO.isCall, Bool.true_eq_false] at hc <;> simp only [VO.run, VO.stepD]
  all_goals first | rfl | (split <;> rename_i h <;> simp [h])

theorem e_op {m : Option (Bool × Bool)} {d : Option Nat} {o : VO} (hc : o.isCall = false) (hE : o.isE = false) : vk P ((m, ⟨d, o, none⟩) :: os) c fs Q s = match o.run s.x s.ob with | some (v, ob') => vk P os c fs Q (({ s with ob := ob' } : St).putO d v) | none => False := by
  cases m with
  | none => exact step_eq hc hE _ _ _
  | some wc => exact stepD_eq hc wc _ _ _

theorem e_opD {wc : Bool × Bool} {d : Option Nat} {o : VO} (hc : o.isCall = false) : vk P ((some wc, ⟨d, o, none⟩) :: os) c fs Q s = match o.run s.x s.ob with | some (v, ob') => vk P os c fs Q (({ s with ob := ob' } : St).putO d v) | none => False := stepD_eq hc wc _ _ _

theorem e_guard {m : Option (Bool × Bool)} {d : Option Nat} {o : VO} {t : Nat} {want : Bool} : vk P ((m, ⟨d, o, some (t, want)⟩) :: os) c fs Q s = match s.get t with
    | .bool b => if b = want then vk P ((m, ⟨d, o, none⟩) :: os) c fs Q s else vk P os c fs Q (s.putO d (.tup []))
    | .tup [] => vk P os c fs Q (s.putO d (.tup []))
    | _ => False := by
  cases m <;> exact nr rfl
/-- Operations in whatever order: each of those that may be next. -/
theorem vk_areg {ops : List VOper} {dirs : List (List Nat)} {done : List Nat} (h0 : readyL dirs done = [] → vk P [] .skip fs Q s) (hl : done.length < ops.length) (h : ∀ i ∈ readyL dirs done, ∀ o, ops[i]? = some o → vk P [(none, o)] (.areg ops dirs (i :: done)) fs Q s) : vk P [] (.areg ops dirs done) fs Q s := by
  show vany P ops dirs (ops.length - done.length) done s (kont P fs Q .normal)
  obtain ⟨n, hn⟩ : ∃ n, ops.length - done.length = n + 1 := ⟨ops.length - done.length - 1, by omega⟩
  rw [hn]
  refine ⟨h0, fun i hi o ho => ?_⟩
  have h1 : o.step P s fun s' => vany P ops dirs (ops.length - (i :: done).length) (i :: done) s' (kont P fs Q .normal) := h i hi o ho
  have e : ops.length - (i :: done).length = n := by simp only [List.length_cons]; omega
  rw [e] at h1
  exact h1
theorem vk_areg_end {ops : List VOper} {dirs : List (List Nat)} {done : List Nat} (hl : ops.length ≤ done.length) (h : vk P [] .skip fs Q s) : vk P [] (.areg ops dirs done) fs Q s := by
  show vany P ops dirs (ops.length - done.length) done s (kont P fs Q .normal)
  have e : ops.length - done.length = 0 := by omega
  rw [e]
  exact h
theorem vk_ent {d : Option Nat} {x : X} {v : V} (h : entV s.x s.ob x = some v) (hk : vk P os c fs Q (s.putO d v)) : vk P ((none, ⟨d, .ent x, none⟩) :: os) c fs Q s := by
  simp only [vk, mops, mstep, VOper.step, VO.step, h]
  exact hk
/-- What an iterator tells. -/
theorem vk_nxt {d : Option Nat} {x : X} {l : List (V × List (Option VObj))} (h : nxtV s.x s.ob x = some l) (hk : ∀ p ∈ l, vk P os c fs Q (({ s with ob := p.2 } : St).putO d p.1)) : vk P ((none, ⟨d, .nxt x, none⟩) :: os) c fs Q s := by
  simp only [vk, mops, mstep, VOper.step, VO.step, h]
  exact hk
end
end Go.Proofs.VL

namespace Go.Proofs.VL
open Go Go.RowKit
set_option linter.unusedSimpArgs false
set_option linter.unusedVariables false

theorem VCall.sub {P : Program} {f : FuncId} {args args' : List V} {ob ob' : List (Option VObj)} {r r' : V} (h : VCall P f args ob r ob') (ha : SubL args' args) (hr : Sub r r') : VCall P f args' ob r' ob' := by
  refine ⟨h.1, fun w E vs hdom hob hf hv => (h.2 w E vs hdom hob hf (RepL.sub ha hv)).mono ?_⟩
  rintro e w' ⟨v, E', rfl, hres⟩
  exact ⟨v, E', rfl, hres.ext, hres.dom, Rep.sub hr hres.rep, hres.objs, hres.fresh⟩

theorem VFn.sub {P : Program} {f : FuncId} {args args' : List V} {r r' : V} (h : VFn P f args r) (ha : SubL args' args) (hr : Sub r r') : VFn P f args' r' := VCall.sub h ha hr
end Go.Proofs.VL

namespace Go.Proofs.VL
open Go Go.RowKit
set_option linter.unusedSimpArgs false
set_option linter.unusedVariables false

/-- Objects of the callee's own that nobody can come to any more are left. -/
theorem VCall.trim {P : Program} {f : FuncId} {args : List V} {ob ob' extra : List (Option VObj)} {r : V} (h : VCall P f args ob r (ob' ++ extra)) (hn : ob.length ≤ ob'.length) (hr : wfV ob'.length r = true) (ho : wfOb ob'.length ob' = true) : VCall P f args ob r ob' := by
  refine ⟨h.1, fun w E vs hdom hob hf hv => (h.2 w E vs hdom hob hf hv).mono ?_⟩
  rintro e w' ⟨v, E1, rfl, hres⟩
  let E' : Env := { E1 with dom := fun k => k < ob'.length, lab := fun b => match E1.lab b with | .obj j => if j < ob'.length then .obj j else .ext | l => l }
  have himm : ∀ b, E1.lab b = .imm ↔ E'.lab b = .imm := by
    intro b
    show _ ↔ (match E1.lab b with | .obj j => if j < ob'.length then Lab.obj j else .ext | l => l) = .imm
    cases E1.lab b with
    | imm => simp
    | ext => simp
    | obj j => simp only [reduceCtorEq, false_iff]; split <;> simp
  have hext : ∀ b, E1.lab b = .ext → E'.lab b = .ext := by
    intro b hb
    show (match E1.lab b with | .obj j => if j < ob'.length then Lab.obj j else .ext | l => l) = .ext
    rw [hb]
  have hd1 : ∀ k, k < ob'.length → E1.dom k := fun k hk => (hres.dom k).2 (by simp; omega)
  have T : Tell w' ob'.length id E1 E' := ⟨fun k hk => ⟨fun _ => hk, fun _ => hd1 k hk⟩, fun _ _ => rfl, fun _ _ => rfl, fun _ _ => rfl, fun b _ => himm b⟩
  have hx := hres.ext
  refine ⟨v, E', rfl, ?_, fun k => Iff.rfl, ?_, ?_, fun b hb => (himm b).1 (hres.fresh b hb)⟩
  · refine ⟨hx.os, hx.tape, hx.output, hx.size, fun b hb hl => ?_, fun b hb hl => ?_, fun k hk => ?_, fun k hk => hx.blk k hk, fun k hk => hx.cap k hk, fun k hk => hx.nil k hk⟩
    · obtain ⟨q1, q2⟩ := hx.imm b hb hl
      exact ⟨(himm b).1 q1, q2⟩
    · obtain ⟨q1, q2⟩ := hx.ext b hb hl
      exact ⟨hext b q1, q2⟩
    · have := (hdom k).1 hk
      show k < ob'.length
      omega
  · have := (Rep.ren T r v hr).1 hres.rep
    rwa [renV_id (m := id) (fun _ _ => rfl) r hr] at this
  · intro k o hk
    have hkl : k < ob'.length := by
      rcases Nat.lt_or_ge k ob'.length with h' | h'
      · exact h'
      · rw [List.getElem?_eq_none h'] at hk; cases hk
    have hwo : wfO ob'.length o = true := by
      have := List.all_eq_true.1 ho _ (List.mem_of_getElem? hk)
      simpa using this
    have h1 := hres.objs k o (by rw [List.getElem?_append_left hkl]; exact hk)
    have := (ObjRep.ren T hkl (fun b hb => by
      show _ ↔ (match E1.lab b with | .obj j => if j < ob'.length then Lab.obj j else .ext | l => l) = .obj k
      cases E1.lab b with
      | imm => simp
      | ext => simp
      | obj j =>
        simp only [Lab.obj.injEq]
        split
        · simp
        · simp; omega) o hwo).1 h1
    rwa [renO_id (m := id) (fun _ _ => rfl) o hwo] at this
end Go.Proofs.VL

namespace Go.Proofs.VL
open Go Go.RowKit
set_option linter.unusedSimpArgs false
set_option linter.unusedVariables false

/-! ### a callee's small list of objects, within a great one -/
/-- A callee's contract over its own objects alone serves in any list that has these. -/
theorem VCall.frame {P : Program} {f : FuncId} {args : List V} {obs obs' : List (Option VObj)} {r : V} (h : VCall P f args obs r obs') (ms : List Nat) (B : List (Option VObj))
    (hin : inObs (nameOf ms B.length) B ms obs) (hwa : wfL obs.length args = true) (hwo : wfOb obs.length obs = true) (hwr : wfV obs'.length r = true) (hwo' : wfOb obs'.length obs' = true) (hle : obs.length ≤ obs'.length) :
    VCall P f (renL (nameOf ms B.length) args) B (renV (nameOf ms B.length) r) (putObs (nameOf ms B.length) B ms obs') := by
  obtain ⟨hlen, hnd, hmem⟩ := hin
  refine ⟨h.1, fun w E vs hdom hob hf hv => ?_⟩
  have hms : ∀ k, k < obs.length → ∃ j, ms[k]? = some j ∧ nameOf ms B.length k = j ∧ ms.getD k 0 = j ∧ j < B.length := by
    intro k hk
    have hk' : k < ms.length := by omega
    refine ⟨ms[k], List.getElem?_eq_getElem hk', nameOf_lt (List.getElem?_eq_getElem hk'), ?_, (hmem k _ (List.getElem?_eq_getElem hk')).1⟩
    rw [List.getD_eq_getElem?_getD, List.getElem?_eq_getElem hk']; rfl
  -- what the callee knows
  have T : Tell w obs.length (nameOf ms B.length) (E.small ms) E := by
    refine ⟨?_, ?_, ?_, ?_, fun b _ => small_imm⟩
    · intro k hk
      obtain ⟨j, h1, h2, h3, h4⟩ := hms k hk
      rw [h2, hdom]
      exact ⟨fun _ => h4, fun _ => by show k < ms.length; omega⟩
    all_goals
      intro k hk
      obtain ⟨j, h1, h2, h3, h4⟩ := hms k hk
      rw [h2]; simp only [Env.small, h3]
  have hvs := (RepL.ren T args vs hwa).2 hv
  have hobs : ∀ k o, obs[k]? = some (some o) → ObjRep w (E.small ms) k o := by
    intro k o hk
    have hkl : k < obs.length := getElem?_lt hk
    obtain ⟨j, h1, h2, h3, h4⟩ := hms k hkl
    have hB := (hmem k j h1).2 o hk
    have hwo1 : wfO obs.length o = true := by
      have := List.all_eq_true.1 hwo _ (List.mem_of_getElem? hk)
      simpa using this
    refine (ObjRep.ren T hkl (fun b _ => ?_) o hwo1).2 ?_
    · rw [h2]; exact small_obj hnd h1
    · rw [h2]; exact hob j _ hB
  refine (h.2 w (E.small ms) vs (fun k => by show k < ms.length ↔ _; omega) hobs (fun b hb => small_imm.2 (hf b hb)) hvs).mono ?_
  rintro e w' ⟨v, E1, rfl, hres⟩
  have hx := hres.ext
  have hms' : ∀ k, k < ms.length → ∃ j, ms[k]? = some j ∧ nameOf ms B.length k = j ∧ ms.getD k 0 = j ∧ j < B.length := fun k hk => hms k (by omega)
  -- what is known then
  let E' : Env :=
    { dom := fun k => k < B.length + (obs'.length - ms.length),
      blk := fun k => if k < B.length then E.blk k else E1.blk (ms.length + (k - B.length)),
      cap := fun k => if k < B.length then E.cap k else E1.cap (ms.length + (k - B.length)),
      nil := fun k => if k < B.length then E.nil k else E1.nil (ms.length + (k - B.length)),
      lab := fun b => labAfter ms B.length (decide (b < w.heap.size)) (E.lab b) (E1.lab b) }
  have himm : ∀ b, E1.lab b = .imm ↔ E'.lab b = .imm := fun b => labAfter_imm
  have hninj : ∀ i j, i < obs'.length → j < obs'.length → nameOf ms B.length i = nameOf ms B.length j → i = j := by
    intro i j hi hj he
    by_cases h1 : i < ms.length
    · obtain ⟨a, a1, a2, a3, a4⟩ := hms' i h1
      by_cases h2 : j < ms.length
      · obtain ⟨b, b1, b2, b3, b4⟩ := hms' j h2
        rw [a2, b2] at he; subst he; exact nodup_inj hnd a1 b1
      · rw [a2] at he; simp only [nameOf, if_neg h2] at he; omega
    · by_cases h2 : j < ms.length
      · obtain ⟨b, b1, b2, b3, b4⟩ := hms' j h2
        rw [b2] at he; simp only [nameOf, if_neg h1] at he; omega
      · simp only [nameOf, if_neg h1, if_neg h2] at he; omega
  have hlab1 : ∀ b j, E1.lab b = .obj j → E'.lab b = .obj (nameOf ms B.length j) := by
    intro b j hb
    show labAfter _ _ _ _ _ = _
    rw [hb]; rfl
  have hlab2 : ∀ b, b < w.heap.size → (E.small ms).lab b = .ext → (E.lab b = .ext ∨ ∃ j, E.lab b = .obj j ∧ j < B.length) → E'.lab b = E.lab b ∧ w'.heap[b]? = w.heap[b]? := by
    intro b hb hs hj
    obtain ⟨q1, q2⟩ := hx.ext b hb hs
    refine ⟨?_, q2⟩
    show labAfter _ _ _ _ _ = _
    rw [q1]
    simp only [labAfter, hb, decide_true, if_true]
    rcases hj with hj | ⟨j, hj, hjB⟩
    · rw [hj]
    · rw [hj]
      simp only
      rw [if_neg]
      rintro (h | h)
      · rcases small_ext.1 hs with h1 | ⟨j', h1, h2⟩
        · rw [hj] at h1; cases h1
        · rw [hj] at h1; injection h1 with h1; subst h1; exact h2 h
      · omega
  have hd1 : ∀ k, E1.dom k ↔ k < obs'.length := hres.dom
  have T' : Tell w' obs'.length (nameOf ms B.length) E1 E' := by
    refine ⟨?_, ?_, ?_, ?_, fun b _ => himm b⟩
    · intro k hk
      rw [hd1]
      refine ⟨fun _ => ?_, fun _ => hk⟩
      show nameOf ms B.length k < B.length + (obs'.length - ms.length)
      by_cases h1 : k < ms.length
      · obtain ⟨a, a1, a2, a3, a4⟩ := hms' k h1; omega
      · simp only [nameOf, if_neg h1]; omega
    · intro k hk
      show (if _ then _ else _) = _
      by_cases h1 : k < ms.length
      · obtain ⟨a, a1, a2, a3, a4⟩ := hms' k h1
        rw [a2, if_pos a4, hx.blk k h1]; simp only [Env.small, a3]
      · have : nameOf ms B.length k = B.length + (k - ms.length) := by simp only [nameOf, if_neg h1]
        rw [this, if_neg (by omega)]
        congr 1; omega
    · intro k hk
      show (if _ then _ else _) = _
      by_cases h1 : k < ms.length
      · obtain ⟨a, a1, a2, a3, a4⟩ := hms' k h1
        rw [a2, if_pos a4, hx.cap k h1]; simp only [Env.small, a3]
      · have : nameOf ms B.length k = B.length + (k - ms.length) := by simp only [nameOf, if_neg h1]
        rw [this, if_neg (by omega)]
        congr 1; omega
    · intro k hk
      show (if _ then _ else _) = _
      by_cases h1 : k < ms.length
      · obtain ⟨a, a1, a2, a3, a4⟩ := hms' k h1
        rw [a2, if_pos a4, hx.nil k h1]; simp only [Env.small, a3]
      · have : nameOf ms B.length k = B.length + (k - ms.length) := by simp only [nameOf, if_neg h1]
        rw [this, if_neg (by omega)]
        congr 1; omega
  have hX : Ext w E w' E' := by
    refine ⟨hx.os, hx.tape, hx.output, hx.size, fun b hb hl => ?_, fun b hb hl => ?_, fun k hk => ?_, fun k hk => ?_, fun k hk => ?_, fun k hk => ?_⟩
    · obtain ⟨q1, q2⟩ := hx.imm b hb (small_imm.2 hl)
      exact ⟨(himm b).1 q1, q2⟩
    · obtain ⟨q1, q2⟩ := hlab2 b hb (small_ext.2 (.inl hl)) (.inl hl)
      exact ⟨q1.trans hl, q2⟩
    · have := (hdom k).1 hk
      show k < B.length + (obs'.length - ms.length)
      omega
    · show (if _ then _ else _) = _
      rw [if_pos ((hdom k).1 hk)]
    · show (if _ then _ else _) = _
      rw [if_pos ((hdom k).1 hk)]
    · show (if _ then _ else _) = _
      rw [if_pos ((hdom k).1 hk)]
  have hmsB : ∀ j ∈ ms, j < B.length := by
    intro j hj
    obtain ⟨i, hi⟩ := List.getElem?_of_mem hj
    exact (hmem i j hi).1
  have hml : ms.length ≤ obs'.length := by omega
  refine ⟨v, E', rfl, hX, fun k => ?_, (Rep.ren T' r v hwr).1 hres.rep, ?_, fun b hb => (himm b).1 (hres.fresh b hb)⟩
  · rw [putObs_length _ _ _ _ hml]
  · have one : ∀ i o, obs'[i]? = some (some o) → ObjRep w' E' (nameOf ms B.length i) (renO (nameOf ms B.length) o) := by
      intro i o hi
      have hil := getElem?_lt hi
      have hwo1 : wfO obs'.length o = true := by
        have := List.all_eq_true.1 hwo' _ (List.mem_of_getElem? hi)
        simpa using this
      refine (ObjRep.ren T' hil (fun b _ => ?_) o hwo1).1 (hres.objs i o hi)
      constructor
      · intro hb; exact hlab1 b i hb
      · intro hb
        cases hl : E1.lab b with
        | imm => rw [(himm b).1 hl] at hb; cases hb
        | obj j =>
          rw [hlab1 b j hl] at hb
          injection hb with hb
          by_cases hj : j < obs'.length
          · rw [hninj j i hj hil hb]
          · exfalso
            have h1 : ¬ j < ms.length := by omega
            simp only [nameOf, if_neg h1] at hb
            by_cases h2 : i < ms.length
            · obtain ⟨a, a1, a2, a3, a4⟩ := hms' i h2
              simp only [nameOf, if_pos h2, a3] at hb; omega
            · simp only [if_neg h2] at hb; omega
        | ext =>
          exfalso
          have hE' : E'.lab b = labAfter ms B.length (decide (b < w.heap.size)) (E.lab b) .ext := by
            show labAfter _ _ _ _ _ = _
            rw [hl]
          rw [hE'] at hb
          obtain ⟨q1, q2, q3⟩ := labAfter_old hb
          by_cases h2 : i < ms.length
          · obtain ⟨a, a1, a2, a3, a4⟩ := hms' i h2
            rw [a2] at q2; exact q2 (List.mem_of_getElem? a1)
          · simp only [nameOf, if_neg h2] at q3; omega
    intro k o hk
    obtain ⟨p1, p2, p3⟩ := putObs_get (nameOf ms B.length) ms obs' B hml hnd hmsB k
    have back : ∀ {i : Nat}, (obs'[i]?).map (Option.map (renO (nameOf ms B.length))) = some (some o) → ∃ o', obs'[i]? = some (some o') ∧ renO (nameOf ms B.length) o' = o := by
      intro i h
      cases hi : obs'[i]? with
      | none => rw [hi] at h; cases h
      | some q =>
        rw [hi] at h
        cases q with
        | none => simp at h
        | some q => exact ⟨q, rfl, by simpa using h⟩
    by_cases hkB : k < B.length
    · by_cases hkm : k ∈ ms
      · obtain ⟨i, hi⟩ := List.getElem?_of_mem hkm
        rw [p2 i hi] at hk
        obtain ⟨o', ho, rfl⟩ := back hk
        have := one i o' ho
        rwa [nameOf_lt hi] at this
      · rw [p1 hkB hkm] at hk
        refine (hob k o hk).move hX ((hdom k).2 hkB) ?_
        rintro (hl | hl) hb
        · obtain ⟨q1, q2⟩ := hlab2 _ hb (small_ext.2 (.inr ⟨k, hl, hkm⟩)) (.inr ⟨k, hl, hkB⟩)
          exact ⟨q2, q1⟩
        · obtain ⟨q1, q2⟩ := hX.imm _ hb hl
          exact ⟨q2, q1.trans hl.symm⟩
    · rw [p3 (by omega)] at hk
      obtain ⟨o', ho, rfl⟩ := back hk
      have := one _ o' ho
      have he : nameOf ms B.length (ms.length + (k - B.length)) = k := by
        unfold nameOf
        rw [if_neg (by omega)]; omega
      rwa [he] at this
end Go.Proofs.VL


namespace Go.Proofs.VL
/-! ### short names -/
theorem Q0.{u0} : type_of% @List.zipIdx_cons.{u0} := @List.zipIdx_cons.{u0}
theorem Q1.{u0} : type_of% @List.zipIdx_nil.{u0} := @List.zipIdx_nil.{u0}
theorem Q2.{u0,u1} : type_of% @List.map_cons.{u0,u1} := @List.map_cons.{u0,u1}
theorem Q3.{u0,u1} : type_of% @List.map_nil.{u0,u1} := @List.map_nil.{u0,u1}
theorem Q4.{u0} : type_of% @Option.getD_some.{u0} := @Option.getD_some.{u0}
theorem Q5.{u0} : type_of% @Option.getD_none.{u0} := @Option.getD_none.{u0}
theorem Q6.{u0,u1} : type_of% @Option.map_some.{u0,u1} := @Option.map_some.{u0,u1}
theorem Q7.{u0,u1} : type_of% @Option.map_none.{u0,u1} := @Option.map_none.{u0,u1}
theorem Q8.{u0,u1} : type_of% @Option.bind_some.{u0,u1} := @Option.bind_some.{u0,u1}
theorem Q9.{u0,u1} : type_of% @Option.bind_none.{u0,u1} := @Option.bind_none.{u0,u1}
theorem Q10.{u0} : type_of% @Option.isSome_none.{u0} := @Option.isSome_none.{u0}
theorem Q11.{u0} : type_of% @Option.isSome_some.{u0} := @Option.isSome_some.{u0}
theorem Q12.{u0} : type_of% @beq_self_eq_true.{u0} := @beq_self_eq_true.{u0}
theorem Q13.{u0} : type_of% @List.append_nil.{u0} := @List.append_nil.{u0}
theorem Q14.{u0} : type_of% @List.nil_append.{u0} := @List.nil_append.{u0}
theorem Q15.{u0} : type_of% @List.cons_append.{u0} := @List.cons_append.{u0}
theorem Q16 : type_of% @Nat.zero_add := @Nat.zero_add
theorem Q17 : type_of% @Nat.add_zero := @Nat.add_zero
theorem Q18.{u0} : type_of% @List.replicate_succ.{u0} := @List.replicate_succ.{u0}
theorem Q19.{u0} : type_of% @List.replicate_zero.{u0} := @List.replicate_zero.{u0}
theorem Q20.{u0} : type_of% @List.set_cons_zero.{u0} := @List.set_cons_zero.{u0}
theorem Q21.{u0} : type_of% @List.set_cons_succ.{u0} := @List.set_cons_succ.{u0}
theorem Q22.{u0} : type_of% @List.length_cons.{u0} := @List.length_cons.{u0}
theorem Q23.{u0} : type_of% @List.length_nil.{u0} := @List.length_nil.{u0}
theorem Q24.{u0} : type_of% @List.getElem?_cons_zero.{u0} := @List.getElem?_cons_zero.{u0}
theorem Q25.{u0} : type_of% @List.getElem?_cons_succ.{u0} := @List.getElem?_cons_succ.{u0}
theorem Q26.{u0} : type_of% @List.getElem?_nil.{u0} := @List.getElem?_nil.{u0}
theorem Q27 : type_of% @and_true := @and_true
theorem Q28 : type_of% @true_and := @true_and
theorem Q29 : type_of% @and_self := @and_self
theorem Q30.{u0} : type_of% @List.headD_cons.{u0} := @List.headD_cons.{u0}
theorem Q31.{u0} : type_of% @List.tail_cons.{u0} := @List.tail_cons.{u0}
theorem Q32.{u0} : type_of% @List.all_cons.{u0} := @List.all_cons.{u0}
theorem Q33.{u0} : type_of% @List.all_nil.{u0} := @List.all_nil.{u0}
theorem Q34 : type_of% @Bool.and_true := @Bool.and_true
theorem Q35 : type_of% @Bool.true_and := @Bool.true_and
theorem Q36 : type_of% @Bool.and_self := @Bool.and_self
theorem Q37 : type_of% @Bool.and_false := @Bool.and_false
theorem Q38 : type_of% @Bool.false_and := @Bool.false_and
theorem Q39 : type_of% @Bool.not_true := @Bool.not_true
theorem Q40 : type_of% @Bool.not_false := @Bool.not_false
theorem Q41 : type_of% @decide_true := @decide_true
theorem Q42 : type_of% @decide_false := @decide_false
theorem Q43 : type_of% @decide_eq_true_eq := @decide_eq_true_eq
theorem Q44.{u0} : type_of% @if_true.{u0} := @if_true.{u0}
theorem Q45.{u0} : type_of% @if_false.{u0} := @if_false.{u0}
theorem Q46 : type_of% @Bool.false_eq_true := @Bool.false_eq_true
theorem Q47 : type_of% @Bool.true_eq_false := @Bool.true_eq_false
theorem Q48.{u0} : type_of% @List.length_append.{u0} := @List.length_append.{u0}
theorem Q49.{u0,u1} : type_of% @List.length_map.{u0,u1} := @List.length_map.{u0,u1}
theorem Q50.{u0} : type_of% @List.take_zero.{u0} := @List.take_zero.{u0}
theorem Q51.{u0} : type_of% @List.take_succ_cons.{u0} := @List.take_succ_cons.{u0}
theorem Q52.{u0} : type_of% @List.take_nil.{u0} := @List.take_nil.{u0}
theorem Q53.{u0} : type_of% @List.drop_zero.{u0} := @List.drop_zero.{u0}
theorem Q54.{u0} : type_of% @List.drop_succ_cons.{u0} := @List.drop_succ_cons.{u0}
theorem Q55.{u0} : type_of% @List.drop_nil.{u0} := @List.drop_nil.{u0}
theorem Q56.{u0} : type_of% @List.length_set.{u0} := @List.length_set.{u0}
theorem Q57 : type_of% @Nat.le_refl := @Nat.le_refl
theorem Q58 : type_of% @Int.toNat_natCast := @Int.toNat_natCast
theorem Q59 : type_of% @Int.toNat_zero := @Int.toNat_zero
theorem Q60.{u0} : type_of% @List.length_singleton.{u0} := @List.length_singleton.{u0}
theorem Q61.{u0} : type_of% @ge_iff_le.{u0} := @ge_iff_le.{u0}
theorem Q62.{u0} : type_of% @gt_iff_lt.{u0} := @gt_iff_lt.{u0}
theorem Q63 : type_of% @Int.cast_ofNat_Int := @Int.cast_ofNat_Int
theorem Q64 : type_of% @Int.natCast_zero := @Int.natCast_zero
theorem Q65.{u0} : type_of% @List.getLast?_nil.{u0} := @List.getLast?_nil.{u0}
theorem Q66.{u0} : type_of% @List.getLast?_singleton.{u0} := @List.getLast?_singleton.{u0}
theorem Q67.{u0} : type_of% @List.dropLast_singleton.{u0} := @List.dropLast_singleton.{u0}
end Go.Proofs.VL

namespace Go.Proofs.VL
open Go Go.RowKit
set_option linter.unusedSimpArgs false
set_option linter.unusedVariables false

/-! ### one equation for each operation -/
section
variable {P : Program} {os : List (Option (Bool × Bool) × VOper)} {c a b : VC} {fs : List Fr} {Q : VX → St → Prop} {s : St} {m : Option (Bool × Bool)} {d : Option Nat}

/-- What goes on behind a value, if there is one. -/
def onV (o : Option V) (K : V → Prop) : Prop := match o with | some v => K v | none => False
def vkV (o : Option V) (P : Program) (d : Option Nat) (os : List (Option (Bool × Bool) × VOper)) (c : VC) (fs : List Fr) (Q : VX → St → Prop) (s : St) : Prop := onV o fun v => vk P os c fs Q (s.putO d v)
theorem vkV_some {v : V} : vkV (some v) P d os c fs Q s = vk P os c fs Q (s.putO d v) := nr rfl
theorem vkV_none : vkV none P d os c fs Q s = False := nr rfl
def vkW (o : Option (V × List (Option VObj))) (P : Program) (d : Option Nat) (os : List (Option (Bool × Bool) × VOper)) (c : VC) (fs : List Fr) (Q : VX → St → Prop) (s : St) : Prop := match o with | some (v, ob) => vk P os c fs Q (({ s with ob := ob } : St).putO d v) | none => False
theorem vkW_some {v : V} {ob : List (Option VObj)} : vkW (some (v, ob)) P d os c fs Q s = vk P os c fs Q (({ s with ob := ob } : St).putO d v) := nr rfl
theorem vkW_none : vkW none P d os c fs Q s = False := nr rfl
def vkO (o : Option (List (Option VObj))) (P : Program) (os : List (Option (Bool × Bool) × VOper)) (c : VC) (fs : List Fr) (Q : VX → St → Prop) (s : St) : Prop := match o with | some ob => vk P os c fs Q { s with ob := ob } | none => False
theorem vkO_some {ob : List (Option VObj)} : vkO (some ob) P os c fs Q s = vk P os c fs Q { s with ob := ob } := nr rfl
theorem vkO_none : vkO none P os c fs Q s = False := nr rfl
def vkC (v : V) (P : Program) (a b : VC) (fs : List Fr) (Q : VX → St → Prop) (s : St) : Prop := match v with | .bool t => if t = true then vk P [] a fs Q s else vk P [] b fs Q s | _ => False
theorem vkC_bool {t : Bool} : vkC (.bool t) P a b fs Q s = if t = true then vk P [] a fs Q s else vk P [] b fs Q s := nr rfl
def vkG (v : V) (want : Bool) (P : Program) (m : Option (Bool × Bool)) (d : Option Nat) (o : VO) (os : List (Option (Bool × Bool) × VOper)) (c : VC) (fs : List Fr) (Q : VX → St → Prop) (s : St) : Prop := match v with | .bool b => if b = want then vk P ((m, ⟨d, o, none⟩) :: os) c fs Q s else vk P os c fs Q (s.putO d (.tup [])) | .tup [] => vk P os c fs Q (s.putO d (.tup [])) | _ => False
theorem vkG_bool {b want : Bool} {o : VO} : vkG (.bool b) want P m d o os c fs Q s = if b = want then vk P ((m, ⟨d, o, none⟩) :: os) c fs Q s else vk P os c fs Q (s.putO d (.tup [])) := nr rfl
theorem vkG_undef {want : Bool} {o : VO} : vkG (.tup []) want P m d o os c fs Q s = vk P os c fs Q (s.putO d (.tup [])) := nr rfl

theorem e_evP {o : VO} (hc : o.isCall = false) (hR : o.isR = false) (hW : o.isW false = false) (hE : o.isE = false := by rfl) : vk P ((m, ⟨d, o, none⟩) :: os) c fs Q s = vkV (o.evP s.x) P d os c fs Q s := by
  rw [e_op hc hE]
  have : o.run s.x s.ob = (o.evP s.x).map fun v => (v, s.ob) := by
    cases o <;> simp [VO.isCall] at hc <;> simp [VO.isW] at hW <;> simp only [VO.run, evR_P hR] <;> (rename_i h; first | simp [Option.map_map] | skip) <;> (first | (cases hv : VO.evP _ s.x <;> simp [hv]) | simp)
  rw [this]
  cases o.evP s.x <;> rfl

theorem e_mv {x : X} : vk P ((m, ⟨d, .mv x, none⟩) :: os) c fs Q s = vk P os c fs Q (s.putO d (s.x x)) := nr (e_evP rfl rfl rfl)
def evPick : V → V → V → Option V
  | .bool t, a, b => some (if t then a else b)
  | _, _, _ => none
theorem e_pick {x y z : X} : vk P ((m, ⟨d, .pick x y z, none⟩) :: os) c fs Q s = vkV (evPick (s.x x) (s.x y) (s.x z)) P d os c fs Q s := by
  rw [e_evP rfl rfl rfl]
  simp only [VO.evP]
  cases s.x x <;> rfl
theorem e_bin {op : BinOp} {x y : X} : vk P ((m, ⟨d, .bin op x y, none⟩) :: os) c fs Q s = vkV (evBin op (s.x x) (s.x y)) P d os c fs Q s := nr (e_evP rfl rfl rfl)
def evEqb (neg : Bool) : V → V → Option V
  | .bool a, .bool b => some (.bool (if neg then !(a == b) else a == b))
  | _, _ => none
theorem e_eqb {neg : Bool} {x y : X} : vk P ((m, ⟨d, .eqb neg x y, none⟩) :: os) c fs Q s = vkV (evEqb neg (s.x x) (s.x y)) P d os c fs Q s := by
  rw [e_evP rfl rfl rfl]
  simp only [VO.evP]
  cases s.x x <;> cases s.x y <;> rfl
def evEqn (kd : NK) (neg : Bool) (x y : V) : Option V := match isNil kd x, isNil kd y with
    | some a, some b => if a || b then some (.bool (if neg then !(a && b) else (a && b))) else none
    | _, _ => none
def vkE (o : Option V) (u : Prop) (P : Program) (d : Option Nat) (os : List (Option (Bool × Bool) × VOper)) (c : VC) (fs : List Fr) (Q : VX → St → Prop) (s : St) : Prop :=
  match o with
  | some v => vk P os c fs Q (s.putO d v)
  | none => u ∧ vk P os c fs Q (s.putO d (.bool true)) ∧ vk P os c fs Q (s.putO d (.bool false))
theorem vkE_some {v : V} {u : Prop} : vkE (some v) u P d os c fs Q s = vk P os c fs Q (s.putO d v) := nr rfl
theorem vkE_none {u : Prop} : vkE none u P d os c fs Q s = (u ∧ vk P os c fs Q (s.putO d (.bool true)) ∧ vk P os c fs Q (s.putO d (.bool false))) := nr rfl
theorem e_eqn {kd : NK} {neg : Bool} {x y : X} : vk P ((none, ⟨d, .eqn kd neg x y, none⟩) :: os) c fs Q s = vkE (evEqn kd neg (s.x x) (s.x y)) (kd = .s ∧ unkS (s.x x) (s.x y) = true) P d os c fs Q s := by
  have h0 : vk P ((none, ⟨d, .eqn kd neg x y, none⟩) :: os) c fs Q s = VO.step P (.eqn kd neg x y) s.x s.ob (fun v ob' => vk P os c fs Q (({ s with ob := ob' } : St).putO d v)) := nr rfl
  have h1 : VO.evR (.eqn kd neg x y) s.x s.ob = (evEqn kd neg (s.x x) (s.x y)).map fun v => (v, []) := rfl
  rw [h0]
  simp only [VO.step, h1]
  cases evEqn kd neg (s.x x) (s.x y) <;> simp [vkE]
theorem e_eqnD {wc : Bool × Bool} {kd : NK} {neg : Bool} {x y : X} : vk P ((some wc, ⟨d, .eqn kd neg x y, none⟩) :: os) c fs Q s = vkV (evEqn kd neg (s.x x) (s.x y)) P d os c fs Q s := by
  rw [e_opD rfl]
  have : (VO.eqn kd neg x y).run s.x s.ob = (evEqn kd neg (s.x x) (s.x y)).map fun v => (v, s.ob) := by
    have h1 : VO.evR (.eqn kd neg x y) s.x s.ob = (evEqn kd neg (s.x x) (s.x y)).map fun v => (v, []) := rfl
    simp only [VO.run, h1]
    cases evEqn kd neg (s.x x) (s.x y) <;> simp
  rw [this]
  cases evEqn kd neg (s.x x) (s.x y) <;> rfl
def evEqa (neg : Bool) (ks : List FK) : V → V → Option V
  | .agg cs, .agg ds => (eqCells ks cs ds).map fun b => .bool (if neg then !b else b)
  | _, _ => none
theorem e_eqa {neg : Bool} {ks : List FK} {x y : X} : vk P ((m, ⟨d, .eqa neg ks x y, none⟩) :: os) c fs Q s = vkV (evEqa neg ks (s.x x) (s.x y)) P d os c fs Q s := by
  rw [e_evP rfl rfl rfl]
  simp only [VO.evP]
  cases s.x x <;> cases s.x y <;> rfl
theorem e_un {op : UnOp} {x : X} : vk P ((m, ⟨d, .un op x, none⟩) :: os) c fs Q s = vkV (evUn op (s.x x)) P d os c fs Q s := nr (e_evP rfl rfl rfl)
def evCint (k : IntKind) : V → Option V
  | .int _ n => some (.int k (k.wrap n))
  | _ => none
theorem e_cint {k : IntKind} {x : X} : vk P ((m, ⟨d, .cint k x, none⟩) :: os) c fs Q s = vkV (evCint k (s.x x)) P d os c fs Q s := by
  rw [e_evP rfl rfl rfl]
  simp only [VO.evP]
  cases s.x x <;> rfl
def evCstr : V → Option V
  | .str l => some (.str l)
  | _ => none
theorem e_cstr {x : X} : vk P ((m, ⟨d, .cstr x, none⟩) :: os) c fs Q s = vkV (evCstr (s.x x)) P d os c fs Q s := by
  rw [e_evP rfl rfl rfl]
  simp only [VO.evP]
  cases s.x x <;> rfl
theorem e_build {z : List V} {ps : List (Nat × Nat × X)} : vk P ((m, ⟨d, .build z ps, none⟩) :: os) c fs Q s = vkV ((fillV s.x z ps).map .agg) P d os c fs Q s := nr (e_evP rfl rfl rfl)
def evNilck : V → Option V
  | .ptr k o => some (.ptr k o)
  | .eptr k i s o => some (.eptr k i s o)
  | .iptr cs => some (.iptr cs)
  | .fn f a b => some (.fn f a b)
  | _ => none
theorem e_nilck {x : X} : vk P ((m, ⟨d, .nilck x, none⟩) :: os) c fs Q s = vkV (evNilck (s.x x)) P d os c fs Q s := by
  rw [e_evP rfl rfl rfl]
  simp only [VO.evP]
  cases s.x x <;> rfl
def evFadr (off : Nat) : V → Option V
  | .ptr k o => some (.ptr k (o + off))
  | .eptr k i s o => some (.eptr k i s (o + off))
  | .iptr cs => some (.iptr (cs.drop off))
  | _ => none
theorem e_fadr {off : Nat} {x : X} : vk P ((m, ⟨d, .fadr off x, none⟩) :: os) c fs Q s = vkV (evFadr off (s.x x)) P d os c fs Q s := by
  rw [e_evP rfl rfl rfl]
  simp only [VO.evP]
  cases s.x x <;> rfl
def evFld (off sz : Nat) (agg : Bool) : V → Option V
  | .agg cs => if off + sz ≤ cs.length then (if agg then some (.agg ((cs.drop off).take sz)) else cs[off]?) else none
  | _ => none
theorem e_fld {off sz : Nat} {agg : Bool} {x : X} : vk P ((m, ⟨d, .fld off sz agg x, none⟩) :: os) c fs Q s = vkV (evFld off sz agg (s.x x)) P d os c fs Q s := by
  rw [e_evP rfl rfl rfl]
  simp only [VO.evP]
  cases s.x x <;> rfl
def rowPtr : Option (List V) → Option V
  | some r => some (.iptr r)
  | none => none
def evIadr (sz : Nat) : V → V → Option V
  | .sl s rows, .int _ n => if 0 ≤ n then if s = sz then rowPtr (rows[n.toNat]?) else none else none
  | .ref k m, .int _ n => if 0 ≤ n then if n.toNat < m then some (.eptr k n.toNat sz 0) else none else none
  | .refs k s off m, .int _ n => if 0 ≤ n then if s = sz ∧ n.toNat < m then some (.eptr k (off + n.toNat) sz 0) else none else none
  | _, _ => none
theorem e_iadr {sz : Nat} {x i : X} : vk P ((m, ⟨d, .iadr none sz x i, none⟩) :: os) c fs Q s = vkV (evIadr sz (s.x x) (s.x i)) P d os c fs Q s := by
  rw [e_evP rfl rfl rfl]
  have : (VO.iadr none sz x i).evP s.x = evIadr sz (s.x x) (s.x i) := by
    simp only [VO.evP]
    cases s.x i <;> cases s.x x <;> simp only [evIadr] <;> (try rfl) <;> (try (split <;> rfl))
    rename_i k n sz' rows
    split
    · split
      · cases rows[n.toNat]? <;> rfl
      · rfl
    · rfl
  rw [this]
def evIadrA (len sz : Nat) : V → V → Option V
  | .ptr k o, .int _ n => if 0 ≤ n ∧ n < len then some (.ptr k (o + n.toNat * sz)) else none
  | .iptr cs, .int _ n => if 0 ≤ n ∧ n < len then some (.iptr (cs.drop (n.toNat * sz))) else none
  | _, _ => none
theorem e_iadrA {len sz : Nat} {x i : X} : vk P ((m, ⟨d, .iadr (some len) sz x i, none⟩) :: os) c fs Q s = vkV (evIadrA len sz (s.x x) (s.x i)) P d os c fs Q s := by
  rw [e_evP rfl rfl rfl]
  have : (VO.iadr (some len) sz x i).evP s.x = evIadrA len sz (s.x x) (s.x i) := by
    simp only [VO.evP]
    cases s.x i <;> cases s.x x <;> simp only [evIadrA] <;> (try rfl) <;> (split <;> rfl)
  rw [this]
def byteV : Option UInt8 → Option V
  | some c => some (.int .u8 c.toNat)
  | none => none
def evIdxs : V → V → Option V
  | .str l, .int _ n => if 0 ≤ n then byteV (l[n.toNat]?) else none
  | _, _ => none
theorem e_idxs {x i : X} : vk P ((m, ⟨d, .idxs x i, none⟩) :: os) c fs Q s = vkV (evIdxs (s.x x) (s.x i)) P d os c fs Q s := by
  rw [e_evP rfl rfl rfl]
  have : (VO.idxs x i).evP s.x = evIdxs (s.x x) (s.x i) := by
    simp only [VO.evP]
    cases s.x x <;> cases s.x i <;> simp only [evIdxs]
    rename_i l k n
    split
    · cases l[n.toNat]? <;> rfl
    · rfl
  rw [this]
def evIdxa (len sz : Nat) (agg : Bool) : V → V → Option V
  | .agg cs, .int _ n => if 0 ≤ n ∧ n < len ∧ len * sz ≤ cs.length ∧ 0 < sz then (if agg then some (.agg ((cs.drop (n.toNat * sz)).take sz)) else cs[n.toNat * sz]?) else none
  | _, _ => none
theorem e_idxa {len sz : Nat} {agg : Bool} {x i : X} : vk P ((m, ⟨d, .idxa len sz agg x i, none⟩) :: os) c fs Q s = vkV (evIdxa len sz agg (s.x x) (s.x i)) P d os c fs Q s := by
  rw [e_evP rfl rfl rfl]
  simp only [VO.evP]
  cases s.x x <;> cases s.x i <;> rfl
def evSlcs (lo hi : Option V) : V → Option V
  | .str l => (boundsV l.length l.length lo hi none).map fun b => .str ((l.take b.2.1).drop b.1)
  | _ => none
theorem e_slcs {x : X} {lo hi : Option X} : vk P ((m, ⟨d, .slcs x lo hi, none⟩) :: os) c fs Q s = vkV (evSlcs (lo.map s.x) (hi.map s.x) (s.x x)) P d os c fs Q s := by
  rw [e_evP rfl rfl rfl]
  simp only [VO.evP]
  cases s.x x <;> rfl
def evSlc (sz : Nat) (lo hi mx : Option V) : V → Option V
  | .sl s rows => if s = sz then (boundsV rows.length rows.length lo hi mx).map fun b => .sl sz ((rows.take b.2.1).drop b.1) else none
  | .nils => (boundsV 0 0 lo hi mx).map fun _ => .nils
  | .ref k n => if mx.isSome then none else match boundsV n n lo hi none with
      | some (l, h, _) => if l = 0 then some (.ref k h) else some (.refs k sz l (h - l))
      | none => none
  | .refs k s off n => if mx.isSome ∨ s ≠ sz then none else match boundsV n n lo hi none with
      | some (l, h, _) => some (.refs k sz (off + l) (h - l))
      | none => none
  | _ => none
theorem e_slc {sz : Nat} {x : X} {lo hi mx : Option X} : vk P ((m, ⟨d, .slc sz x lo hi mx, none⟩) :: os) c fs Q s = vkV (evSlc sz (lo.map s.x) (hi.map s.x) (mx.map s.x) (s.x x)) P d os c fs Q s := by
  rw [e_evP rfl rfl rfl]
  simp only [VO.evP]
  cases s.x x <;> simp only [evSlc, Option.isSome_map] <;> rfl
def evExt (i : Nat) : V → Option V
  | .tup cs => cs[i]?
  | _ => none
theorem e_ext {x : X} {i : Nat} : vk P ((m, ⟨d, .ext x i, none⟩) :: os) c fs Q s = vkV (evExt i (s.x x)) P d os c fs Q s := by
  rw [e_evP rfl rfl rfl]
  simp only [VO.evP]
  cases s.x x <;> rfl
theorem e_fn {f : FuncId} {first caps : List X} : vk P ((m, ⟨d, .fn f first caps, none⟩) :: os) c fs Q s = vk P os c fs Q (s.putO d (.fn f (first.map s.x) (caps.map s.x))) := nr (e_evP rfl rfl rfl)
def evLns : V → Option V
  | .str l => some (.int .i64 l.length)
  | _ => none
def evLn : V → Option V
  | .sl _ rows => some (.int .i64 rows.length)
  | .ref _ n => some (.int .i64 n)
  | .refs _ _ _ n => some (.int .i64 n)
  | .nils => some (.int .i64 0)
  | _ => none
theorem e_lns {x : X} : vk P ((m, ⟨d, .ln true x, none⟩) :: os) c fs Q s = vkV (evLns (s.x x)) P d os c fs Q s := by
  rw [e_evP rfl rfl rfl]
  simp only [VO.evP]
  cases s.x x <;> rfl
theorem e_ln {x : X} : vk P ((m, ⟨d, .ln false x, none⟩) :: os) c fs Q s = vkV (evLn (s.x x)) P d os c fs Q s := by
  rw [e_evP rfl rfl rfl]
  simp only [VO.evP]
  cases s.x x <;> rfl
def evMm (mx : Bool) : List V → Option V
  | .int k a :: r => mmInt mx (.int k a) r
  | _ => none
theorem e_mm {mx : Bool} {xs : List X} : vk P ((m, ⟨d, .mm mx xs, none⟩) :: os) c fs Q s = vkV (evMm mx (xs.map s.x)) P d os c fs Q s := by
  rw [e_evP rfl rfl rfl]
  simp only [VO.evP]
  cases xs.map s.x with
  | nil => rfl
  | cons x r => cases x <;> rfl

theorem e_alloc {z : List V} : vk P ((m, ⟨d, .alloc z, none⟩) :: os) c fs Q s = vk P os c fs Q (({ s with ob := s.ob ++ [some (.box z)] } : St).putO d (.ptr s.ob.length 0)) := by
  rw [e_op rfl rfl]; rfl
def onOk (x : V) (K : Prop) : Prop := match x with | .junk => False | _ => K
theorem e_box {x : X} : vk P ((m, ⟨d, .box x, none⟩) :: os) c fs Q s = if (s.x x).ok = true then vk P os c fs Q (({ s with ob := s.ob ++ [some (.box (s.x x).cells)] } : St).putO d (.ptr s.ob.length 0)) else False := by
  rw [e_op rfl rfl]
  simp only [VO.run, VO.evR]
  by_cases h : (s.x x).ok = true <;> simp [h]
theorem e_load {agg : Bool} {sz : Nat} {x : X} : vk P ((m, ⟨d, .load agg sz x, none⟩) :: os) c fs Q s = vkV ((loadFrom s.ob (s.x x)).bind (loadV agg sz)) P d os c fs Q s := by
  rw [e_op rfl rfl]
  simp only [VO.run, VO.evR]
  cases (loadFrom s.ob (s.x x)).bind (loadV agg sz) <;> simp [vkV, onV]
def evBslI (sz : Nat) : Option (List (List V)) → Option V
  | some rows => if rows.all (fun r => r.all idFree) = true then some (.sl sz rows) else none
  | none => none
theorem e_bslI {e sz len : Nat} {z : List V} {ps : List (Nat × X)} : vk P ((m, ⟨d, .bsl false e sz len z ps, none⟩) :: os) c fs Q s = vkV (evBslI sz (fillRows s.x sz (List.replicate len z) ps)) P d os c fs Q s := by
  rw [e_op rfl rfl]
  simp only [VO.run, VO.evR]
  cases fillRows s.x sz (List.replicate len z) ps with
  | none => rfl
  | some rows => by_cases h : rows.all (fun r => r.all idFree) = true <;> simp only [Option.bind_some, evBslI, h] <;> simp [vkV, onV]
def evBslO (ob : List (Option VObj)) (e sz len : Nat) : Option (List (List V)) → Option (V × List (Option VObj))
  | some rows => if rows.all (fun r => r.all idFree) = true then some (.ref ob.length len, ob ++ [some (.arr e sz rows)]) else none
  | none => none
theorem e_bslO {e sz len : Nat} {z : List V} {ps : List (Nat × X)} : vk P ((m, ⟨d, .bsl true e sz len z ps, none⟩) :: os) c fs Q s = vkW (evBslO s.ob e sz len (fillRows s.x sz (List.replicate len z) ps)) P d os c fs Q s := by
  rw [e_op rfl rfl]
  simp only [VO.run, VO.evR]
  cases fillRows s.x sz (List.replicate len z) ps with
  | none => rfl
  | some rows => by_cases h : rows.all (fun r => r.all idFree) = true <;> simp only [Option.bind_some, evBslO, h] <;> simp [vkW]
def vkM (l cp : V) (e sz bytes : Nat) (z : List V) (P : Program) (d : Option Nat) (os : List (Option (Bool × Bool) × VOper)) (c : VC) (fs : List Fr) (Q : VX → St → Prop) (s : St) : Prop :=
  match l, cp with
  | .int _ n, .int _ q => (0 ≤ n ∧ n = q ∧ n ≤ 140737488355328 ∧ bytes * n ≤ 281474976710656 ∧ z.all idFree = true) ∧ vk P os c fs Q (({ s with ob := s.ob ++ [some (.arr e sz (List.replicate n.toNat z))] } : St).putO d (.ref s.ob.length n.toNat))
  | _, _ => False
theorem vkM_int {k k' : IntKind} {n q : Int} {e sz bytes : Nat} {z : List V} : vkM (.int k n) (.int k' q) e sz bytes z P d os c fs Q s = ((0 ≤ n ∧ n = q ∧ n ≤ 140737488355328 ∧ bytes * n ≤ 281474976710656 ∧ z.all idFree = true) ∧ vk P os c fs Q (({ s with ob := s.ob ++ [some (.arr e sz (List.replicate n.toNat z))] } : St).putO d (.ref s.ob.length n.toNat))) := nr rfl
theorem e_msl {e sz bytes : Nat} {z : List V} {l cp : X} : vk P ((m, ⟨d, .msl e sz bytes z l cp, none⟩) :: os) c fs Q s = vkM (s.x l) (s.x cp) e sz bytes z P d os c fs Q s := by
  rw [e_op rfl rfl]
  simp only [VO.run, VO.evR]
  cases s.x l <;> cases s.x cp <;> simp only [vkM] <;> (try rfl)
  rename_i k n k' q
  by_cases h : 0 ≤ n ∧ n = q ∧ n ≤ 140737488355328 ∧ bytes * n ≤ 281474976710656 ∧ z.all idFree = true
  · rw [if_pos h]; exact propext ⟨fun k => ⟨h, by simpa using k⟩, fun k => by simpa using k.2⟩
  · rw [if_neg h]; exact propext ⟨fun k => k.elim, fun k => (h k.1).elim⟩
def evB2s (ob : List (Option VObj)) : V → Option V
  | .sl 1 rows => (rowsBytes rows).map .str
  | .nils => some (.str [])
  | .ref k n => match objRows ob k with
      | some (1, rows) => if n ≤ rows.length then (rowsBytes (rows.take n)).map .str else none
      | _ => none
  | _ => none
theorem e_b2s {x : X} : vk P ((m, ⟨d, .b2s x, none⟩) :: os) c fs Q s = vkV (evB2s s.ob (s.x x)) P d os c fs Q s := by
  rw [e_op rfl rfl]
  have : (VO.b2s x).run s.x s.ob = (evB2s s.ob (s.x x)).map fun v => (v, s.ob) := by
    simp only [VO.run, VO.evR]
    generalize s.x x = v
    cases v
    case sl sz rows =>
      by_cases h1 : sz = 1
      · subst h1
        simp only [evB2s]
        cases rowsBytes rows <;> simp
      · have e1 : evB2s s.ob (.sl sz rows) = none := by unfold evB2s; split <;> simp_all
        rw [e1]
        split <;> simp_all
    case nils => simp [evB2s]
    case ref k n =>
      simp only [evB2s]
      cases ho : objRows s.ob k with
      | none => rfl
      | some p =>
        obtain ⟨sz, rows⟩ := p
        by_cases h1 : sz = 1
        · subst h1
          simp only
          by_cases h2 : n ≤ rows.length
          · simp only [h2, if_true]
            cases rowsBytes (rows.take n) <;> simp
          · simp [h2]
        · split <;> simp_all
    all_goals simp [evB2s]
  rw [this]
  cases evB2s s.ob (s.x x) <;> rfl
def evS2b (e : Nat) (ob : List (Option VObj)) : V → Option (V × List (Option VObj))
  | .str l => if e = 0 then (if l.length ≤ 140737488355328 then some (.ref ob.length l.length, ob ++ [some (.arr 0 1 (bRows l))]) else none) else some (.sl 1 (bRows l), ob)
  | _ => none
theorem e_s2b {e : Nat} {x : X} : vk P ((m, ⟨d, .s2b e x, none⟩) :: os) c fs Q s = vkW (evS2b e s.ob (s.x x)) P d os c fs Q s := by
  rw [e_op rfl rfl]
  have : (VO.s2b e x).run s.x s.ob = evS2b e s.ob (s.x x) := by
    simp only [VO.run, VO.evR]
    cases s.x x <;> simp only [evS2b] <;> (try rfl)
    split
    · split <;> simp
    · simp
  rw [this]
  cases evS2b e s.ob (s.x x) <;> rfl

def evStore (sz : Nat) (ob : List (Option VObj)) (a x : V) : Option (List (Option VObj)) :=
  if x.ok = true ∧ x.cells.length = sz ∧ x.cells.all VO.evW.isCell = true then (match a with
    | .ptr k off => match ob[k]? with
      | some (some (.box cs)) => if off + sz ≤ cs.length then some (ob.set k (some (.box (putCells cs off x.cells)))) else none
      | _ => none
    | .eptr k i s off => match ob[k]? with
      | some (some (.arr e s' rows)) => if s = s' ∧ x.cells.all idFree = true then (match rows[i]? with
        | some row => if off + sz ≤ row.length ∧ row.length = s then some (ob.set k (some (.arr e s (rows.set i (putCells row off x.cells))))) else none
        | none => none) else none
      | _ => none
    | _ => none) else none
theorem e_store {sz : Nat} {x y : X} : vk P ((m, ⟨none, .store sz x y, none⟩) :: os) c fs Q s = vkO (evStore sz s.ob (s.x x) (s.x y)) P os c fs Q s := by
  rw [e_op rfl rfl]
  have : (VO.store sz x y).run s.x s.ob = (evStore sz s.ob (s.x x) (s.x y)).map fun ob => (.junk, ob) := by
    simp only [VO.run, VO.evW, evStore]
    split
    · cases s.x x <;> simp only [Option.map_none]
      · rename_i k off
        cases s.ob[k]? with
        | none => rfl
        | some o => cases o with
          | none => rfl
          | some o => cases o <;> simp only [Option.map_none]; split <;> rfl
      · rename_i k i s' off
        cases s.ob[k]? with
        | none => rfl
        | some o => cases o with
          | none => rfl
          | some o =>
            cases o <;> simp only [Option.map_none]
            split
            · rename_i rows _
              cases rows[i]? with
              | none => rfl
              | some row => simp only; split <;> rfl
            · rfl
    · rfl
  rw [this]
  cases evStore sz s.ob (s.x x) (s.x y) <;> rfl

def vkA (p : Option (Option Nat × List (List V))) (q : Option (List (List V))) (e sz bytes : Nat) (P : Program) (d : Option Nat) (os : List (Option (Bool × Bool) × VOper)) (c : VC) (fs : List Fr) (Q : VX → St → Prop) (s : St) : Prop :=
  match p, q with
  | some (old, rows), some rows2 => (rows.length + rows2.length ≤ 140737488355328 ∧ (rows.length + rows2.length) * bytes ≤ 140737488355328) ∧ vk P os c fs Q (({ s with ob := dropOb s.ob old ++ [some (.arr e sz (rows ++ rows2))] } : St).putO d (.ref s.ob.length (rows ++ rows2).length))
  | _, _ => False
theorem vkA_some {old : Option Nat} {rows rows2 : List (List V)} {e sz bytes : Nat} : vkA (some (old, rows)) (some rows2) e sz bytes P d os c fs Q s = ((rows.length + rows2.length ≤ 140737488355328 ∧ (rows.length + rows2.length) * bytes ≤ 140737488355328) ∧ vk P os c fs Q (({ s with ob := dropOb s.ob old ++ [some (.arr e sz (rows ++ rows2))] } : St).putO d (.ref s.ob.length (rows ++ rows2).length))) := nr rfl
theorem e_app {e sz bytes : Nat} {x y : X} : vk P ((m, ⟨d, .app e sz bytes x y, none⟩) :: os) c fs Q s = vkA (appRows s.ob e sz (s.x x)) (srcRows s.ob sz (s.x y)) e sz bytes P d os c fs Q s := by
  rw [e_op rfl rfl]
  simp only [VO.run, VO.evW]
  cases appRows s.ob e sz (s.x x) with
  | none => rfl
  | some p =>
    obtain ⟨old, rows⟩ := p
    cases srcRows s.ob sz (s.x y) with
    | none => rfl
    | some rows2 =>
      simp only [vkA]
      by_cases h : rows.length + rows2.length ≤ 140737488355328 ∧ (rows.length + rows2.length) * bytes ≤ 140737488355328
      · simp [h]
      · rw [if_neg h]; simp [h]
def strRows : V → Option (List (List V))
  | .str l => some (bRows l)
  | _ => none
def vkAs (p : Option (Option Nat × List (List V))) (y : V) (e : Nat) (P : Program) (d : Option Nat) (os : List (Option (Bool × Bool) × VOper)) (c : VC) (fs : List Fr) (Q : VX → St → Prop) (s : St) : Prop :=
  match p, y with
  | some (old, rows), .str l => (rows.length + l.length ≤ 140737488355328) ∧ vk P os c fs Q (({ s with ob := dropOb s.ob old ++ [some (.arr e 1 (rows ++ bRows l))] } : St).putO d (.ref s.ob.length (rows ++ bRows l).length))
  | _, _ => False
theorem vkAs_some {old : Option Nat} {rows : List (List V)} {l : List UInt8} {e : Nat} : vkAs (some (old, rows)) (.str l) e P d os c fs Q s = ((rows.length + l.length ≤ 140737488355328) ∧ vk P os c fs Q (({ s with ob := dropOb s.ob old ++ [some (.arr e 1 (rows ++ bRows l))] } : St).putO d (.ref s.ob.length (rows ++ bRows l).length))) := nr rfl
theorem e_apps {e : Nat} {x y : X} : vk P ((m, ⟨d, .apps e x y, none⟩) :: os) c fs Q s = vkAs (appRows s.ob e 1 (s.x x)) (s.x y) e P d os c fs Q s := by
  rw [e_op rfl rfl]
  simp only [VO.run, VO.evW]
  cases appRows s.ob e 1 (s.x x) with
  | none => rfl
  | some p =>
    obtain ⟨old, rows⟩ := p
    cases s.x y <;> simp only [vkAs]
    rename_i l
    by_cases h : rows.length + l.length ≤ 140737488355328
    · simp [h]
    · rw [if_neg h]; simp [h]

theorem e_guardB {o : VO} {t : Nat} {want : Bool} : vk P ((m, ⟨d, o, some (t, want)⟩) :: os) c fs Q s = vkG (s.get t) want P m d o os c fs Q s := by
  rw [e_guard]
  unfold vkG
  rfl
theorem e_condB {x : X} : vk P [] (.cond x a b) fs Q s = vkC (s.x x) P a b fs Q s := by
  rw [e_cond]
  cases s.x x <;> rfl

/-! maps, and own arrays laid with zeros -/
theorem e_boxI {x : X} : vk P ((m, ⟨d, .boxI x, none⟩) :: os) c fs Q s = if (s.x x).ok = true ∧ (s.x x).cells.all idFree = true then vk P os c fs Q (s.putO d (.iptr (s.x x).cells)) else False := by
  rw [e_op rfl rfl]
  simp only [VO.run, VO.evR]
  by_cases h : (s.x x).ok = true ∧ (s.x x).cells.all idFree = true
  · rw [if_pos h, if_pos h]; simp
  · rw [if_neg h, if_neg h]; rfl
theorem e_mkmap {l : List X} : vk P ((m, ⟨d, .mkmap l, none⟩) :: os) c fs Q s = if ((l.map s.x).all isInt) = true then vk P os c fs Q (({ s with ob := s.ob ++ [some (.map [] 0)] } : St).putO d (.mapr s.ob.length)) else False := by
  rw [e_op rfl rfl]
  simp only [VO.run, VO.evR]
  have : (l.all fun x => isInt (s.x x)) = ((l.map s.x).all isInt) := by rw [List.all_map]; rfl
  rw [this]
  by_cases h : ((l.map s.x).all isInt) = true <;> simp [h]
def lookV (ck : Bool) (z : V) : Option (Option V) → Option V
  | some (some v) => some (if ck then .tup [v, .bool true] else v)
  | some none => some (if ck then .tup [z, .bool false] else z)
  | none => none
def objLook (ck : Bool) (kd : MK) (z key : V) : Option (Option VObj) → Option V
  | some (some (.map es _)) => if isKey kd key = true then lookV ck z (mfind kd key es) else none
  | _ => none
def evLook (ck : Bool) (kd : MK) (z : V) (ob : List (Option VObj)) (key : V) : V → Option V
  | .nilm => if isKey kd key = true then lookV ck z (some none) else none
  | .mapr k => objLook ck kd z key ob[k]?
  | _ => none
theorem e_look {ck : Bool} {kd : MK} {z : V} {x i : X} : vk P ((m, ⟨d, .look ck kd z x i, none⟩) :: os) c fs Q s = vkV (evLook ck kd z s.ob (s.x i) (s.x x)) P d os c fs Q s := by
  rw [e_op rfl rfl]
  have : (VO.look ck kd z x i).run s.x s.ob = (evLook ck kd z s.ob (s.x i) (s.x x)).map fun v => (v, s.ob) := by
    simp only [VO.run, VO.evR]
    cases hx : s.x x <;> simp only [evLook] <;> (try (split <;> rfl))
    case nilm =>
      split
      · simp [lookV]
      · rfl
    case mapr k =>
      cases ho : s.ob[k]? with
      | none => simp only [objLook]; split <;> rfl
      | some o =>
        cases o with
        | none => simp only [objLook]; split <;> rfl
        | some o =>
          cases o <;> simp only [objLook] <;> (try (split <;> rfl))
          split
          · cases mfind kd (s.x i) _ with
            | none => rfl
            | some q => cases q <;> simp [lookV]
          · rfl
  rw [this]
  cases evLook ck kd z s.ob (s.x i) (s.x x) <;> rfl
def objRng (k : Nat) (ob : List (Option VObj)) : Option (Option VObj) → Option (V × List (Option VObj))
  | some (some (.map _ clock)) => some (.ptr ob.length 0, ob ++ [some (.miter (some k) clock [] clock)])
  | _ => none
def evRng (ob : List (Option VObj)) : V → Option (V × List (Option VObj))
  | .nilm => some (.ptr ob.length 0, ob ++ [some (.miter none 0 [] 0)])
  | .mapr k => objRng k ob ob[k]?
  | _ => none
theorem e_rng {x : X} : vk P ((m, ⟨d, .rng x, none⟩) :: os) c fs Q s = vkW (evRng s.ob (s.x x)) P d os c fs Q s := by
  rw [e_op rfl rfl]
  have : (VO.rng x).run s.x s.ob = evRng s.ob (s.x x) := by
    simp only [VO.run, VO.evR]
    cases hx : s.x x <;> simp only [evRng] <;> (try rfl)
    rename_i k
    cases ho : s.ob[k]? with
    | none => rfl
    | some o =>
      cases o with
      | none => rfl
      | some o => cases o <;> rfl
  rw [this]
  cases evRng s.ob (s.x x) <;> rfl
def updV (kd : MK) (key x : V) (b : Nat) (ob : List (Option VObj)) (es : List (Nat × V × V)) (clock : Nat) : Option (Option V) → Option (V × List (Option VObj))
  | some (some _) => some (.junk, ob.set b (some (.map (mset kd key x es) clock)))
  | some none => some (.junk, ob.set b (some (.map (es ++ [(clock, key, x)]) (clock + 1))))
  | none => none
def objUpd (kd : MK) (key x : V) (b : Nat) (ob : List (Option VObj)) : Option (Option VObj) → Option (V × List (Option VObj))
  | some (some (.map es clock)) => updV kd key x b ob es clock (mfind kd key es)
  | _ => none
def evUpd (kd : MK) (ob : List (Option VObj)) (key x : V) : V → Option (V × List (Option VObj))
  | .mapr b => if isKey kd key = true ∧ elemFree x = true then objUpd kd key x b ob ob[b]? else none
  | _ => none
theorem e_upd {kd : MK} {x k y : X} : vk P ((m, ⟨d, .upd kd x k y, none⟩) :: os) c fs Q s = vkW (evUpd kd s.ob (s.x k) (s.x y) (s.x x)) P d os c fs Q s := by
  rw [e_op rfl rfl]
  have : (VO.upd kd x k y).run s.x s.ob = evUpd kd s.ob (s.x k) (s.x y) (s.x x) := by
    simp only [VO.run, VO.evW]
    cases hx : s.x x <;> simp only [evUpd] <;> (try (split <;> rfl))
  rw [this]
  cases evUpd kd s.ob (s.x k) (s.x y) (s.x x) <;> rfl
def delV (kd : MK) (key : V) (b : Nat) (ob : List (Option VObj)) (es : List (Nat × V × V)) (clock : Nat) : Option (Option V) → Option (V × List (Option VObj))
  | some (some _) => some (.junk, ob.set b (some (.map (mdel kd key es) clock)))
  | some none => some (.junk, ob.set b (some (.map es clock)))
  | none => none
def objDel (kd : MK) (key : V) (b : Nat) (ob : List (Option VObj)) : Option (Option VObj) → Option (V × List (Option VObj))
  | some (some (.map es clock)) => delV kd key b ob es clock (mfind kd key es)
  | _ => none
def evDel (kd : MK) (ob : List (Option VObj)) (key : V) : V → Option (V × List (Option VObj))
  | .mapr b => if isKey kd key = true then objDel kd key b ob ob[b]? else none
  | _ => none
theorem e_del {kd : MK} {x k : X} : vk P ((m, ⟨d, .del kd x k, none⟩) :: os) c fs Q s = vkW (evDel kd s.ob (s.x k) (s.x x)) P d os c fs Q s := by
  rw [e_op rfl rfl]
  have : (VO.del kd x k).run s.x s.ob = evDel kd s.ob (s.x k) (s.x x) := by
    simp only [VO.run, VO.evW]
    cases hx : s.x x <;> simp only [evDel] <;> (try (split <;> rfl))
  rw [this]
  cases evDel kd s.ob (s.x k) (s.x x) <;> rfl
def nkArr (ob : List (Option VObj)) (k : Nat) (o : VObj) : Option (V × List (Option VObj)) := some (.junk, ob.set k (some o))
def objClr (sz : Nat) (z : List V) (k off n : Nat) (ob : List (Option VObj)) : Option (Option VObj) → Option (V × List (Option VObj))
  | some (some (.arr e s rows)) => if s = sz ∧ off + n ≤ rows.length ∧ z.all idFree = true then some (.junk, ob.set k (some (.arr e s (rows.take off ++ List.replicate n z ++ rows.drop (off + n))))) else none
  | _ => none
def evClr (sz : Nat) (z : List V) (ob : List (Option VObj)) : V → Option (V × List (Option VObj))
  | .nils => some (.junk, ob)
  | .ref k n => objClr sz z k 0 n ob ob[k]?
  | .refs k s off n => if s = sz then objClr sz z k off n ob ob[k]? else none
  | _ => none
theorem e_clr {sz : Nat} {z : List V} {x : X} : vk P ((m, ⟨d, .clr sz z x, none⟩) :: os) c fs Q s = vkW (evClr sz z s.ob (s.x x)) P d os c fs Q s := by
  rw [e_op rfl rfl]
  have : (VO.clr sz z x).run s.x s.ob = evClr sz z s.ob (s.x x) := by
    simp only [VO.run, VO.evW]
    cases hx : s.x x <;> simp only [evClr] <;> (try rfl)
    case ref k n =>
      cases ho : s.ob[k]? with
      | none => rfl
      | some o =>
        cases o with
        | none => rfl
        | some o => cases o <;> simp only [objClr, List.take_zero, List.nil_append, Nat.zero_add]
    case refs k s1 off n =>
      by_cases h1 : s1 = sz
      · subst h1
        rw [if_pos rfl]
        cases ho : s.ob[k]? with
        | none => rfl
        | some o =>
          cases o with
          | none => rfl
          | some o => cases o <;> simp only [objClr, true_and]
      · rw [if_neg h1]
        cases ho : s.ob[k]? with
        | none => rfl
        | some o =>
          cases o with
          | none => rfl
          | some o => cases o <;> simp [h1]
  rw [this]
  cases evClr sz z s.ob (s.x x) <;> rfl
theorem isKey_i (q : IntKind) (n : Int) : isKey (.i q) (.int q n) = true := by simp [isKey]
theorem isKey_s (l : List UInt8) : isKey .s (.str l) = true := rfl
theorem elemFree_agg (cs : List V) : elemFree (.agg cs) = cs.all idFree := rfl
end
end Go.Proofs.VL

namespace Go.Proofs.VL
open Go Go.RowKit
set_option linter.unusedSimpArgs false
set_option linter.unusedVariables false

/-! ### arguments, as values -/
mutual
def bulkD {H : Type} : DataW H → Nat
  | .lit (.string bytes) => bytes.length + 1
  | .lit _ => 1
  | .nil => 1
  | .ptr d => bulkD d + 1
  | .slice elems spare => bulkL elems + bulkL spare + 1
  | .agg parts => bulkL parts + 1
  | .iface _ d => bulkD d + 1
  | .map entries => bulkE entries + 1
  | .held _ => 1
def bulkL {H : Type} : List (DataW H) → Nat
  | [] => 0
  | d :: r => bulkD d + bulkL r
def bulkE {H : Type} : List (Lit × DataW H) → Nat
  | [] => 0
  | x :: r => bulkP x + bulkE r
def bulkP {H : Type} : Lit × DataW H → Nat
  | (.string bytes, d) => bytes.length + bulkD d + 1
  | (_, d) => bulkD d + 1
end

/-- A value's cells, of a type, and its bulk. -/
inductive Ty (P : Program) : TypeId → List V → Nat → Prop
  | bool {t : TypeId} (b : Bool) : P.underlying t = some .bool → Ty P t [.bool b] 1
  | int {t : TypeId} {k : IntKind} (n : Int) : P.underlying t = some (.int k) → (Lit.int k n).wf = true → Ty P t [.int k n] 1
  | str {t : TypeId} (l : List UInt8) : P.underlying t = some .string → Ty P t [.str l] (l.length + 1)
  | slice {t e : TypeId} {rows : List (List V)} {bs : List Nat} : P.underlying t = some (.slice e) → rows.length = bs.length → (∀ (i : Nat) r b, rows[i]? = some r → bs[i]? = some b → Ty P e r b) → Ty P t [.sl (P.cellsOf e) rows] (bs.sum + 1)
  | struct {t : TypeId} {fs : Array Field} {xss : List (List V)} {bs : List Nat} : P.underlying t = some (.struct fs) → xss.length = fs.size → bs.length = fs.size → (∀ (i : Nat) f xs b, fs.toList[i]? = some f → xss[i]? = some xs → bs[i]? = some b → Ty P f.type xs b) → Ty P t xss.flatten (bs.sum + 1)
  | other {t : TypeId} {xs : List V} {b : Nat} : (∀ k, P.underlying t ≠ some (.int k)) → P.underlying t ≠ some .bool → P.underlying t ≠ some .string → (∀ e, P.underlying t ≠ some (.slice e)) → (∀ fs, P.underlying t ≠ some (.struct fs)) → Ty P t xs b

theorem Ty.boolI {P : Program} {t : TypeId} {xs : List V} {b : Nat} (h : Ty P t xs b) (hu : P.underlying t = some .bool) : ∃ q, xs = [.bool q] ∧ b = 1 := by
  cases h with
  | bool q _ => exact ⟨q, rfl, rfl⟩
  | int _ h => rw [hu] at h; cases h
  | str _ h => rw [hu] at h; cases h
  | slice h => rw [hu] at h; cases h
  | struct h => rw [hu] at h; cases h
  | other _ h => exact absurd hu h
theorem Ty.intI {P : Program} {t : TypeId} {k : IntKind} {xs : List V} {b : Nat} (h : Ty P t xs b) (hu : P.underlying t = some (.int k)) : ∃ n, xs = [.int k n] ∧ (Lit.int k n).wf = true ∧ b = 1 := by
  cases h with
  | bool q h => rw [hu] at h; cases h
  | int n h hw => rw [hu] at h; cases h; exact ⟨n, rfl, hw, rfl⟩
  | str _ h => rw [hu] at h; cases h
  | slice h => rw [hu] at h; cases h
  | struct h => rw [hu] at h; cases h
  | other h => exact absurd hu (h k)
theorem Ty.strI {P : Program} {t : TypeId} {xs : List V} {b : Nat} (h : Ty P t xs b) (hu : P.underlying t = some .string) : ∃ l, xs = [.str l] ∧ b = l.length + 1 := by
  cases h with
  | bool q h => rw [hu] at h; cases h
  | int n h hw => rw [hu] at h; cases h
  | str l h => exact ⟨l, rfl, rfl⟩
  | slice h => rw [hu] at h; cases h
  | struct h => rw [hu] at h; cases h
  | other _ _ h => exact absurd hu h
theorem Ty.sliceI {P : Program} {t e : TypeId} {xs : List V} {b : Nat} (h : Ty P t xs b) (hu : P.underlying t = some (.slice e)) : ∃ (rows : List (List V)) (bs : List Nat), xs = [.sl (P.cellsOf e) rows] ∧ rows.length = bs.length ∧ (∀ (i : Nat) r b, rows[i]? = some r → bs[i]? = some b → Ty P e r b) ∧ b = bs.sum + 1 := by
  cases h with
  | bool q h => rw [hu] at h; cases h
  | int n h hw => rw [hu] at h; cases h
  | str l h => rw [hu] at h; cases h
  | slice h h1 h2 => rw [hu] at h; cases h; exact ⟨_, _, rfl, h1, h2, rfl⟩
  | struct h => rw [hu] at h; cases h
  | other _ _ _ h => exact absurd hu (h e)
theorem Ty.structI {P : Program} {t : TypeId} {fs : Array Field} {xs : List V} {b : Nat} (h : Ty P t xs b) (hu : P.underlying t = some (.struct fs)) : ∃ (xss : List (List V)) (bs : List Nat), xs = xss.flatten ∧ xss.length = fs.size ∧ bs.length = fs.size ∧ (∀ (i : Nat) f xs b, fs.toList[i]? = some f → xss[i]? = some xs → bs[i]? = some b → Ty P f.type xs b) ∧ b = bs.sum + 1 := by
  cases h with
  | bool q h => rw [hu] at h; cases h
  | int n h hw => rw [hu] at h; cases h
  | str l h => rw [hu] at h; cases h
  | slice h h1 h2 => rw [hu] at h; cases h
  | struct h h1 h2 h3 => rw [hu] at h; cases h; exact ⟨_, _, rfl, h1, h2, h3, rfl⟩
  | other _ _ _ _ h => exact absurd hu (h fs)

theorem mapM_some {α β : Type} {f : α → Option β} : ∀ {l : List α} {r : List β}, l.mapM f = some r → r.length = l.length ∧ ∀ (i : Nat) x, l[i]? = some x → ∃ y, r[i]? = some y ∧ f x = some y
  | [], r, h => by simp at h; subst h; exact ⟨rfl, fun i x h => by simp at h⟩
  | a :: l, r, h => by
    simp only [List.mapM_cons] at h
    cases ha : f a with
    | none => simp [ha] at h
    | some b =>
      cases hl : l.mapM f with
      | none => simp [ha, hl] at h
      | some q =>
        simp [ha, hl] at h
        subst h
        obtain ⟨h1, h2⟩ := mapM_some hl
        refine ⟨by simp [h1], fun i x hx => ?_⟩
        cases i with
        | zero => simp at hx; subst hx; exact ⟨b, rfl, ha⟩
        | succ i => simpa using h2 i x (by simpa using hx)

theorem bulkL_sum {H : Type} : ∀ (l : List (DataW H)), bulkL l = (l.map bulkD).sum
  | [] => rfl
  | d :: l => by simp [bulkL, bulkL_sum l]

theorem sum_le : ∀ {a b : List Nat}, a.length = b.length → (∀ (i x y : Nat), a[i]? = some x → b[i]? = some y → x ≤ y) → a.sum ≤ b.sum
  | [], [], _, _ => Nat.le_refl _
  | x :: a, y :: b, h, hl => by
    have h1 := hl 0 x y rfl rfl
    have h2 := sum_le (a := a) (b := b) (by simpa using h) (fun i p q hp hq => hl (i + 1) p q (by simpa using hp) (by simpa using hq))
    simp only [List.sum_cons]; omega
  | [], _ :: _, h, _ => by simp at h
  | _ :: _, [], h, _ => by simp at h

/-- Rows by each one's cells. -/
theorem flat_of {w : World} {E : Env} {sz : Nat} : ∀ {xss : List (List V)} {vss : List (List Value)}, xss.length = vss.length → (∀ (i : Nat) xs vs, xss[i]? = some xs → vss[i]? = some vs → RepL w E xs vs ∧ vs.length = sz) → RepFlat w E sz xss vss.flatten
  | [], [], _, _ => by simp [RepFlat]
  | x :: xss, v :: vss, h, hl => by
    obtain ⟨h1, h2⟩ := hl 0 x v rfl rfl
    exact ⟨v, vss.flatten, by simp, h2, h1, flat_of (by simpa using h) (fun i p q hp hq => hl (i + 1) p q (by simpa using hp) (by simpa using hq))⟩
  | [], _ :: _, h, _ => by simp at h
  | _ :: _, [], h, _ => by simp at h

theorem list_of {w : World} {E : Env} : ∀ {xss : List (List V)} {vss : List (List Value)}, xss.length = vss.length → (∀ (i : Nat) xs vs, xss[i]? = some xs → vss[i]? = some vs → RepL w E xs vs) → RepL w E xss.flatten vss.flatten
  | [], [], _, _ => by simp [RepL]
  | x :: xss, v :: vss, h, hl => by
    simp only [List.flatten_cons]
    exact (hl 0 x v rfl rfl).append (list_of (by simpa using h) (fun i p q hp hq => hl (i + 1) p q (by simpa using hp) (by simpa using hq)))
  | [], _ :: _, h, _ => by simp at h
  | _ :: _, [], h, _ => by simp at h

theorem flatten_get {sz : Nat} : ∀ {vss : List (List Value)}, (∀ vs ∈ vss, vs.length = sz) → ∀ (i k : Nat) vs v, vss[i]? = some vs → vs[k]? = some v → vss.flatten[i * sz + k]? = some v
  | [], _, i, k, vs, v, h, _ => by simp at h
  | q :: vss, hl, i, k, vs, v, h, hk => by
    have hq := hl q (by simp)
    cases i with
    | zero =>
      simp at h; subst h
      have := getElem?_lt hk
      simp only [Nat.zero_mul, Nat.zero_add, List.flatten_cons]
      rw [List.getElem?_append_left this]; exact hk
    | succ i =>
      simp only [List.flatten_cons]
      rw [List.getElem?_append_right (by rw [hq, Nat.add_mul]; omega)]
      have := flatten_get (vss := vss) (fun vs h => hl vs (by simp [h])) i k vs v (by simpa using h) hk
      rw [← this]; congr 1; rw [hq, Nat.add_mul]; omega

/-- A list in pieces of given lengths. -/
theorem tile {α : Type} : ∀ (ns : List Nat) (cs : List α), cs.length = ns.sum → cs = ((List.range ns.length).map fun i => (cs.drop ((ns.take i).sum)).take (ns.getD i 0)).flatten
  | [], cs, h => by
    have : cs = [] := List.eq_nil_of_length_eq_zero (by simpa using h)
    subst this; rfl
  | n :: ns, cs, h => by
    have ih := tile ns (cs.drop n) (by simp at h ⊢; omega)
    rw [List.length_cons, List.range_succ_eq_map, List.map_cons, List.flatten_cons, List.map_map]
    have e : ((fun i => (cs.drop (((n :: ns).take i).sum)).take ((n :: ns).getD i 0)) ∘ Nat.succ) = fun i => ((cs.drop n).drop ((ns.take i).sum)).take (ns.getD i 0) := by
      funext i
      simp [List.drop_drop]
    rw [e, ← ih]
    simp

section
variable {H : Type} {enc : TypeId × Value → H} {P : Program}

/-- Nothing of one's own; all that lies there is only read. -/
def Env.bare : Env := { dom := fun _ => False, lab := fun _ => .imm, blk := fun _ => 0, cap := fun _ => 0, nil := fun _ => false }

/-- WHAT CAN BE READ AS DATA IS, AS IT LIES, ROWS AND VALUES. -/
theorem trod_rep {T : TypeId → Prop} (K : Kids P T) (hz : ∀ t e, T t → P.underlying t = some (.slice e) → 0 < P.cellsOf e) {w : World} {spare : Nat → Bool} {held : Bool} : ∀ (fuel : Nat) (t : TypeId) (cs : List Value) (d : DataW H) (ps : List MemPlace), T t → DataW.trod enc P w 0 spare held fuel t cs = some (d, ps) →
    ∃ xs b, RepL w Env.bare xs cs ∧ Ones cs ∧ b ≤ bulkD d ∧ Ty P t xs b := by
  intro fuel
  induction fuel with
  | zero => intro t cs d ps _ h; simp [DataW.trod] at h
  | succ fuel ih =>
    intro t cs d ps hT h
    have hj : ∀ (cs : List Value), RepL w Env.bare (cs.map fun _ => V.junk) cs := by
      intro cs
      induction cs with
      | nil => rfl
      | cons c cs ih => exact ⟨c, cs, rfl, trivial, ih⟩
    unfold DataW.trod at h
    cases hu : P.underlying t with
    | none => rw [hu] at h; simp at h
    | some k =>
      rw [hu] at h
      cases k with
      | bool =>
        split at h <;> try (simp_all; done)
        rename_i b hk
        simp at h
        obtain ⟨rfl, _⟩ := h
        exact ⟨[.bool b], 1, ⟨_, [], rfl, rfl, rfl⟩, by intro u hu; simp at hu; subst hu; rfl, by simp [bulkD], .bool b hu⟩
      | int k =>
        rcases cs with _ | ⟨v, _ | ⟨u, r⟩⟩ <;> try (simp at h; done)
        cases v with
        | int k' n =>
          simp at h
          obtain ⟨⟨rfl, hw⟩, rfl, _⟩ := h
          exact ⟨[.int k' n], 1, ⟨_, [], rfl, rfl, rfl⟩, by intro u hu; simp at hu; subst hu; rfl, by simp [bulkD], .int n hu hw⟩
        | _ => simp at h
      | string =>
        rcases cs with _ | ⟨v, _ | ⟨u, r⟩⟩ <;> try (simp at h; done)
        cases v with
        | string s =>
          simp at h
          obtain ⟨_, rfl, _⟩ := h
          exact ⟨[.str s.data.toList], s.data.toList.length + 1, ⟨_, [], rfl, by simp [Rep], rfl⟩, by intro u hu; simp at hu; subst hu; rfl, by simp [bulkD], .str _ hu⟩
        | _ => simp at h
      | slice e =>
        rcases cs with _ | ⟨v, _ | ⟨u, r⟩⟩ <;> try (simp at h; done)
        cases v <;> try (simp at h; done)
        rename_i ao len cap
        cases ao with
        | none =>
          have hl0 : len = 0 ∧ cap = 0 := by
            cases len <;> cases cap <;> simp at h ⊢
          obtain ⟨rfl, rfl⟩ := hl0
          simp at h
          obtain ⟨rfl, _⟩ := h
          refine ⟨[.sl (P.cellsOf e) []], 1, ⟨_, [], rfl, Rep.sub (.nil _) (by simp [Rep]), rfl⟩, by intro u hu; simp at hu; subst hu; rfl, by simp [bulkD], ?_⟩
          have := Ty.slice (P := P) (rows := []) (bs := []) hu rfl (fun i r b h => by simp at h)
          simpa using this
        | some a =>
          simp only at h
          split at h <;> try (cases h; done)
          rename_i hc
          simp only [Option.bind_eq_some_iff, Option.map_eq_some_iff] at h
          obtain ⟨elems, he, rest, hrest, hd⟩ := h
          simp only [Prod.mk.injEq] at hd
          obtain ⟨rfl, _⟩ := hd
          obtain ⟨hl, hg⟩ := mapM_some he
          simp only [List.length_range] at hl
          have each : ∀ i, i < len → ∃ vs x xs b, w.cells? 0 (a.add (i * P.cellsOf e)) (P.cellsOf e) = some vs ∧ elems[i]? = some x ∧ RepL w Env.bare xs vs ∧ Ones vs ∧ b ≤ bulkD x.1 ∧ Ty P e xs b := by
            intro i hi
            obtain ⟨y, hy, hf⟩ := hg i i (by simp [hi])
            rw [Option.bind_eq_some_iff] at hf
            obtain ⟨vs, hv, ht⟩ := hf
            obtain ⟨xs, b, q1, q2, q3, q4⟩ := ih e vs y.1 y.2 (K.slice hT hu) ht
            exact ⟨vs, y, xs, b, hv, hy, q1, q2, q3, q4⟩
          have hch : ∃ (vss : List (List Value)) (xss : List (List V)) (bs : List Nat), vss.length = len ∧ xss.length = len ∧ bs.length = len ∧ ∀ i, i < len → ∃ vs x xs b, vss[i]? = some vs ∧ xss[i]? = some xs ∧ bs[i]? = some b ∧ w.cells? 0 (a.add (i * P.cellsOf e)) (P.cellsOf e) = some vs ∧ elems[i]? = some x ∧ RepL w Env.bare xs vs ∧ Ones vs ∧ b ≤ bulkD x.1 ∧ Ty P e xs b := by
            have : ∀ n, n ≤ len → ∃ (vss : List (List Value)) (xss : List (List V)) (bs : List Nat), vss.length = n ∧ xss.length = n ∧ bs.length = n ∧ ∀ i, i < n → ∃ vs x xs b, vss[i]? = some vs ∧ xss[i]? = some xs ∧ bs[i]? = some b ∧ w.cells? 0 (a.add (i * P.cellsOf e)) (P.cellsOf e) = some vs ∧ elems[i]? = some x ∧ RepL w Env.bare xs vs ∧ Ones vs ∧ b ≤ bulkD x.1 ∧ Ty P e xs b := by
              intro n
              induction n with
              | zero => intro _; exact ⟨[], [], [], rfl, rfl, rfl, fun i hi => by omega⟩
              | succ n ihn =>
                intro hn
                obtain ⟨vss, xss, bs, h1, h2, h3, h4⟩ := ihn (by omega)
                obtain ⟨vs, x, xs, b, q1, q2, q3, q4, q5, q6⟩ := each n (by omega)
                refine ⟨vss ++ [vs], xss ++ [xs], bs ++ [b], by simp [h1], by simp [h2], by simp [h3], fun i hi => ?_⟩
                rcases Nat.lt_or_ge i n with hin | hin
                · obtain ⟨vs', x', xs', b', p1, p2, p3, p4⟩ := h4 i hin
                  exact ⟨vs', x', xs', b', by rw [List.getElem?_append_left (by omega)]; exact p1, by rw [List.getElem?_append_left (by omega)]; exact p2, by rw [List.getElem?_append_left (by omega)]; exact p3, p4⟩
                · have : i = n := by omega
                  subst this
                  exact ⟨vs, x, xs, b, by rw [List.getElem?_append_right (by omega), h1]; simp, by rw [List.getElem?_append_right (by omega), h2]; simp, by rw [List.getElem?_append_right (by omega), h3]; simp, q1, q2, q3, q4, q5, q6⟩
            exact this len (Nat.le_refl _)
          obtain ⟨vss, xss, bs, h1, h2, h3, h4⟩ := hch
          have hlen : ∀ vs ∈ vss, vs.length = P.cellsOf e ∧ Ones vs := by
            intro vs hvs
            obtain ⟨i, hi⟩ := List.getElem?_of_mem hvs
            obtain ⟨vs', x, xs, b, p1, p2, p3, p4, p5, p6, p7, _⟩ := h4 i (by have := getElem?_lt hi; omega)
            rw [hi] at p1; injection p1 with p1; subst p1
            exact ⟨(World.cells?_some p4).2.1, p7⟩
          refine ⟨[.sl (P.cellsOf e) xss], bs.sum + 1, ⟨_, [], rfl, ?_, rfl⟩, by intro u hu; simp at hu; subst hu; rfl, ?_, .slice hu (by omega) ?_⟩
          · simp only [Rep]
            refine ⟨some a, cap, vss.flatten, by rw [h2], by rw [h2]; exact hc.2.1, ?_, ?_, ?_⟩
            · have hf : RepFlat w Env.bare (P.cellsOf e) xss vss.flatten := flat_of (by omega) (fun i xs vs hx hv => by
                obtain ⟨vs', x, xs', b, p1, p2, p3, p4, p5, p6, p7, _⟩ := h4 i (by have := getElem?_lt hx; omega)
                rw [hv] at p1; injection p1 with p1; subst p1
                rw [hx] at p2; injection p2 with p2; subst p2
                exact ⟨p6, (hlen _ (List.mem_of_getElem? hv)).1⟩)
              exact hf
            · intro u hu'
              obtain ⟨vs, hvs, hu''⟩ := List.mem_flatten.1 hu'
              exact (hlen vs hvs).2 u hu''
            · rcases Nat.eq_zero_or_pos len with h0 | hpos
              · left; exact List.eq_nil_of_length_eq_zero (by omega)
              · have hzp := hz t e hT hu
                · right
                  obtain ⟨vs0, x0, xs0, b0, p1, p2, p3, p4, _⟩ := h4 0 hpos
                  obtain ⟨_, g2, g3⟩ := World.cells?_some p4
                  obtain ⟨blk, off, spot⟩ := a
                  have g0 := g3 0 hzp
                  obtain ⟨c0, hc0⟩ : ∃ c0, vs0[0]? = some c0 := ⟨_, List.getElem?_eq_getElem (by omega)⟩
                  rw [hc0] at g0
                  have hspot : spot = none := by simpa [Addr.add] using World.cell?_spot g0
                  subst hspot
                  have hbl : blk < w.heap.size := by
                    refine cell_lt (b := blk) (i := off) (v := c0) ?_
                    simpa [Addr.add] using g0
                  refine ⟨blk, off, rfl, rfl, hbl, ?_⟩
                  intro j v hj
                  -- which row, and where in it
                  have hjl : j < vss.flatten.length := getElem?_lt hj
                  have hfl : vss.flatten.length = len * P.cellsOf e := by
                    rw [List.length_flatten, ← h1]
                    have : ∀ (l : List (List Value)), (∀ vs ∈ l, vs.length = P.cellsOf e) → (l.map List.length).sum = l.length * P.cellsOf e := by
                      intro l
                      induction l with
                      | nil => intro _; simp
                      | cons q l ihl => intro hq; simp only [List.map_cons, List.sum_cons, List.length_cons, Nat.add_mul, Nat.one_mul]; rw [ihl (fun vs h => hq vs (by simp [h])), hq q (by simp)]; omega
                    exact this vss (fun vs h => (hlen vs h).1)
                  have hjq : j / P.cellsOf e < len := by rw [Nat.div_lt_iff_lt_mul hzp]; omega
                  obtain ⟨vsq, xq, xsq, bq, r1, r2, r3, r4, _⟩ := h4 (j / P.cellsOf e) hjq
                  obtain ⟨_, e2, e3⟩ := World.cells?_some r4
                  have hm := Nat.mod_lt j hzp
                  obtain ⟨cv, hcv⟩ : ∃ cv, vsq[j % P.cellsOf e]? = some cv := ⟨_, List.getElem?_eq_getElem (by omega)⟩
                  have hfg := flatten_get (fun vs h => (hlen vs h).1) (j / P.cellsOf e) (j % P.cellsOf e) vsq cv r1 hcv
                  have hje : j / P.cellsOf e * P.cellsOf e + j % P.cellsOf e = j := by rw [Nat.mul_comm]; exact Nat.div_add_mod _ _
                  rw [hje, hj] at hfg
                  injection hfg with hfg
                  subst hfg
                  have := e3 (j % P.cellsOf e) hm
                  rw [hcv, add_off, add_off, Nat.add_assoc, hje] at this
                  exact this
          · simp only [bulkD, bulkL_sum]
            have : bs.sum ≤ ((elems.map (·.1)).map bulkD).sum := sum_le (by simp; omega) (fun i x y hx hy => by
              obtain ⟨vs', x', xs', b, p1, p2, p3, p4, p5, p6, p7, p8, _⟩ := h4 i (by have := getElem?_lt hx; omega)
              rw [hx] at p3; injection p3 with p3; subst p3
              simp only [List.getElem?_map, p5, Option.map_some, Option.some.injEq] at hy
              subst hy; exact p8)
            omega
          · intro i r b hr hb
            obtain ⟨vs', x', xs', b', p1, p2, p3, p4, p5, p6, p7, p8, p9⟩ := h4 i (by have := getElem?_lt hr; omega)
            rw [hr] at p2; injection p2 with p2; subst p2
            rw [hb] at p3; injection p3 with p3; subst p3
            exact p9
      | struct fs =>
        have h' : (if cs.length = P.cellsOf t then (fs.toList.mapM fun f => DataW.trod enc P w 0 spare held fuel f.type ((cs.drop f.offset).take (P.cellsOf f.type))).map fun xs => (DataW.agg (xs.map (·.1)), xs.flatMap (·.2)) else none) = some (d, ps) := by
          rw [← h]
        clear h
        split at h' <;> try (cases h'; done)
        rename_i hcl
        rw [Option.map_eq_some_iff] at h'
        obtain ⟨parts, hm, hd⟩ := h'
        simp only [Prod.mk.injEq] at hd
        obtain ⟨rfl, _⟩ := hd
        obtain ⟨hl, hg⟩ := mapM_some hm
        obtain ⟨k1, k2, k3⟩ := K.struct hT hu
        have htile := tile (fs.toList.map fun f => P.cellsOf f.type) cs (by rw [hcl, k2])
        have hch : ∀ n, n ≤ fs.toList.length → ∃ (xss : List (List V)) (bs : List Nat), xss.length = n ∧ bs.length = n ∧ ∀ i, i < n → ∃ f x xs b, fs.toList[i]? = some f ∧ xss[i]? = some xs ∧ bs[i]? = some b ∧ parts[i]? = some x ∧ RepL w Env.bare xs ((cs.drop f.offset).take (P.cellsOf f.type)) ∧ Ones ((cs.drop f.offset).take (P.cellsOf f.type)) ∧ b ≤ bulkD x.1 ∧ Ty P f.type xs b := by
          intro n
          induction n with
          | zero => intro _; exact ⟨[], [], rfl, rfl, fun i hi => by omega⟩
          | succ n ihn =>
            intro hn
            obtain ⟨xss, bs, h2, h3, h4⟩ := ihn (by omega)
            have hf : fs.toList[n]? = some fs.toList[n] := List.getElem?_eq_getElem (by omega)
            obtain ⟨y, hy, hft⟩ := hg n _ hf
            obtain ⟨xs, b, q1, q2, q3, q4⟩ := ih _ _ y.1 y.2 (k1 _ (List.mem_of_getElem? hf)) hft
            refine ⟨xss ++ [xs], bs ++ [b], by simp [h2], by simp [h3], fun i hi => ?_⟩
            rcases Nat.lt_or_ge i n with hin | hin
            · obtain ⟨f', x', xs', b', p1, p2, p3, p4⟩ := h4 i hin
              exact ⟨f', x', xs', b', p1, by rw [List.getElem?_append_left (by omega)]; exact p2, by rw [List.getElem?_append_left (by omega)]; exact p3, p4⟩
            · have : i = n := by omega
              subst this
              exact ⟨_, y, xs, b, hf, by rw [List.getElem?_append_right (by omega), h2]; simp, by rw [List.getElem?_append_right (by omega), h3]; simp, hy, q1, q2, q3, q4⟩
        obtain ⟨xss, bs, h2, h3, h4⟩ := hch fs.toList.length (Nat.le_refl _)
        have hpiece : ∀ (i : Nat) f, fs.toList[i]? = some f → (cs.drop (((fs.toList.map fun f => P.cellsOf f.type).take i).sum)).take ((fs.toList.map fun f => P.cellsOf f.type).getD i 0) = (cs.drop f.offset).take (P.cellsOf f.type) := by
          intro i f hf
          rw [k3 i f hf, List.map_take]
          congr 1
          rw [List.getD_eq_getElem?_getD, List.getElem?_map, hf]; rfl
        refine ⟨xss.flatten, bs.sum + 1, ?_, ?_, ?_, .struct hu (by simpa using h2) (by simpa using h3) ?_⟩
        · rw [htile]
          refine list_of (by simp; exact h2) ?_
          intro i xs vs hx hv
          obtain ⟨f, x', xs', b', p1, p2, p3, p4, p5, _⟩ := h4 i (by have := getElem?_lt hx; omega)
          rw [hx] at p2; injection p2 with p2; subst p2
          rw [List.getElem?_map, List.getElem?_range (by have := getElem?_lt p1; simpa using this)] at hv
          simp only [Option.map_some, Option.some.injEq] at hv
          rw [← hv, hpiece i f p1]; exact p5
        · intro u hu'
          rw [htile] at hu'
          obtain ⟨vs, hvs, hu''⟩ := List.mem_flatten.1 hu'
          obtain ⟨i, hi⟩ := List.getElem?_of_mem hvs
          have hil := getElem?_lt hi
          simp only [List.length_map, List.length_range] at hil
          obtain ⟨f, x', xs', b', p1, p2, p3, p4, p5, p6, _⟩ := h4 i hil
          rw [List.getElem?_map, List.getElem?_range (by simpa using hil)] at hi
          simp only [Option.map_some, Option.some.injEq] at hi
          rw [← hi, hpiece i f p1] at hu''
          exact p6 u hu''
        · simp only [bulkD, bulkL_sum]
          have : bs.sum ≤ ((parts.map (·.1)).map bulkD).sum := sum_le (by simp; omega) (fun i x y hx hy => by
            obtain ⟨f, x', xs', b', p1, p2, p3, p4, p5, p6, p7, _⟩ := h4 i (by have := getElem?_lt hx; omega)
            rw [hx] at p3; injection p3 with p3; subst p3
            simp only [List.getElem?_map, p4, Option.map_some, Option.some.injEq] at hy
            subst hy; exact p7)
          omega
        · intro i f xs b hf hx hb
          obtain ⟨f', x', xs', b', p1, p2, p3, p4, p5, p6, p7, p8⟩ := h4 i (by have := getElem?_lt hx; omega)
          rw [hf] at p1; injection p1 with p1; subst p1
          rw [hx] at p2; injection p2 with p2; subst p2
          rw [hb] at p3; injection p3 with p3; subst p3
          exact p8
      | array n e =>
        have h' : (if cs.length = P.cellsOf t then ((List.range n).mapM fun i => DataW.trod enc P w 0 spare held fuel e ((cs.drop (i * P.cellsOf e)).take (P.cellsOf e))).map fun xs => (DataW.agg (xs.map (·.1)), xs.flatMap (·.2)) else none) = some (d, ps) := by
          rw [← h]
        clear h
        split at h' <;> try (cases h'; done)
        rename_i hcl
        rw [Option.map_eq_some_iff] at h'
        obtain ⟨parts, hm, hd⟩ := h'
        obtain ⟨hl, hg⟩ := mapM_some hm
        obtain ⟨k1, k2⟩ := K.array hT hu
        have htile := tile (List.replicate n (P.cellsOf e)) cs (by rw [hcl, k2]; simp)
        refine ⟨cs.map fun _ => .junk, 0, hj cs, ?_, Nat.zero_le _, .other (by simp [hu]) (by simp [hu]) (by simp [hu]) (by simp [hu]) (by simp [hu])⟩
        intro u hu'
        rw [htile] at hu'
        obtain ⟨vs, hvs, hu''⟩ := List.mem_flatten.1 hu'
        obtain ⟨i, hi⟩ := List.getElem?_of_mem hvs
        have hil := getElem?_lt hi
        simp only [List.length_map, List.length_range, List.length_replicate] at hil
        obtain ⟨y, hy, hft⟩ := hg i i (by simp [hil])
        obtain ⟨xs, b, q1, q2, q3, q4⟩ := ih _ _ y.1 y.2 k1 hft
        rw [List.getElem?_map, List.getElem?_range (by simpa using hil)] at hi
        simp only [Option.map_some, Option.some.injEq] at hi
        rw [← hi] at hu''
        refine q2 u ?_
        have e1 : ((List.replicate n (P.cellsOf e)).take i).sum = i * P.cellsOf e := by rw [List.take_replicate, Nat.min_eq_left (by omega)]; simp
        have e2 : (List.replicate n (P.cellsOf e)).getD i 0 = P.cellsOf e := by rw [List.getD_eq_getElem?_getD, List.getElem?_replicate, if_pos hil]; rfl
        rw [e1, e2] at hu''
        exact hu''
      | _ =>
        refine ⟨cs.map fun _ => .junk, 0, hj cs, ?_, Nat.zero_le _, .other (by simp [hu]) (by simp [hu]) (by simp [hu]) (by simp [hu]) (by simp [hu])⟩
        rcases cs with _ | ⟨v, _ | ⟨u, r⟩⟩
        · intro u hu'; simp at hu'
        · intro u hu'
          simp at hu'
          subst hu'
          cases u <;> first | rfl | (exfalso; simp at h; done)
        · exfalso; simp at h
end
end Go.Proofs.VL

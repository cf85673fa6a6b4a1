/- A logic of values over the model, part 3: symbolic states, their soundness, rules for calls and loops. No law is stated here. -/
import Derived.Test.YtdiddnapamjojaaV1
namespace Go.Proofs.VL
set_option linter.unusedVariables false

/-! ### escaped texts -/
/-- A text for a byte. -/
def swapL (old : UInt8) (by' : List UInt8) (l : LT) : LT := l.flatMap fun c => if c.1 = old then by'.map (fun b => (b, c.2)) else [c]
theorem swapL_append (old : UInt8) (by' : List UInt8) (a b : LT) : swapL old by' (a ++ b) = swapL old by' a ++ swapL old by' b := by simp [swapL]
theorem swapL_length (old : UInt8) (by' : List UInt8) (l : LT) (h : by'.length ≤ 10) : (swapL old by' l).length ≤ 10 * l.length := by
  induction l with
  | nil => simp [swapL]
  | cons c l ih =>
    simp only [swapL, List.flatMap_cons, List.length_append, List.length_cons] at ih ⊢
    split
    · simp only [List.length_map]; omega
    · simp only [List.length_singleton]; omega
theorem Near.map_const {o : Int} (h : nearI o = o) (t : List UInt8) : Near (t.map fun b => (b, o)) := by
  intro c hc
  obtain ⟨b, _, rfl⟩ := List.mem_map.1 hc
  exact h

def changes : List (UInt8 × List UInt8) := [(38, [38, 97, 109, 112, 59]), (60, [38, 108, 116, 59]), (62, [38, 103, 116, 59]), (13, [38, 35, 49, 51, 59]), (34, [38, 113, 117, 111, 116, 59])]

/-- What stands for a byte behind so many changes. -/
def escB (n : Nat) (b : UInt8) : List UInt8 :=
  if 1 ≤ n ∧ b = 38 then [38, 97, 109, 112, 59] else if 2 ≤ n ∧ b = 60 then [38, 108, 116, 59] else if 3 ≤ n ∧ b = 62 then [38, 103, 116, 59] else if 4 ≤ n ∧ b = 13 then [38, 35, 49, 51, 59] else if 5 ≤ n ∧ b = 34 then [38, 113, 117, 111, 116, 59] else [b]

def escL (n : Nat) (l : LT) : LT := l.flatMap fun c => (escB n c.1).map fun b => (b, c.2)

theorem escL_append (n : Nat) (a b : LT) : escL n (a ++ b) = escL n a ++ escL n b := by simp [escL]
theorem escL_zero (l : LT) : escL 0 l = l := by
  induction l with
  | nil => rfl
  | cons c l ih => simp only [escL, List.flatMap_cons] at ih ⊢; rw [ih]; simp [escB]

theorem swapL_flat (old : UInt8) (by' : List UInt8) (f : UInt8 × Int → LT) (l : LT) : swapL old by' (l.flatMap f) = l.flatMap fun c => swapL old by' (f c) := by
  induction l with
  | nil => rfl
  | cons c l ih => rw [List.flatMap_cons, swapL_append, ih, List.flatMap_cons]

theorem swapL_map (old : UInt8) (by' : List UInt8) (t : List UInt8) (o : Int) : swapL old by' (t.map fun b => (b, o)) = (t.flatMap fun b => if b = old then by' else [b]).map fun b => (b, o) := by
  induction t with
  | nil => rfl
  | cons b t ih =>
    simp only [swapL, List.map_cons, List.flatMap_cons, List.map_append] at ih ⊢
    rw [ih]
    split <;> simp

theorem escB_step (n : Nat) (old : UInt8) (by' : List UInt8) (h : changes[n]? = some (old, by')) (b : UInt8) : ((escB n b).flatMap fun b => if b = old then by' else [b]) = escB (n + 1) b := by
  have hn : n < 5 := by
    rcases Nat.lt_or_ge n 5 with h' | h'
    · exact h'
    · rw [List.getElem?_eq_none h'] at h; cases h
  have : ∀ b : Fin 256, ((escB n ⟨⟨b⟩⟩).flatMap fun b => if b = old then by' else [b]) = escB (n + 1) ⟨⟨b⟩⟩ := by
    match n, hn with
    | 0, _ => simp [changes] at h; obtain ⟨rfl, rfl⟩ := h; decide +kernel
    | 1, _ => simp [changes] at h; obtain ⟨rfl, rfl⟩ := h; decide +kernel
    | 2, _ => simp [changes] at h; obtain ⟨rfl, rfl⟩ := h; decide +kernel
    | 3, _ => simp [changes] at h; obtain ⟨rfl, rfl⟩ := h; decide +kernel
    | 4, _ => simp [changes] at h; obtain ⟨rfl, rfl⟩ := h; decide +kernel
  exact this b.toBitVec.toFin

theorem escL_step (n : Nat) (old : UInt8) (by' : List UInt8) (h : changes[n]? = some (old, by')) (l : LT) : swapL old by' (escL n l) = escL (n + 1) l := by
  unfold escL
  rw [swapL_flat]
  congr 1
  funext c
  rw [swapL_map, escB_step n old by' h]

theorem escB_len (n : Nat) (b : UInt8) : 1 ≤ (escB n b).length ∧ (escB n b).length ≤ 6 := by
  unfold escB
  repeat' split
  all_goals simp

theorem escL_len (n : Nat) (l : LT) : (escL n l).length ≤ 6 * l.length := by
  induction l with
  | nil => simp [escL]
  | cons c l ih =>
    simp only [escL, List.flatMap_cons, List.length_append, List.length_map, List.length_cons] at ih ⊢
    have := (escB_len n c.1).2
    omega

theorem escL_near {n : Nat} {l : LT} (h : Near l) : Near (escL n l) := by
  intro c hc
  simp only [escL, List.mem_flatMap] at hc
  obtain ⟨d, hd, hc⟩ := hc
  obtain ⟨b, _, rfl⟩ := List.mem_map.1 hc
  exact h d hd

def worstO (l : LT) : Int := l.foldl (fun m c => max m c.2) 0

theorem worst_esc (n : Nat) (l : LT) : worstO (escL n l) = worstO l := by
  have one : ∀ (t : List UInt8) (o m : Int), t ≠ [] → (t.map fun b => (b, o)).foldl (fun m (c : UInt8 × Int) => max m c.2) m = max m o := by
    intro t
    induction t with
    | nil => intro o m h; exact absurd rfl h
    | cons b t ih =>
      intro o m _
      rw [List.map_cons, List.foldl_cons]
      by_cases ht : t = []
      · subst ht; rfl
      · rw [ih o _ ht]; simp only; omega
  have : ∀ (l : LT) (m : Int), (escL n l).foldl (fun m c => max m c.2) m = l.foldl (fun m c => max m c.2) m := by
    intro l
    induction l with
    | nil => intro m; rfl
    | cons c l ih =>
      intro m
      have e : escL n (c :: l) = ((escB n c.1).map fun b => (b, c.2)) ++ escL n l := by simp [escL]
      rw [e, List.foldl_append, one _ _ _ (by intro he; have := (escB_len n c.1).1; rw [he] at this; simp at this), ih, List.foldl_cons]
  exact this l 0
end Go.Proofs.VL

namespace Go.Proofs.VL
open Go Go.RowKit
set_option linter.unusedSimpArgs false
set_option linter.unusedVariables false

/-! ### rows of one's own, given away to a function of values -/
def keepO (ks : List Nat) (ob : List (Option VObj)) : List (Option VObj) := ob.zipIdx.map fun p => if ks.contains p.2 then p.1 else none
def dropO (ks : List Nat) (ob : List (Option VObj)) : List (Option VObj) := ob.zipIdx.map fun p => if ks.contains p.2 then none else p.1

theorem keepO_get {ks : List Nat} {ob : List (Option VObj)} {k : Nat} {o : VObj} (h : (keepO ks ob)[k]? = some (some o)) : ob[k]? = some (some o) ∧ k ∈ ks := by
  simp only [keepO, List.getElem?_map, List.getElem?_zipIdx, Option.map_eq_some_iff] at h
  obtain ⟨⟨q, j⟩, hq, he⟩ := h
  obtain ⟨q', hq', he'⟩ := hq
  simp only [Prod.mk.injEq] at he'
  obtain ⟨rfl, rfl⟩ := he'
  simp only [Nat.zero_add] at he
  split at he
  · rename_i hk
    subst he
    exact ⟨hq', by simpa using hk⟩
  · cases he

theorem dropO_get {ks : List Nat} {ob : List (Option VObj)} {k : Nat} {o : VObj} (h : (dropO ks ob)[k]? = some (some o)) : ob[k]? = some (some o) ∧ k ∉ ks := by
  simp only [dropO, List.getElem?_map, List.getElem?_zipIdx, Option.map_eq_some_iff] at h
  obtain ⟨⟨q, j⟩, hq, he⟩ := h
  obtain ⟨q', hq', he'⟩ := hq
  simp only [Prod.mk.injEq] at he'
  obtain ⟨rfl, rfl⟩ := he'
  simp only [Nat.zero_add] at he
  split at he
  · cases he
  · rename_i hk
    subst he
    exact ⟨hq', by simpa using hk⟩

theorem dropO_length (ks : List Nat) (ob : List (Option VObj)) : (dropO ks ob).length = ob.length := by simp [dropO]

theorem VFn.eat {P : Program} {g : FuncId} {as args : List V} {r : V} {ob : List (Option VObj)} (h : VFn P g as r) (ks : List Nat) (hl : lendL (keepO ks ob) args = some as) : VCall P g args ob r (dropO ks ob) := by
  refine ⟨h.1, fun w E vs hdom hob hf hr => ?_⟩
  have hob1 : ∀ k o, E.dom k → (keepO ks ob)[k]? = some (some o) → ObjRep w E k o := fun k o _ hk => hob k o (keepO_get hk).1
  have hrep := lendL_rep hob1 args as vs hl hr
  refine (h.2 w (E.lend (keepO ks ob)) vs (fun k => by simp [Env.lend]) (fun k o h => by simp at h) (fun b hb => lend_imm.2 (.inl (hf b hb))) hrep).mono ?_
  rintro e w' ⟨v, E1, rfl, hres⟩
  have hsame : ∀ b, b < w.heap.size → w'.heap[b]? = w.heap[b]? := by
    intro b hb
    rcases lend_or (E := E) (ob := keepO ks ob) b with hl | hl
    · exact (hres.ext.imm b hb hl).2
    · exact (hres.ext.ext b hb hl).2
  have hcls : ∀ b, Decidable ((E.lend (keepO ks ob)).lab b = .imm) := fun b => Classical.propDecidable _
  let E' : Env := { E with lab := fun b => if b < w.heap.size then (if (E.lend (keepO ks ob)).lab b = .imm then .imm else E.lab b) else if E1.lab b = .imm then .imm else .ext }
  have hold : ∀ b, b < w.heap.size → E'.lab b = if (E.lend (keepO ks ob)).lab b = .imm then .imm else E.lab b := fun b hb => if_pos hb
  have hnew : ∀ b, ¬ b < w.heap.size → E'.lab b = if E1.lab b = .imm then .imm else .ext := fun b hb => if_neg hb
  have hx : Ext w E w' E' := by
    refine ⟨hres.ext.os, hres.ext.tape, hres.ext.output, hres.ext.size, fun b hb hl => ⟨?_, hsame b hb⟩, fun b hb hl => ⟨?_, hsame b hb⟩, fun _ h => h, fun _ _ => rfl, fun _ _ => rfl, fun _ _ => rfl⟩
    · rw [hold b hb, if_pos (lend_imm.2 (.inl hl))]
    · rw [hold b hb, if_neg]
      · exact hl
      · intro hi
        rcases lend_imm.1 hi with h1 | ⟨k, e, sz, rows, h1, h2, h3, h4⟩
        · rw [hl] at h1; cases h1
        · have := hob k _ (keepO_get h2).1
          simp only [ObjRep] at this
          have := this.2.2.1 h3
          rw [h4, hl] at this; cases this
  refine ⟨v, E', rfl, hx, fun k => by rw [dropO_length]; exact hdom k, ?_, ?_, ?_⟩
  · refine Rep.iext ⟨Nat.le_refl _, ?_, ?_, ?_, ?_, ?_⟩ r v hres.rep
    · intro b hb hlb
      refine ⟨?_, rfl⟩
      by_cases hbw : b < w.heap.size
      · rw [hold b hbw, if_pos]
        rcases lend_or (E := E) (ob := keepO ks ob) b with hl | hl
        · exact hl
        · have := (hres.ext.ext b hbw hl).1
          rw [this] at hlb; cases hlb
      · rw [hnew b hbw, if_pos hlb]
    all_goals
      intro k hk
      have := (hres.dom k).1 hk
      simp at this
  · intro k o hk
    obtain ⟨h1, h2⟩ := dropO_get hk
    have hkl := getElem?_lt h1
    refine (hob k o h1).move hx ((hdom k).2 hkl) ?_
    rintro (hl | hl) hb
    · refine ⟨hsame _ hb, ?_⟩
      rw [hold _ hb, if_neg]
      intro hi
      rcases lend_imm.1 hi with h3 | ⟨k', e, sz, rows, h3, h4, h5, h6⟩
      · rw [hl] at h3; cases h3
      · have := hob k' _ (keepO_get h4).1
        simp only [ObjRep] at this
        have := this.2.2.1 h5
        rw [h6, hl] at this
        injection this with this
        exact h2 (this ▸ (keepO_get h4).2)
    · refine ⟨hsame _ hb, ?_⟩
      rw [hold _ hb, if_pos (lend_imm.2 (.inl hl))]; exact hl.symm
  · intro b hb
    rw [hnew b (by have := hres.ext.size; omega), if_pos (hres.fresh b hb)]
end Go.Proofs.VL

namespace Go.Proofs.VL
set_option linter.unusedVariables false

/-- how many bytes go on behind a first byte; none: it is no first byte. -/
def leadN (c : Nat) : Int := if c < 128 then 0 else if c < 194 then -1 else if c < 224 then 1 else if c < 240 then 2 else if c < 245 then 3 else -1
def secA (c : Nat) : Nat := if c = 224 then 160 else if c = 240 then 144 else 128
def secB (c : Nat) : Nat := if c = 237 then 159 else if c = 244 then 143 else 191

def inR (t : List UInt8) (i : Nat) (a b : Nat) : Bool := match t[i]? with
  | none => false
  | some c => decide (a ≤ c.toNat ∧ c.toNat ≤ b)

def tailF (t : List UInt8) : Nat → Nat → Nat → Nat → Nat × Bool
  | 0, i, _, _ => (i, true)
  | m + 1, i, a, b => if inR t i a b = true then tailF t m (i + 1) 128 191 else (i, false)

def nextF : List UInt8 → Nat × Bool
  | [] => (0, false)
  | c :: r => if leadN c.toNat < 0 then (1, false) else tailF (c :: r) (leadN c.toNat).toNat 1 (secA c.toNat) (secB c.toNat)

theorem tailF_pos (t : List UInt8) : ∀ (m i a b : Nat), i < t.length + 1 → i ≤ (tailF t m i a b).1 ∧ (tailF t m i a b).1 ≤ t.length
  | 0, i, a, b, h => by simp [tailF]; omega
  | m + 1, i, a, b, h => by
    unfold tailF
    split
    · next hin =>
      have hi : i < t.length := by
        unfold inR at hin
        split at hin
        · cases hin
        · next c hc => exact (List.getElem?_eq_some_iff.1 hc).1
      have := tailF_pos t m (i + 1) 128 191 (by omega)
      omega
    · simp; omega

theorem nextF_cons (c : UInt8) (r : List UInt8) : nextF (c :: r) = if leadN c.toNat < 0 then (1, false) else tailF (c :: r) (leadN c.toNat).toNat 1 (secA c.toNat) (secB c.toNat) := rfl
theorem tailF_zero (t : List UInt8) (i a b : Nat) : tailF t 0 i a b = (i, true) := rfl
theorem tailF_yes {t : List UInt8} {m i a b : Nat} (h : inR t i a b = true) : tailF t (m + 1) i a b = tailF t m (i + 1) 128 191 := by show (if _ then _ else _) = _; rw [if_pos h]
theorem tailF_no {t : List UInt8} {m i a b : Nat} (h : inR t i a b = false) : tailF t (m + 1) i a b = (i, false) := by show (if _ then _ else _) = _; rw [if_neg (by rw [h]; simp)]

theorem nextF_pos {t : List UInt8} (h : t ≠ []) : 1 ≤ (nextF t).1 ∧ (nextF t).1 ≤ t.length := by
  cases t with
  | nil => exact absurd rfl h
  | cons c r =>
    show 1 ≤ (if leadN c.toNat < 0 then (1, false) else tailF (c :: r) (leadN c.toNat).toNat 1 (secA c.toNat) (secB c.toNat)).1 ∧ (if leadN c.toNat < 0 then (1, false) else tailF (c :: r) (leadN c.toNat).toNat 1 (secA c.toNat) (secB c.toNat)).1 ≤ (c :: r).length
    split
    · simp
    · exact tailF_pos (c :: r) _ 1 _ _ (by simp)

/-- the runes of a text: where, how long, whether each is good (and not nought). -/
def seqs : Nat → List UInt8 → Nat → List (Nat × Nat × Bool)
  | 0, _, _ => []
  | k + 1, t, i => if i < t.length then
      (i, (nextF (t.drop i)).1, (nextF (t.drop i)).2 && decide (t[i]? ≠ some 0)) :: seqs k t (i + (nextF (t.drop i)).1) else []

def validF (t : List UInt8) : Nat → Nat → Bool
  | 0, _ => true
  | k + 1, i => if i < t.length then ((nextF (t.drop i)).2 && decide (t[i]? ≠ some 0)) && validF t k (i + (nextF (t.drop i)).1) else true

theorem seqs_valid (t : List UInt8) : ∀ k i, (seqs k t i).all (fun s => s.2.2) = validF t k i
  | 0, i => rfl
  | k + 1, i => by
    unfold seqs validF
    split
    · simp only [List.all_cons, seqs_valid t k]
    · rfl

def isValid (t : List UInt8) : Bool := validF t t.length 0
def isRaw (t : List UInt8) : Bool := isValid t && t.all fun c => decide (c ≠ 60 ∧ c ≠ 13)
end Go.Proofs.VL

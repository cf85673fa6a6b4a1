/- A logic of values over the model, part 2: symbolic states, their soundness, rules for calls and loops. No law is stated here. -/
import Derived.Test.YtdiddnapamjojaaV0
namespace Go.Proofs.VL
open Go Go.RowKit
set_option linter.unusedSimpArgs false
set_option linter.unusedVariables false

/-! ### a value that says less -/
mutual
inductive Sub : V → V → Prop
  | refl (x : V) : Sub x x
  | junk (x : V) : Sub x .junk
  | nil (sz : Nat) : Sub .nils (.sl sz [])
  | agg {a b : List V} : SubL a b → Sub (.agg a) (.agg b)
  | tup {a b : List V} : SubL a b → Sub (.tup a) (.tup b)
  | sl {s : Nat} {a b : List (List V)} : SubR a b → Sub (.sl s a) (.sl s b)
inductive SubL : List V → List V → Prop
  | nil : SubL [] []
  | cons {x y : V} {xs ys : List V} : Sub x y → SubL xs ys → SubL (x :: xs) (y :: ys)
inductive SubR : List (List V) → List (List V) → Prop
  | nil : SubR [] []
  | cons {x y : List V} {xs ys : List (List V)} : SubL x y → SubR xs ys → SubR (x :: xs) (y :: ys)
end

theorem SubL.refl : (xs : List V) → SubL xs xs
  | [] => .nil
  | x :: xs => .cons (.refl x) (SubL.refl xs)
theorem SubR.refl : (xs : List (List V)) → SubR xs xs
  | [] => .nil
  | x :: xs => .cons (SubL.refl x) (SubR.refl xs)

theorem SubR.len : {xs ys : List (List V)} → SubR xs ys → xs.length = ys.length
  | _, _, .nil => rfl
  | _, _, .cons _ h => by simp [SubR.len h]

theorem SubR.append : {a b c d : List (List V)} → SubR a b → SubR c d → SubR (a ++ c) (b ++ d)
  | _, _, _, _, .nil, h => h
  | _, _, _, _, .cons x y, h => .cons x (SubR.append y h)

theorem SubR.map {α : Type} {f g : α → List V} : (l : List α) → (∀ a ∈ l, SubL (f a) (g a)) → SubR (l.map f) (l.map g)
  | [], _ => .nil
  | a :: l, h => .cons (h a (by simp)) (SubR.map l fun b hb => h b (by simp [hb]))

mutual
theorem Rep.sub {w : World} {E : Env} {x y : V} {v : Value} (hs : Sub x y) (h : Rep w E x v) : Rep w E y v := by
  cases hs with
  | refl => exact h
  | junk => trivial
  | nil sz =>
    simp only [Rep] at h ⊢; subst h
    exact ⟨none, 0, [], rfl, Nat.le_refl _, by simp [RepFlat], Ones.nil, by simp⟩
  | agg hs =>
    simp only [Rep] at h ⊢; obtain ⟨vs, rfl, h⟩ := h
    exact ⟨vs, rfl, RepL.sub hs h⟩
  | tup hs =>
    simp only [Rep] at h ⊢; obtain ⟨vs, rfl, h⟩ := h
    exact ⟨vs, rfl, RepL.sub hs h⟩
  | sl hs =>
    rename_i s r r'
    simp only [Rep] at h ⊢
    obtain ⟨a, cap, vs, rfl, h1, h2, h3, h4⟩ := h
    have hl := hs.len
    refine ⟨a, cap, vs, by rw [hl], by rw [← hl]; exact h1, RepFlat.sub hs h2, h3, ?_⟩
    rcases h4 with h4 | h4
    · subst h4; simp at hl; exact .inl (List.eq_nil_of_length_eq_zero hl.symm)
    · exact .inr h4
theorem RepL.sub {w : World} {E : Env} {xs ys : List V} {vs : List Value} (hs : SubL xs ys) (h : RepL w E xs vs) : RepL w E ys vs := by
  cases hs with
  | nil => exact h
  | cons h1 h2 =>
    simp only [RepL] at h ⊢
    obtain ⟨v, vs', rfl, g1, g2⟩ := h
    exact ⟨v, vs', rfl, Rep.sub h1 g1, RepL.sub h2 g2⟩
theorem RepFlat.sub {w : World} {E : Env} {sz : Nat} {xs ys : List (List V)} {vs : List Value} (hs : SubR xs ys) (h : RepFlat w E sz xs vs) : RepFlat w E sz ys vs := by
  cases hs with
  | nil => exact h
  | cons h1 h2 =>
    simp only [RepFlat] at h ⊢
    obtain ⟨a, b, rfl, g1, g2, g3⟩ := h
    exact ⟨a, b, rfl, g1, RepL.sub h1 g2, RepFlat.sub h2 g3⟩
end

theorem SubL.len : {xs ys : List V} → SubL xs ys → xs.length = ys.length
  | _, _, .nil => rfl
  | _, _, .cons _ h => by simp [SubL.len h]

theorem Sub.of_eq {x y : V} (h : x = y) : Sub x y := h ▸ .refl x
theorem SubL.of_eq {x y : List V} (h : x = y) : SubL x y := h ▸ .refl x
theorem SubR.of_eq {x y : List (List V)} (h : x = y) : SubR x y := h ▸ .refl x

inductive ObjSub : VObj → VObj → Prop
  | refl (o : VObj) : ObjSub o o
  | box {a b : List V} : SubL a b → ObjSub (.box a) (.box b)
  | arr {e s : Nat} {a b : List (List V)} : SubR a b → ObjSub (.arr e s a) (.arr e s b)

theorem ObjSub.of_eq {x y : VObj} (h : x = y) : ObjSub x y := h ▸ .refl x

theorem ObjRep.sub {w : World} {E : Env} {k : Nat} {o o' : VObj} (hs : ObjSub o o') (h : ObjRep w E k o) : ObjRep w E k o' := by
  cases hs with
  | refl => exact h
  | box hs =>
    simp only [ObjRep] at h ⊢
    obtain ⟨h1, c, e, h2, h3⟩ := h
    exact ⟨h1, c, e, h2, RepL.sub hs h3⟩
  | arr hs =>
    simp only [ObjRep] at h ⊢
    rw [← hs.len]
    obtain ⟨h1, h2, h3, vs, h4, h5, h6⟩ := h
    exact ⟨h1, h2, h3, vs, h4, RepFlat.sub hs h5, h6⟩
end Go.Proofs.VL

namespace Go.Proofs.VL
open Go Go.RowKit
set_option linter.unusedSimpArgs false
set_option linter.unusedVariables false

/-! ### names of objects, by other names -/
mutual
def renV (m : Nat → Nat) : V → V
  | .ref k n => .ref (m k) n
  | .ptr k off => .ptr (m k) off
  | .eptr k i sz off => .eptr (m k) i sz off
  | .agg cs => .agg (renL m cs)
  | .tup cs => .tup (renL m cs)
  | .fn f a b => .fn f (renL m a) (renL m b)
  | .mapr k => .mapr (m k)
  | v => v
def renL (m : Nat → Nat) : List V → List V
  | [] => []
  | x :: xs => renV m x :: renL m xs
end

mutual
/-- Only names below a number. -/
def wfV (n : Nat) : V → Bool
  | .ref k _ => decide (k < n)
  | .ptr k _ => decide (k < n)
  | .eptr k _ _ _ => decide (k < n)
  | .agg cs => wfL n cs
  | .tup cs => wfL n cs
  | .fn _ a b => wfL n a && wfL n b
  | .mapr k => decide (k < n)
  | _ => true
def wfL (n : Nat) : List V → Bool
  | [] => true
  | x :: xs => wfV n x && wfL n xs
end

/-- Two tellings of one memory. -/
structure Tell (w : World) (n : Nat) (m : Nat → Nat) (E E' : Env) : Prop where
  dom : ∀ k, k < n → (E.dom k ↔ E'.dom (m k))
  blk : ∀ k, k < n → E'.blk (m k) = E.blk k
  cap : ∀ k, k < n → E'.cap (m k) = E.cap k
  nil : ∀ k, k < n → E'.nil (m k) = E.nil k
  imm : ∀ b, b < w.heap.size → (E.lab b = .imm ↔ E'.lab b = .imm)

theorem Tell.aval {w : World} {n : Nat} {m : Nat → Nat} {E E' : Env} (H : Tell w n m E E') {k : Nat} (hk : k < n) (q : Nat) : aval E' (m k) q = aval E k q := by
  simp only [VL.aval, H.blk k hk, H.cap k hk, H.nil k hk]

theorem pure_iext {w : World} {E E' : Env} (h : ∀ b, b < w.heap.size → (E.lab b = .imm → E'.lab b = .imm)) : IExt w E.pure w E'.pure :=
  ⟨Nat.le_refl _, fun b hb hl => ⟨h b hb hl, rfl⟩, fun _ h => h.elim, fun _ h => h.elim, fun _ h => h.elim, fun _ h => h.elim⟩

theorem Tell.flat {w : World} {n : Nat} {m : Nat → Nat} {E E' : Env} (H : Tell w n m E E') {sz : Nat} {rows : List (List V)} {vs : List Value} : RepFlat w E.pure sz rows vs ↔ RepFlat w E'.pure sz rows vs :=
  ⟨RepFlat.iext (pure_iext fun b hb h => (H.imm b hb).1 h) _ _ _, RepFlat.iext (pure_iext fun b hb h => (H.imm b hb).2 h) _ _ _⟩
theorem Tell.list {w : World} {n : Nat} {m : Nat → Nat} {E E' : Env} (H : Tell w n m E E') {xs : List V} {vs : List Value} : RepL w E.pure xs vs ↔ RepL w E'.pure xs vs :=
  ⟨RepL.iext (pure_iext fun b hb h => (H.imm b hb).1 h) _ _, RepL.iext (pure_iext fun b hb h => (H.imm b hb).2 h) _ _⟩

mutual
theorem Rep.ren {w : World} {n : Nat} {m : Nat → Nat} {E E' : Env} (H : Tell w n m E E') : (x : V) → (v : Value) → wfV n x = true → (Rep w E x v ↔ Rep w E' (renV m x) v)
  | .bool _, _, _ => Iff.rfl
  | .int _ _, _, _ => Iff.rfl
  | .str _, _, _ => Iff.rfl
  | .nils, _, _ => Iff.rfl
  | .nilp, _, _ => Iff.rfl
  | .nilm, _, _ => Iff.rfl
  | .nilf, _, _ => Iff.rfl
  | .nili, _, _ => Iff.rfl
  | .junk, _, _ => Iff.rfl
  | .sl sz rows, v, _ => by
    simp only [renV, Rep]
    constructor
    · rintro ⟨a, cap, vs, rfl, h1, h2, h3, h4⟩
      refine ⟨a, cap, vs, rfl, h1, H.flat.1 h2, h3, ?_⟩
      rcases h4 with h4 | ⟨b, off, q1, q2, q3, q4⟩
      · exact .inl h4
      · exact .inr ⟨b, off, q1, (H.imm b q3).1 q2, q3, q4⟩
    · rintro ⟨a, cap, vs, rfl, h1, h2, h3, h4⟩
      refine ⟨a, cap, vs, rfl, h1, H.flat.2 h2, h3, ?_⟩
      rcases h4 with h4 | ⟨b, off, q1, q2, q3, q4⟩
      · exact .inl h4
      · exact .inr ⟨b, off, q1, (H.imm b q3).2 q2, q3, q4⟩
  | .iptr cs, v, _ => by
    simp only [renV, Rep]
    constructor
    · rintro ⟨b, off, vs, rfl, q2, q3, q4, h⟩
      exact ⟨b, off, vs, rfl, (H.imm b q3).1 q2, q3, q4, H.list.1 h⟩
    · rintro ⟨b, off, vs, rfl, q2, q3, q4, h⟩
      exact ⟨b, off, vs, rfl, (H.imm b q3).2 q2, q3, q4, H.list.2 h⟩
  | .ref k q, v, hw => by
    have hk : k < n := by simpa [wfV] using hw
    simp only [renV, Rep, H.dom k hk, H.cap k hk, H.nil k hk, H.aval hk]
  | .ptr k off, v, hw => by
    have hk : k < n := by simpa [wfV] using hw
    simp only [renV, Rep, H.dom k hk, H.blk k hk]
  | .eptr k i sz off, v, hw => by
    have hk : k < n := by simpa [wfV] using hw
    simp only [renV, Rep, H.dom k hk, H.blk k hk, H.nil k hk]
  | .mapr k, v, hw => by
    have hk : k < n := by simpa [wfV] using hw
    simp only [renV, Rep, H.dom k hk, H.blk k hk]
  | .agg cs, v, hw => by
    simp only [wfV] at hw
    simp only [renV, Rep, RepL.ren H cs _ hw]
  | .tup cs, v, hw => by
    simp only [wfV] at hw
    simp only [renV, Rep, RepL.ren H cs _ hw]
  | .fn f a b, v, hw => by
    simp only [wfV, Bool.and_eq_true] at hw
    simp only [renV, Rep, RepL.ren H a _ hw.1, RepL.ren H b _ hw.2]
theorem RepL.ren {w : World} {n : Nat} {m : Nat → Nat} {E E' : Env} (H : Tell w n m E E') : (xs : List V) → (vs : List Value) → wfL n xs = true → (RepL w E xs vs ↔ RepL w E' (renL m xs) vs)
  | [], _, _ => Iff.rfl
  | x :: xs, vs, hw => by
    simp only [wfL, Bool.and_eq_true] at hw
    simp only [renL, RepL, Rep.ren H x _ hw.1, RepL.ren H xs _ hw.2]
end

def renO (m : Nat → Nat) : VObj → VObj
  | .box cs => .box (renL m cs)
  | o => o

def wfO (n : Nat) : VObj → Bool
  | .box cs => wfL n cs
  | _ => true

theorem ObjRep.ren {w : World} {n : Nat} {m : Nat → Nat} {E E' : Env} (H : Tell w n m E E') {k : Nat} (hk : k < n) (hl : ∀ b, b < w.heap.size → (E.lab b = .obj k ↔ E'.lab b = .obj (m k))) : (o : VObj) → wfO n o = true → (ObjRep w E k o ↔ ObjRep w E' (m k) (renO m o))
  | .box cs, hw => by
    simp only [wfO] at hw
    simp only [renO, ObjRep, H.blk k hk]
    constructor
    · rintro ⟨h1, c, e, h2, h3⟩
      exact ⟨(hl _ (block_lt h2)).1 h1, c, e, h2, (RepL.ren H cs _ hw).1 h3⟩
    · rintro ⟨h1, c, e, h2, h3⟩
      exact ⟨(hl _ (block_lt h2)).2 h1, c, e, h2, (RepL.ren H cs _ hw).2 h3⟩
  | .arr e sz rows, _ => by
    have hlt : ∀ {vs : List Value}, w.ownsRow 0 e sz (VL.aval E k rows.length) rows.length vs → E.nil k = false → E.blk k < w.heap.size := by
      intro vs h hn
      rcases h.2 with ⟨h, _⟩ | ⟨g, cap, cur, h, _, hh, _⟩
      · simp [VL.aval, hn] at h
      · simp [VL.aval, hn] at h; rw [h.1]; exact block_lt hh
    simp only [renO, ObjRep, H.blk k hk, H.cap k hk, H.nil k hk, H.aval hk]
    constructor
    · rintro ⟨h1, h2, h3, vs, h4, h5, h6⟩
      exact ⟨h1, h2, fun hn => (hl _ (hlt h4 hn)).1 (h3 hn), vs, h4, H.flat.1 h5, h6⟩
    · rintro ⟨h1, h2, h3, vs, h4, h5, h6⟩
      exact ⟨h1, h2, fun hn => (hl _ (hlt h4 hn)).2 (h3 hn), vs, h4, H.flat.2 h5, h6⟩
  | .fro sz rows, _ => by
    simp only [renO, ObjRep, H.blk k hk, H.cap k hk, H.nil k hk]
    constructor
    · rintro ⟨h1, h2, vs, h4, h5, h6⟩
      refine ⟨h1, h2, vs, H.flat.1 h4, h5, ?_⟩
      rcases h6 with h6 | ⟨q1, q2, q3, q4⟩
      · exact .inl h6
      · exact .inr ⟨q1, (H.imm _ q3).1 q2, q3, q4⟩
    · rintro ⟨h1, h2, vs, h4, h5, h6⟩
      refine ⟨h1, h2, vs, H.flat.2 h4, h5, ?_⟩
      rcases h6 with h6 | ⟨q1, q2, q3, q4⟩
      · exact .inl h6
      · exact .inr ⟨q1, (H.imm _ q3).2 q2, q3, q4⟩

mutual
theorem renV_id {m : Nat → Nat} {n : Nat} (h : ∀ k, k < n → m k = k) : (x : V) → wfV n x = true → renV m x = x
  | .bool _, _ | .int _ _, _ | .str _, _ | .nils, _ | .nilp, _ | .nilm, _ | .nilf, _ | .nili, _ | .junk, _ | .sl _ _, _ | .iptr _, _ => rfl
  | .ref k q, hw => by simp only [renV]; rw [h k (by simpa [wfV] using hw)]
  | .ptr k off, hw => by simp only [renV]; rw [h k (by simpa [wfV] using hw)]
  | .eptr k _ _ _, hw => by simp only [renV]; rw [h k (by simpa [wfV] using hw)]
  | .mapr k, hw => by simp only [renV]; rw [h k (by simpa [wfV] using hw)]
  | .agg cs, hw => by simp only [renV]; rw [renL_id h cs (by simpa [wfV] using hw)]
  | .tup cs, hw => by simp only [renV]; rw [renL_id h cs (by simpa [wfV] using hw)]
  | .fn f a b, hw => by
    simp only [wfV, Bool.and_eq_true] at hw
    simp only [renV]; rw [renL_id h a hw.1, renL_id h b hw.2]
theorem renL_id {m : Nat → Nat} {n : Nat} (h : ∀ k, k < n → m k = k) : (xs : List V) → wfL n xs = true → renL m xs = xs
  | [], _ => rfl
  | x :: xs, hw => by
    simp only [wfL, Bool.and_eq_true] at hw
    simp only [renL]; rw [renV_id h x hw.1, renL_id h xs hw.2]
end

theorem renO_id {m : Nat → Nat} {n : Nat} (h : ∀ k, k < n → m k = k) (o : VObj) (hw : wfO n o = true) : renO m o = o := by
  cases o with
  | box cs => simp only [wfO] at hw; simp only [renO]; rw [renL_id h cs hw]
  | arr e sz rows => rfl
  | fro sz rows => rfl

def wfOb (n : Nat) (ob : List (Option VObj)) : Bool := ob.all fun o => match o with | some o => wfO n o | none => true

theorem getElem?_lt {α : Type} {l : List α} {i : Nat} {x : α} (h : l[i]? = some x) : i < l.length := by
  rcases Nat.lt_or_ge i l.length with h' | h'
  · exact h'
  · rw [List.getElem?_eq_none h'] at h; cases h

theorem nodup_inj {ms : List Nat} (h : ms.Nodup) {i j k : Nat} (hi : ms[i]? = some k) (hj : ms[j]? = some k) : i = j := by
  have h1 := getElem?_lt hi
  have h2 := getElem?_lt hj
  rw [List.getElem?_eq_getElem h1] at hi
  rw [List.getElem?_eq_getElem h2] at hj
  injection hi with hi
  injection hj with hj
  exact (List.getElem_inj h).1 (hi.trans hj.symm)

open Classical in
/-- What is known of memory by the small list. -/
noncomputable def Env.small (E : Env) (ms : List Nat) : Env :=
  { dom := fun k => k < ms.length, blk := fun k => E.blk (ms.getD k 0), cap := fun k => E.cap (ms.getD k 0), nil := fun k => E.nil (ms.getD k 0),
    lab := fun b => match E.lab b with
      | .imm => .imm
      | .ext => .ext
      | .obj j => if j ∈ ms then .obj (ms.idxOf j) else .ext }

theorem small_imm {E : Env} {ms : List Nat} {b : Nat} : (E.small ms).lab b = .imm ↔ E.lab b = .imm := by
  unfold Env.small
  simp only
  cases E.lab b with
  | imm => simp
  | ext => simp
  | obj j => simp only; split <;> simp

theorem small_obj {E : Env} {ms : List Nat} (hnd : ms.Nodup) {b i k : Nat} (hi : ms[i]? = some k) : (E.small ms).lab b = .obj i ↔ E.lab b = .obj k := by
  unfold Env.small
  simp only
  cases E.lab b with
  | imm => simp
  | ext => simp
  | obj j =>
    simp only [Lab.obj.injEq]
    have hmk : k ∈ ms := List.mem_of_getElem? hi
    split
    · rename_i hj
      simp only [Lab.obj.injEq]
      have hidx : ms[ms.idxOf j]? = some j := by
        rw [List.getElem?_eq_getElem (List.idxOf_lt_length_of_mem hj)]; simp
      constructor
      · intro e; rw [e, hi] at hidx; injection hidx with hidx; exact hidx.symm
      · rintro rfl; exact nodup_inj hnd hidx hi
    · rename_i hj
      simp only [reduceCtorEq, false_iff]
      rintro rfl; exact hj hmk

theorem small_ext {E : Env} {ms : List Nat} {b : Nat} : (E.small ms).lab b = .ext ↔ E.lab b = .ext ∨ ∃ j, E.lab b = .obj j ∧ j ∉ ms := by
  unfold Env.small
  simp only
  cases E.lab b with
  | imm => simp
  | ext => simp
  | obj j => simp only; split <;> simp_all

end Go.Proofs.VL

namespace Go.Proofs.VL
open Go Go.RowKit
set_option linter.unusedSimpArgs false
set_option linter.unusedVariables false

def nameOf (ms : List Nat) (L : Nat) (k : Nat) : Nat := if k < ms.length then ms.getD k 0 else L + (k - ms.length)

def putObs (m : Nat → Nat) (B : List (Option VObj)) : List Nat → List (Option VObj) → List (Option VObj)
  | [], obs => B ++ obs.map (Option.map (renO m))
  | j :: js, o :: obs => putObs m (B.set j (o.map (renO m))) js obs
  | _ :: _, [] => B

/-- Each object lies in the great list, by its name there. -/
def inObs (m : Nat → Nat) (B : List (Option VObj)) (ms : List Nat) (obs : List (Option VObj)) : Prop :=
  ms.length = obs.length ∧ ms.Nodup ∧ ∀ (i j : Nat), ms[i]? = some j → j < B.length ∧ ∀ o, obs[i]? = some (some o) → B[j]? = some (some (renO m o))

theorem nameOf_lt {ms : List Nat} {L k j : Nat} (h : ms[k]? = some j) : nameOf ms L k = j := by
  have hk : k < ms.length := getElem?_lt h
  unfold nameOf
  rw [if_pos hk, List.getD_eq_getElem?_getD, h]; rfl

theorem putObs_length (m : Nat → Nat) : ∀ (ms : List Nat) (obs : List (Option VObj)) (B : List (Option VObj)), ms.length ≤ obs.length → (putObs m B ms obs).length = B.length + (obs.length - ms.length)
  | [], obs, B, _ => by simp [putObs]
  | j :: js, [], B, h => by simp at h
  | j :: js, o :: obs, B, h => by
    simp only [putObs]
    rw [putObs_length m js obs _ (by simpa using h)]
    simp

theorem putObs_get (m : Nat → Nat) : ∀ (ms : List Nat) (obs : List (Option VObj)) (B : List (Option VObj)), ms.length ≤ obs.length → ms.Nodup → (∀ j ∈ ms, j < B.length) → ∀ (k : Nat),
    (k < B.length → k ∉ ms → (putObs m B ms obs)[k]? = B[k]?) ∧ (∀ i : Nat, ms[i]? = some k → (putObs m B ms obs)[k]? = (obs[i]?).map (Option.map (renO m))) ∧
    (B.length ≤ k → (putObs m B ms obs)[k]? = (obs[ms.length + (k - B.length)]?).map (Option.map (renO m)))
  | [], obs, B, _, _, _, k => by
    simp only [putObs]
    refine ⟨fun hk _ => List.getElem?_append_left hk, fun i hi => by simp at hi, fun hk => ?_⟩
    rw [List.getElem?_append_right hk]; simp
  | j :: js, [], B, h, _, _, _ => by simp at h
  | j :: js, o :: obs, B, h, hnd, hlt, k => by
    simp only [putObs]
    rw [List.nodup_cons] at hnd
    obtain ⟨g1, g2, g3⟩ := putObs_get m js obs (B.set j (o.map (renO m))) (by simpa using h) hnd.2 (fun q hq => by simpa using hlt q (by simp [hq])) k
    have hjB := hlt j (by simp)
    refine ⟨fun hk hn => ?_, fun i hi => ?_, fun hk => ?_⟩
    · simp only [List.mem_cons, not_or] at hn
      rw [g1 (by simpa using hk) hn.2, List.getElem?_set_ne (fun e => hn.1 e.symm)]
    · cases i with
      | zero =>
        simp at hi
        subst hi
        rw [g1 (by simpa using hjB) hnd.1, List.getElem?_set_self (by simpa using hjB)]; rfl
      | succ i => rw [g2 i (by simpa using hi)]; simp
    · rw [g3 (by simpa using hk)]
      simp only [List.length_set, List.length_cons]
      rw [show js.length + 1 + (k - B.length) = (js.length + (k - B.length)) + 1 by omega, List.getElem?_cons_succ]

/-- A block's label behind the call, in the great list's words. -/
def labAfter (ms : List Nat) (L : Nat) (old : Bool) (l : Lab) : Lab → Lab
  | .imm => .imm
  | .obj j => .obj (nameOf ms L j)
  | .ext => if old then (match l with | .obj j => if j ∈ ms ∨ L ≤ j then .ext else .obj j | _ => .ext) else .ext

theorem labAfter_imm {ms : List Nat} {L : Nat} {old : Bool} {l l1 : Lab} : l1 = .imm ↔ labAfter ms L old l l1 = .imm := by
  cases l1 with
  | imm => simp [labAfter]
  | obj j => simp [labAfter]
  | ext =>
    simp only [labAfter, reduceCtorEq, false_iff]
    split
    · split
      · split <;> simp
      · simp
    · simp

theorem labAfter_old {ms : List Nat} {L : Nat} {old : Bool} {l : Lab} {q : Nat} (h : labAfter ms L old l .ext = .obj q) : l = .obj q ∧ q ∉ ms ∧ q < L := by
  simp only [labAfter] at h
  split at h
  · split at h
    · split at h
      · cases h
      · rename_i hn
        injection h with h
        subst h
        simp only [not_or, Nat.not_le] at hn
        exact ⟨rfl, hn.1, hn.2⟩
    · cases h
  · cases h


def labAfterG (ms : List Nat) (L N : Nat) (old : Bool) (l : Lab) : Lab → Lab
  | .imm => .imm
  | .obj j => .obj (nameOf ms L j)
  | .ext => if old then (match l with | .obj j => if j ∈ ms ∨ (L ≤ j ∧ j < L + N) then .ext else .obj j | _ => .ext) else .ext

theorem labAfterG_imm {ms : List Nat} {L N : Nat} {old : Bool} {l l1 : Lab} : l1 = .imm ↔ labAfterG ms L N old l l1 = .imm := by
  cases l1 with
  | imm => simp [labAfterG]
  | obj j => simp [labAfterG]
  | ext =>
    simp only [labAfterG, reduceCtorEq, false_iff]
    split
    · split
      · split <;> simp
      · simp
    · simp

theorem labAfterG_old {ms : List Nat} {L N : Nat} {old : Bool} {l : Lab} {q : Nat} (h : labAfterG ms L N old l .ext = .obj q) : l = .obj q ∧ q ∉ ms ∧ ¬ (L ≤ q ∧ q < L + N) := by
  simp only [labAfterG] at h
  split at h
  · split at h
    · split at h
      · cases h
      · rename_i hn
        injection h with h
        subst h
        exact ⟨rfl, fun q => hn (.inl q), fun q => hn (.inr q)⟩
    · cases h
  · cases h

/-- A contract over a few objects, in a memory with whatever others. -/
theorem VCall.frameG {P : Program} {f : FuncId} {args : List V} {obs obs' : List (Option VObj)} {r : V} (h : VCall P f args obs r obs') (ms : List Nat) (L : Nat) (hlen : ms.length = obs.length) (hnd : ms.Nodup) (hmL : ∀ j ∈ ms, j < L)
    (hwa : wfL obs.length args = true) (hwo : wfOb obs.length obs = true) (hwr : wfV obs'.length r = true) (hwo' : wfOb obs'.length obs' = true) (hle : obs.length ≤ obs'.length)
    {w : World} {E : Env} {vs : List Value} (hdm : ∀ j ∈ ms, E.dom j) (hnew : ∀ k, L ≤ k → k < L + (obs'.length - obs.length) → ¬ E.dom k)
    (hob : ∀ (i j : Nat) o, ms[i]? = some j → obs[i]? = some (some o) → ObjRep w E j (renO (nameOf ms L) o)) (hf : ∀ b, w.heap.size ≤ b → E.lab b = .imm) (hv : RepL w E (renL (nameOf ms L) args) vs) :
    Calls P f ⟨vs⟩ w fun e w' => ∃ v E', e = .returned v ∧ Ext w E w' E' ∧ (∀ k, E'.dom k ↔ E.dom k ∨ (L ≤ k ∧ k < L + (obs'.length - obs.length))) ∧ Rep w' E' (renV (nameOf ms L) r) v ∧
      (∀ (i : Nat) o, obs'[i]? = some (some o) → ObjRep w' E' (nameOf ms L i) (renO (nameOf ms L) o)) ∧ (∀ k o, E.dom k → k ∉ ms → ObjRep w E k o → ObjRep w' E' k o) ∧ (∀ b, w'.heap.size ≤ b → E'.lab b = .imm) := by
  classical
  have hms : ∀ k, k < obs.length → ∃ j, ms[k]? = some j ∧ nameOf ms L k = j ∧ ms.getD k 0 = j ∧ j < L := by
    intro k hk
    have hk' : k < ms.length := by omega
    refine ⟨ms[k], List.getElem?_eq_getElem hk', nameOf_lt (List.getElem?_eq_getElem hk'), ?_, hmL _ (List.getElem_mem hk')⟩
    rw [List.getD_eq_getElem?_getD, List.getElem?_eq_getElem hk']; rfl
  -- what the callee knows
  have T : Tell w obs.length (nameOf ms L) (E.small ms) E := by
    refine ⟨?_, ?_, ?_, ?_, fun b _ => small_imm⟩
    · intro k hk
      obtain ⟨j, h1, h2, h3, h4⟩ := hms k hk
      rw [h2]
      exact ⟨fun _ => hdm j (List.mem_of_getElem? h1), fun _ => by show k < ms.length; omega⟩
    all_goals
      intro k hk
      obtain ⟨j, h1, h2, h3, h4⟩ := hms k hk
      rw [h2]; simp only [Env.small, h3]
  have hvs := (RepL.ren T args vs hwa).2 hv
  have hobs : ∀ k o, obs[k]? = some (some o) → ObjRep w (E.small ms) k o := by
    intro k o hk
    have hkl : k < obs.length := getElem?_lt hk
    obtain ⟨j, h1, h2, h3, h4⟩ := hms k hkl
    have hwo1 : wfO obs.length o = true := by
      have := List.all_eq_true.1 hwo _ (List.mem_of_getElem? hk)
      simpa using this
    refine (ObjRep.ren T hkl (fun b _ => ?_) o hwo1).2 ?_
    · rw [h2]; exact small_obj hnd h1
    · rw [h2]; exact hob k j o h1 hk
  refine (h.2 w (E.small ms) vs (fun k => by show k < ms.length ↔ _; omega) hobs (fun b hb => small_imm.2 (hf b hb)) hvs).mono ?_
  rintro e w' ⟨v, E1, rfl, hres⟩
  have hx := hres.ext
  have hms' : ∀ k, k < ms.length → ∃ j, ms[k]? = some j ∧ nameOf ms L k = j ∧ ms.getD k 0 = j ∧ j < L := fun k hk => hms k (by omega)
  -- what is known then
  let E' : Env :=
    { dom := fun k => E.dom k ∨ (L ≤ k ∧ k < L + (obs'.length - obs.length)),
      blk := fun k => if E.dom k then E.blk k else E1.blk (ms.length + (k - L)),
      cap := fun k => if E.dom k then E.cap k else E1.cap (ms.length + (k - L)),
      nil := fun k => if E.dom k then E.nil k else E1.nil (ms.length + (k - L)),
      lab := fun b => labAfterG ms L (obs'.length - obs.length) (decide (b < w.heap.size)) (E.lab b) (E1.lab b) }
  have himm : ∀ b, E1.lab b = .imm ↔ E'.lab b = .imm := fun b => labAfterG_imm
  have hninj : ∀ i j, i < obs'.length → j < obs'.length → nameOf ms L i = nameOf ms L j → i = j := by
    intro i j hi hj he
    by_cases h1 : i < ms.length
    · obtain ⟨a, a1, a2, a3, a4⟩ := hms' i h1
      by_cases h2 : j < ms.length
      · obtain ⟨b, b1, b2, b3, b4⟩ := hms' j h2
        rw [a2, b2] at he; subst he; exact nodup_inj hnd a1 b1
      · rw [a2] at he; simp only [nameOf, if_neg h2] at he; omega
    · by_cases h2 : j < ms.length
      · obtain ⟨b, b1, b2, b3, b4⟩ := hms' j h2
        rw [b2] at he; simp only [nameOf, if_neg h1] at he; omega
      · simp only [nameOf, if_neg h1, if_neg h2] at he; omega
  have hlab1 : ∀ b j, E1.lab b = .obj j → E'.lab b = .obj (nameOf ms L j) := by
    intro b j hb
    show labAfterG _ _ _ _ _ _ = _
    rw [hb]; rfl
  have hlab2 : ∀ b, b < w.heap.size → (E.small ms).lab b = .ext → (E.lab b = .ext ∨ ∃ j, E.lab b = .obj j ∧ ¬ (L ≤ j ∧ j < L + (obs'.length - obs.length))) → E'.lab b = E.lab b ∧ w'.heap[b]? = w.heap[b]? := by
    intro b hb hs hj
    obtain ⟨q1, q2⟩ := hx.ext b hb hs
    refine ⟨?_, q2⟩
    show labAfterG _ _ _ _ _ _ = _
    rw [q1]
    simp only [labAfterG, hb, decide_true, if_true]
    rcases hj with hj | ⟨j, hj, hjB⟩
    · rw [hj]
    · rw [hj]
      simp only
      rw [if_neg]
      rintro (h | h)
      · rcases small_ext.1 hs with h1 | ⟨j', h1, h2⟩
        · rw [hj] at h1; cases h1
        · rw [hj] at h1; injection h1 with h1; subst h1; exact h2 h
      · exact hjB h
  have hd1 : ∀ k, E1.dom k ↔ k < obs'.length := hres.dom
  have T' : Tell w' obs'.length (nameOf ms L) E1 E' := by
    refine ⟨?_, ?_, ?_, ?_, fun b _ => himm b⟩
    · intro k hk
      rw [hd1]
      refine ⟨fun _ => ?_, fun _ => hk⟩
      show E.dom (nameOf ms L k) ∨ _
      by_cases h1 : k < ms.length
      · obtain ⟨a, a1, a2, a3, a4⟩ := hms' k h1; left; rw [a2]; exact hdm a (List.mem_of_getElem? a1)
      · right; simp only [nameOf, if_neg h1]; omega
    · intro k hk
      show (if _ then _ else _) = _
      by_cases h1 : k < ms.length
      · obtain ⟨a, a1, a2, a3, a4⟩ := hms' k h1
        rw [a2, if_pos (hdm a (List.mem_of_getElem? a1)), hx.blk k h1]; simp only [Env.small, a3]
      · have : nameOf ms L k = L + (k - ms.length) := by simp only [nameOf, if_neg h1]
        rw [this, if_neg (hnew _ (by omega) (by omega))]
        congr 1; omega
    · intro k hk
      show (if _ then _ else _) = _
      by_cases h1 : k < ms.length
      · obtain ⟨a, a1, a2, a3, a4⟩ := hms' k h1
        rw [a2, if_pos (hdm a (List.mem_of_getElem? a1)), hx.cap k h1]; simp only [Env.small, a3]
      · have : nameOf ms L k = L + (k - ms.length) := by simp only [nameOf, if_neg h1]
        rw [this, if_neg (hnew _ (by omega) (by omega))]
        congr 1; omega
    · intro k hk
      show (if _ then _ else _) = _
      by_cases h1 : k < ms.length
      · obtain ⟨a, a1, a2, a3, a4⟩ := hms' k h1
        rw [a2, if_pos (hdm a (List.mem_of_getElem? a1)), hx.nil k h1]; simp only [Env.small, a3]
      · have : nameOf ms L k = L + (k - ms.length) := by simp only [nameOf, if_neg h1]
        rw [this, if_neg (hnew _ (by omega) (by omega))]
        congr 1; omega
  have hX : Ext w E w' E' := by
    refine ⟨hx.os, hx.tape, hx.output, hx.size, fun b hb hl => ?_, fun b hb hl => ?_, fun k hk => ?_, fun k hk => ?_, fun k hk => ?_, fun k hk => ?_⟩
    · obtain ⟨q1, q2⟩ := hx.imm b hb (small_imm.2 hl)
      exact ⟨(himm b).1 q1, q2⟩
    · obtain ⟨q1, q2⟩ := hlab2 b hb (small_ext.2 (.inl hl)) (.inl hl)
      exact ⟨q1.trans hl, q2⟩
    · exact .inl hk
    · show (if _ then _ else _) = _
      rw [if_pos hk]
    · show (if _ then _ else _) = _
      rw [if_pos hk]
    · show (if _ then _ else _) = _
      rw [if_pos hk]
  refine ⟨v, E', rfl, hX, fun k => Iff.rfl, (Rep.ren T' r v hwr).1 hres.rep, ?_, ?_, fun b hb => (himm b).1 (hres.fresh b hb)⟩
  · have one : ∀ (i : Nat) o, obs'[i]? = some (some o) → ObjRep w' E' (nameOf ms L i) (renO (nameOf ms L) o) := by
      intro i o hi
      have hil := getElem?_lt hi
      have hwo1 : wfO obs'.length o = true := by
        have := List.all_eq_true.1 hwo' _ (List.mem_of_getElem? hi)
        simpa using this
      refine (ObjRep.ren T' hil (fun b _ => ?_) o hwo1).1 (hres.objs i o hi)
      constructor
      · intro hb; exact hlab1 b i hb
      · intro hb
        cases hl : E1.lab b with
        | imm => rw [(himm b).1 hl] at hb; cases hb
        | obj j =>
          rw [hlab1 b j hl] at hb
          injection hb with hb
          by_cases hj : j < obs'.length
          · rw [hninj j i hj hil hb]
          · exfalso
            have h1 : ¬ j < ms.length := by omega
            simp only [nameOf, if_neg h1] at hb
            by_cases h2 : i < ms.length
            · obtain ⟨a, a1, a2, a3, a4⟩ := hms' i h2
              simp only [nameOf, if_pos h2, a3] at hb; omega
            · simp only [if_neg h2] at hb; omega
        | ext =>
          exfalso
          have hE' : E'.lab b = labAfterG ms L (obs'.length - obs.length) (decide (b < w.heap.size)) (E.lab b) .ext := by
            show labAfterG _ _ _ _ _ _ = _
            rw [hl]
          rw [hE'] at hb
          obtain ⟨q1, q2, q3⟩ := labAfterG_old hb
          by_cases h2 : i < ms.length
          · obtain ⟨a, a1, a2, a3, a4⟩ := hms' i h2
            rw [a2] at q2; exact q2 (List.mem_of_getElem? a1)
          · simp only [nameOf, if_neg h2] at q3
            exact q3 (by omega)
    exact one
  · intro k o hk hkm ho
    refine ho.move hX hk ?_
    rintro (hl | hl) hb
    · obtain ⟨q1, q2⟩ := hlab2 _ hb (small_ext.2 (.inr ⟨k, hl, hkm⟩)) (.inr ⟨k, hl, fun hk2 => hnew k hk2.1 hk2.2 hk⟩)
      exact ⟨q2, q1⟩
    · obtain ⟨q1, q2⟩ := hX.imm _ hb hl
      exact ⟨q2, q1.trans hl.symm⟩
end Go.Proofs.VL

namespace Go.Proofs.VL
open Go Go.RowKit
set_option linter.unusedSimpArgs false
set_option linter.unusedVariables false

def optX : Option X → List X
  | some x => [x]
  | none => []

/-- What an operation reads. -/
def VO.xs : VO → List X
  | .mv x | .un _ x | .cint _ x | .cstr x | .nilck x | .fadr _ x | .fld _ _ _ x | .ext x _ | .ln _ x | .box x | .load _ _ x | .b2s x | .s2b _ x => [x]
  | .pick c a b => [c, a, b]
  | .bin _ x y | .eqb _ x y | .eqn _ _ x y | .eqa _ _ x y | .iadr _ _ x y | .idxs x y | .idxa _ _ _ x y | .msl _ _ _ _ x y | .store _ x y | .app _ _ _ x y | .apps _ x y => [x, y]
  | .build _ parts => parts.map fun p => p.2.2
  | .slcs x lo hi => x :: (optX lo ++ optX hi)
  | .slc _ x lo hi mx => x :: (optX lo ++ optX hi ++ optX mx)
  | .fn _ a b => a ++ b
  | .mm _ l => l
  | .alloc _ => []
  | .bsl _ _ _ _ _ parts => parts.map fun p => p.2
  | .call f args => f :: args

theorem fillV_congr {x y : X → V} : ∀ (ps : List (Nat × Nat × X)) (cs : List V), (∀ X ∈ ps.map (fun p => p.2.2), x X = y X) → fillV x cs ps = fillV y cs ps
  | [], cs, h => rfl
  | (o, s, X) :: ps, cs, h => by
    simp only [List.map_cons, List.mem_cons, forall_eq_or_imp] at h
    simp only [fillV, h.1]
    split
    · exact fillV_congr ps _ h.2
    · rfl

theorem fillRows_congr {x y : X → V} {sz : Nat} : ∀ (ps : List (Nat × X)) (rows : List (List V)), (∀ X ∈ ps.map (fun p => p.2), x X = y X) → fillRows x sz rows ps = fillRows y sz rows ps
  | [], rows, h => rfl
  | (i, X) :: ps, rows, h => by
    simp only [List.map_cons, List.mem_cons, forall_eq_or_imp] at h
    simp only [fillRows, h.1]
    split
    · exact fillRows_congr ps _ h.2
    · rfl

theorem optX_congr {x y : X → V} {o : Option X} (h : ∀ X ∈ optX o, x X = y X) : o.map x = o.map y := by
  cases o with
  | none => rfl
  | some X => simp [h X (by simp [optX])]

theorem evP_congr {o : VO} {x y : X → V} (h : ∀ X ∈ o.xs, x X = y X) : o.evP x = o.evP y := by
  cases o <;> simp only [VO.xs] at h
  case build z ps => simp only [VO.evP, fillV_congr ps z h]
  case slcs a lo hi =>
    simp only [VO.evP]
    rw [h a (by simp), optX_congr (fun X hX => h X (by simp [hX])), optX_congr (o := hi) (fun X hX => h X (by simp [hX]))]
  case slc s a lo hi mx =>
    simp only [VO.evP]
    rw [h a (by simp), optX_congr (fun X hX => h X (by simp [hX])), optX_congr (o := hi) (fun X hX => h X (by simp [hX])), optX_congr (o := mx) (fun X hX => h X (by simp [hX]))]
  case fn f a b =>
    simp only [VO.evP]
    rw [List.map_congr_left (fun X hX => h X (by simp [hX])), List.map_congr_left (l := b) (fun X hX => h X (by simp [hX]))]
  case mm b l => simp only [VO.evP]; rw [List.map_congr_left h]
  case iadr ar s a b => cases ar <;> simp only [VO.evP] <;> simp [h a (by simp), h b (by simp)]
  case ln st a => cases st <;> simp only [VO.evP] <;> simp [h a (by simp)]
  all_goals (first | rfl | (simp only [VO.evP]; simp_all))

theorem evR_congr {o : VO} {x y : X → V} (h : ∀ X ∈ o.xs, x X = y X) (ob : List (Option VObj)) : o.evR x ob = o.evR y ob := by
  cases hR : o.isR with
  | false => rw [evR_P hR, evR_P hR, evP_congr h]
  | true =>
    cases o <;> simp [VO.isR] at hR <;> simp only [VO.xs] at h
    case bsl own e sz len z ps => simp only [VO.evR, fillRows_congr ps _ h]
    all_goals (simp only [VO.evR] <;> first | rfl | simp_all)

theorem evW_congr {o : VO} {x y : X → V} (h : ∀ X ∈ o.xs, x X = y X) (ob : List (Option VObj)) : o.evW x ob = o.evW y ob := by
  cases o <;> first | rfl | (simp only [VO.xs] at h; simp only [VO.evW]; simp_all)

/-! ### a region that draws its order -/
def Oper.dirs (o : Oper) : List Nat := (o.after.toList.filter fun e => Region.binds .any e).map (·.on)

/-- For each operation those that must have run. -/
def mkPre (ops : List Oper) : List (List Nat) :=
  ops.foldl (fun acc o => acc ++ [(Oper.dirs o).foldl (fun s j => (j :: acc.getD j []).foldl (fun s k => if s.contains k then s else k :: s) s) []]) []

def VO.isW (wc : Bool) : VO → Bool
  | .store _ _ _ | .app _ _ _ _ _ | .apps _ _ _ => true
  | .call _ _ => wc
  | _ => false

def VO.isP : VO → Bool
  | .store _ _ _ | .app _ _ _ _ _ | .apps _ _ _ | .call _ _ => false
  | o => !o.isR

def VOper.reads (v : VOper) : List Nat :=
  (v.op.xs.filterMap fun | .t n => some n | .c _ => none) ++ (match v.guard with | some (t, _) => [t] | none => [])

def ordered (pre : List (List Nat)) (i j : Nat) : Bool := (pre.getD i []).contains j || (pre.getD j []).contains i

/-! names of objects in a value; what an operation may write, what it looks at -/
mutual
def V.names : V → List Nat
  | .ref k _ => [k]
  | .ptr k _ => [k]
  | .eptr k _ _ _ => [k]
  | .mapr k => [k]
  | .agg cs => namesL cs
  | .tup cs => namesL cs
  | .fn _ a b => namesL a ++ namesL b
  | _ => []
def namesL : List V → List Nat
  | [] => []
  | x :: xs => x.names ++ namesL xs
end

def VO.wx : VO → List X
  | .store _ a _ => [a]
  | .app _ _ _ x _ => [x]
  | .apps _ x _ => [x]
  | .call f as => f :: as
  | _ => []
def VO.isC : VO → Bool
  | .call _ _ => true
  | _ => false
def VO.isS : VO → Bool
  | .store _ _ _ => true
  | _ => false
def VO.tx (o : VO) : List X := if o.isP then [] else o.xs
def dstX (v : VOper) : List X := match v.dst with | some t => [.t t] | none => []
def slotsX (xs : List X) : List Nat := xs.filterMap fun | .t n => some n | .c _ => none

def mkSp (vs : List VOper) (ips : List (Nat × Nat)) : List (List X × List X) :=
  ips.filterMap fun p => match vs[p.1]?, vs[p.2]? with | some v, some u => some (v.op.wx, u.op.tx ++ dstX u) | _, _ => none

/-- Are what some write and what others look at apart? -/
def chkS (sp : List (List X × List X)) (s : St) : Bool :=
  sp.all fun p => (namesL (p.1.map s.x)).all fun k => !(namesL (p.2.map s.x)).contains k

structure DOk (ops : List Oper) (vs : List VOper) (wc : List Bool) (pre : List (List Nat)) (ips : List (Nat × Nat)) : Prop where
  lenv : vs.length = ops.length
  dirs : ∀ (i : Nat) o, ops[i]? = some o → ∀ j ∈ Oper.dirs o, j < i
  clo : ∀ (i : Nat) o, ops[i]? = some o → ∀ j ∈ pre.getD i [], j < i ∧ (j ∈ Oper.dirs o ∨ ∃ e ∈ Oper.dirs o, j ∈ pre.getD e [])
  dst : ∀ (i j : Nat) v u t, vs[i]? = some v → vs[j]? = some u → v.dst = some t → u.dst = some t → i = j
  reads : ∀ (i j : Nat) v u t, vs[i]? = some v → vs[j]? = some u → t ∈ v.reads → u.dst = some t → i = j ∨ j ∈ pre.getD i [] ∨ i ∈ pre.getD j []
  writes : ∀ (i j : Nat) v u, vs[i]? = some v → vs[j]? = some u → v.op.isW (wc.getD i false) = true → u.op.isP = false → i = j ∨ (j ∈ pre.getD i [] ∨ i ∈ pre.getD j []) ∨
    ((i, j) ∈ ips ∧ (u.dst = none → u.op.isS = true) ∧
      ∀ (q : Nat) x t, vs[q]? = some x → x.dst = some t → (t ∈ slotsX v.op.wx → q < i) ∧ (t ∈ slotsX u.op.tx → q < j))

def allIdx (n : Nat) (p : Nat → Bool) : Bool := (List.range n).all p

theorem allIdx_spec {n : Nat} {p : Nat → Bool} (h : allIdx n p = true) (i : Nat) (hi : i < n) : p i = true := by
  simp only [allIdx, List.all_eq_true, List.mem_range] at h
  exact h i hi

def pairOk (vs : List VOper) (wc : List Bool) (ips : List (Nat × Nat)) (i j : Nat) (v u : VOper) : Bool :=
  ips.contains (i, j) && (u.dst.isSome || u.op.isS) &&
    allIdx vs.length (fun q => match vs[q]? with
      | some x => (match x.dst with | some t => (!(slotsX v.op.wx).contains t || decide (q < i)) && (!(slotsX u.op.tx).contains t || decide (q < j)) | none => true)
      | none => true)

def dOkB (ops : List Oper) (vs : List VOper) (wc : List Bool) (pre : List (List Nat)) (ips : List (Nat × Nat)) : Bool :=
  let n := ops.length
  vs.length == n &&
  allIdx n (fun i => match ops[i]? with
    | some o => (Oper.dirs o).all (fun j => decide (j < i)) && (pre.getD i []).all (fun j => decide (j < i) && ((Oper.dirs o).contains j || (Oper.dirs o).any fun e => (pre.getD e []).contains j))
    | none => true) &&
  allIdx n (fun i => allIdx n fun j => i == j || (match vs[i]?, vs[j]? with
    | some v, some u =>
      (match u.dst with
       | some t => (v.dst != some t) && (!v.reads.contains t || ordered pre i j)
       | none => true) && (!(v.op.isW (wc.getD i false)) || u.op.isP || ordered pre i j || pairOk vs wc ips i j v u)
    | _, _ => true))

/-- Pairs of a writer and another one whose order is open. -/
def mkIps (vs : List VOper) (wc : List Bool) (pre : List (List Nat)) : List (Nat × Nat) :=
  ((List.range vs.length).flatMap fun i => (List.range vs.length).map fun j => (i, j)).filter fun p =>
    match vs[p.1]?, vs[p.2]? with
    | some v, some u => p.1 != p.2 && v.op.isW (wc.getD p.1 false) && !u.op.isP && !ordered pre p.1 p.2
    | _, _ => false

theorem dOk_of {ops : List Oper} {vs : List VOper} {wc : List Bool} {pre : List (List Nat)} {ips : List (Nat × Nat)} (h : dOkB ops vs wc pre ips = true) : DOk ops vs wc pre ips := by
  unfold dOkB at h
  simp only [Bool.and_eq_true, beq_iff_eq] at h
  obtain ⟨⟨h1, h2⟩, h3⟩ := h
  have h3' : ∀ i j v u, vs[i]? = some v → vs[j]? = some u → i = j ∨ ((match u.dst with
       | some t => (v.dst != some t) && (!v.reads.contains t || ordered pre i j)
       | none => true) && (!(v.op.isW (wc.getD i false)) || u.op.isP || ordered pre i j || pairOk vs wc ips i j v u)) = true := by
    intro i j v u hv hu
    have := allIdx_spec (allIdx_spec h3 i (by rw [← h1]; exact getElem?_lt hv)) j (by rw [← h1]; exact getElem?_lt hu)
    rw [hv, hu] at this
    simpa using this
  have hord : ∀ i j, ordered pre i j = true → j ∈ pre.getD i [] ∨ i ∈ pre.getD j [] := by
    intro i j h
    simpa [ordered] using h
  refine ⟨h1, ?_, ?_, ?_, ?_, ?_⟩
  · intro i o ho j hj
    have := allIdx_spec h2 i (getElem?_lt ho)
    rw [ho] at this
    simp only [Bool.and_eq_true, List.all_eq_true, decide_eq_true_eq] at this
    exact this.1 j hj
  · intro i o ho j hj
    have := allIdx_spec h2 i (getElem?_lt ho)
    rw [ho] at this
    simp only [Bool.and_eq_true, List.all_eq_true, decide_eq_true_eq, Bool.or_eq_true, List.contains_iff_mem, List.any_eq_true] at this
    obtain ⟨q1, q2⟩ := this.2 j hj
    refine ⟨q1, ?_⟩
    rcases q2 with q2 | ⟨e, q3, q4⟩
    · exact .inl q2
    · exact .inr ⟨e, q3, by simpa using q4⟩
  · intro i j v u t hv hu hvt hut
    rcases h3' i j v u hv hu with h | h
    · exact h
    · rw [hut] at h
      simp [hvt] at h
  · intro i j v u t hv hu hvt hut
    rcases h3' i j v u hv hu with h | h
    · exact .inl h
    · rw [hut] at h
      simp only [Bool.and_eq_true, Bool.or_eq_true, Bool.not_eq_true', List.contains_eq_mem, decide_eq_false_iff_not] at h
      rcases h.1.2 with h | h
      · exact absurd hvt h
      · exact .inr (hord i j h)
  · intro i j v u hv hu hw hp
    rcases h3' i j v u hv hu with h | h
    · exact .inl h
    · simp only [Bool.and_eq_true, Bool.or_eq_true, Bool.not_eq_true', hw, hp, Bool.true_eq_false, Bool.false_eq_true, false_or] at h
      rcases h.2 with h | h
      · exact .inr (.inl (hord i j h))
      · unfold pairOk at h
        simp only [Bool.and_eq_true, Bool.not_eq_true', List.contains_eq_mem, decide_eq_true_eq] at h
        obtain ⟨⟨q1, q4⟩, q5⟩ := h
        refine .inr (.inr ⟨q1, ?_, ?_⟩)
        · intro hd
          rw [hd] at q4
          simpa using q4
        · intro q x t hx ht
          have := allIdx_spec q5 q (getElem?_lt hx)
          rw [hx] at this
          simp only [ht] at this
          simp only [Bool.and_eq_true, Bool.or_eq_true, Bool.not_eq_true', decide_eq_false_iff_not, decide_eq_true_eq] at this
          exact ⟨fun hm => this.1.resolve_left (fun h => h hm), fun hm => this.2.resolve_left (fun h => h hm)⟩
end Go.Proofs.VL

namespace Go.Proofs.VL
open Go Go.RowKit
set_option linter.unusedSimpArgs false
set_option linter.unusedVariables false

/-- A callee that knows but a few of the objects, all of them named by what it is handed. -/
structure FCall (P : Program) (ob : List (Option VObj)) (g : FuncId) (xs : List V) (r : V) (ob' : List (Option VObj)) (ms : List Nat) (args : List V) (obs obs' : List (Option VObj)) (r0 : V) : Prop where
  call : VCall P g args obs r0 obs'
  len : ms.length = obs.length
  nodup : ms.Nodup
  at_ : ∀ (i j : Nat), ms[i]? = some j → j < ob.length ∧ j ∈ namesL xs ∧ ∀ o, obs[i]? = some (some o) → ob[j]? = some (some (renO (nameOf ms ob.length) o))
  wfa : wfL obs.length args = true
  wfo : wfOb obs.length obs = true
  wfr : wfV obs'.length r0 = true
  wfo' : wfOb obs'.length obs' = true
  le : obs.length ≤ obs'.length
  args : xs = renL (nameOf ms ob.length) args
  res : r = renV (nameOf ms ob.length) r0
  obj : ob' = putObs (nameOf ms ob.length) ob ms obs'
  news : ∀ k, ob.length ≤ k → k < ob'.length → k ∈ r.names

/-- One operation, from a state to the next one. -/
inductive Step1 (P : Program) (fl wc : Bool) (v : VOper) (s : St) : St → Prop
  | skip (t : Nat) (want : Bool) : v.guard = some (t, want) → (∀ (w : World) (E : Env) (val : Value), Rep w E (s.get t) val → val ≠ .bool want) → Step1 P fl wc v s (s.putO v.dst (.tup []))
  | read (r : V) (news : List VObj) : (v.guard = none ∨ ∃ t want, v.guard = some (t, want) ∧ s.get t = .bool want) → v.op.isW wc = false → v.op.evR s.x s.ob = some (r, news) → (∀ f as, v.op ≠ .call f as) →
      Step1 P fl wc v s (({ s with ob := s.ob ++ news.map some } : St).putO v.dst r)
  | callR (f : X) (as : List X) (g : FuncId) (first caps : List V) (r : V) : (v.guard = none ∨ ∃ t want, v.guard = some (t, want) ∧ s.get t = .bool want) → v.op = .call f as → s.x f = .fn g first caps → CallR P s.ob g (first ++ as.map s.x ++ caps) r →
      Step1 P fl wc v s (s.putO v.dst r)
  | write (r : V) (ob' : List (Option VObj)) : (v.guard = none ∨ ∃ t want, v.guard = some (t, want) ∧ s.get t = .bool want) → v.op.isW wc = true → v.op.evW s.x s.ob = some (r, ob') → s.ob.length ≤ ob'.length →
      Step1 P fl wc v s (({ s with ob := ob' } : St).putO v.dst r)
  | callW (f : X) (as : List X) (g : FuncId) (first caps : List V) (r : V) (ob' : List (Option VObj)) : (v.guard = none ∨ ∃ t want, v.guard = some (t, want) ∧ s.get t = .bool want) → (fl = true ∧ wc = true) → v.op = .call f as → s.x f = .fn g first caps → VCall P g (first ++ as.map s.x ++ caps) s.ob r ob' → s.ob.length ≤ ob'.length →
      Step1 P fl wc v s (({ s with ob := ob' } : St).putO v.dst r)
  | callF (f : X) (as : List X) (g : FuncId) (first caps : List V) (r : V) (ob' : List (Option VObj)) (ms : List Nat) (args : List V) (obs obs' : List (Option VObj)) (r0 : V) : (v.guard = none ∨ ∃ t want, v.guard = some (t, want) ∧ s.get t = .bool want) → wc = true → v.op = .call f as → s.x f = .fn g first caps → FCall P s.ob g (first ++ as.map s.x ++ caps) r ob' ms args obs obs' r0 →
      Step1 P fl wc v s (({ s with ob := ob' } : St).putO v.dst r)

theorem putObs_len' {m : Nat → Nat} {ms : List Nat} {B obs : List (Option VObj)} (h : ms.length ≤ obs.length) : B.length ≤ (putObs m B ms obs).length := by
  rw [putObs_length m ms obs B h]; omega

theorem FCall.le' {P : Program} {ob : List (Option VObj)} {g : FuncId} {xs : List V} {r : V} {ob' : List (Option VObj)} {ms : List Nat} {args : List V} {obs obs' : List (Option VObj)} {r0 : V} (h : FCall P ob g xs r ob' ms args obs obs' r0) : ob.length ≤ ob'.length := by
  rw [h.obj]; exact putObs_len' (by have := h.len; have := h.le; omega)

theorem FCall.same {P : Program} {ob : List (Option VObj)} {g : FuncId} {xs : List V} {r : V} {ob' : List (Option VObj)} {ms : List Nat} {args : List V} {obs obs' : List (Option VObj)} {r0 : V} (h : FCall P ob g xs r ob' ms args obs obs' r0) {k : Nat} (hk : k < ob.length) (hm : k ∉ ms) : ob'[k]? = ob[k]? := by
  rw [h.obj]
  refine (putObs_get _ ms obs' ob (by have := h.len; have := h.le; omega) h.nodup (fun j hj => ?_) k).1 hk hm
  obtain ⟨i, hi⟩ := List.getElem?_of_mem hj
  exact (h.at_ i j hi).1

theorem Step1.len {P : Program} {fl wc : Bool} {v : VOper} {s s' : St} (h : Step1 P fl wc v s s') : s.ob.length ≤ s'.ob.length := by
  cases h with
  | skip => rw [putO_ob]; exact Nat.le_refl _
  | read => rw [putO_ob]; simp
  | callR => rw [putO_ob]; exact Nat.le_refl _
  | write r ob' _ _ _ h => rw [putO_ob]; exact h
  | callW f as g first caps r ob' _ _ _ _ _ h => rw [putO_ob]; exact h
  | callF f as g first caps r ob' ms args obs obs' r0 _ _ _ _ h => rw [putO_ob]; exact h.le'

theorem putO_get (s : St) (d : Option Nat) (v : V) (t : Nat) : (s.putO d v).get t = if d = some t then v else s.get t := by
  cases d with
  | none => simp [St.putO]
  | some d =>
    simp only [St.putO, get_put]
    by_cases h : t = d
    · simp [h]
    · rw [if_neg h, if_neg (fun e => h (Option.some.inj e).symm)]

theorem Step1.base {P : Program} {fl wc : Bool} {v : VOper} {s s' : St} (h : Step1 P fl wc v s s') : s'.base = s.base := by
  cases h <;> rw [putO_base]

theorem Step1.get {P : Program} {fl wc : Bool} {v : VOper} {s s' : St} (h : Step1 P fl wc v s s') (t : Nat) (ht : v.dst ≠ some t) : s'.get t = s.get t := by
  cases h <;> simp [putO_get, ht] <;> rfl

/-- A step that does not write leaves the old objects as they were. -/
theorem Step1.ob {P : Program} {fl wc : Bool} {v : VOper} {s s' : St} (h : Step1 P fl wc v s s') (hw : v.op.isW wc = false) {k : Nat} (hk : k < s.ob.length) : s'.ob[k]? = s.ob[k]? := by
  cases h with
  | skip => rw [putO_ob]
  | read r news _ _ _ => rw [putO_ob]; simp [List.getElem?_append_left hk]
  | callR => rw [putO_ob]
  | write r ob' _ h1 => rw [hw] at h1; cases h1
  | callW f as g first caps r ob' _ h1 h2 => rw [h2, h1.2] at hw; simp [VO.isW] at hw
  | callF f as g first caps r ob' ms args obs obs' r0 _ h1 h2 => rw [h2, h1] at hw; simp [VO.isW] at hw

/-- A step without memory leaves the objects. -/
theorem Step1.obP {P : Program} {fl wc : Bool} {v : VOper} {s s' : St} (h : Step1 P fl wc v s s') (hp : v.op.isP = true) : s'.ob = s.ob := by
  have hR : v.op.isR = false := by
    cases hv : v.op <;> rw [hv] at hp <;> simp [VO.isP, VO.isR] at hp ⊢
  cases h with
  | skip => rw [putO_ob]
  | read r news _ _ h2 _ =>
    rw [putO_ob]
    rw [evR_P hR] at h2
    obtain ⟨q, _, he⟩ := opt_bind h2
    simp only [Prod.mk.injEq] at he
    rw [← he.2]; simp
  | callR => rw [putO_ob]
  | write r ob' _ h1 => cases hv : v.op <;> rw [hv] at hp h1 <;> simp [VO.isP, VO.isW] at hp h1
  | callW f as g first caps r ob' _ h1 h2 => rw [h2] at hp; simp [VO.isP] at hp
  | callF f as g first caps r ob' ms args obs obs' r0 _ h1 h2 => rw [h2] at hp; simp [VO.isP] at hp


theorem namesL_app : ∀ (a b : List V), namesL (a ++ b) = namesL a ++ namesL b
  | [], b => rfl
  | x :: a, b => by simp [namesL, namesL_app a b]

def isWC (fl wc : Bool) (v : VOper) : Bool := v.op.isC && wc && fl

/-- What a step writes, its operands name. -/
theorem Step1.wnames {P : Program} {fl wc : Bool} {v : VOper} {s s' : St} (h : Step1 P fl wc v s s') (hc : isWC fl wc v = false) {k : Nat} (hk : k < s.ob.length) (hne : s'.ob[k]? ≠ s.ob[k]?) : v.op.isW wc = true ∧ k ∈ namesL (v.op.wx.map s.x) := by
  have hw : v.op.isW wc = true := by
    cases hw : v.op.isW wc with
    | true => rfl
    | false => exact absurd (h.ob hw hk) hne
  cases h with
  | skip => rw [putO_ob] at hne; exact absurd rfl hne
  | read r news _ h1 => rw [hw] at h1; cases h1
  | callR => rw [putO_ob] at hne; exact absurd rfl hne
  | callW f as g first caps r ob' _ h1 h2 => simp [isWC, h2, h1.1, h1.2, VO.isC] at hc
  | callF f as g first caps r ob' ms args obs obs' r0 _ h1 h2 hf h3 =>
    refine ⟨hw, ?_⟩
    rw [putO_ob] at hne
    have hm : k ∈ ms := Classical.byContradiction fun hn => hne (h3.same hk hn)
    obtain ⟨i, hi⟩ := List.getElem?_of_mem hm
    have hx := (h3.at_ i k hi).2.1
    rw [h2]
    simp only [VO.wx, List.map_cons, namesL, hf, V.names]
    rw [namesL_app, namesL_app] at hx
    simp only [List.mem_append] at hx ⊢
    rcases hx with (hx | hx) | hx
    · exact .inl (.inl hx)
    · exact .inr hx
    · exact .inl (.inr hx)
  | write r ob' _ h1 h2 =>
    rw [putO_ob] at hne
    cases hop : v.op <;> rw [hop] at h2 <;> simp only [VO.evW, reduceCtorEq] at h2
    case store sz a x =>
      refine ⟨hop ▸ hw, ?_⟩
      split at h2 <;> try (cases h2; done)
      split at h2 <;> try (cases h2; done)
      · rename_i k' off hx
        split at h2 <;> try (cases h2; done)
        split at h2 <;> try (cases h2; done)
        simp only [Option.some.injEq, Prod.mk.injEq] at h2
        rw [← h2.2] at hne
        have : k' = k := by
          by_cases he : k' = k
          · exact he
          · exact absurd (List.getElem?_set_ne he) hne
        simp [VO.wx, namesL, hx, V.names, this]
      · rename_i k' i s2 off hx
        split at h2 <;> try (cases h2; done)
        split at h2 <;> try (cases h2; done)
        split at h2 <;> try (cases h2; done)
        split at h2 <;> try (cases h2; done)
        simp only [Option.some.injEq, Prod.mk.injEq] at h2
        rw [← h2.2] at hne
        have : k' = k := by
          by_cases he : k' = k
          · exact he
          · exact absurd (List.getElem?_set_ne he) hne
        simp [VO.wx, namesL, hx, V.names, this]
    case app e sz b x y =>
      refine ⟨hop ▸ hw, ?_⟩
      split at h2 <;> try (cases h2; done)
      rename_i old rows rows2 hA hS
      split at h2 <;> try (cases h2; done)
      simp only [Option.some.injEq, Prod.mk.injEq] at h2
      rw [← h2.2, List.getElem?_append_left (by rw [dropOb_length]; exact hk)] at hne
      unfold appRows at hA
      split at hA
      · simp only [Option.some.injEq, Prod.mk.injEq] at hA
        rw [← hA.1] at hne
        exact absurd rfl hne
      · rename_i k' n hx
        split at hA <;> try (cases hA; done)
        split at hA <;> try (cases hA; done)
        simp only [Option.some.injEq, Prod.mk.injEq] at hA
        rw [← hA.1] at hne
        have : k' = k := by
          by_cases he : k' = k
          · exact he
          · exact absurd (List.getElem?_set_ne he) hne
        simp [VO.wx, namesL, hx, V.names, this]
      · cases hA
    case apps e x y =>
      refine ⟨hop ▸ hw, ?_⟩
      split at h2 <;> try (cases h2; done)
      rename_i old rows l hA hS
      split at h2 <;> try (cases h2; done)
      simp only [Option.some.injEq, Prod.mk.injEq] at h2
      rw [← h2.2, List.getElem?_append_left (by rw [dropOb_length]; exact hk)] at hne
      unfold appRows at hA
      split at hA
      · simp only [Option.some.injEq, Prod.mk.injEq] at hA
        rw [← hA.1] at hne
        exact absurd rfl hne
      · rename_i k' n hx
        split at hA <;> try (cases hA; done)
        split at hA <;> try (cases hA; done)
        simp only [Option.some.injEq, Prod.mk.injEq] at hA
        rw [← hA.1] at hne
        have : k' = k := by
          by_cases he : k' = k
          · exact he
          · exact absurd (List.getElem?_set_ne he) hne
        simp [VO.wx, namesL, hx, V.names, this]
      · cases hA

theorem evR_news {o : VO} {ρ : X → V} {ob : List (Option VObj)} {r : V} {news : List VObj} (h : o.evR ρ ob = some (r, news)) : news = [] ∨ (news.length = 1 ∧ ob.length ∈ r.names) := by
  cases hR : o.isR with
  | false =>
    rw [evR_P hR] at h
    obtain ⟨q, _, he⟩ := opt_bind h
    simp only [Prod.mk.injEq] at he
    exact .inl he.2.symm
  | true =>
    cases o <;> simp [VO.isR] at hR <;> simp only [VO.evR] at h
    case alloc z => simp only [Option.some.injEq, Prod.mk.injEq] at h; rw [← h.1, ← h.2]; exact .inr ⟨rfl, by simp [V.names]⟩
    case box x => split at h <;> simp only [reduceCtorEq, Option.some.injEq, Prod.mk.injEq] at h; rw [← h.1, ← h.2]; exact .inr ⟨rfl, by simp [V.names]⟩
    case load agg sz a => obtain ⟨q, _, he⟩ := opt_bind h; simp only [Prod.mk.injEq] at he; exact .inl he.2.symm
    case bsl own e sz len z ps =>
      cases hf : fillRows ρ sz (List.replicate len z) ps with
      | none => rw [hf] at h; cases h
      | some rows =>
        rw [hf] at h
        simp only [Option.bind_some] at h
        split at h <;> try (cases h; done)
        cases own
        · simp only [Bool.false_eq_true, if_false, Option.some.injEq, Prod.mk.injEq] at h; exact .inl h.2.symm
        · simp only [if_true, Option.some.injEq, Prod.mk.injEq] at h; rw [← h.1, ← h.2]; exact .inr ⟨rfl, by simp [V.names]⟩
    case msl e sz b z l c =>
      split at h <;> try (cases h; done)
      split at h <;> try (cases h; done)
      simp only [Option.some.injEq, Prod.mk.injEq] at h; rw [← h.1, ← h.2]; exact .inr ⟨rfl, by simp [V.names]⟩
    case b2s x =>
      split at h <;> try (cases h; done)
      · obtain ⟨q, _, he⟩ := opt_bind h; simp only [Prod.mk.injEq] at he; exact .inl he.2.symm
      · simp only [Option.some.injEq, Prod.mk.injEq] at h; exact .inl h.2.symm
      · split at h <;> try (cases h; done)
        split at h <;> try (cases h; done)
        obtain ⟨q, _, he⟩ := opt_bind h; simp only [Prod.mk.injEq] at he; exact .inl he.2.symm
    case s2b e x =>
      split at h <;> try (cases h; done)
      simp only [Option.some.injEq, Prod.mk.injEq] at h; exact .inl h.2.symm

/-- What a step makes, its value names. -/
theorem Step1.nnames {P : Program} {fl wc : Bool} {v : VOper} {s s' : St} (h : Step1 P fl wc v s s') (hc : isWC fl wc v = false) (hd : v.dst = none → v.op.isS = true) {k : Nat} (h1 : s.ob.length ≤ k) (h2 : k < s'.ob.length) : k ∈ namesL ((dstX v).map s'.x) := by
  have fin : ∀ (s0 : St) (r : V), s' = s0.putO v.dst r → v.op.isS = false → k ∈ r.names → k ∈ namesL ((dstX v).map s'.x) := by
    intro s0 r he hs hk
    cases hdd : v.dst with
    | none => have q := hd hdd; rw [hs] at q; cases q
    | some t =>
      rw [he, hdd]
      simp only [dstX, hdd, List.map_cons, List.map_nil, namesL, St.x, St.putO, get_put, if_true, List.append_nil]
      exact hk
  cases h with
  | skip => rw [putO_ob] at h2; omega
  | callR => rw [putO_ob] at h2; omega
  | read r news _ hw he hnc =>
    rw [putO_ob] at h2
    simp only [List.length_append, List.length_map] at h2
    rcases evR_news he with q | ⟨q1, q2⟩
    · rw [q] at h2; simp at h2; omega
    · have hk : k = s.ob.length := by omega
      subst hk
      refine fin _ r rfl ?_ q2
      cases hop : v.op <;> first | rfl | (rw [hop] at hw; simp [VO.isW] at hw)
  | callW f as g first caps r ob' _ q1 q2 => simp [isWC, q2, q1.1, q1.2, VO.isC] at hc
  | callF f as g first caps r ob' ms args obs obs' r0 _ q1 q2 hf q3 =>
    rw [putO_ob] at h2
    exact fin _ r rfl (by rw [q2]; rfl) (q3.news k h1 h2)
  | write r ob' _ q1 q2 =>
    rw [putO_ob] at h2
    cases hop : v.op <;> rw [hop] at q2 <;> simp only [VO.evW, reduceCtorEq] at q2
    case store sz a x =>
      exfalso
      split at q2 <;> try (cases q2; done)
      split at q2 <;> try (cases q2; done)
      · split at q2 <;> try (cases q2; done)
        split at q2 <;> try (cases q2; done)
        simp only [Option.some.injEq, Prod.mk.injEq] at q2
        rw [← q2.2] at h2
        simp at h2; omega
      · split at q2 <;> try (cases q2; done)
        split at q2 <;> try (cases q2; done)
        split at q2 <;> try (cases q2; done)
        split at q2 <;> try (cases q2; done)
        simp only [Option.some.injEq, Prod.mk.injEq] at q2
        rw [← q2.2] at h2
        simp at h2; omega
    case app e sz b x y =>
      split at q2 <;> try (cases q2; done)
      split at q2 <;> try (cases q2; done)
      simp only [Option.some.injEq, Prod.mk.injEq] at q2
      rw [← q2.2] at h2
      simp only [List.length_append, dropOb_length, List.length_cons, List.length_nil] at h2
      have hk : k = s.ob.length := by omega
      subst hk
      refine fin _ r rfl (by rw [hop]; rfl) ?_
      rw [← q2.1]; simp [V.names]
    case apps e x y =>
      split at q2 <;> try (cases q2; done)
      split at q2 <;> try (cases q2; done)
      simp only [Option.some.injEq, Prod.mk.injEq] at q2
      rw [← q2.2] at h2
      simp only [List.length_append, dropOb_length, List.length_cons, List.length_nil] at h2
      have hk : k = s.ob.length := by omega
      subst hk
      refine fin _ r rfl (by rw [hop]; rfl) ?_
      rw [← q2.1]; simp [V.names]

/-- A step turns an object that was there. -/
def chg (S : Nat → St) (j k : Nat) : Prop := k < (S j).ob.length ∧ (S (j + 1)).ob[k]? ≠ (S j).ob[k]?

section
variable {fl : Bool} {P : Program} {ops : Array Oper} {vs : List VOper} {wc : List Bool} {pre : List (List Nat)} {nt : Nat} {w0 : World} {E0 : Env} {S : Nat → St}

/-- What is known in the middle of a region. -/
structure DInv (ops : Array Oper) (vs : List VOper) (wc : List Bool) (pre : List (List Nat)) (nt : Nat) (w0 : World) (E0 : Env) (S : Nat → St) (L : Nat → Prop) (a : Act) (w : World) (E : Env) : Prop where
  closed : ∀ i, L i → i < vs.length ∧ ∀ j ∈ pre.getD i [], L j
  defers : a.defers = []
  size : a.tmps.size = nt
  done : ∀ j v t, L j → vs[j]? = some v → v.dst = some t → Rep w E ((S (j + 1)).get t) (a.tmps.getD t undef)
  rest : ∀ t, (∀ j v, L j → vs[j]? = some v → v.dst ≠ some t) → Rep w E ((S 0).get t) (a.tmps.getD t undef)
  dom : ∀ k, E.dom k ↔ (k < (S 0).ob.length ∨ ∃ j, L j ∧ (S j).ob.length ≤ k ∧ k < (S (j + 1)).ob.length)
  objs : ∀ m, m ≤ vs.length → ∀ k o, (∀ j, j < vs.length → chg S j k → (j < m ↔ L j)) → E.dom k → k < (S m).ob.length → (S m).ob[k]? = some (some o) → ObjRep w E k o
  fresh : ∀ b, w.heap.size ≤ b → E.lab b = .imm
  ext : Ext w0 E0 w E
  base : ∀ k, E0.dom k → k < (S 0).base

theorem lens (hst : ∀ i v, vs[i]? = some v → Step1 P fl (wc.getD i false) v (S i) (S (i + 1))) {i j : Nat} (hij : i ≤ j) (hj : j ≤ vs.length) : (S i).ob.length ≤ (S j).ob.length := by
  induction j with
  | zero => have : i = 0 := by omega
            subst this; exact Nat.le_refl _
  | succ j ih =>
    rcases Nat.lt_or_ge i (j + 1) with h | h
    · have h1 := ih (by omega) (by omega)
      have hv : vs[j]? = some vs[j] := List.getElem?_eq_getElem (by omega)
      exact Nat.le_trans h1 (hst j _ hv).len
    · have : i = j + 1 := by omega
      subst this; exact Nat.le_refl _

theorem same_ob (hst : ∀ i v, vs[i]? = some v → Step1 P fl (wc.getD i false) v (S i) (S (i + 1))) {k : Nat} {i j : Nat} (hij : i ≤ j) (hj : j ≤ vs.length) (hw : ∀ q, i ≤ q → q < j → ¬ chg S q k) (hk : k < (S i).ob.length) : (S j).ob[k]? = (S i).ob[k]? := by
  induction j with
  | zero => have : i = 0 := by omega
            subst this; rfl
  | succ j ih =>
    rcases Nat.lt_or_ge i (j + 1) with h | h
    · have h1 := ih (by omega) (by omega) (fun q h1 h2 => hw q h1 (by omega))
      have hlen := lens hst (i := i) (j := j) (by omega) (by omega)
      have h2 : (S (j + 1)).ob[k]? = (S j).ob[k]? := Classical.byContradiction fun hne => hw j (by omega) (by omega) ⟨by omega, hne⟩
      rw [h2, h1]
    · have : i = j + 1 := by omega
      subst this; rfl

theorem same_base (hst : ∀ i v, vs[i]? = some v → Step1 P fl (wc.getD i false) v (S i) (S (i + 1))) : ∀ {j : Nat}, j ≤ vs.length → (S j).base = (S 0).base
  | 0, _ => rfl
  | j + 1, hj => by
    have hv : vs[j]? = some vs[j] := List.getElem?_eq_getElem (by omega)
    rw [(hst j _ hv).base, same_base hst (by omega)]

/-- A slot that nothing in between writes. -/
theorem same_get (hst : ∀ i v, vs[i]? = some v → Step1 P fl (wc.getD i false) v (S i) (S (i + 1))) {i j t : Nat} (hij : i ≤ j) (hj : j ≤ vs.length) (ht : ∀ q v, vs[q]? = some v → i ≤ q → q < j → v.dst ≠ some t) : (S j).get t = (S i).get t := by
  induction j with
  | zero => have : i = 0 := by omega
            subst this; rfl
  | succ j ih =>
    rcases Nat.lt_or_ge i (j + 1) with h | h
    · have h1 := ih (by omega) (by omega) (fun q v hq h1 h2 => ht q v hq h1 (by omega))
      have hv : vs[j]? = some vs[j] := List.getElem?_eq_getElem (by omega)
      rw [(hst j _ hv).get t (ht j _ hv (by omega) (by omega)), h1]
    · have : i = j + 1 := by omega
      subst this; rfl

/-- What an operation that is ready reads, is what it read in the text's order. -/
theorem DInv.operand {ips : List (Nat × Nat)} (hd : DOk ops.toList vs wc pre ips) (hst : ∀ i v, vs[i]? = some v → Step1 P fl (wc.getD i false) v (S i) (S (i + 1))) {L : Nat → Prop} {a : Act} {w : World} {E : Env} (h : DInv ops vs wc pre nt w0 E0 S L a w E)
    {i : Nat} {v : VOper} (hv : vs[i]? = some v) (hi : ¬ L i) (hpre : ∀ j ∈ pre.getD i [], L j) {t : Nat} (ht : t ∈ v.reads) : Rep w E ((S i).get t) (a.tmps.getD t undef) := by
  have hil := getElem?_lt hv
  by_cases hw : ∃ (j : Nat) (u : VOper), vs[j]? = some u ∧ u.dst = some t
  · obtain ⟨j, u, hu, hut⟩ := hw
    have huniq : ∀ (q : Nat) (x : VOper), vs[q]? = some x → x.dst = some t → q = j := fun q x hq hx => hd.dst q j x u t hq hu hx hut
    rcases hd.reads i j v u t hv hu ht hut with rfl | hj | hj
    · -- it writes what it reads
      have h1 := h.rest t (fun q x hL hq hx => hi (huniq q x hq hx ▸ hL))
      rw [same_get hst (i := 0) (j := i) (Nat.zero_le _) (by omega) (fun q x hq _ hlt hx => by have := huniq q x hq hx; omega)]
      exact h1
    · have hL := hpre j hj
      have hji : j < i := by
        have ho : ops.toList[i]? = some (ops.toList[i]'(by rw [← hd.lenv]; exact hil)) := List.getElem?_eq_getElem _
        exact (hd.clo i _ ho j hj).1
      have h1 := h.done j u t hL hu hut
      rw [same_get hst (i := j + 1) (j := i) (by omega) (by omega) (fun q x hq h1 h2 hx => by have := huniq q x hq hx; omega)]
      exact h1
    · have hnL : ¬ L j := fun hL => hi ((h.closed j hL).2 i hj)
      have hij : i < j := by
        have hjl := getElem?_lt hu
        have ho : ops.toList[j]? = some (ops.toList[j]'(by rw [← hd.lenv]; exact hjl)) := List.getElem?_eq_getElem _
        exact (hd.clo j _ ho i hj).1
      have h1 := h.rest t (fun q x hL hq hx => hnL (huniq q x hq hx ▸ hL))
      rw [same_get hst (i := 0) (j := i) (Nat.zero_le _) (by omega) (fun q x hq _ hlt hx => by have := huniq q x hq hx; omega)]
      exact h1
  · have hno : ∀ (q : Nat) (x : VOper), vs[q]? = some x → x.dst ≠ some t := fun q x hq hx => hw ⟨q, x, hq, hx⟩
    have h1 := h.rest t (fun q x _ hq => hno q x hq)
    rw [same_get hst (i := 0) (j := i) (Nat.zero_le _) (by omega) (fun q x hq _ _ => hno q x hq)]
    exact h1

/-- A slot is written: what was known of the others stays. -/
theorem DInv.tmps {ips : List (Nat × Nat)} (hd : DOk ops.toList vs wc pre ips) {L : Nat → Prop} {a : Act} {w w' : World} {E E' : Env} (h : DInv ops vs wc pre nt w0 E0 S L a w E) {i : Nat} {v : VOper} (hv : vs[i]? = some v) (hx : Ext w E w' E') (hnt : ∀ t, v.dst = some t → t < nt) {val : Value} (hr : ∀ t, v.dst = some t → Rep w' E' ((S (i + 1)).get t) val) :
    (∀ j u t, (L j ∨ j = i) → vs[j]? = some u → u.dst = some t → Rep w' E' ((S (j + 1)).get t) ((a.put v.dst val).tmps.getD t undef)) ∧
    (∀ t, (∀ j u, (L j ∨ j = i) → vs[j]? = some u → u.dst ≠ some t) → Rep w' E' ((S 0).get t) ((a.put v.dst val).tmps.getD t undef)) := by
  constructor
  · intro j u t hL hu hut
    rw [tmps_put]
    by_cases hji : j = i
    · subst hji
      rw [hv] at hu
      simp only [Option.some.injEq] at hu
      subst hu
      rw [hut]
      simp only [true_and]
      rw [if_pos (by rw [h.size]; exact hnt t hut)]
      exact hr t hut
    · have hLj := hL.resolve_right hji
      have hold := Rep.ext hx _ _ (h.done j u t hLj hu hut)
      cases hvd : v.dst with
      | none => exact hold
      | some d =>
        simp only
        rw [if_neg]
        · exact hold
        · rintro ⟨rfl, _⟩
          exact hji (hd.dst j i u v _ hu hv hut hvd)
  · intro t ht
    rw [tmps_put]
    have hold := Rep.ext hx _ _ (h.rest t (fun j u hL hu => ht j u (.inl hL) hu))
    cases hvd : v.dst with
    | none => exact hold
    | some d =>
      simp only
      rw [if_neg]
      · exact hold
      · rintro ⟨rfl, _⟩
        exact ht i v (.inr rfl) hv hvd

/-- Who writes, and who else looks there: in order, or apart. -/
structure Conf (fl : Bool) (vs : List VOper) (wc : List Bool) (pre : List (List Nat)) (S : Nat → St) : Prop where
  call : ∀ i j v u, vs[i]? = some v → vs[j]? = some u → isWC fl (wc.getD i false) v = true → u.op.isP = false → i ≠ j → j ∈ pre.getD i [] ∨ i ∈ pre.getD j []
  open' : ∀ i j v u k, vs[i]? = some v → vs[j]? = some u → i ≠ j → chg S i k → u.op.isP = false → (j ∈ pre.getD i [] ∨ i ∈ pre.getD j []) ∨
    (isWC fl (wc.getD j false) u = false ∧ ¬ chg S j k ∧ k ∉ namesL (u.op.tx.map (S j).x) ∧ ¬ ((S j).ob.length ≤ k ∧ k < (S (j + 1)).ob.length))

theorem slots_same (hst : ∀ i v, vs[i]? = some v → Step1 P fl (wc.getD i false) v (S i) (S (i + 1))) {i j : Nat} (hij : i ≤ j) (hj : j ≤ vs.length) (xs : List X) (h : ∀ (q : Nat) x t, vs[q]? = some x → x.dst = some t → t ∈ slotsX xs → q < i) : xs.map (S j).x = xs.map (S i).x := by
  apply List.map_congr_left
  intro X hX
  cases X with
  | c v => rfl
  | t n =>
    refine same_get hst hij hj ?_
    intro q v hq h1 h2 hd
    have : n ∈ slotsX xs := by
      simp only [slotsX, List.mem_filterMap]
      exact ⟨.t n, hX, rfl⟩
    have := h q v n hq hd this
    omega

theorem wx_tx {o : VO} (h : o.isP = false) : ∀ x ∈ o.wx, x ∈ o.tx := by
  intro x hx
  unfold VO.tx
  rw [h]
  cases o <;> simp [VO.wx] at hx <;> simp [VO.xs, hx]

theorem names_sub {s : St} {xs ys : List X} (h : ∀ x ∈ xs, x ∈ ys) {k : Nat} (hk : k ∈ namesL (xs.map s.x)) : k ∈ namesL (ys.map s.x) := by
  have key : ∀ (zs : List X) (k : Nat), k ∈ namesL (zs.map s.x) ↔ ∃ z ∈ zs, k ∈ (s.x z).names := by
    intro zs
    induction zs with
    | nil => intro k; simp [namesL]
    | cons z zs ih => intro k; simp [namesL, ih]
  rw [key] at hk ⊢
  obtain ⟨z, h1, h2⟩ := hk
  exact ⟨z, h z h1, h2⟩

theorem conf_of {ips : List (Nat × Nat)} (hd : DOk ops.toList vs wc pre ips) (hst : ∀ i v, vs[i]? = some v → Step1 P fl (wc.getD i false) v (S i) (S (i + 1))) (hfl : fl = true → ips = []) (hc : chkS (mkSp vs ips) (S vs.length) = true) : Conf fl vs wc pre S where
  call := by
    intro i j v u hv hu hw hp hne
    simp only [isWC, Bool.and_eq_true] at hw
    have hW : v.op.isW (wc.getD i false) = true := by
      cases hop : v.op <;> rw [hop] at hw <;> simp [VO.isC] at hw
      simp [VO.isW, hw]
    rcases hd.writes i j v u hv hu hW hp with h | h | h
    · exact absurd h hne
    · exact h
    · have := h.1
      rw [hfl hw.2] at this
      cases this
  open' := by
    intro i j v u k hv hu hne hch hp
    have hi := hst i v hv
    have hW : v.op.isW (wc.getD i false) = true := by
      cases hw : v.op.isW (wc.getD i false) with
      | true => rfl
      | false => exact absurd (hi.ob hw hch.1) hch.2
    rcases hd.writes i j v u hv hu hW hp with h | h | ⟨h1, h4, h5⟩
    · exact absurd h hne
    · exact .inl h
    right
    have hf0 : fl = false := by
      cases hfl' : fl with
      | false => rfl
      | true => rw [hfl hfl'] at h1; cases h1
    have hwc1 : isWC fl (wc.getD i false) v = false := by simp [isWC, hf0]
    have hwc2 : isWC fl (wc.getD j false) u = false := by simp [isWC, hf0]
    obtain ⟨_, hkw⟩ := hi.wnames hwc1 hch.1 hch.2
    have hil := getElem?_lt hv
    have hjl := getElem?_lt hu
    have e1 := slots_same hst (Nat.le_of_lt hil) (Nat.le_refl _) v.op.wx (fun q x t hq hx ht => (h5 q x t hq hx).1 ht)
    have e2 := slots_same hst (Nat.le_of_lt hjl) (Nat.le_refl _) u.op.tx (fun q x t hq hx ht => (h5 q x t hq hx).2 ht)
    have e3 : (dstX u).map (S vs.length).x = (dstX u).map (S (j + 1)).x := by
      unfold dstX
      cases hud : u.dst with
      | none => rfl
      | some t =>
        simp only [List.map_cons, List.map_nil, St.x]
        rw [same_get hst (i := j + 1) (j := vs.length) hjl (Nat.le_refl _) (fun q x hq h1 h2 hx => by have := hd.dst q j x u t hq hu hx hud; omega)]
    have hdis : k ∉ namesL ((u.op.tx ++ dstX u).map (S vs.length).x) := by
      have hm : (v.op.wx, u.op.tx ++ dstX u) ∈ mkSp vs ips := by
        simp only [mkSp, List.mem_filterMap]
        exact ⟨(i, j), h1, by simp only [hv, hu]⟩
      have hq := List.all_eq_true.1 hc _ hm
      simp only [List.all_eq_true, Bool.not_eq_true', List.contains_eq_mem, decide_eq_false_iff_not] at hq
      exact hq k (by rw [e1]; exact hkw)
    rw [List.map_append, namesL_app, List.mem_append, e2, e3] at hdis
    have ht : k ∉ namesL (u.op.tx.map (S j).x) := fun h => hdis (.inl h)
    refine ⟨hwc2, ?_, ht, ?_⟩
    · intro hch2
      have := (hst j u hu).wnames hwc2 hch2.1 hch2.2
      exact ht (names_sub (wx_tx hp) this.2)
    · rintro ⟨q1, q2⟩
      exact hdis (.inr ((hst j u hu).nnames hwc2 h4 q1 q2))
end
end Go.Proofs.VL

namespace Go.Proofs.VL
open Go Go.RowKit
set_option linter.unusedSimpArgs false
set_option linter.unusedVariables false

section
variable {fl : Bool} {P : Program} {ops : Array Oper} {vs : List VOper} {wc : List Bool} {pre : List (List Nat)} {ips : List (Nat × Nat)} {nt : Nat} {w0 : World} {E0 : Env} {S : Nat → St}

theorem pre_lt (hd : DOk ops.toList vs wc pre ips) {i j : Nat} {v : VOper} (hv : vs[i]? = some v) (h : j ∈ pre.getD i []) : j < i := by
  have hil := getElem?_lt hv
  have ho : ops.toList[i]? = some (ops.toList[i]'(by rw [← hd.lenv]; exact hil)) := List.getElem?_eq_getElem _
  exact (hd.clo i _ ho j h).1

theorem isW_notP {wc : Bool} {o : VO} (h : o.isW wc = true) : o.isP = false := by
  cases o <;> first | rfl | (simp [VO.isW] at h)

/-- The names in use, after all that stands before. -/
theorem dom_tel (hst : ∀ i v, vs[i]? = some v → Step1 P fl (wc.getD i false) v (S i) (S (i + 1))) {L : Nat → Prop} {a : Act} {w : World} {E : Env} (h : DInv ops vs wc pre nt w0 E0 S L a w E) {m : Nat} (hm : m ≤ vs.length)
    (h1 : ∀ j v, vs[j]? = some v → j < m → v.op.isP = false → L j) (h2 : ∀ j v, vs[j]? = some v → L j → m ≤ j → v.op.isP = true) (k : Nat) : E.dom k ↔ k < (S m).ob.length := by
  rw [h.dom]
  constructor
  · rintro (hk | ⟨j, hL, hk1, hk2⟩)
    · exact Nat.lt_of_lt_of_le hk (lens hst (Nat.zero_le _) hm)
    · have hjl := (h.closed j hL).1
      have hv : vs[j]? = some vs[j] := List.getElem?_eq_getElem hjl
      rcases Nat.lt_or_ge j m with hjm | hjm
      · exact Nat.lt_of_lt_of_le hk2 (lens hst hjm hm)
      · have := (hst j _ hv).obP (h2 j _ hv hL hjm)
        rw [this] at hk2
        omega
  · intro hk
    have key : ∀ n, n ≤ m → k < (S n).ob.length → k < (S 0).ob.length ∨ ∃ j, j < n ∧ (S j).ob.length ≤ k ∧ k < (S (j + 1)).ob.length := by
      intro n
      induction n with
      | zero => intro _ h; exact .inl h
      | succ n ih =>
        intro hn hlt
        rcases Nat.lt_or_ge k (S n).ob.length with h' | h'
        · rcases ih (by omega) h' with h3 | ⟨j, q1, q2⟩
          · exact .inl h3
          · exact .inr ⟨j, by omega, q2⟩
        · exact .inr ⟨n, by omega, h', hlt⟩
    rcases key m (Nat.le_refl _) hk with h3 | ⟨j, q1, q2, q3⟩
    · exact .inl h3
    · refine .inr ⟨j, ?_, q2, q3⟩
      have hv : vs[j]? = some vs[j] := List.getElem?_eq_getElem (by omega)
      refine h1 j _ hv q1 ?_
      cases hp : vs[j].op.isP with
      | false => rfl
      | true =>
        have := (hst j _ hv).obP hp
        rw [this] at q3
        omega

theorem dom_at (hd : DOk ops.toList vs wc pre ips) (hcf : Conf fl vs wc pre S) (hst : ∀ i v, vs[i]? = some v → Step1 P fl (wc.getD i false) v (S i) (S (i + 1))) {L : Nat → Prop} {a : Act} {w : World} {E : Env} (h : DInv ops vs wc pre nt w0 E0 S L a w E) {i : Nat} {v : VOper} (hv : vs[i]? = some v)
    (hw : isWC fl (wc.getD i false) v = true) (hi : ¬ L i) (hpre : ∀ j ∈ pre.getD i [], L j) (k : Nat) : E.dom k ↔ k < (S i).ob.length := by
  refine dom_tel hst h (Nat.le_of_lt (getElem?_lt hv)) ?_ ?_ k
  · intro j u hu hji hp
    rcases hcf.call i j v u hv hu hw hp (by omega) with q | q
    · exact hpre j q
    · have := pre_lt hd hu q; omega
  · intro j u hu hL hij
    cases hp : u.op.isP with
    | true => rfl
    | false =>
      by_cases he : i = j
      · subst he; exact absurd hL hi
      · rcases hcf.call i j v u hv hu hw hp he with q | q
        · have := pre_lt hd hv q; omega
        · exact absurd ((h.closed j hL).2 i q) hi

theorem step_closed {L : Nat → Prop} (hcl : ∀ i, L i → i < vs.length ∧ ∀ j ∈ pre.getD i [], L j) {i : Nat} {v : VOper} (hv : vs[i]? = some v) (hpre : ∀ j ∈ pre.getD i [], L j) : ∀ q, (L q ∨ q = i) → q < vs.length ∧ ∀ j ∈ pre.getD q [], (L j ∨ j = i) := by
  rintro q (hq | rfl)
  · exact ⟨(hcl q hq).1, fun j hj => .inl ((hcl q hq).2 j hj)⟩
  · exact ⟨getElem?_lt hv, fun j hj => .inl (hpre j hj)⟩

/-- Of an object that this step looks at, what stands before has run, and nothing else. -/
theorem cond_at (hd : DOk ops.toList vs wc pre ips) {L : Nat → Prop} (hcl : ∀ i, L i → i < vs.length ∧ ∀ j ∈ pre.getD i [], L j) {i k : Nat} {v : VOper} (hv : vs[i]? = some v) (hi : ¬ L i) (hpre : ∀ j ∈ pre.getD i [], L j)
    (ho : ∀ j, j < vs.length → j ≠ i → chg S j k → j ∈ pre.getD i [] ∨ i ∈ pre.getD j []) : ∀ j, j < vs.length → chg S j k → (j < i ↔ L j) := by
  intro j hj hch
  by_cases he : j = i
  · subst he
    exact ⟨fun h => absurd h (Nat.lt_irrefl _), fun h => absurd h hi⟩
  · rcases ho j hj he hch with q | q
    · exact ⟨fun _ => hpre j q, fun _ => pre_lt hd hv q⟩
    · have := pre_lt hd (v := vs[j]) (List.getElem?_eq_getElem hj) q
      exact ⟨fun h => by omega, fun h => absurd ((hcl j h).2 i q) hi⟩

/-- An operation is done. T: what it looks at. -/
theorem DInv.step (hd : DOk ops.toList vs wc pre ips) (hcf : Conf fl vs wc pre S) (hst : ∀ i v, vs[i]? = some v → Step1 P fl (wc.getD i false) v (S i) (S (i + 1))) {L : Nat → Prop} {a : Act} {w w' : World} {E E' : Env} (h : DInv ops vs wc pre nt w0 E0 S L a w E)
    {i : Nat} {v : VOper} (hv : vs[i]? = some v) (hi : ¬ L i) (hpre : ∀ j ∈ pre.getD i [], L j) (hnt : ∀ t, v.dst = some t → t < nt) {val : Value} (T : Nat → Prop)
    (hT : ∀ k j, j < vs.length → j ≠ i → T k → chg S j k → j ∈ pre.getD i [] ∨ i ∈ pre.getD j []) (hTc : ∀ k, chg S i k → T k) (hpp : v.op.isP = true → (S (i + 1)).ob = (S i).ob)
    (hx : Ext w E w' E') (hdom : ∀ k, E'.dom k ↔ E.dom k ∨ ((S i).ob.length ≤ k ∧ k < (S (i + 1)).ob.length)) (hr : ∀ t, v.dst = some t → Rep w' E' ((S (i + 1)).get t) val)
    (hobT : ∀ k o, E'.dom k → (T k ∨ (S i).ob.length ≤ k) → k < (S (i + 1)).ob.length → (S (i + 1)).ob[k]? = some (some o) → ObjRep w' E' k o)
    (hobN : ∀ k o, E.dom k → ¬ (T k ∧ k < (S i).ob.length) → ObjRep w E k o → ObjRep w' E' k o)
    (hf : ∀ b, w'.heap.size ≤ b → E'.lab b = .imm) : DInv ops vs wc pre nt w0 E0 S (fun q => L q ∨ q = i) (a.put v.dst val) w' E' := by
  obtain ⟨t1, t2⟩ := h.tmps hd hv hx hnt hr
  have hil := getElem?_lt hv
  have hlenS := lens hst (i := i) (j := i + 1) (by omega) hil
  refine ⟨step_closed h.closed hv hpre, by rw [defers_put]; exact h.defers, by rw [size_put]; exact h.size, t1, t2, ?_, ?_, hf, h.ext.trans hx, h.base⟩
  · intro k
    rw [hdom, h.dom]
    constructor
    · rintro ((h1 | ⟨j, hL, h1⟩) | ⟨h1, h2⟩)
      · exact .inl h1
      · exact .inr ⟨j, .inl hL, h1⟩
      · exact .inr ⟨i, .inr rfl, h1, h2⟩
    · rintro (h1 | ⟨j, hL | rfl, h1, h2⟩)
      · exact .inl (.inl h1)
      · exact .inl (.inr ⟨j, hL, h1, h2⟩)
      · exact .inr ⟨h1, h2⟩
  · intro m hm k o hc hk hkm hko
    -- the object is new, or was turned: then what follows has not run
    have later : (chg S i k ∨ ((S i).ob.length ≤ k ∧ k < (S (i + 1)).ob.length)) → i < m → (S m).ob[k]? = (S (i + 1)).ob[k]? := by
      intro hwh him
      have hk1 : k < (S (i + 1)).ob.length := by
        rcases hwh with q | q
        · exact Nat.lt_of_lt_of_le q.1 hlenS
        · exact q.2
      refine same_ob hst (i := i + 1) (j := m) him hm ?_ hk1
      intro q hq1 hq2 hch
      have hql : q < vs.length := by omega
      have hu : vs[q]? = some vs[q] := List.getElem?_eq_getElem hql
      have hLq : L q := ((hc q hql hch).1 hq2).resolve_right (by omega)
      have hnp : v.op.isP = false := by
        cases hp : v.op.isP with
        | false => rfl
        | true =>
          exfalso
          have := hpp hp
          rcases hwh with q' | q'
          · exact q'.2 (by rw [this])
          · rw [this] at q'; omega
      have hord : i ∈ pre.getD q [] ∨ q ∈ pre.getD i [] := by
        rcases hcf.open' q i _ v k hu hv (by omega) hch hnp with h1 | ⟨_, h2, _, h4⟩
        · exact h1
        · exfalso
          rcases hwh with q' | q'
          · exact h2 q'
          · exact h4 q'
      rcases hord with h1 | h1
      · exact hi ((h.closed q hLq).2 i h1)
      · have := pre_lt hd hv h1; omega
    by_cases hch : chg S i k
    · have him : i < m := (hc i hil hch).2 (.inr rfl)
      rw [later (.inl hch) him] at hko
      exact hobT k o hk (.inl (hTc k hch)) (Nat.lt_of_lt_of_le hch.1 hlenS) hko
    · by_cases hnew : (S i).ob.length ≤ k ∧ k < (S (i + 1)).ob.length
      · have him : i < m := by
          rcases Nat.lt_or_ge i m with q | q
          · exact q
          · have := lens hst q (Nat.le_of_lt hil); omega
        rw [later (.inr hnew) him] at hko
        exact hobT k o hk (.inr hnew.1) hnew.2 hko
      · have hkd : E.dom k := ((hdom k).1 hk).resolve_right hnew
        have hc' : ∀ j, j < vs.length → chg S j k → (j < m ↔ L j) := by
          intro j hj hcj
          rw [hc j hj hcj]
          constructor
          · rintro (q | rfl)
            · exact q
            · exact absurd hcj hch
          · exact .inl
        have hold := h.objs m hm k o hc' hkd hkm hko
        by_cases hTk : T k ∧ k < (S i).ob.length
        · -- the same object as at this step
          have hsame : (S m).ob[k]? = (S i).ob[k]? := by
            rcases Nat.lt_or_ge i m with him | him
            · refine same_ob hst (Nat.le_of_lt him) hm ?_ hTk.2
              intro q hq1 hq2 hcq
              have hql : q < vs.length := by omega
              by_cases he : q = i
              · subst he; exact hch hcq
              · have hLq := (hc' q hql hcq).1 hq2
                rcases hT k q hql he hTk.1 hcq with h1 | h1
                · have := pre_lt hd hv h1; omega
                · exact hi ((h.closed q hLq).2 i h1)
            · refine (same_ob hst him (Nat.le_of_lt hil) ?_ hkm).symm
              intro q hq1 hq2 hcq
              have hql : q < vs.length := by omega
              rcases hT k q hql (by omega) hTk.1 hcq with h1 | h1
              · have := (hc' q hql hcq).2 (hpre q h1); omega
              · have := pre_lt hd (v := vs[q]) (List.getElem?_eq_getElem hql) h1; omega
          have hsame2 : (S (i + 1)).ob[k]? = (S i).ob[k]? := Classical.byContradiction fun hne => hch ⟨hTk.2, hne⟩
          rw [hsame, ← hsame2] at hko
          exact hobT k o hk (.inl hTk.1) (by omega) hko
        · exact hobN k o hkd hTk hold
end
end Go.Proofs.VL

namespace Go.Proofs.VL
open Go Go.RowKit
set_option linter.unusedSimpArgs false
set_option linter.unusedVariables false

theorem cOpers_get {fo : List Nat} {P : Program} {nt : Nat} {ops : List Oper} : ∀ {os : List Oper} {vs : List VOper}, cOpers fo P nt ops os = some vs → vs.length = os.length ∧ ∀ (i : Nat) o v, os[i]? = some o → vs[i]? = some v → cOper fo P nt ops o = some v
  | [], vs, h => by simp only [cOpers, Option.some.injEq] at h; subst h; exact ⟨rfl, fun i o v h => by simp at h⟩
  | o :: os, vs, h => by
    simp only [cOpers] at h
    split at h <;> simp only [reduceCtorEq, Option.some.injEq] at h
    rename_i v vs' h1 h2
    subst h
    obtain ⟨q1, q2⟩ := cOpers_get h2
    refine ⟨by simp [q1], fun i o' v' ho hv => ?_⟩
    cases i with
    | zero => simp at ho hv; subst ho; subst hv; exact h1
    | succ i => exact q2 i o' v' (by simpa using ho) (by simpa using hv)

theorem ready_iff {ops : Array Oper} {listed : Array Bool} {i : Nat} : i ∈ Region.ready .any ops listed ↔ i < ops.size ∧ listed.getD i true = false ∧ ∃ o, ops.toList[i]? = some o ∧ ∀ e ∈ Oper.dirs o, listed.getD e false = true := by
  unfold Region.ready
  simp only [List.mem_filter, List.mem_range, Bool.and_eq_true, Bool.not_eq_true', Array.getElem?_toList]
  constructor
  · rintro ⟨h1, h2, h3⟩
    refine ⟨h1, h2, ?_⟩
    rw [Array.getElem?_eq_getElem h1] at h3 ⊢
    refine ⟨_, rfl, ?_⟩
    intro e he
    simp only [Oper.dirs, List.mem_map, List.mem_filter, Array.mem_toList_iff] at he
    obtain ⟨d, ⟨hd1, hd2⟩, rfl⟩ := he
    simp only [Option.map_some, Option.getD_some, Array.all_eq_true_iff_forall_mem, Bool.or_eq_true, Bool.not_eq_true'] at h3
    rcases h3 d hd1 with h | h
    · rw [hd2] at h; cases h
    · exact h
  · rintro ⟨h1, h2, o, ho, h3⟩
    refine ⟨h1, h2, ?_⟩
    rw [ho]
    simp only [Option.map_some, Option.getD_some, Array.all_eq_true_iff_forall_mem, Bool.or_eq_true, Bool.not_eq_true']
    intro e he
    cases hb : Region.binds .any e with
    | false => exact .inl rfl
    | true =>
      right
      refine h3 _ ?_
      simp only [Oper.dirs, List.mem_map, List.mem_filter, Array.mem_toList_iff]
      exact ⟨e, ⟨he, hb⟩, rfl⟩

/-- What an operation looks at, and no more. -/
noncomputable def maskX (xs : List X) (x : X → V) (y : X) : V := by
  classical exact if y ∈ xs then x y else .junk

theorem maskX_mem {xs : List X} {x : X → V} {y : X} (h : y ∈ xs) : maskX xs x y = x y := by simp [maskX, h]

theorem ObjRep.moveI {w w' : World} {E E' : Env} {k : Nat} {o : VObj} (hx : IExt w E w' E') (hk : E.dom k) (hb : (E.lab (E.blk k) = .obj k ∨ E.lab (E.blk k) = .imm) → E.blk k < w.heap.size → w'.heap[E.blk k]? = w.heap[E.blk k]? ∧ E'.lab (E.blk k) = E.lab (E.blk k)) (h : ObjRep w E k o) : ObjRep w' E' k o := by
  cases o with
  | box cs =>
    simp only [ObjRep] at h ⊢
    obtain ⟨h1, c, e, h2, h3⟩ := h
    obtain ⟨g1, g2⟩ := hb (.inl h1) (block_lt h2)
    rw [hx.blk k hk]
    exact ⟨by rw [g2]; exact h1, c, e, by rw [g1]; exact h2, RepL.iext hx _ _ h3⟩
  | arr e sz rows =>
    simp only [ObjRep] at h ⊢
    obtain ⟨h1, h2, h3, vs, h4, h5, h6⟩ := h
    rw [hx.blk k hk, hx.cap k hk, hx.nil k hk, aval_iext hx hk]
    refine ⟨h1, h2, ?_, vs, ?_, RepFlat.iext hx.pure _ _ _ h5, h6⟩
    · intro hn
      have hlt : E.blk k < w.heap.size := by
        rcases h4.2 with ⟨h, _⟩ | ⟨g, cap, cur, h, _, hh, _⟩
        · simp [aval, hn] at h
        · simp [aval, hn] at h; rw [h.1]; exact block_lt hh
      rw [(hb (.inl (h3 hn)) hlt).2]; exact h3 hn
    · refine ownsRow_block ?_ h4
      intro b hbv
      have hn : E.nil k = false := by
        cases hn : E.nil k with
        | false => rfl
        | true => simp [aval, hn, Value.ownBlock] at hbv
      have hbe : E.blk k = b := by simpa [aval, hn, Value.ownBlock] using hbv
      have hlt : E.blk k < w.heap.size := by
        rcases h4.2 with ⟨h, _⟩ | ⟨g, cap, cur, h, _, hh, _⟩
        · simp [aval, hn] at h
        · simp [aval, hn] at h; rw [h.1]; exact block_lt hh
      rw [← hbe]; exact (hb (.inl (h3 hn)) hlt).1
  | fro sz rows =>
    simp only [ObjRep] at h ⊢
    obtain ⟨h1, h2, vs, h3, h8, h4⟩ := h
    rw [hx.blk k hk, hx.cap k hk, hx.nil k hk]
    refine ⟨h1, h2, vs, RepFlat.iext hx.pure _ _ _ h3, h8, ?_⟩
    rcases h4 with h4 | ⟨h4, h5, h6, h7⟩
    · exact .inl h4
    · obtain ⟨g1, g2⟩ := hb (.inr h5) h6
      exact .inr ⟨h4, by rw [g2]; exact h5, Nat.lt_of_lt_of_le h6 hx.size, h7.of_block g1⟩

/-! only some of the objects are seen -/
def mskO (T : List Nat) (ob : List (Option VObj)) : List (Option VObj) := ob.zipIdx.map fun p => if T.contains p.2 then p.1 else none

theorem msk_length (T : List Nat) (ob : List (Option VObj)) : (mskO T ob).length = ob.length := by simp [mskO]
theorem msk_get {T : List Nat} {ob : List (Option VObj)} {k : Nat} (h : k ∈ T) : (mskO T ob)[k]? = ob[k]? := by
  simp only [mskO, List.getElem?_map, List.getElem?_zipIdx, Nat.zero_add]
  cases ob[k]? with
  | none => rfl
  | some o => simp [h]
theorem msk_some {T : List Nat} {ob : List (Option VObj)} {k : Nat} {o : VObj} (h : (mskO T ob)[k]? = some (some o)) : k ∈ T ∧ ob[k]? = some (some o) := by
  by_cases hk : k ∈ T
  · exact ⟨hk, by rw [← msk_get hk]; exact h⟩
  · simp only [mskO, List.getElem?_map, List.getElem?_zipIdx, Nat.zero_add, Option.map_eq_some_iff] at h
    obtain ⟨p, h1, h2⟩ := h
    obtain ⟨q, h3, h4⟩ := h1
    subst h4
    simp [hk] at h2
theorem msk_set {T : List Nat} {ob : List (Option VObj)} {k : Nat} (h : k ∈ T) (o : Option VObj) : (mskO T ob).set k o = mskO T (ob.set k o) := by
  apply List.ext_getElem?
  intro i
  by_cases hi : k = i
  · subst hi
    rw [msk_get h, List.getElem?_set, List.getElem?_set, msk_length, if_pos rfl, if_pos rfl]
  · rw [List.getElem?_set_ne hi]
    simp only [mskO, List.getElem?_map, List.getElem?_zipIdx, Nat.zero_add, List.getElem?_set_ne hi]

theorem msk_rows {T : List Nat} {ob : List (Option VObj)} {k : Nat} (h : k ∈ T) : objRows (mskO T ob) k = objRows ob k := by
  unfold objRows; rw [msk_get h]

theorem msk_load {T : List Nat} {ob : List (Option VObj)} {x : V} (h : ∀ k ∈ x.names, k ∈ T) : loadFrom (mskO T ob) x = loadFrom ob x := by
  cases x <;> simp only [loadFrom]
  case ptr k off => rw [msk_get (h k (by simp [V.names]))]
  case eptr k i s off => rw [msk_rows (h k (by simp [V.names]))]

theorem mem_names {xs : List X} {ρ : X → V} {x : X} (hx : x ∈ xs) {k : Nat} (hk : k ∈ (ρ x).names) : k ∈ namesL (xs.map ρ) := by
  induction xs with
  | nil => cases hx
  | cons y ys ih =>
    simp only [List.map_cons, namesL, List.mem_append]
    rcases List.mem_cons.1 hx with rfl | h
    · exact .inl hk
    · exact .inr (ih h)

theorem evR_mask {o : VO} {ρ : X → V} {ob : List (Option VObj)} {T : List Nat} (hT : ∀ k ∈ namesL (o.xs.map ρ), k ∈ T) : o.evR ρ (mskO T ob) = o.evR ρ ob := by
  cases hR : o.isR with
  | false => rw [evR_P hR, evR_P hR]
  | true =>
    cases o <;> simp [VO.isR] at hR <;> simp only [VO.evR, msk_length]
    case load agg sz a => rw [msk_load (fun k hk => hT k (mem_names (by simp [VO.xs]) hk))]
    case b2s x =>
      have : ∀ k n, ρ x = .ref k n → objRows (mskO T ob) k = objRows ob k := fun k n he => msk_rows (hT k (mem_names (x := x) (by simp [VO.xs]) (by rw [he]; simp [V.names])))
      split <;> try rfl
      rename_i k n he
      rw [this k n he]

theorem app_mask {ob : List (Option VObj)} {T : List Nat} {x : V} {e sz : Nat} (h : ∀ k ∈ x.names, k ∈ T) : appRows (mskO T ob) e sz x = appRows ob e sz x := by
  cases x <;> simp only [appRows]
  case ref k n => rw [msk_get (h k (by simp [V.names]))]

theorem src_mask {ob : List (Option VObj)} {T : List Nat} {x : V} {sz : Nat} (h : ∀ k ∈ x.names, k ∈ T) : srcRows (mskO T ob) sz x = srcRows ob sz x := by
  cases x <;> simp only [srcRows]
  case ref k n => rw [msk_rows (h k (by simp [V.names]))]

theorem app_old {ob : List (Option VObj)} {x : V} {e sz k : Nat} {rows : List (List V)} (h : appRows ob e sz x = some (some k, rows)) : k ∈ x.names := by
  cases x <;> simp only [appRows, reduceCtorEq] at h
  case nils => simp at h
  case ref k' n =>
    split at h <;> try (cases h; done)
    split at h <;> try (cases h; done)
    simp only [Option.some.injEq, Prod.mk.injEq] at h
    simp [V.names, h.1]

theorem drop_mask {ob : List (Option VObj)} {T : List Nat} {old : Option Nat} (h : ∀ k, old = some k → k ∈ T) : dropOb (mskO T ob) old = mskO T (dropOb ob old) := by
  cases old with
  | none => rfl
  | some k => exact msk_set (h k rfl) none

theorem evW_mask {o : VO} {ρ : X → V} {ob ob' : List (Option VObj)} {r : V} {T : List Nat} (hT : ∀ k ∈ namesL (o.xs.map ρ), k ∈ T) (h : o.evW ρ ob = some (r, ob')) :
    ∃ obm, o.evW ρ (mskO T ob) = some (r, obm) ∧ obm.length = ob'.length ∧ ∀ k, (k ∈ T ∨ ob.length ≤ k) → obm[k]? = ob'[k]? := by
  cases o <;> simp only [VO.evW, reduceCtorEq] at h
  case store sz a x =>
    have ha : ∀ k ∈ (ρ a).names, k ∈ T := fun k hk => hT k (mem_names (by simp [VO.xs]) hk)
    have fin : ∀ (k : Nat) (o : Option VObj), k ∈ T → (mskO T (ob.set k o)).length = (ob.set k o).length ∧ ∀ j, (j ∈ T ∨ ob.length ≤ j) → (mskO T (ob.set k o))[j]? = (ob.set k o)[j]? := by
      intro k o hk
      refine ⟨msk_length _ _, ?_⟩
      rintro j (hj | hj)
      · exact msk_get hj
      · rw [List.getElem?_eq_none (by rw [msk_length]; simpa using hj), List.getElem?_eq_none (by simpa using hj)]
    simp only [VO.evW]
    split at h <;> try (cases h; done)
    rename_i hc
    rw [if_pos hc]
    split at h <;> try (cases h; done)
    · rename_i k off hx
      have hk : k ∈ T := ha k (by rw [hx]; simp [V.names])
      rw [msk_get hk]
      split at h <;> try (cases h; done)
      rename_i cs ho
      split at h <;> try (cases h; done)
      rename_i hfit
      simp only [Option.some.injEq, Prod.mk.injEq] at h
      obtain ⟨rfl, rfl⟩ := h
      refine ⟨_, by rw [if_pos hfit], ?_⟩
      rw [msk_set hk]
      exact fin k _ hk
    · rename_i k i s off hx
      have hk : k ∈ T := ha k (by rw [hx]; simp [V.names])
      rw [msk_get hk]
      split at h <;> try (cases h; done)
      rename_i e s2 rows ho
      split at h <;> try (cases h; done)
      rename_i hc2
      split at h <;> try (cases h; done)
      rename_i row hrow
      split at h <;> try (cases h; done)
      rename_i hfit
      simp only [Option.some.injEq, Prod.mk.injEq] at h
      obtain ⟨rfl, rfl⟩ := h
      refine ⟨_, by rw [if_pos hc2]; exact if_pos hfit, ?_⟩
      rw [msk_set hk]
      exact fin k _ hk
  case app e sz b x y =>
    simp only [VO.evW]
    have hx : ∀ k ∈ (ρ x).names, k ∈ T := fun k hk => hT k (mem_names (by simp [VO.xs]) hk)
    have hy : ∀ k ∈ (ρ y).names, k ∈ T := fun k hk => hT k (mem_names (by simp [VO.xs]) hk)
    rw [app_mask hx, src_mask hy]
    split at h <;> try (cases h; done)
    rename_i old rows rows2 hA hS
    split at h <;> try (cases h; done)
    rename_i hb
    simp only [Option.some.injEq, Prod.mk.injEq] at h
    obtain ⟨rfl, rfl⟩ := h
    have ho : ∀ k, old = some k → k ∈ T := fun k he => hx k (app_old (by rw [hA, he]))
    refine ⟨_, by rw [if_pos hb, msk_length], ?_, ?_⟩
    · rw [drop_mask ho]; simp [msk_length]
    · rintro k (hk | hk)
      · rw [drop_mask ho]
        rcases Nat.lt_or_ge k ob.length with hl | hl
        · rw [List.getElem?_append_left (by rw [msk_length, dropOb_length]; exact hl), List.getElem?_append_left (by rw [dropOb_length]; exact hl), msk_get hk]
        · rw [List.getElem?_append_right (by rw [msk_length, dropOb_length]; exact hl), List.getElem?_append_right (by rw [dropOb_length]; exact hl), msk_length]
      · rw [drop_mask ho]
        rw [List.getElem?_append_right (by rw [msk_length, dropOb_length]; exact hk), List.getElem?_append_right (by rw [dropOb_length]; exact hk), msk_length]
  case apps e x y =>
    simp only [VO.evW]
    have hx : ∀ k ∈ (ρ x).names, k ∈ T := fun k hk => hT k (mem_names (by simp [VO.xs]) hk)
    rw [app_mask hx]
    split at h <;> try (cases h; done)
    rename_i old rows l hA hS
    split at h <;> try (cases h; done)
    rename_i hb
    simp only [Option.some.injEq, Prod.mk.injEq] at h
    obtain ⟨rfl, rfl⟩ := h
    have ho : ∀ k, old = some k → k ∈ T := fun k he => hx k (app_old (by rw [hA, he]))
    refine ⟨_, by rw [if_pos hb, msk_length], ?_, ?_⟩
    · rw [drop_mask ho]; simp [msk_length]
    · rintro k (hk | hk)
      · rw [drop_mask ho]
        rcases Nat.lt_or_ge k ob.length with hl | hl
        · rw [List.getElem?_append_left (by rw [msk_length, dropOb_length]; exact hl), List.getElem?_append_left (by rw [dropOb_length]; exact hl), msk_get hk]
        · rw [List.getElem?_append_right (by rw [msk_length, dropOb_length]; exact hl), List.getElem?_append_right (by rw [dropOb_length]; exact hl), msk_length]
      · rw [drop_mask ho]
        rw [List.getElem?_append_right (by rw [msk_length, dropOb_length]; exact hk), List.getElem?_append_right (by rw [dropOb_length]; exact hk), msk_length]

mutual
theorem lendV_mask {ob : List (Option VObj)} {T : List Nat} : (x : V) → (∀ k ∈ x.names, k ∈ T) → lendV (mskO T ob) x = lendV ob x
  | .ref k n, h => by simp only [lendV]; rw [msk_rows (h k (by simp [V.names]))]
  | .agg cs, h => by simp only [lendV]; rw [lendL_mask cs (fun k hk => h k (by simpa [V.names] using hk))]
  | .tup cs, h => by simp only [lendV]; rw [lendL_mask cs (fun k hk => h k (by simpa [V.names] using hk))]
  | .fn f a b, h => by simp only [lendV]; rw [lendL_mask a (fun k hk => h k (by simp [V.names, hk])), lendL_mask b (fun k hk => h k (by simp [V.names, hk]))]
  | .ptr k off, h => by simp only [lendV]; rw [msk_get (h k (by simp [V.names]))]
  | .eptr _ _ _ _, _ | .mapr _, _ | .junk, _ | .bool _, _ | .int _ _, _ | .str _, _ | .nils, _ | .sl _ _, _ | .iptr _, _ | .nilp, _ | .nilm, _ | .nilf, _ | .nili, _ => by simp only [lendV]
theorem lendL_mask {ob : List (Option VObj)} {T : List Nat} : (xs : List V) → (∀ k ∈ namesL xs, k ∈ T) → lendL (mskO T ob) xs = lendL ob xs
  | [], _ => rfl
  | x :: xs, h => by
    simp only [lendL]
    rw [lendV_mask x (fun k hk => h k (by simp [namesL, hk])), lendL_mask xs (fun k hk => h k (by simp [namesL, hk]))]
end

mutual
theorem name_dom {w : World} {E : Env} : (x : V) → (v : Value) → Rep w E x v → ∀ k ∈ x.names, E.dom k
  | .ref k n, v, h, j, hj => by simp only [V.names, List.mem_singleton] at hj; subst hj; simp only [Rep] at h; exact h.1
  | .ptr k n, v, h, j, hj => by simp only [V.names, List.mem_singleton] at hj; subst hj; simp only [Rep] at h; exact h.1
  | .eptr k a b c, v, h, j, hj => by simp only [V.names, List.mem_singleton] at hj; subst hj; simp only [Rep] at h; exact h.1
  | .mapr k, v, h, j, hj => by simp only [V.names, List.mem_singleton] at hj; subst hj; simp only [Rep] at h; exact h.1
  | .agg cs, v, h, j, hj => by simp only [V.names] at hj; simp only [Rep] at h; obtain ⟨vs, rfl, h⟩ := h; exact names_dom h j hj
  | .tup cs, v, h, j, hj => by simp only [V.names] at hj; simp only [Rep] at h; obtain ⟨vs, rfl, h⟩ := h; exact names_dom h j hj
  | .fn f a b, v, h, j, hj => by
    simp only [V.names, List.mem_append] at hj; simp only [Rep] at h
    obtain ⟨p, q, rfl, h1, h2⟩ := h
    rcases hj with hj | hj
    · exact names_dom h1 j hj
    · exact names_dom h2 j hj
  | .bool _, _, _, j, hj | .int _ _, _, _, j, hj | .str _, _, _, j, hj | .nils, _, _, j, hj | .sl _ _, _, _, j, hj | .iptr _, _, _, j, hj | .nilp, _, _, j, hj | .nilm, _, _, j, hj | .nilf, _, _, j, hj | .nili, _, _, j, hj | .junk, _, _, j, hj => by simp [V.names] at hj
theorem names_dom {w : World} {E : Env} : {xs : List V} → {vs : List Value} → RepL w E xs vs → ∀ k ∈ namesL xs, E.dom k
  | [], vs, h, j, hj => by simp [namesL] at hj
  | x :: xs, vs, h, j, hj => by
    simp only [RepL] at h
    obtain ⟨v, vs', rfl, h1, h2⟩ := h
    simp only [namesL, List.mem_append] at hj
    rcases hj with hj | hj
    · exact name_dom x v h1 j hj
    · exact names_dom h2 j hj
end

/-! what is not looked at stays -/
open Classical in
noncomputable def Env.hide (E : Env) (F : Nat → Prop) : Env := { E with lab := fun b => match E.lab b with | .obj k => if F k then .obj k else .ext | l => l }

theorem hide_imm {E : Env} {F : Nat → Prop} {b : Nat} : (E.hide F).lab b = .imm ↔ E.lab b = .imm := by
  simp only [Env.hide]
  cases E.lab b <;> simp
  split <;> simp

theorem hide_ext (w : World) (E : Env) (F : Nat → Prop) : Ext w E w (E.hide F) := by
  refine ⟨rfl, rfl, rfl, Nat.le_refl _, fun b _ h => ⟨hide_imm.2 h, rfl⟩, fun b _ h => ⟨by simp [Env.hide, h], rfl⟩, fun _ h => h, fun _ _ => rfl, fun _ _ => rfl, fun _ _ => rfl⟩

theorem hide_obj {w : World} {E : Env} {F : Nat → Prop} {k : Nat} {o : VObj} (hd : E.dom k) (hk : F k) (h : ObjRep w E k o) : ObjRep w (E.hide F) k o := by
  refine h.move (hide_ext w E F) hd ?_
  rintro hl _
  refine ⟨rfl, ?_⟩
  rcases hl with hl | hl <;> simp [Env.hide, hl, hk]

open Classical in
theorem surg {w w' : World} {E E1 : Env} {ob ob' obm : List (Option VObj)} {r : V} {val : Value} {F : Nat → Prop} (h : WResG (E.hide F) w ob r obm val w' E1) (hlen : obm.length = ob'.length) (hnew : ∀ k, ob.length ≤ k → ¬ F k)
    (hobm : ∀ k, (F k ∨ ob.length ≤ k) → obm[k]? = ob'[k]?) :
    ∃ E', Ext w E w' E' ∧ (∀ k, E'.dom k ↔ E.dom k ∨ (ob.length ≤ k ∧ k < ob'.length)) ∧ Rep w' E' r val ∧ (∀ k o, E'.dom k → (F k ∨ ob.length ≤ k) → ob'[k]? = some (some o) → ObjRep w' E' k o) ∧
      (∀ k o, E.dom k → ¬ F k → ObjRep w E k o → ObjRep w' E' k o) ∧ (∀ b, w'.heap.size ≤ b → E'.lab b = .imm) := by
  let C : Nat → Prop := fun b => b < w.heap.size ∧ ∃ k, E.lab b = .obj k ∧ ¬ F k
  let E' : Env := { E1 with lab := fun b => if C b then E.lab b else E1.lab b }
  have hC : ∀ b, C b → E1.lab b = .ext ∧ w'.heap[b]? = w.heap[b]? := by
    rintro b ⟨hb, k, hk, hf⟩
    exact h.ext.ext b hb (by simp [Env.hide, hk, hf])
  have hlabN : ∀ b, ¬ C b → E'.lab b = E1.lab b := fun b hb => if_neg hb
  have hlabC : ∀ b, C b → E'.lab b = E.lab b := fun b hb => if_pos hb
  have hx : Ext w E w' E' := by
    refine ⟨h.ext.os, h.ext.tape, h.ext.output, h.ext.size, ?_, ?_, h.ext.dom, h.ext.blk, h.ext.cap, h.ext.nil⟩
    · intro b hb hl
      have hn : ¬ C b := by rintro ⟨_, k, hk, _⟩; rw [hl] at hk; cases hk
      rw [hlabN b hn]
      exact h.ext.imm b hb (hide_imm.2 hl)
    · intro b hb hl
      have hn : ¬ C b := by rintro ⟨_, k, hk, _⟩; rw [hl] at hk; cases hk
      rw [hlabN b hn]
      exact h.ext.ext b hb (by simp [Env.hide, hl])
  have hix : IExt w' E1 w' E' := by
    refine ⟨Nat.le_refl _, ?_, fun _ h => h, fun _ _ => rfl, fun _ _ => rfl, fun _ _ => rfl⟩
    intro b hb hl
    have hn : ¬ C b := by intro hc; rw [(hC b hc).1] at hl; cases hl
    rw [hlabN b hn]
    exact ⟨hl, rfl⟩
  refine ⟨E', hx, ?_, Rep.iext hix _ _ h.rep, ?_, ?_, ?_⟩
  · intro k
    have := h.dom k
    rw [hlen] at this
    exact this
  · intro k o hk hkF ho
    rw [← hobm k hkF] at ho
    refine (h.objs k o hk ho).moveI hix hk ?_
    intro hl _
    have hn : ¬ C (E1.blk k) := by intro hc; rw [(hC _ hc).1] at hl; rcases hl with hl | hl <;> cases hl
    exact ⟨rfl, hlabN _ hn⟩
  · intro k o hk hkF ho
    refine ho.move hx hk ?_
    intro hl hlt
    rcases hl with hl | hl
    · have hc : C (E.blk k) := ⟨hlt, k, hl, hkF⟩
      exact ⟨(hC _ hc).2, hlabC _ hc⟩
    · obtain ⟨q1, q2⟩ := h.ext.imm (E.blk k) hlt (hide_imm.2 hl)
      have hn : ¬ C (E.blk k) := by rintro ⟨_, k', hk', _⟩; rw [hl] at hk'; cases hk'
      exact ⟨q2, by rw [hlabN _ hn, q1, hl]⟩
  · intro b hb
    have hn : ¬ C b := by rintro ⟨hlt, _⟩; have := h.ext.size; omega
    rw [hlabN b hn]
    exact h.fresh b hb

section
variable {fl : Bool} {P : Program} {ops : Array Oper} {vs : List VOper} {wc : List Bool} {pre : List (List Nat)} {ips : List (Nat × Nat)} {nt : Nat} {w0 : World} {E0 : Env} {S : Nat → St}

theorem St.x_of (s : St) {w : World} {E : Env} {a : Act} {o : Operand} {x : X} (hx : cX o = some x) (h : ∀ t, x = .t t → Rep w E (s.get t) (a.tmps.getD t undef)) : Rep w E (s.x x) (a.eval o) := by
  cases o with
  | tmp t => simp only [cX, Option.some.injEq] at hx; subst hx; exact h t rfl
  | const v => simp only [cX, Option.some.injEq] at hx; subst hx; exact rep_const w E v
  | func f => simp only [cX, Option.some.injEq] at hx; subst hx; exact ⟨[], [], rfl, rfl, rfl⟩
  | global g => simp [cX] at hx

theorem call_shape {ow : Bool} {o : Oper} {f : X} {as : List X} (hc : cop ow P o = some (.call f as)) : ∃ dst fo args ats ty pos after guard, o = ⟨dst, .call ⟨.value fo, args, ats⟩, ty, pos, after, guard⟩ ∧ cX fo = some f ∧ cXs args.toList = some as := by
  obtain ⟨dst, op, ty, pos, after, guard⟩ := o
  unfold cop at hc
  cases op <;> simp only [reduceCtorEq] at hc
  case call c =>
    obtain ⟨callee, args, ats⟩ := c
    simp only at hc
    split at hc
    · rename_i fo xs hxs
      obtain ⟨F, hF, he⟩ := opt_bind hc
      simp only [VO.call.injEq] at he
      obtain ⟨rfl, rfl⟩ := he
      exact ⟨_, _, _, _, _, _, _, _, rfl, hF, hxs⟩
    · split at hc <;> simp at hc
    · simp at hc
    · simp at hc
    · repeat' split at hc
      all_goals simp at hc
    · cases hc
  case makeFunc f' first' caps' =>
    cases f' <;> try (cases hc; done)
    simp only at hc
    split at hc <;> simp at hc
  all_goals
    exfalso
    revert hc
    (try simp only [copBin, copConv])
    repeat' split
    all_goals (intro hc; simp at hc)

theorem dstep {fo : List Nat} (hd : DOk ops.toList vs wc pre ips) (hcf : Conf fl vs wc pre S) (hcs : cOpers fo P nt ops.toList ops.toList = some vs) (hst : ∀ i v, vs[i]? = some v → Step1 P fl (wc.getD i false) v (S i) (S (i + 1))) {L : Nat → Prop} {a : Act} {w : World} {E : Env} (h : DInv ops vs wc pre nt w0 E0 S L a w E)
    {Q : Exit → Act → World → Prop} {K : Act → World → Prop} {i : Nat} {o : Oper} (ho : ops[i]? = some o) (hi : ¬ L i) (hpre : ∀ j ∈ pre.getD i [], L j)
    (hK : ∀ a w E, DInv ops vs wc pre nt w0 E0 S (fun q => L q ∨ q = i) a w E → K a w) :
    if Region.wanted o (yielded ops a.tmps) then o.wp P a w K Q else K (a.put o.dst undef) w := by
  obtain ⟨hl, hget⟩ := cOpers_get hcs
  have ho' : ops.toList[i]? = some o := by simpa using ho
  have hil : i < vs.length := by rw [hl]; exact getElem?_lt ho'
  have hv : vs[i]? = some vs[i] := List.getElem?_eq_getElem hil
  generalize hvi : vs[i] = v at hv
  have hc := hget i o v ho' hv
  obtain ⟨h1, h2, h3, h4⟩ := cOper_some hc
  have hnt : ∀ t, v.dst = some t → t < nt := fun t ht => h3 t (by rw [← h2]; exact ht)
  have hread : ∀ t, t ∈ v.reads → Rep w E ((S i).get t) (a.tmps.getD t undef) := fun t ht => h.operand hd hst hv hi hpre ht
  have hst' := hst i v hv
  have hput : ∀ t, v.dst = some t → ∀ s : St, ∀ x, (s.putO v.dst x).get t = x := by intro t ht s x; rw [putO_get, if_pos ht]
  -- the guard
  have hguard : (v.guard = none ∨ ∃ t want, v.guard = some (t, want) ∧ (S i).get t = .bool want) → Region.wanted o (yielded ops a.tmps) = true := by
    intro hg
    rcases h4 with ⟨q1, q2⟩ | ⟨j, want, t, q1, q2, q3⟩
    · simp [Region.wanted, q1]
    · rcases hg with hg | ⟨t', want', hg, hb⟩
      · rw [q3] at hg; cases hg
      · rw [q3] at hg
        simp only [Option.some.injEq, Prod.mk.injEq] at hg
        obtain ⟨rfl, rfl⟩ := hg
        have hrd := hread t (by simp [VOper.reads, q3])
        rw [hb] at hrd
        simp only [Rep] at hrd
        have hy := yielded_bool (ops := ops) (a := a) (j := j) (t := t) (by simpa using q2) hrd
        simp [Region.wanted, q1, hy]
  have hmask : ∀ op X, cX op = some X → Rep w E (maskX v.op.xs (S i).x X) (a.eval op) := by
    intro op X hX
    by_cases hm : X ∈ v.op.xs
    · rw [maskX_mem hm]
      refine St.x_of _ hX ?_
      rintro t rfl
      exact hread t (by simp only [VOper.reads, List.mem_append, List.mem_filterMap]; exact .inl ⟨_, hm, rfl⟩)
    · have : maskX v.op.xs (S i).x X = .junk := by simp [maskX, hm]
      rw [this]; trivial
  have hagree : ∀ X ∈ v.op.xs, (S i).x X = maskX v.op.xs (S i).x X := fun X hX => (maskX_mem hX).symm
  -- the names that it looks at
  obtain ⟨T, hTd⟩ : ∃ T : List Nat, T = namesL (v.op.tx.map (S i).x) := ⟨_, rfl⟩
  have hTx : v.op.isP = false → ∀ k ∈ namesL (v.op.xs.map (S i).x), k ∈ T := by
    intro hp k hk
    rw [hTd]; unfold VO.tx; rw [hp]; exact hk
  have hT : v.op.isP = false → ∀ k j, j < vs.length → j ≠ i → (k ∈ T ∨ isWC fl (wc.getD i false) v = true) → chg S j k → j ∈ pre.getD i [] ∨ i ∈ pre.getD j [] := by
    intro hp k j hj hji hk hch
    have hu : vs[j]? = some vs[j] := List.getElem?_eq_getElem hj
    rcases hk with hk | hk
    · rcases hcf.open' j i _ v k hu hv hji hch hp with q | ⟨_, _, q, _⟩
      · exact q.symm
      · rw [← hTd] at q; exact absurd hk q
    · have hWj : vs[j].op.isP = false := by
        refine isW_notP (wc := wc.getD j false) ?_
        cases hw : vs[j].op.isW (wc.getD j false) with
        | true => rfl
        | false => exact absurd ((hst j _ hu).ob hw hch.1) hch.2
      exact hcf.call i j v _ hv hu hk hWj (fun e => hji e.symm)
  have hobjs : v.op.isP = false → ∀ k q, (k ∈ T ∨ isWC fl (wc.getD i false) v = true) → E.dom k → (S i).ob[k]? = some (some q) → ObjRep w E k q := by
    intro hp k q hkT hk hq
    exact h.objs i (Nat.le_of_lt hil) k q (cond_at hd h.closed hv hi hpre (fun j hj hji hch => hT hp k j hj hji hkT hch)) hk (getElem?_lt hq) hq
  have hobm : v.op.isP = false → ∀ k q, E.dom k → (mskO T (S i).ob)[k]? = some (some q) → ObjRep w E k q := by
    intro hp k q hk hq
    obtain ⟨q1, q2⟩ := msk_some hq
    exact hobjs hp k q (.inl q1) hk q2
  have hppS : v.op.isP = true → (S (i + 1)).ob = (S i).ob := fun hp => (hst i v hv).obP hp
  have hlS := lens hst (i := i) (j := i + 1) (by omega) hil
  have hnewD : ∀ k, (S i).ob.length ≤ k → k < (S (i + 1)).ob.length → ¬ E.dom k := by
    intro k hk1 hk2 hdk
    rw [h.dom] at hdk
    rcases hdk with hk | ⟨j, hL, hj1, hj2⟩
    · have := lens hst (Nat.zero_le i) (Nat.le_of_lt hil); omega
    · have hjl := (h.closed j hL).1
      have hji : j ≠ i := fun e => hi (e ▸ hL)
      rcases Nat.lt_or_ge j i with q | q
      · have := lens hst (i := j + 1) (j := i) q (Nat.le_of_lt hil); omega
      · have := lens hst (i := i + 1) (j := j) (by omega) (Nat.le_of_lt hjl); omega
  -- a step that only looks
  have quiet : ∀ {w' E' val} (news : List VObj), (S (i + 1)).ob = (S i).ob ++ news.map some → RExt w E w' E' → (∀ k, E'.dom k ↔ E.dom k ∨ ((S i).ob.length ≤ k ∧ k < (S i).ob.length + news.length)) → (∀ t, v.dst = some t → Rep w' E' ((S (i + 1)).get t) val) →
      (∀ j o, news[j]? = some o → ObjRep w' E' ((S i).ob.length + j) o) → (∀ b, w'.heap.size ≤ b → E'.lab b = .imm) → K (a.put v.dst val) w' := by
    intro w' E' val news hob hx hdom hr hn hf
    refine hK _ _ _ (h.step hd hcf hst hv hi hpre hnt (fun _ => False) (fun _ _ _ _ hk _ => hk.elim) ?_ hppS hx.ext ?_ hr ?_ ?_ hf)
    · rintro k ⟨hk, hne⟩
      rw [hob, List.getElem?_append_left hk] at hne
      exact hne rfl
    · intro k; rw [hdom, hob]; simp
    · intro k o hk hkn hkl hko
      have hge := hkn.resolve_left (fun h => h)
      rw [hob, List.getElem?_append_right hge] at hko
      simp only [List.getElem?_map, Option.map_eq_some_iff] at hko
      obtain ⟨o', ho, he⟩ := hko
      injection he with he
      subst he
      have := hn _ _ ho
      rwa [show (S i).ob.length + (k - (S i).ob.length) = k by omega] at this
    · intro k o hk _ ho
      exact ho.rext hx hk
  rw [← h2]
  generalize hS : S (i + 1) = s' at hst'
  cases hst' with
  | skip t want g1 g2 =>
    have hnw : Region.wanted o (yielded ops a.tmps) = false := by
      rcases h4 with ⟨q1, q2⟩ | ⟨j, want', t', q1, q2, q3⟩
      · rw [q2] at g1; cases g1
      · rw [q3] at g1
        simp only [Option.some.injEq, Prod.mk.injEq] at g1
        obtain ⟨rfl, rfl⟩ := g1
        have hrd := hread t' (by simp [VOper.reads, q3])
        have hy := yielded_ne (ops := ops) (a := a) (j := j) (t := t') (by simpa using q2) (g2 _ _ _ hrd)
        simp only [Region.wanted, q1, hy]
    rw [if_neg (by rw [hnw]; simp)]
    have hob : (S (i + 1)).ob = (S i).ob := by rw [hS, putO_ob]
    have hrj : ∀ t, v.dst = some t → Rep w E ((S (i + 1)).get t) undef := by
      intro t ht; rw [hS, hput t ht]; exact rep_undef _ _
    exact quiet [] (by simp [hob]) (RExt.refl w E) (fun k => by simp; omega) hrj (fun j o h => by simp at h) h.fresh
  | read r news g hw he hnc =>
    rw [if_pos (hguard g)]
    have hob : (S (i + 1)).ob = (S i).ob ++ news.map some := by rw [hS, putO_ob]
    have hlenS : (S (i + 1)).ob.length = (S i).ob.length + news.length := by rw [hob]; simp
    have hres : ∃ val w' E', (execOp a.eval o).run P w = .ok (.value val) w' ∧ RRes P E w (S i).ob r news val w' E' := by
      cases hp : v.op.isP with
      | true =>
        rw [evR_congr hagree] at he
        have hR : v.op.isR = false := by
          cases hv : v.op <;> rw [hv] at hp <;> simp [VO.isP, VO.isR] at hp ⊢
        rw [evR_P hR] at he
        obtain ⟨q, hq, he⟩ := opt_bind he
        simp only [Prod.mk.injEq] at he
        obtain ⟨rfl, rfl⟩ := he
        have he' : v.op.evR (maskX v.op.xs (S i).x) [] = some (q, []) := by rw [evR_P hR, hq]; rfl
        obtain ⟨val, w', E', q1, q2⟩ := r_sound h1 hmask he' (fun k o _ h => by simp at h) h.fresh (fun h => absurd rfl h)
        refine ⟨val, w', E', q1, q2.ext, fun k => ?_, q2.rep, fun j o h => by simp at h, q2.fresh⟩
        rw [q2.dom]; simp; omega
      | false =>
        have he' : v.op.evR (maskX v.op.xs (S i).x) (mskO T (S i).ob) = some (r, news) := by
          rw [← evR_congr hagree, evR_mask (hTx hp)]; exact he
        obtain ⟨val, w', E', q1, q2⟩ := r_sound h1 hmask he' (hobm hp) h.fresh (fun hne => by
          rw [msk_length]
          refine hnewD _ (Nat.le_refl _) ?_
          have hnl : 0 < news.length := by cases news with | nil => exact absurd rfl hne | cons => simp
          omega)
        refine ⟨val, w', E', q1, q2.ext, fun k => ?_, q2.rep, fun j o hj => ?_, q2.fresh⟩
        · rw [q2.dom, msk_length]
        · have := q2.objs j o hj
          rwa [msk_length] at this
    obtain ⟨val, w', E', q1, q2⟩ := hres
    unfold Oper.wp
    rw [q1]
    show K (a.put o.dst val) w'
    rw [← h2]
    exact quiet news hob q2.ext q2.dom (fun t ht => by rw [hS, hput t ht]; exact q2.rep) q2.objs q2.fresh
  | write r ob' g hw he hle =>
    rw [if_pos (hguard g)]
    have hob : (S (i + 1)).ob = ob' := by rw [hS, putO_ob]
    have hp := isW_notP hw
    have hnc : v.op.isC = false := by cases hop : v.op <;> first | rfl | (rw [hop] at he; simp [VO.evW] at he)
    have hwc0 : isWC fl (wc.getD i false) v = false := by simp [isWC, hnc]
    obtain ⟨obm, he', hlm, hgm⟩ := evW_mask (hTx hp) he
    rw [evW_congr hagree] at he'
    have hix : IExt w E w (E.hide fun k => k ∈ T ∧ k < (S i).ob.length) := (hide_ext w E _).i
    obtain ⟨nx, val, w', E1, q1, q2, q3⟩ := w_soundG (E := E.hide fun k => k ∈ T ∧ k < (S i).ob.length) h1 (fun op X hX => Rep.iext hix _ _ (hmask op X hX)) he' (by
        rw [msk_length, hlm]
        intro hlt hdk
        exact hnewD _ (Nat.le_refl _) (by rw [hob]; exact hlt) hdk)
      (fun k q hk hq => by
        obtain ⟨m1, m2⟩ := msk_some hq
        exact hide_obj hk ⟨m1, getElem?_lt m2⟩ (hobjs hp k q (.inl m1) hk m2)) (fun b hb => hide_imm.2 (h.fresh b hb))
    have hsurg : ∀ (obm' : List (Option VObj)), (mskO T (S i).ob).length = (S i).ob.length → True := fun _ _ => trivial
    obtain ⟨E', s1, s2, s3, s4, s5, s6⟩ := surg (F := fun k => k ∈ T ∧ k < (S i).ob.length) (ob' := ob') q3 hlm (fun k hk hF => by rw [msk_length] at hk; omega) (fun k hk => hgm k (by rw [msk_length] at hk; exact hk.imp (fun q => q.1) id))
    rw [msk_length] at s2 s4
    have hfin := hK _ _ _ (h.step hd hcf hst hv hi hpre hnt (fun k => k ∈ T) (fun k j hj hji hk hch => hT hp k j hj hji (.inl hk) hch) (fun k hch => by
        have := ((hst i v hv).wnames hwc0 hch.1 hch.2).2
        rw [hTd]; exact names_sub (wx_tx hp) this) hppS s1 (fun k => by rw [s2, hob]) (fun t ht => by rw [hS, hput t ht]; exact s3)
      (fun k o hk hkn hkl hko => by
        rw [hob] at hkl hko
        refine s4 k o hk ?_ hko
        rcases Nat.lt_or_ge k (S i).ob.length with q | q
        · exact .inl ⟨hkn.resolve_right (by omega), q⟩
        · exact .inr q) s5 s6)
    unfold Oper.wp
    rw [q1]
    rcases q2 with rfl | ⟨rfl, rfl⟩
    · show K (a.put o.dst val) w'
      rw [← h2]; exact hfin
    · show K (a.put o.dst undef) w'
      rw [← h2]; exact hfin
  | callR f as g first caps r gg hop hf hcall =>
    rw [if_pos (hguard gg)]
    have hob : (S (i + 1)).ob = (S i).ob ++ ([] : List VObj).map some := by rw [hS, putO_ob]; simp
    rw [hop] at h1
    obtain ⟨dst, fo, args, ats, ty, pos, after, guard, rfl, hF, hxs⟩ := call_shape h1
    have hp : v.op.isP = false := by rw [hop]; rfl
    have hfr := hmask fo f hF
    have hmem : ∀ X, X = f ∨ X ∈ as → X ∈ v.op.xs := by intro X hX; rw [hop]; simpa [VO.xs] using hX
    rw [maskX_mem (hmem f (.inl rfl)), hf] at hfr
    simp only [Rep] at hfr
    obtain ⟨p, q, hpq, hp', hq'⟩ := hfr
    have hargs := RepL.cXs (P := P) hmask hxs
    have hmm : as.map (maskX v.op.xs (S i).x) = as.map (S i).x := List.map_congr_left fun X hX => maskX_mem (hmem X (.inr hX))
    rw [hmm] at hargs
    have hall := (hp'.append hargs).append hq'
    unfold Oper.wp
    have hcall' : CallR P (mskO T (S i).ob) g (first ++ as.map (S i).x ++ caps) r := by
      obtain ⟨as', hl, hE⟩ := hcall
      refine ⟨as', ?_, hE⟩
      rcases hl with hl | hl
      · exact .inl hl
      · refine .inr ⟨?_, hl.2⟩
        rw [lendL_mask]
        · exact hl.1
        · intro k hk
          refine hTx hp k ?_
          rw [hop]
          simp only [VO.xs, List.map_cons, namesL, hf, V.names]
          rw [namesL_app, namesL_app] at hk
          simp only [List.mem_append] at hk ⊢
          rcases hk with (hk | hk) | hk
          · exact .inl (.inl hk)
          · exact .inr hk
          · exact .inl (.inr hk)
    rw [exec_call hpq (by obtain ⟨_, _, hE, _⟩ := hcall; exact hE)]
    refine (callR_sound hcall' hall (hobm hp) h.fresh).mono ?_
    rintro e w' ⟨val, E', rfl, q2⟩
    show K (a.put dst val) w'
    have hdd : v.dst = dst := h2
    rw [← hdd]
    exact quiet [] hob q2.ext (fun k => by rw [q2.dom, msk_length]) (fun t ht => by rw [hS, hput t ht]; exact q2.rep) (fun j o h => by simp at h) q2.fresh
  | callW f as g first caps r ob' gg hwc hop hf hcall hle =>
    rw [if_pos (hguard gg)]
    have hob : (S (i + 1)).ob = ob' := by rw [hS, putO_ob]
    rw [hop] at h1
    obtain ⟨dst, fo, args, ats, ty, pos, after, guard, rfl, hF, hxs⟩ := call_shape h1
    have hp : v.op.isP = false := by rw [hop]; rfl
    have hww : isWC fl (wc.getD i false) v = true := by unfold isWC; rw [hop, hwc.1, hwc.2]; rfl
    have hdk := fun k => dom_at hd hcf hst h hv hww hi hpre k
    have hfr := hmask fo f hF
    have hmem : ∀ X, X = f ∨ X ∈ as → X ∈ v.op.xs := by intro X hX; rw [hop]; simpa [VO.xs] using hX
    rw [maskX_mem (hmem f (.inl rfl)), hf] at hfr
    simp only [Rep] at hfr
    obtain ⟨p, q, hpq, hp', hq'⟩ := hfr
    have hargs := RepL.cXs (P := P) hmask hxs
    have hmm : as.map (maskX v.op.xs (S i).x) = as.map (S i).x := List.map_congr_left fun X hX => maskX_mem (hmem X (.inr hX))
    rw [hmm] at hargs
    have hall := (hp'.append hargs).append hq'
    unfold Oper.wp
    rw [exec_call hpq hcall.1]
    refine (hcall.2 w E _ hdk (fun k q hq => hobjs hp k q (.inr hww) ((hdk k).2 (getElem?_lt hq)) hq) h.fresh hall).mono ?_
    rintro e w' ⟨val, E', rfl, q3⟩
    show K (a.put dst val) w'
    have hdd : v.dst = dst := h2
    rw [← hdd]
    refine hK _ _ _ (h.step hd hcf hst hv hi hpre hnt (fun _ => True) (fun k j hj hji _ hch => hT hp k j hj hji (.inr hww) hch) (fun _ _ => trivial) hppS q3.ext ?_ (fun t ht => by rw [hS, hput t ht]; exact q3.rep)
      (fun k o _ _ _ hko => q3.objs k o (by rw [← hob]; exact hko)) (fun k o hk hn _ => absurd ⟨trivial, (hdk k).1 hk⟩ hn) q3.fresh)
    intro k
    rw [q3.dom, hdk, hob]
    have : (S i).ob.length ≤ ob'.length := hle
    omega
  | callF f as g first caps r ob' ms args0 obs obs' r0 gg hwc hop hf hcall =>
    rw [if_pos (hguard gg)]
    have hob : (S (i + 1)).ob = ob' := by rw [hS, putO_ob]
    rw [hop] at h1
    obtain ⟨dst, fo, args, ats, ty, pos, after, guard, rfl, hF, hxs⟩ := call_shape h1
    have hp : v.op.isP = false := by rw [hop]; rfl
    have hfr := hmask fo f hF
    have hmem : ∀ X, X = f ∨ X ∈ as → X ∈ v.op.xs := by intro X hX; rw [hop]; simpa [VO.xs] using hX
    rw [maskX_mem (hmem f (.inl rfl)), hf] at hfr
    simp only [Rep] at hfr
    obtain ⟨p, q, hpq, hp', hq'⟩ := hfr
    have hargs := RepL.cXs (P := P) hmask hxs
    have hmm : as.map (maskX v.op.xs (S i).x) = as.map (S i).x := List.map_congr_left fun X hX => maskX_mem (hmem X (.inr hX))
    rw [hmm] at hargs
    have hall := (hp'.append hargs).append hq'
    have hTn : ∀ k ∈ namesL (first ++ as.map (S i).x ++ caps), k ∈ T := by
      intro k hk
      refine hTx hp k ?_
      rw [hop]
      simp only [VO.xs, List.map_cons, namesL, hf, V.names]
      rw [namesL_app, namesL_app] at hk
      simp only [List.mem_append] at hk ⊢
      rcases hk with (hk | hk) | hk
      · exact .inl (.inl hk)
      · exact .inr hk
      · exact .inl (.inr hk)
    have hdom1 : ∀ k ∈ namesL (first ++ as.map (S i).x ++ caps), E.dom k := names_dom hall
    have hmT : ∀ (a j : Nat), ms[a]? = some j → j ∈ T := fun a j h => hTn j (hcall.at_ a j h).2.1
    have hlenN : ob'.length = (S i).ob.length + (obs'.length - obs.length) := by
      have h1 := hcall.len
      have h2 := hcall.le
      rw [hcall.obj, putObs_length _ _ _ _ (by omega)]; omega
    rw [hcall.args] at hall
    unfold Oper.wp
    rw [exec_call hpq hcall.call.1]
    refine (hcall.call.frameG ms (S i).ob.length hcall.len hcall.nodup (fun j hj => by obtain ⟨a, ha⟩ := List.getElem?_of_mem hj; exact (hcall.at_ a j ha).1) hcall.wfa hcall.wfo hcall.wfr hcall.wfo' hcall.le
      (fun j hj => by obtain ⟨a, ha⟩ := List.getElem?_of_mem hj; exact hdom1 j (hcall.at_ a j ha).2.1)
      (fun k hk1 hk2 => hnewD k hk1 (by rw [hob, hlenN]; exact hk2))
      (fun a j o ha ho => hobjs hp j _ (.inl (hmT a j ha)) (hdom1 j (hcall.at_ a j ha).2.1) ((hcall.at_ a j ha).2.2 o ho)) h.fresh hall).mono ?_
    rintro e w' ⟨val, E', rfl, s1, s2, s3, s4, s5, s6⟩
    show K (a.put dst val) w'
    have hdd : v.dst = dst := h2
    rw [← hdd]
    have hml : ms.length ≤ obs'.length := by have := hcall.len; have := hcall.le; omega
    have hmsL : ∀ j ∈ ms, j < (S i).ob.length := fun j hj => by obtain ⟨a, ha⟩ := List.getElem?_of_mem hj; exact (hcall.at_ a j ha).1
    refine hK _ _ _ (h.step hd hcf hst hv hi hpre hnt (fun k => k ∈ ms) (fun k j hj hji hk hch => ?_) (fun k hch => ?_) hppS s1 (fun k => by rw [s2, hob, hlenN]) (fun t ht => by rw [hS, hput t ht, hcall.res]; exact s3) ?_ ?_ s6)
    · obtain ⟨b, hb⟩ := List.getElem?_of_mem hk
      exact hT hp k j hj hji (.inl (hmT b k hb)) hch
    · refine Classical.byContradiction fun hn => hch.2 ?_
      rw [hob]; exact hcall.same hch.1 hn
    · intro k o hk hkn hkl hko
      rw [hob, hcall.obj] at hko
      obtain ⟨p1, p2, p3⟩ := putObs_get (nameOf ms (S i).ob.length) ms obs' (S i).ob hml hcall.nodup hmsL k
      have back : ∀ {a : Nat}, (obs'[a]?).map (Option.map (renO (nameOf ms (S i).ob.length))) = some (some o) → ∃ o', obs'[a]? = some (some o') ∧ renO (nameOf ms (S i).ob.length) o' = o := by
        intro a h
        cases ha : obs'[a]? with
        | none => rw [ha] at h; cases h
        | some q =>
          rw [ha] at h
          cases q with
          | none => simp at h
          | some q => exact ⟨q, rfl, by simpa using h⟩
      by_cases hkm : k ∈ ms
      · obtain ⟨b, hb⟩ := List.getElem?_of_mem hkm
        rw [p2 b hb] at hko
        obtain ⟨o', ho, rfl⟩ := back hko
        have := s4 b o' ho
        rwa [nameOf_lt hb] at this
      · have hge := hkn.resolve_left hkm
        rw [p3 hge] at hko
        obtain ⟨o', ho, rfl⟩ := back hko
        have := s4 _ o' ho
        have he : nameOf ms (S i).ob.length (ms.length + (k - (S i).ob.length)) = k := by
          unfold nameOf
          rw [if_neg (by omega)]; omega
        rwa [he] at this
    · intro k o hk hn ho
      refine s5 k o hk ?_ ho
      intro hkm
      exact hn ⟨hkm, hmsL k hkm⟩
end
end Go.Proofs.VL

namespace Go.Proofs.VL
open Go Go.RowKit
set_option linter.unusedSimpArgs false
set_option linter.unusedVariables false
section
variable {fl : Bool} {P : Program} {ops : Array Oper} {vs : List VOper} {wc : List Bool} {pre : List (List Nat)} {ips : List (Nat × Nat)} {nt : Nat} {w0 : World} {E0 : Env} {S : Nat → St}

theorem DInv.finish (hd : DOk ops.toList vs wc pre ips) (hst : ∀ i v, vs[i]? = some v → Step1 P fl (wc.getD i false) v (S i) (S (i + 1))) {L : Nat → Prop} {a : Act} {w : World} {E : Env} (h : DInv ops vs wc pre nt w0 E0 S L a w E) (hall : ∀ i, i < vs.length → L i) :
    Rel w0 E0 nt (S vs.length) a w E where
  defers := h.defers
  size := h.size
  tmps := by
    intro t
    by_cases hw : ∃ (j : Nat) (u : VOper), vs[j]? = some u ∧ u.dst = some t
    · obtain ⟨j, u, hu, hut⟩ := hw
      have hjl := getElem?_lt hu
      have huniq : ∀ (q : Nat) (x : VOper), vs[q]? = some x → x.dst = some t → q = j := fun q x hq hx => hd.dst q j x u t hq hu hx hut
      rw [same_get hst (i := j + 1) (j := vs.length) hjl (Nat.le_refl _) (fun q x hq h1 h2 hx => by have := huniq q x hq hx; omega)]
      exact h.done j u t (hall j hjl) hu hut
    · have hno : ∀ (q : Nat) (x : VOper), vs[q]? = some x → x.dst ≠ some t := fun q x hq hx => hw ⟨q, x, hq, hx⟩
      rw [same_get hst (i := 0) (j := vs.length) (Nat.zero_le _) (Nat.le_refl _) (fun q x hq _ _ => hno q x hq)]
      exact h.rest t (fun q x _ hq => hno q x hq)
  dom := dom_tel hst h (Nat.le_refl _) (fun j v hv hj _ => hall j hj) (fun j v hv hL hj => by have := getElem?_lt hv; omega)
  objs := by
    intro k o hk
    have hdk := dom_tel hst h (Nat.le_refl _) (fun j v hv hj _ => hall j hj) (fun j v hv hL hj => by have := getElem?_lt hv; omega) k
    exact h.objs vs.length (Nat.le_refl _) k o (fun j hj _ => ⟨fun _ => hall j hj, fun _ => hj⟩) (hdk.2 (getElem?_lt hk)) (getElem?_lt hk) hk
  fresh := h.fresh
  ext := h.ext
  base := fun k hk => by rw [same_base hst (Nat.le_refl _)]; exact h.base k hk

theorem DInv.start (hst : ∀ i v, vs[i]? = some v → Step1 P fl (wc.getD i false) v (S i) (S (i + 1))) {a : Act} {w : World} {E : Env} (hr : Rel w0 E0 nt (S 0) a w E) : DInv ops vs wc pre nt w0 E0 S (fun _ => False) a w E where
  closed := fun i h => h.elim
  defers := hr.defers
  size := hr.size
  done := fun j v t h => h.elim
  rest := fun t _ => hr.tmps t
  dom := fun k => by rw [hr.dom]; simp
  objs := by
    intro m hm k o hc hk hkm hko
    rw [hr.dom] at hk
    refine hr.objs k o ?_
    rw [← hko]
    refine (same_ob hst (i := 0) (j := m) (Nat.zero_le _) hm ?_ hk).symm
    intro q _ hqm hch
    exact ((hc q (by omega) hch).1 hqm).elim
  fresh := hr.fresh
  ext := hr.ext
  base := hr.base

theorem count_set {l : Array Bool} {i : Nat} (hi : i < l.size) (hf : l.getD i true = false) : (l.setIfInBounds i true).toList.count false + 1 = l.toList.count false := by
  have hg : l.toList[i]'(by simpa using hi) = false := by
    simpa [Array.getD_eq_getD_getElem?, Array.getElem?_eq_getElem hi] using hf
  rw [Array.toList_setIfInBounds]
  have hp : 0 < l.toList.count false := List.count_pos_iff.2 (by rw [← hg]; exact List.getElem_mem _)
  have hcs := List.count_set (a := true) (b := false) (l := l.toList) (i := i) (by simpa using hi)
  have e1 : (l.toList[i]'(by simpa using hi) == false) = true := by rw [hg]; rfl
  rw [hcs, if_pos e1, if_neg (by decide)]
  omega

theorem drun {fo : List Nat} (hd : DOk ops.toList vs wc pre ips) (hcf : Conf fl vs wc pre S) (hcs : cOpers fo P nt ops.toList ops.toList = some vs) (hst : ∀ i v, vs[i]? = some v → Step1 P fl (wc.getD i false) v (S i) (S (i + 1))) {Q : Exit → Act → World → Prop} (hQ : ∀ a w E, Rel w0 E0 nt (S vs.length) a w E → Q .normal a w) :
    ∀ (fuel : Nat) (listed : Array Bool) (a : Act) (w : World) (E : Env), listed.size = ops.size → listed.toList.count false ≤ fuel → DInv ops vs wc pre nt w0 E0 S (fun i => listed.getD i false = true) a w E → wpAny P .any ops Q fuel listed a w := by
  obtain ⟨hl, hget⟩ := cOpers_get hcs
  have hls : vs.length = ops.size := by rw [hl]; simp
  have hall : ∀ {listed : Array Bool}, listed.size = ops.size → Region.ready .any ops listed = [] → ∀ i, i < vs.length → listed.getD i false = true := by
    intro listed hsz hr i
    induction i using Nat.strongRecOn with
    | _ i ih =>
      intro hi
      have ho : ops.toList[i]? = some (ops.toList[i]'(by rw [← hl]; exact hi)) := List.getElem?_eq_getElem _
      rcases Bool.eq_false_or_eq_true (listed.getD i false) with h | h
      · exact h
      · exfalso
        have hi' : i < listed.size := by omega
        have : i ∈ Region.ready .any ops listed := by
          rw [ready_iff]
          refine ⟨by omega, ?_, _, ho, ?_⟩
          · simpa [Array.getD_eq_getD_getElem?, Array.getElem?_eq_getElem hi'] using h
          · intro e he
            have := hd.dirs i _ ho e he
            exact ih e this (by omega)
        rw [hr] at this
        cases this
  intro fuel
  induction fuel with
  | zero =>
    intro listed a w E hsz hc h
    have hall' : ∀ i, i < vs.length → listed.getD i false = true := by
      intro i hi
      have hi' : i < listed.size := by omega
      rcases Bool.eq_false_or_eq_true (listed.getD i false) with h' | h'
      · exact h'
      · exfalso
        have hg : listed.toList[i]'(by simpa using hi') = false := by
          simpa [Array.getD_eq_getD_getElem?, Array.getElem?_eq_getElem hi'] using h'
        have : 0 < listed.toList.count false := List.count_pos_iff.2 (by rw [← hg]; exact List.getElem_mem _)
        omega
    have hr : Region.ready .any ops listed = [] := by
      rw [List.eq_nil_iff_forall_not_mem]
      intro i hi
      obtain ⟨h1, h2, _⟩ := ready_iff.1 hi
      have := hall' i (by omega)
      have hi' : i < listed.size := by omega
      simp [Array.getD_eq_getD_getElem?, Array.getElem?_eq_getElem hi'] at this h2
      rw [this] at h2; cases h2
    exact ⟨hr, hQ a w E (h.finish hd hst hall')⟩
  | succ fuel ih =>
    intro listed a w E hsz hc h
    refine ⟨fun hr => hQ a w E (h.finish hd hst (hall hsz hr)), ?_⟩
    intro i hi
    obtain ⟨h1, h2, o, ho, h3⟩ := ready_iff.1 hi
    have hil : i < listed.size := by omega
    have hnL : ¬ (listed.getD i false = true) := by
      intro he
      simp [Array.getD_eq_getD_getElem?, Array.getElem?_eq_getElem hil] at he h2
      rw [he] at h2; cases h2
    have hpre : ∀ j ∈ pre.getD i [], listed.getD j false = true := by
      intro j hj
      obtain ⟨q1, q2⟩ := hd.clo i o ho j hj
      rcases q2 with q2 | ⟨e, q2, q3⟩
      · exact h3 j q2
      · exact (h.closed e (h3 e q2)).2 j q3
    have ho' : ops[i]? = some o := by simpa using ho
    refine wpOp_step ho' ?_
    intro K' hK'
    refine dstep hd hcf hcs hst h ho' hnL hpre ?_
    intro a' w' E' hinv
    refine hK' a' w' (ih _ a' w' E' (by simp [hsz]) ?_ ?_)
    · have := count_set hil h2; omega
    · have heq : (fun q => listed.getD q false = true ∨ q = i) = (fun q => (listed.setIfInBounds i true).getD q false = true) := by
        funext q
        apply propext
        simp only [Array.getD_eq_getD_getElem?, Array.getElem?_setIfInBounds]
        by_cases hq : i = q
        · subst hq; simp [hil]
        · have : q ≠ i := fun e => hq e.symm
          simp [hq, this]
      rw [← heq]; exact hinv

/-- A region that draws its order comes to what the text's order comes to. -/
theorem dreg_sound {fo : List Nat} (hm : P.follows .mixedOrders = true) (hd : DOk ops.toList vs wc pre ips) (hcs : cOpers fo P nt ops.toList ops.toList = some vs) (hst : ∀ i v, vs[i]? = some v → Step1 P fl (wc.getD i false) v (S i) (S (i + 1))) {Q : Exit → Act → World → Prop} (hQ : ∀ a w E, Rel w0 E0 nt (S vs.length) a w E → Q .normal a w)
    (hfl : fl = true → ips = []) (hc : chkS (mkSp vs ips) (S vs.length) = true) {id : Nat} {a : Act} {w : World} {E : Env} (hr : Rel w0 E0 nt (S 0) a w E) : (Code.region id ops true).wp P Q a w := by
  obtain ⟨hl, hget⟩ := cOpers_get hcs
  refine wp_region_any hm ?_
  have hr' : Rel w0 E0 nt (S 0) a { w with drawn := w.drawn + 1 } E := by
    have hx := (RExt.drew w E).ext
    exact ⟨hr.defers, hr.size, fun t => Rep.ext hx _ _ (hr.tmps t), hr.dom, fun k o hk => (hr.objs k o hk).rext (RExt.drew w E) ((hr.dom k).2 (getElem?_lt hk)), hr.fresh, hr.ext.trans hx, hr.base⟩
  refine drun hd (conf_of hd hst hfl hc) hcs hst hQ _ _ a _ E (by simp) ?_ ?_
  · simp [List.count_replicate]
  · have heq : (fun i => (Array.replicate ops.size false).getD i false = true) = (fun _ : Nat => False) := by
      funext i
      apply propext
      simp [Array.getD_eq_getD_getElem?, Array.getElem?_replicate]
      split <;> simp
    rw [heq]
    exact DInv.start hst hr'
end
end Go.Proofs.VL

namespace Go.Proofs.VL
open Go Go.RowKit
set_option linter.unusedSimpArgs false
set_option linter.unusedVariables false

/-! ### a state that says less: values said more loosely, objects named anew -/
/-- New names (each one's elder name, or none: a nil slice of one's own), and the own arrays that are given up: nobody writes to them any more. -/
structure FM where
  ms : List (Option Nat)
  fz : Nat → Option (Nat × List (List V))

mutual
/-- A value, and what is said of it when the objects have other names. -/
inductive SubM (m : FM) : V → V → Prop
  | same (x : V) : wfV 0 x = true → SubM m x x
  | junk (x : V) : SubM m x .junk
  | nil (sz : Nat) : SubM m .nils (.sl sz [])
  | sl {s : Nat} {a b : List (List V)} : SubR a b → SubM m (.sl s a) (.sl s b)
  | agg {a b : List V} : SubML m a b → SubM m (.agg a) (.agg b)
  | tup {a b : List V} : SubML m a b → SubM m (.tup a) (.tup b)
  | fn {f : FuncId} {a b a' b' : List V} : SubML m a a' → SubML m b b' → SubM m (.fn f a b) (.fn f a' b')
  | ref {j k n : Nat} : m.ms[k]? = some (some j) → SubM m (.ref j n) (.ref k n)
  | nref {k : Nat} : m.ms[k]? = some none → SubM m .nils (.ref k 0)
  | ptr {j k n : Nat} : m.ms[k]? = some (some j) → SubM m (.ptr j n) (.ptr k n)
  | eptr {j k a b c : Nat} : m.ms[k]? = some (some j) → SubM m (.eptr j a b c) (.eptr k a b c)
  | mapr {j k : Nat} : m.ms[k]? = some (some j) → SubM m (.mapr j) (.mapr k)
  | lent {k n sz : Nat} {rows rows' : List (List V)} : m.fz k = some (sz, rows) → n ≤ rows.length → rows.take n = rows' → SubM m (.ref k n) (.sl sz rows')
inductive SubML (m : FM) : List V → List V → Prop
  | nil : SubML m [] []
  | cons {x y : V} {xs ys : List V} : SubM m x y → SubML m xs ys → SubML m (x :: xs) (y :: ys)
end

theorem SubM.of_eq {ms : FM} {x y : V} (h : x = y) (hw : wfV 0 x = true) : SubM ms x y := h ▸ .same x hw

inductive ObjM (ms : FM) : VObj → VObj → Prop
  | box {a b : List V} : SubML ms a b → ObjM ms (.box a) (.box b)
  | arr {e s : Nat} {a b : List (List V)} : SubR a b → ObjM ms (.arr e s a) (.arr e s b)
  | fro {s : Nat} {a : List (List V)} : ObjM ms (.fro s a) (.fro s a)

/-- The objects' new list against the elder one. -/
def fgO (s : St) (all : FM) : List (Option Nat) → List (Option VObj) → Prop
  | [], [] => True
  | _ :: js, none :: os => fgO s all js os
  | some j :: js, some o :: os => (∃ o', s.ob[j]? = some (some o') ∧ ObjM all o' o) ∧ fgO s all js os
  | none :: js, some o :: os => (∃ e sz, o = .arr e sz []) ∧ fgO s all js os
  | _, _ => False

def fgT (s : St) (ms : FM) : List (Nat × V) → Prop
  | [] => True
  | p :: r => SubM ms (s.get p.1) p.2 ∧ fgT s ms r

/-- The elder names of those that are still there. -/
def fgU : List (Option Nat) → List (Option VObj) → List Nat
  | some j :: js, some _ :: os => j :: fgU js os
  | _ :: js, _ :: os => fgU js os
  | _, _ => []

def nodupB : List Nat → Bool
  | [] => true
  | x :: xs => !xs.contains x && nodupB xs

theorem nodupB_spec : ∀ {l : List Nat}, nodupB l = true → l.Nodup
  | [], _ => List.nodup_nil
  | x :: xs, h => by
    simp only [nodupB, Bool.and_eq_true, Bool.not_eq_true', List.contains_eq_mem, decide_eq_false_iff_not] at h
    exact List.nodup_cons.2 ⟨h.1, nodupB_spec h.2⟩

def fgB : Nat → Nat → List (Option Nat) → Bool
  | 0, _, _ => true
  | n + 1, i, some j :: js => j == i && fgB n (i + 1) js
  | _ + 1, _, _ => false

def fgL (n : Nat) : List (Option Nat) → Bool
  | [] => true
  | some j :: js => decide (j < n) && fgL n js
  | none :: js => fgL n js

/-- The own arrays that are given up. -/
def St.frz (s : St) (kept : List Nat) (k : Nat) : Option (Nat × List (List V)) :=
  match !kept.contains k with
  | true => match s.ob[k]? with | some (some (.arr _ sz rows)) => some (sz, rows) | _ => none
  | false => none

theorem St.frz_spec {s : St} {kept : List Nat} {k sz : Nat} {rows : List (List V)} (h : s.frz kept k = some (sz, rows)) : k ∉ kept ∧ ∃ e, s.ob[k]? = some (some (.arr e sz rows)) := by
  unfold St.frz at h
  split at h
  · rename_i hb
    simp only [Bool.not_eq_true', List.contains_eq_mem, decide_eq_false_iff_not] at hb
    split at h
    · rename_i e sz' rows' ho
      simp only [Option.some.injEq, Prod.mk.injEq] at h
      obtain ⟨rfl, rfl⟩ := h
      exact ⟨hb, e, ho⟩
    · cases h
  · cases h

def St.fg (s s1 : St) : Prop := ∃ ms : List (Option Nat), s1.base = s.base ∧ fgB s.base 0 ms = true ∧ fgL s.ob.length ms = true ∧ nodupB (fgU ms s1.ob) = true ∧ fgT s ⟨ms, s.frz (fgU ms s1.ob)⟩ s1.tm ∧ fgO s ⟨ms, s.frz (fgU ms s1.ob)⟩ ms s1.ob

theorem fgB_get : ∀ {n i : Nat} {ms : List (Option Nat)}, fgB n i ms = true → ∀ k, k < n → ms[k]? = some (some (i + k))
  | 0, _, _, _, k, hk => by omega
  | n + 1, i, some j :: js, h, k, hk => by
    simp only [fgB, Bool.and_eq_true, beq_iff_eq] at h
    cases k with
    | zero => simp [h.1]
    | succ k =>
      have := fgB_get h.2 k (by omega)
      simp only [List.getElem?_cons_succ, this]
      congr 2; omega
  | n + 1, i, [], h, _, _ => by simp [fgB] at h
  | n + 1, i, none :: js, h, _, _ => by simp [fgB] at h

theorem fgL_get {n : Nat} : ∀ {ms : List (Option Nat)}, fgL n ms = true → ∀ (k j : Nat), ms[k]? = some (some j) → j < n
  | [], _, k, j, h => by simp at h
  | some q :: js, h, k, j, hk => by
    simp only [fgL, Bool.and_eq_true, decide_eq_true_eq] at h
    cases k with
    | zero => simp at hk; omega
    | succ k => exact fgL_get h.2 k j (by simpa using hk)
  | none :: js, h, k, j, hk => by
    simp only [fgL] at h
    cases k with
    | zero => simp at hk
    | succ k => exact fgL_get h k j (by simpa using hk)

theorem fgT_get {s : St} {ms : FM} : ∀ {l : List (Nat × V)}, fgT s ms l → ∀ p ∈ l, SubM ms (s.get p.1) p.2
  | [], _, p, hp => by simp at hp
  | q :: l, h, p, hp => by
    simp only [fgT] at h
    rcases List.mem_cons.1 hp with rfl | hp
    · exact h.1
    · exact fgT_get h.2 p hp

theorem fgO_get {s : St} {all : FM} : ∀ {ms : List (Option Nat)} {os : List (Option VObj)}, fgO s all ms os → ms.length = os.length ∧ ∀ (k : Nat) o, os[k]? = some (some o) →
    (∃ j o', ms[k]? = some (some j) ∧ s.ob[j]? = some (some o') ∧ ObjM all o' o) ∨ (ms[k]? = some none ∧ ∃ e sz, o = .arr e sz [])
  | [], [], _ => ⟨rfl, fun k o h => by simp at h⟩
  | [], _ :: _, h => by simp [fgO] at h
  | _ :: _, [], h => by simp [fgO] at h
  | m :: js, none :: os, h => by
    have h' : fgO s all js os := by cases m <;> simpa [fgO] using h
    obtain ⟨h1, h2⟩ := fgO_get h'
    refine ⟨by simp [h1], fun k q hq => ?_⟩
    cases k with
    | zero => simp at hq
    | succ k => simpa using h2 k q (by simpa using hq)
  | some j :: js, some o :: os, h => by
    simp only [fgO] at h
    obtain ⟨h1, h2⟩ := fgO_get h.2
    refine ⟨by simp [h1], fun k q hq => ?_⟩
    cases k with
    | zero =>
      simp at hq
      subst hq
      obtain ⟨o', g2, g3⟩ := h.1
      exact .inl ⟨j, o', rfl, g2, g3⟩
    | succ k => simpa using h2 k q (by simpa using hq)
  | none :: js, some o :: os, h => by
    simp only [fgO] at h
    obtain ⟨h1, h2⟩ := fgO_get h.2
    refine ⟨by simp [h1], fun k q hq => ?_⟩
    cases k with
    | zero => simp at hq; subst hq; exact .inr ⟨rfl, h.1⟩
    | succ k => simpa using h2 k q (by simpa using hq)

theorem fgU_mem : ∀ {ms : List (Option Nat)} {os : List (Option VObj)} {k j : Nat} {o : VObj}, ms[k]? = some (some j) → os[k]? = some (some o) → j ∈ fgU ms os
  | [], _, k, j, o, h, _ => by simp at h
  | _ :: _, [], k, j, o, _, h => by simp at h
  | m :: js, q :: os, k, j, o, h, g => by
    cases k with
    | zero =>
      simp at h g
      subst h; subst g
      simp [fgU]
    | succ k =>
      have := fgU_mem (ms := js) (os := os) (by simpa using h) (by simpa using g)
      cases m <;> cases q <;> simp [fgU, this]

theorem fgU_inj : ∀ {ms : List (Option Nat)} {os : List (Option VObj)}, (fgU ms os).Nodup → ∀ {k k' j : Nat} {o o' : VObj}, ms[k]? = some (some j) → os[k]? = some (some o) → ms[k']? = some (some j) → os[k']? = some (some o') → k = k'
  | [], _, _, k, k', j, o, o', h, _, _, _ => by simp at h
  | _ :: _, [], _, k, k', j, o, o', _, h, _, _ => by simp at h
  | m :: js, q :: os, hn, k, k', j, o, o', h1, h2, h3, h4 => by
    have hn' : (fgU js os).Nodup := by
      cases m <;> cases q <;> simp [fgU] at hn ⊢ <;> first | exact hn | exact hn.2
    cases k with
    | zero =>
      cases k' with
      | zero => rfl
      | succ k' =>
        simp at h1 h2 h3 h4
        subst h1; subst h2
        simp only [fgU, List.nodup_cons] at hn
        exact absurd (fgU_mem h3 h4) hn.1
    | succ k =>
      cases k' with
      | zero =>
        simp at h1 h2 h3 h4
        subst h3; subst h4
        simp only [fgU, List.nodup_cons] at hn
        exact absurd (fgU_mem h1 h2) hn.1
      | succ k' =>
        have := fgU_inj hn' (k := k) (k' := k') (by simpa using h1) (by simpa using h2) (by simpa using h3) (by simpa using h4)
        rw [this]

open Classical in
/-- What is known of memory in the new words. -/
noncomputable def Env.named (E : Env) (m : FM) (os : List (Option VObj)) : Env :=
  { dom := fun k => k < m.ms.length,
    blk := fun k => match m.ms[k]? with | some (some j) => E.blk j | _ => 0,
    cap := fun k => match m.ms[k]? with | some (some j) => E.cap j | _ => 0,
    nil := fun k => match m.ms[k]? with | some (some j) => E.nil j | _ => true,
    lab := fun b => match E.lab b with
      | .imm => .imm
      | .ext => .ext
      | .obj j => if h : ∃ k o, m.ms[k]? = some (some j) ∧ os[k]? = some (some o) then .obj h.choose else if (m.fz j).isSome = true then .imm else .ext }

theorem named_imm {E : Env} {ms : FM} {os : List (Option VObj)} {b : Nat} (h : E.lab b = .imm) : (E.named ms os).lab b = .imm := by
  unfold Env.named
  simp only [h]

theorem named_ext {E : Env} {ms : FM} {os : List (Option VObj)} {b : Nat} (h : E.lab b = .ext) : (E.named ms os).lab b = .ext := by
  unfold Env.named
  simp only [h]

theorem named_obj {E : Env} {ms : FM} {os : List (Option VObj)} (hu : (fgU ms.ms os).Nodup) {b k j : Nat} {o : VObj} (h1 : ms.ms[k]? = some (some j)) (h2 : os[k]? = some (some o)) (hl : E.lab b = .obj j) : (E.named ms os).lab b = .obj k := by
  unfold Env.named
  simp only [hl]
  have hex : ∃ k o, ms.ms[k]? = some (some j) ∧ os[k]? = some (some o) := ⟨k, o, h1, h2⟩
  rw [dif_pos hex]
  obtain ⟨o', g1, g2⟩ := hex.choose_spec
  rw [fgU_inj hu g1 g2 h1 h2]

theorem named_fz {E : Env} {m : FM} {os : List (Option VObj)} {b k : Nat} (hl : E.lab b = .obj k) (hz : (m.fz k).isSome = true) (hg : ∀ (q : Nat) (o : VObj), m.ms[q]? = some (some k) → os[q]? = some (some o) → False) : (E.named m os).lab b = .imm := by
  unfold Env.named
  simp only [hl]
  rw [dif_neg (fun h => by obtain ⟨q, o, h1, h2⟩ := h; exact hg q o h1 h2), if_pos hz]

structure FMok (w : World) (E : Env) (m : FM) (os ob : List (Option VObj)) : Prop where
  rep : ∀ (k : Nat) o, E.dom k → ob[k]? = some (some o) → ObjRep w E k o
  at_ : ∀ (k : Nat) sz rows, m.fz k = some (sz, rows) → ∃ e, ob[k]? = some (some (.arr e sz rows))
  gone : ∀ (k : Nat) sz rows, m.fz k = some (sz, rows) → ∀ (q : Nat) (o : VObj), m.ms[q]? = some (some k) → os[q]? = some (some o) → False

theorem imm_flat {w : World} {E E' : Env} (h : ∀ b, E.lab b = .imm → E'.lab b = .imm) {sz : Nat} {rows : List (List V)} {vs : List Value} (hr : RepFlat w E.pure sz rows vs) : RepFlat w E'.pure sz rows vs :=
  RepFlat.iext (pure_iext fun b _ hb => (h b) hb) _ _ _ hr
theorem imm_list {w : World} {E E' : Env} (h : ∀ b, E.lab b = .imm → E'.lab b = .imm) {xs : List V} {vs : List Value} (hr : RepL w E.pure xs vs) : RepL w E'.pure xs vs :=
  RepL.iext (pure_iext fun b _ hb => (h b) hb) _ _ hr

mutual
theorem rep_same {w : World} {E E' : Env} (h : ∀ b, E.lab b = .imm → E'.lab b = .imm) : (x : V) → (v : Value) → wfV 0 x = true → Rep w E x v → Rep w E' x v
  | .bool _, _, _, h => h
  | .int _ _, _, _, h => h
  | .str _, _, _, h => h
  | .nils, _, _, h => h
  | .nilp, _, _, h => h
  | .nilm, _, _, h => h
  | .nilf, _, _, h => h
  | .nili, _, _, h => h
  | .junk, _, _, _ => trivial
  | .sl sz rows, v, _, hr => by
    simp only [Rep] at hr ⊢
    obtain ⟨a, cap, vs, rfl, h1, h2, h3, h4⟩ := hr
    refine ⟨a, cap, vs, rfl, h1, imm_flat h h2, h3, ?_⟩
    rcases h4 with h4 | ⟨b, off, q1, q2, q3⟩
    · exact .inl h4
    · exact .inr ⟨b, off, q1, (h b) q2, q3⟩
  | .iptr cs, v, _, hr => by
    simp only [Rep] at hr ⊢
    obtain ⟨b, off, vs, rfl, q2, q3, q4, q5⟩ := hr
    exact ⟨b, off, vs, rfl, (h b) q2, q3, q4, imm_list h q5⟩
  | .ref k q, v, hw, _ => by simp [wfV] at hw
  | .ptr k off, v, hw, _ => by simp [wfV] at hw
  | .eptr k _ _ _, v, hw, _ => by simp [wfV] at hw
  | .mapr k, v, hw, _ => by simp [wfV] at hw
  | .agg cs, v, hw, hr => by
    simp only [Rep] at hr ⊢
    obtain ⟨vs, rfl, hr⟩ := hr
    exact ⟨vs, rfl, repL_same h cs vs (by simpa [wfV] using hw) hr⟩
  | .tup cs, v, hw, hr => by
    simp only [Rep] at hr ⊢
    obtain ⟨vs, rfl, hr⟩ := hr
    exact ⟨vs, rfl, repL_same h cs vs (by simpa [wfV] using hw) hr⟩
  | .fn f a b, v, hw, hr => by
    simp only [wfV, Bool.and_eq_true] at hw
    simp only [Rep] at hr ⊢
    obtain ⟨p, q, rfl, h1, h2⟩ := hr
    exact ⟨p, q, rfl, repL_same h a p hw.1 h1, repL_same h b q hw.2 h2⟩
theorem repL_same {w : World} {E E' : Env} (h : ∀ b, E.lab b = .imm → E'.lab b = .imm) : (xs : List V) → (vs : List Value) → wfL 0 xs = true → RepL w E xs vs → RepL w E' xs vs
  | [], _, _, hr => hr
  | x :: xs, vs, hw, hr => by
    simp only [wfL, Bool.and_eq_true] at hw
    simp only [RepL] at hr ⊢
    obtain ⟨v, vs', rfl, h1, h2⟩ := hr
    exact ⟨v, vs', rfl, rep_same h x v hw.1 h1, repL_same h xs vs' hw.2 h2⟩
end

mutual
theorem Rep.subM {w : World} {E : Env} {ms : FM} {os ob : List (Option VObj)} (hF : FMok w E ms os ob) {x y : V} {v : Value} (hs : SubM ms x y) (h : Rep w E x v) : Rep w (E.named ms os) y v := by
  have hlt : ∀ {k j : Nat}, ms.ms[k]? = some (some j) → (E.named ms os).dom k := fun h => getElem?_lt h
  cases hs with
  | same _ hw => exact rep_same (fun b => named_imm) x v hw h
  | junk => trivial
  | nil sz =>
    simp only [Rep] at h ⊢; subst h
    exact ⟨none, 0, [], rfl, Nat.le_refl _, by simp [RepFlat], Ones.nil, by simp⟩
  | sl hs => exact rep_same (fun b => named_imm) _ v rfl (Rep.sub (.sl hs) h)
  | agg hs =>
    simp only [Rep] at h ⊢; obtain ⟨vs, rfl, h⟩ := h
    exact ⟨vs, rfl, RepL.subM hF hs h⟩
  | tup hs =>
    simp only [Rep] at h ⊢; obtain ⟨vs, rfl, h⟩ := h
    exact ⟨vs, rfl, RepL.subM hF hs h⟩
  | fn h1 h2 =>
    simp only [Rep] at h ⊢; obtain ⟨p, q, rfl, g1, g2⟩ := h
    exact ⟨p, q, rfl, RepL.subM hF h1 g1, RepL.subM hF h2 g2⟩
  | ref hk =>
    simp only [Rep] at h ⊢
    obtain ⟨g1, g2, g3, rfl⟩ := h
    exact ⟨hlt hk, by simpa [Env.named, hk] using g2, by simpa [Env.named, hk] using g3, by simp [VL.aval, Env.named, hk]⟩
  | nref hk =>
    simp only [Rep] at h ⊢
    subst h
    exact ⟨getElem?_lt hk, by simp [Env.named, hk], by simp [Env.named, hk], by simp [VL.aval, Env.named, hk]⟩
  | ptr hk =>
    simp only [Rep] at h ⊢
    obtain ⟨g1, rfl⟩ := h
    exact ⟨hlt hk, by simp [Env.named, hk]⟩
  | eptr hk =>
    simp only [Rep] at h ⊢
    obtain ⟨g1, g2, rfl⟩ := h
    exact ⟨hlt hk, by simpa [Env.named, hk] using g2, by simp [Env.named, hk]⟩
  | mapr hk =>
    simp only [Rep] at h ⊢
    obtain ⟨g1, rfl⟩ := h
    exact ⟨hlt hk, by simp [Env.named, hk]⟩
  | @lent k n sz rows rows' hz hn hr =>
    subst hr
    obtain ⟨e, ho⟩ := hF.at_ _ _ _ hz
    simp only [Rep] at h ⊢
    obtain ⟨hk, hnc, hnil, rfl⟩ := h
    obtain ⟨vs, q1, q2, q3⟩ := objRows_rep hF.rep hk (sz := sz) (rows := rows) (by simp [objRows, ho])
    have hlen : (rows.take n).length = n := by simp; omega
    refine ⟨_, _, vs.take (n * sz), by rw [aval, hlen], by rw [hlen]; exact hnc, imm_flat (fun b => named_imm) (q1.take n), q3.take _, ?_⟩
    rcases q2 with q2 | ⟨q2, q4⟩
    · left; rw [q2]; simp
    · by_cases hz' : rows.take n = []
      · exact .inl hz'
      · right
        have hlab : E.lab (E.blk k) = .obj k := (hF.rep k _ hk ho).2.2.1 q2
        refine ⟨E.blk k, 0, by rw [q2]; rfl, named_fz hlab (by rw [hz]; rfl) (hF.gone _ _ _ hz), ?_, q4.take _⟩
        have := hF.rep k _ hk ho
        simp only [ObjRep] at this
        obtain ⟨_, _, _, vs', hown, _⟩ := this
        rcases hown.2 with ⟨hav, _⟩ | ⟨g, c, cur, hav, _, hh, _⟩
        · simp [aval, q2] at hav
        · simp [aval, q2] at hav
          rw [hav.1]; exact block_lt hh
theorem RepL.subM {w : World} {E : Env} {ms : FM} {os ob : List (Option VObj)} (hF : FMok w E ms os ob) {xs ys : List V} {vs : List Value} (hs : SubML ms xs ys) (h : RepL w E xs vs) : RepL w (E.named ms os) ys vs := by
  cases hs with
  | nil => exact h
  | cons h1 h2 =>
    simp only [RepL] at h ⊢
    obtain ⟨v, vs', rfl, g1, g2⟩ := h
    exact ⟨v, vs', rfl, Rep.subM hF h1 g1, RepL.subM hF h2 g2⟩
end

theorem ObjRep.named {w : World} {E : Env} {ms : FM} {os ob : List (Option VObj)} (hF : FMok w E ms os ob) (hu : (fgU ms.ms os).Nodup) {k j : Nat} {o o' : VObj} (h1 : ms.ms[k]? = some (some j)) (h2 : os[k]? = some (some o)) (hs : ObjM ms o' o) (h : ObjRep w E j o') : ObjRep w (E.named ms os) k o := by
  have hb : (E.named ms os).blk k = E.blk j := by simp [Env.named, h1]
  have hc : (E.named ms os).cap k = E.cap j := by simp [Env.named, h1]
  have hn : (E.named ms os).nil k = E.nil j := by simp [Env.named, h1]
  cases hs with
  | box hs =>
    simp only [ObjRep, hb] at h ⊢
    obtain ⟨g1, c, e, g2, g3⟩ := h
    exact ⟨named_obj hu h1 h2 g1, c, e, g2, RepL.subM hF hs g3⟩
  | arr hs =>
    have ha : ∀ n, VL.aval (E.named ms os) k n = VL.aval E j n := fun n => by simp only [VL.aval, hb, hc, hn]
    simp only [ObjRep, hb, hc, hn, ha] at h ⊢
    rw [← hs.len]
    obtain ⟨g1, g2, g3, vs, g4, g5, g6⟩ := h
    exact ⟨g1, g2, fun q => named_obj hu h1 h2 (g3 q), vs, g4, imm_flat (fun b => named_imm) (RepFlat.sub hs g5), g6⟩
  | fro =>
    simp only [ObjRep, hb, hc, hn] at h ⊢
    obtain ⟨g1, g2, vs, g4, g5, g6⟩ := h
    refine ⟨g1, g2, vs, imm_flat (fun b => named_imm) g4, g5, ?_⟩
    rcases g6 with g6 | ⟨q1, q2, q3⟩
    · exact .inl g6
    · exact .inr ⟨q1, named_imm q2, q3⟩

theorem lookup_mem {t : Nat} {v : V} : ∀ {l : List (Nat × V)}, l.lookup t = some v → (t, v) ∈ l
  | [], h => by simp at h
  | (u, y) :: l, h => by
    simp only [List.lookup] at h
    split at h
    · rename_i he
      have : t = u := by simpa using he
      subst this
      simp at h; subst h; simp
    · exact List.mem_cons_of_mem _ (lookup_mem h)

theorem Rel.forget {w0 w : World} {E0 E : Env} {nt : Nat} {s s1 : St} {a : Act} (hr : Rel w0 E0 nt s a w E) (hf : s.fg s1) : ∃ E', Rel w0 E0 nt s1 a w E' := by
  obtain ⟨ms, hb, hpre, hlt, hu', f1, f2⟩ := hf
  have hu := nodupB_spec hu'
  obtain ⟨hlen, f3⟩ := fgO_get f2
  have hbase : ∀ k, E0.dom k → ms[k]? = some (some k) := fun k hk => by
    have := fgB_get hpre k (hr.base k hk)
    simpa using this
  have hF : FMok w E ⟨ms, s.frz (fgU ms s1.ob)⟩ s1.ob s.ob := ⟨fun k o _ h => hr.objs k o h, fun k sz rows h => (St.frz_spec h).2, fun k sz rows h q o h1 h2 => (St.frz_spec h).1 (fgU_mem h1 h2)⟩
  refine ⟨E.named ⟨ms, s.frz (fgU ms s1.ob)⟩ s1.ob, hr.defers, hr.size, ?_, fun k => by show k < ms.length ↔ _; rw [hlen], ?_, fun b hb' => named_imm (hr.fresh b hb'), ?_, fun k hk => by rw [hb]; exact hr.base k hk⟩
  · intro t
    cases hl : s1.tm.lookup t with
    | none =>
      have : s1.get t = .junk := by simp [St.get, hl]
      rw [this]; trivial
    | some v =>
      have h1 : s1.get t = v := by simp [St.get, hl]
      rw [h1]
      exact Rep.subM hF (fgT_get f1 _ (lookup_mem hl)) (hr.tmps t)
  · intro k o hk
    rcases f3 k o hk with ⟨j, o', h1, h2, h3⟩ | ⟨h1, e, sz, rfl⟩
    · exact ObjRep.named hF hu h1 hk h3 (hr.objs j o' h2)
    · simp only [ObjRep]
      refine ⟨by simp [Env.named, h1], by simp, by simp [Env.named, h1], [], ?_, by simp [RepFlat], Ones.nil⟩
      have ha : VL.aval (E.named ⟨ms, s.frz (fgU ms s1.ob)⟩ s1.ob) k 0 = .slice none 0 0 := by simp [VL.aval, Env.named, h1]
      simpa [ha] using World.ownsRow_nil w 0 e sz
  · have hx := hr.ext
    refine ⟨hx.os, hx.tape, hx.output, hx.size, fun b hb' hl => ?_, fun b hb' hl => ?_, fun k hk => ?_, fun k hk => ?_, fun k hk => ?_, fun k hk => ?_⟩
    · obtain ⟨q1, q2⟩ := hx.imm b hb' hl
      exact ⟨named_imm q1, q2⟩
    · obtain ⟨q1, q2⟩ := hx.ext b hb' hl
      exact ⟨named_ext q1, q2⟩
    · exact getElem?_lt (hbase k hk)
    · simp only [Env.named, hbase k hk]; exact hx.blk k hk
    · simp only [Env.named, hbase k hk]; exact hx.cap k hk
    · simp only [Env.named, hbase k hk]; exact hx.nil k hk
end Go.Proofs.VL

namespace Go.Proofs.VL
open Go Go.RowKit
set_option linter.unusedSimpArgs false
set_option linter.unusedVariables false

/-- An operation of a region that draws its order. -/
def VO.stepD (P : Program) (fl wc : Bool) (o : VO) (ρ : X → V) (ob : List (Option VObj)) (K : V → List (Option VObj) → Prop) : Prop :=
  match o with
  | .call f args => match ρ f with
    | .fn g first caps => match wc with
      | true => match fl with
        | true => ∃ r ob', VCall P g (first ++ args.map ρ ++ caps) ob r ob' ∧ ob.length ≤ ob'.length ∧ K r ob'
        | false => (∃ r, CallR P ob g (first ++ args.map ρ ++ caps) r ∧ K r ob) ∨ ∃ r ob' ms args0 obs obs' r0, FCall P ob g (first ++ args.map ρ ++ caps) r ob' ms args0 obs obs' r0 ∧ K r ob'
      | false => ∃ r, CallR P ob g (first ++ args.map ρ ++ caps) r ∧ K r ob
    | _ => False
  | .store sz a x => match VO.evW (.store sz a x) ρ ob with | some (v, ob') => K v ob' | none => False
  | .app e sz b x y => match VO.evW (.app e sz b x y) ρ ob with | some (v, ob') => K v ob' | none => False
  | .apps e x y => match VO.evW (.apps e x y) ρ ob with | some (v, ob') => K v ob' | none => False
  | o => match o.evR ρ ob with | some (v, news) => K v (ob ++ news.map some) | none => False

def VOper.stepD (P : Program) (fl : Bool) (o : VOper) (wc : Bool) (s : St) (K : St → Prop) : Prop :=
  match o.guard with
  | none => o.op.stepD P fl wc s.x s.ob fun v ob' => K (({ s with ob := ob' } : St).putO o.dst v)
  | some (t, want) => match s.get t with
    | .bool b => if b = want then o.op.stepD P fl wc s.x s.ob fun v ob' => K (({ s with ob := ob' } : St).putO o.dst v) else K (s.putO o.dst (.tup []))
    | .tup [] => K (s.putO o.dst (.tup []))
    | _ => False

def dvops (P : Program) (fl : Bool) : List VOper → List Bool → St → (St → Prop) → Prop
  | [], _, s, K => K s
  | o :: os, wc, s, K => o.stepD P fl (wc.headD false) s fun s' => dvops P fl os wc.tail s' K

theorem dropOb_len (ob : List (Option VObj)) (k : Option Nat) : (dropOb ob k).length = ob.length := by
  cases k <;> simp [dropOb]

theorem evW_len {o : VO} {ρ : X → V} {ob ob' : List (Option VObj)} {r : V} (h : o.evW ρ ob = some (r, ob')) : ob.length ≤ ob'.length := by
  cases o <;> simp only [VO.evW, reduceCtorEq] at h
  case store =>
    repeat' split at h
    all_goals first | (cases h; done) | (simp only [Option.some.injEq, Prod.mk.injEq] at h; rw [← h.2]; simp)
  all_goals
    repeat' split at h
    all_goals first | (cases h; done) | (simp only [Option.some.injEq, Prod.mk.injEq] at h; rw [← h.2]; simp [dropOb_len])

theorem stepD_step1 {P : Program} {o : VOper} {fl wc : Bool} {s : St} {K : St → Prop} (h : o.stepD P fl wc s K) : ∃ s', Step1 P fl wc o s s' ∧ K s' := by
  have core : ∀ (g : o.guard = none ∨ ∃ t want, o.guard = some (t, want) ∧ s.get t = .bool want), o.op.stepD P fl wc s.x s.ob (fun v ob' => K (({ s with ob := ob' } : St).putO o.dst v)) → ∃ s', Step1 P fl wc o s s' ∧ K s' := by
    intro g h
    have wr : o.op.isW wc = true → ∀ v ob', o.op.evW s.x s.ob = some (v, ob') → K (({ s with ob := ob' } : St).putO o.dst v) → ∃ s', Step1 P fl wc o s s' ∧ K s' :=
      fun hw v ob' he hk => ⟨_, .write v ob' g hw he (evW_len he), hk⟩
    have rd : o.op.isW wc = false → (∀ f as, o.op ≠ .call f as) → ∀ v news, o.op.evR s.x s.ob = some (v, news) → K (({ s with ob := s.ob ++ news.map some } : St).putO o.dst v) → ∃ s', Step1 P fl wc o s s' ∧ K s' :=
      fun hw hnc v news he hk => ⟨_, .read v news g hw he hnc, hk⟩
    unfold VO.stepD at h
    split at h
    · rename_i f args hop
      split at h <;> try (exact h.elim)
      rename_i g' first caps hg
      cases wc with
      | true =>
        cases fl with
        | true =>
          obtain ⟨r, ob', h1, h2, h3⟩ := h
          exact ⟨_, .callW f args g' first caps r ob' g ⟨rfl, rfl⟩ hop hg h1 h2, h3⟩
        | false =>
          rcases h with ⟨r, h1, h3⟩ | ⟨r, ob', ms, args0, obs, obs', r0, h1, h3⟩
          · exact ⟨_, .callR f args g' first caps r g hop hg h1, h3⟩
          · exact ⟨_, .callF f args g' first caps r ob' ms args0 obs obs' r0 g rfl hop hg h1, h3⟩
      | false =>
        obtain ⟨r, h1, h3⟩ := h
        exact ⟨_, .callR f args g' first caps r g hop hg h1, h3⟩
    · rename_i hop
      split at h <;> try (exact h.elim)
      exact wr (by rw [hop]; rfl) _ _ (by rw [hop]; assumption) h
    · rename_i hop
      split at h <;> try (exact h.elim)
      exact wr (by rw [hop]; rfl) _ _ (by rw [hop]; assumption) h
    · rename_i hop
      split at h <;> try (exact h.elim)
      exact wr (by rw [hop]; rfl) _ _ (by rw [hop]; assumption) h
    · rename_i h1 h2 h3 h4
      split at h <;> try (exact h.elim)
      refine rd ?_ h1 _ _ (by assumption) h
      cases hop : o.op <;> first | rfl | (exact absurd hop (h1 _ _)) | (exact absurd hop (h2 _ _ _)) | (exact absurd hop (h3 _ _ _ _ _)) | (exact absurd hop (h4 _ _ _))
  unfold VOper.stepD at h
  split at h
  · exact core (.inl ‹_›) h
  · rename_i t want hg
    split at h <;> try (exact h.elim)
    · rename_i b hb
      split at h
      · rename_i hbw
        subst hbw
        exact core (.inr ⟨t, b, hg, hb⟩) h
      · rename_i hbw
        refine ⟨_, .skip t want hg (fun w E val hr e => ?_), h⟩
        rw [hb] at hr
        simp only [Rep] at hr
        rw [hr] at e
        simp only [Value.bool.injEq] at e
        exact hbw e
    · rename_i hb
      refine ⟨_, .skip t want hg (fun w E val hr e => ?_), h⟩
      rw [hb] at hr
      simp only [Rep] at hr
      obtain ⟨vs, rfl, _⟩ := hr
      cases e

theorem dvops_chain {P : Program} {fl : Bool} {K : St → Prop} : ∀ {vs : List VOper} {wc : List Bool} {s : St}, dvops P fl vs wc s K → ∃ S : Nat → St, S 0 = s ∧ (∀ (i : Nat) v, vs[i]? = some v → Step1 P fl (wc.getD i false) v (S i) (S (i + 1))) ∧ K (S vs.length)
  | [], wc, s, h => ⟨fun _ => s, rfl, fun i v h => by simp at h, h⟩
  | o :: os, wc, s, h => by
    simp only [dvops] at h
    obtain ⟨s', h1, h2⟩ := stepD_step1 h
    obtain ⟨S, q1, q2, q3⟩ := dvops_chain h2
    refine ⟨fun i => match i with | 0 => s | i + 1 => S i, rfl, ?_, q3⟩
    intro i v hv
    cases i with
    | zero =>
      simp only [List.getElem?_cons_zero, Option.some.injEq] at hv
      subst hv
      simp only
      rw [q1]
      cases wc <;> exact h1
    | succ i =>
      have := q2 i v (by simpa using hv)
      cases wc with
      | nil => simpa using this
      | cons b wc => simpa using this

def mkWc (fo : List Nat) (vs : List VOper) (pre : List (List Nat)) : List Bool :=
  let n := vs.length
  (List.range n).map fun i => (match vs[i]? with | some v => v.op.isC && (match v.dst with | some t => fo.contains t | none => false) | none => false) || allIdx n fun j => i == j || ordered pre i j || (match vs[j]? with | some u => u.op.isP | none => true)

/-! ### code -/
inductive VC where
  | skip
  | reg (ops : List VOper)
  | dreg (ops : List VOper) (wc : List Bool)
  | dregF (ops : List VOper) (wc : List Bool) (sp : List (List X × List X))
  | chk (sp : List (List X × List X))
  | seq (a b : VC)
  | seqc (a b : VC)
  | cond (x : X) (a b : VC)
  | block (id : Nat) (c : VC)
  | loop (c : VC)
  | exit (id : Nat)
  | ret

inductive VX where
  | normal
  | exit (id : Nat)
  | ret

def vwp (P : Program) : VC → (VX → St → Prop) → St → Prop
  | .skip, Q, s => Q .normal s
  | .reg ops, Q, s => vops P ops s (Q .normal)
  | .dreg ops wc, Q, s => dvops P true ops wc s (Q .normal)
  | .dregF ops wc sp, Q, s => dvops P false ops wc s fun s' => chkS sp s' = true ∧ Q .normal s'
  | .chk sp, Q, s => chkS sp s = true ∧ Q .normal s
  | .seq a b, Q, s => vwp P a (fun e s' => match e with | .normal => vwp P b Q s' | e => Q e s') s
  | .seqc a b, Q, s => vwp P a (fun e s' => match e with | .normal => vwp P b Q s' ∨ ∃ s1, s'.fg s1 ∧ vwp P b Q s1 | e => Q e s') s
  | .cond x a b, Q, s => match s.x x with | .bool c => if c = true then vwp P a Q s else vwp P b Q s | _ => False
  | .block id c, Q, s => vwp P c (fun e s' => match e with | .exit i => if i = id then Q .normal s' else Q (.exit i) s' | e => Q e s') s
  | .loop c, Q, s => ∃ (I : Nat → St → Prop) (n : Nat), (∃ s1, s.fg s1 ∧ I n s1) ∧ ∀ n s, I n s → vwp P c (fun e s' => match e with | .normal => ∃ m s1, m < n ∧ s'.fg s1 ∧ I m s1 | e => Q e s') s
  | .exit id, Q, s => Q (.exit id) s
  | .ret, Q, s => Q .ret s

def VC.falls : VC → Bool
  | .exit _ | .ret | .loop _ => false
  | .seq a b | .seqc a b => a.falls && b.falls
  | .cond _ a b => a.falls || b.falls
  | _ => true

def VC.exits (id : Nat) : VC → Nat
  | .exit i => if i == id then 1 else 0
  | .seq a b | .seqc a b => a.exits id + b.exits id
  | .cond _ a b => a.exits id + b.exits id
  | .block _ c | .loop c => c.exits id
  | _ => 0

/-- Do several ways come out of it? -/
def VC.joins : VC → Bool
  | .cond _ a b => a.falls && b.falls
  | .block id c => decide (2 ≤ c.exits id + if c.falls then 1 else 0)
  | .seq _ b | .seqc _ b => b.joins
  | _ => false

def mkSeq (a b : VC) : VC := if a.joins then (match b with | .skip => .seq a b | _ => .seqc a b) else .seq a b

def comp (fo : List Nat) (P : Program) (nt : Nat) : Code → Option VC
  | .skip => some .skip
  | .region _ ops false => (cOpers fo P nt ops.toList ops.toList).map .reg
  | .region _ ops true => (cOpers fo P nt ops.toList ops.toList).bind fun vs =>
    let pre := mkPre ops.toList
    let wc := mkWc fo vs pre
    let ips := mkIps vs wc pre
    if P.follows .mixedOrders && dOkB ops.toList vs wc pre ips then some (match ips with | [] => .dreg vs wc | _ => .dregF vs wc (mkSp vs ips)) else none
  | .seq a b => match comp fo P nt a, comp fo P nt b with | some x, some y => some (mkSeq x y) | _, _ => none
  | .cond c a b => match cX c, comp fo P nt a, comp fo P nt b with | some c, some x, some y => some (.cond c x y) | _, _, _ => none
  | .block id c => (comp fo P nt c).map (.block id)
  | .loop c => (comp fo P nt c).map .loop
  | .exit id => some (.exit id)
  | .ret => some .ret
  | _ => none

theorem VO.step_mono {P : Program} {o : VO} {ρ : X → V} {ob : List (Option VObj)} {K K' : V → List (Option VObj) → Prop} (hk : ∀ v ob, K v ob → K' v ob) (h : o.step P ρ ob K) : o.step P ρ ob K' := by
  unfold VO.step at h ⊢
  split at h
  · split at h
    · obtain ⟨r, ob', h1, h2⟩ := h; exact ⟨r, ob', h1, hk _ _ h2⟩
    · exact h
  all_goals
    split at h
    · exact hk _ _ h
    · first | exact h.elim | exact ⟨h.1, hk _ _ h.2.1, hk _ _ h.2.2⟩

theorem vops_mono {P : Program} : ∀ {os : List VOper} {s : St} {K K' : St → Prop}, (∀ s, K s → K' s) → vops P os s K → vops P os s K'
  | [], s, K, K', hk, h => hk s h
  | o :: os, s, K, K', hk, h => by
    simp only [vops, VOper.step] at h ⊢
    split at h
    · exact VO.step_mono (fun v ob h => vops_mono hk h) h
    · split at h
      · split at h
        · rename_i hb; simp only [hb, if_true]; exact VO.step_mono (fun v ob h => vops_mono hk h) h
        · rename_i hb; simp only [hb, if_false]; exact vops_mono hk h
      · exact vops_mono hk h
      · exact h

theorem VO.stepD_mono {P : Program} {o : VO} {fl wc : Bool} {ρ : X → V} {ob : List (Option VObj)} {K K' : V → List (Option VObj) → Prop} (hk : ∀ v ob, K v ob → K' v ob) (h : o.stepD P fl wc ρ ob K) : o.stepD P fl wc ρ ob K' := by
  unfold VO.stepD at h ⊢
  split at h
  · split at h
    · cases wc
      · obtain ⟨r, h1, h2⟩ := h; exact ⟨r, h1, hk _ _ h2⟩
      · cases fl
        · rcases h with ⟨r, h1, h2⟩ | ⟨r, ob', ms, args0, obs, obs', r0, h1, h2⟩
          · exact .inl ⟨r, h1, hk _ _ h2⟩
          · exact .inr ⟨r, ob', ms, args0, obs, obs', r0, h1, hk _ _ h2⟩
        · obtain ⟨r, ob', h1, h2, h3⟩ := h; exact ⟨r, ob', h1, h2, hk _ _ h3⟩
    · exact h
  all_goals
    split at h
    · exact hk _ _ h
    · exact h.elim

theorem dvops_mono {P : Program} {fl : Bool} : ∀ {os : List VOper} {wc : List Bool} {s : St} {K K' : St → Prop}, (∀ s, K s → K' s) → dvops P fl os wc s K → dvops P fl os wc s K'
  | [], _, s, K, K', hk, h => hk s h
  | o :: os, wc, s, K, K', hk, h => by
    simp only [dvops, VOper.stepD] at h ⊢
    split at h
    · exact VO.stepD_mono (fun v ob h => dvops_mono hk h) h
    · split at h
      · split at h
        · rename_i hb; simp only [hb, if_true]; exact VO.stepD_mono (fun v ob h => dvops_mono hk h) h
        · rename_i hb; simp only [hb, if_false]; exact dvops_mono hk h
      · exact dvops_mono hk h
      · exact h

theorem vwp_mono {P : Program} : ∀ (c : VC) (Q Q' : VX → St → Prop) (s : St), (∀ e s, Q e s → Q' e s) → vwp P c Q s → vwp P c Q' s := by
  intro c
  induction c with
  | skip => intro Q Q' s hq h; exact hq _ _ h
  | exit id => intro Q Q' s hq h; exact hq _ _ h
  | ret => intro Q Q' s hq h; exact hq _ _ h
  | reg ops =>
    intro Q Q' s hq h
    exact vops_mono (fun s h => hq _ _ h) h
  | dreg ops wc =>
    intro Q Q' s hq h
    exact dvops_mono (fun s h => hq _ _ h) h
  | dregF ops wc sp =>
    intro Q Q' s hq h
    exact dvops_mono (fun s h => ⟨h.1, hq _ _ h.2⟩) h
  | chk sp =>
    intro Q Q' s hq h
    exact ⟨h.1, hq _ _ h.2⟩
  | seq a b iha ihb =>
    intro Q Q' s hq h
    refine iha _ _ s ?_ h
    intro e s' he
    cases e
    · exact ihb _ _ s' hq he
    · exact hq _ _ he
    · exact hq _ _ he
  | seqc a b iha ihb =>
    intro Q Q' s hq h
    refine iha _ _ s ?_ h
    intro e s' he
    cases e
    · rcases he with he | ⟨s1, h1, he⟩
      · exact .inl (ihb _ _ s' hq he)
      · exact .inr ⟨s1, h1, ihb _ _ s1 hq he⟩
    · exact hq _ _ he
    · exact hq _ _ he
  | cond x a b iha ihb =>
    intro Q Q' s hq h
    simp only [vwp] at h ⊢
    split at h
    · split at h
      · rename_i hc; rw [if_pos hc]; exact iha _ _ s hq h
      · rename_i hc; rw [if_neg hc]; exact ihb _ _ s hq h
    · exact h
  | block id c ih =>
    intro Q Q' s hq h
    refine ih _ _ s ?_ h
    intro e s' he
    cases e
    · exact hq _ _ he
    · simp only at he ⊢
      split
      · rename_i hi; rw [if_pos hi] at he; exact hq _ _ he
      · rename_i hi; rw [if_neg hi] at he; exact hq _ _ he
    · exact hq _ _ he
  | loop c ih =>
    intro Q Q' s hq h
    obtain ⟨I, n, h0, h1⟩ := h
    refine ⟨I, n, h0, fun n s hI => ih _ _ s ?_ (h1 n s hI)⟩
    intro e s' he
    cases e
    · exact he
    · exact hq _ _ he
    · exact hq _ _ he

/-- The real ends of a piece of code, out of the symbolic ones. -/
def lift (w0 : World) (E0 : Env) (nt : Nat) (Q : VX → St → Prop) : Exit → Act → World → Prop
  | .normal, a, w => Good w0 E0 nt (Q .normal) a w
  | .exit id, a, w => Good w0 E0 nt (Q (.exit id)) a w
  | .ret, a, w => Good w0 E0 nt (Q .ret) a w
  | _, _, _ => False

theorem vwp_sound {fo : List Nat} {P : Program} {nt : Nat} {w0 : World} {E0 : Env} : ∀ (c : Code) (vc : VC), comp fo P nt c = some vc → ∀ (Q : VX → St → Prop) (s : St) (a : Act) (w : World) (E : Env), Rel w0 E0 nt s a w E → vwp P vc Q s → c.wp P (lift w0 E0 nt Q) a w
  | .skip, vc, hc, Q, s, a, w, E, hr, h => by
    simp only [comp, Option.some.injEq] at hc; subst hc
    exact wp_skip ⟨s, E, h, hr⟩
  | .exit id, vc, hc, Q, s, a, w, E, hr, h => by
    simp only [comp, Option.some.injEq] at hc; subst hc
    exact wp_exit ⟨s, E, h, hr⟩
  | .ret, vc, hc, Q, s, a, w, E, hr, h => by
    simp only [comp, Option.some.injEq] at hc; subst hc
    exact wp_ret ⟨s, E, h, hr⟩
  | .region id ops draw, vc, hc, Q, s, a, w, E, hr, h => by
    cases draw with
    | false =>
      simp only [comp] at hc
      obtain ⟨vs, hvs, rfl⟩ := opt_bind hc
      exact wp_region_list (vops_sound (fun a w hg => hg) _ _ hvs s a w E hr h)
    | true =>
      simp only [comp] at hc
      obtain ⟨vs, hvs, hc⟩ := Option.bind_eq_some_iff.1 hc
      split at hc <;> simp only [reduceCtorEq, Option.some.injEq] at hc
      rename_i hok
      subst hc
      simp only [Bool.and_eq_true] at hok
      split at h
      · rename_i he
        obtain ⟨S, h1, h2, h3⟩ := dvops_chain h
        rw [he] at hok
        exact dreg_sound hok.1 (dOk_of hok.2) hvs h2 (fun a w E hr => ⟨_, E, h3, hr⟩) (fun _ => rfl) rfl (h1 ▸ hr)
      · obtain ⟨S, h1, h2, h3⟩ := dvops_chain h
        exact dreg_sound hok.1 (dOk_of hok.2) hvs h2 (fun a w E hr => ⟨_, E, h3.2, hr⟩) (fun e => by cases e) h3.1 (h1 ▸ hr)
  | .seq x y, vc, hc, Q, s, a, w, E, hr, h => by
    simp only [comp] at hc
    split at hc <;> simp only [reduceCtorEq, Option.some.injEq] at hc
    rename_i vx vy hx hy
    have h' : vwp P (.seqc vx vy) Q s := by
      subst hc
      unfold mkSeq at h
      have up : vwp P (.seq vx vy) Q s → vwp P (.seqc vx vy) Q s := by
        intro h
        simp only [vwp] at h ⊢
        refine vwp_mono vx _ _ s (fun e s' he => ?_) h
        cases e
        · exact .inl he
        · exact he
        · exact he
      split at h
      · split at h
        · exact up h
        · exact h
      · exact up h
    simp only [vwp] at h'
    refine wp_seq (wp_mono (vwp_sound x vx hx _ s a w E hr h') ?_)
    intro e a' w' hl
    cases e <;> simp only [lift, Exit.then] at hl ⊢
    · obtain ⟨s', E', hk, hr'⟩ := hl
      rcases hk with hk | ⟨s1, hfg, hk⟩
      · exact vwp_sound y vy hy Q s' a' w' E' hr' hk
      · obtain ⟨E1, hr1⟩ := hr'.forget hfg
        exact vwp_sound y vy hy Q s1 a' w' E1 hr1 hk
    all_goals exact hl
  | .cond c x y, vc, hc, Q, s, a, w, E, hr, h => by
    simp only [comp] at hc
    split at hc <;> simp only [reduceCtorEq, Option.some.injEq] at hc
    rename_i X vx vy hX hx hy
    subst hc
    simp only [vwp] at h
    split at h <;> try (exact h.elim)
    rename_i b hb
    have hv := hr.x hX
    rw [hb] at hv
    simp only [Rep] at hv
    refine wp_cond hv ?_
    cases b
    · simp only [Bool.false_eq_true, if_false] at h ⊢
      exact vwp_sound y vy hy Q s a w E hr h
    · simp only [if_true] at h ⊢
      exact vwp_sound x vx hx Q s a w E hr h
  | .block id c, vc, hc, Q, s, a, w, E, hr, h => by
    simp only [comp] at hc
    obtain ⟨v, hv, rfl⟩ := opt_bind hc
    simp only [vwp] at h
    refine wp_block (wp_mono (vwp_sound c v hv _ s a w E hr h) ?_)
    intro e a' w' hl
    cases e with
    | exit i =>
      simp only [lift, Exit.inBlock] at hl ⊢
      split
      · rename_i hi
        simp only [hi, if_true] at hl
        exact hl
      · rename_i hi
        simp only [hi, if_false] at hl
        exact hl
    | _ => exact hl
  | .loop c, vc, hc, Q, s, a, w, E, hr, h => by
    simp only [comp] at hc
    obtain ⟨v, hv, rfl⟩ := opt_bind hc
    simp only [vwp] at h
    obtain ⟨I, n, ⟨s1, hfg, h0⟩, hround⟩ := h
    obtain ⟨E1, hr1⟩ := hr.forget hfg
    -- by the measure
    have key : ∀ n s a w E, I n s → Rel w0 E0 nt s a w E → (Code.loop c).wp P (lift w0 E0 nt Q) a w := by
      intro n0 s0 a0 w0' E0' hI0 hr0
      refine wp_loop_ghost (fun m a w => ∃ s E, I m s ∧ Rel w0 E0 nt s a w E) n0 ⟨s0, E0', hI0, hr0⟩ ?_
      rintro m a w ⟨s, E, hI, hr⟩
      refine wp_mono (vwp_sound c v hv _ s a w E hr (hround m s hI)) ?_
      intro e a' w' hl
      cases e <;> simp only [lift, Exit.then] at hl ⊢
      · obtain ⟨s', E', ⟨m', s2, hm, hfg', hI'⟩, hr'⟩ := hl
        obtain ⟨E2, hr2⟩ := hr'.forget hfg'
        exact ⟨m', hm, s2, E2, hI', hr2⟩
      all_goals exact hl
    exact key n s1 a w E1 h0 hr1
  | .rangeFunc _ _ _ _, vc, hc, Q, s, a, w, E, hr, h => by simp [comp] at hc
  | .scope _, vc, hc, Q, s, a, w, E, hr, h => by simp [comp] at hc
  | .label _, vc, hc, Q, s, a, w, E, hr, h => by simp [comp] at hc
  | .goto _, vc, hc, Q, s, a, w, E, hr, h => by simp [comp] at hc
  | .refuse _, vc, hc, Q, s, a, w, E, hr, h => by simp [comp] at hc
end Go.Proofs.VL

namespace Go.Proofs.VL
open Go Go.RowKit
set_option linter.unusedSimpArgs false
set_option linter.unusedVariables false

inductive RV where
  | t (n : Nat)
  | cell (t : Nat) (agg : Bool) (sz : Nat)

def cRes (P : Program) : List ResultVar → Option (List RV)
  | [] => some []
  | .tmp t :: r => (cRes P r).map (.t t :: ·)
  | .cell t ty :: r => match szB P ty, cRes P r with | some s, some l => some (.cell t (aggB P ty) s :: l) | _, _ => none

def RV.get (s : St) : RV → Option V
  | .t n => some (s.get n)
  | .cell c agg sz => (loadFrom s.ob (s.get c)).bind (loadV agg sz)

def resL (s : St) : List RV → Option (List V)
  | [] => some []
  | r :: rs => match r.get s, resL s rs with | some v, some vs => some (v :: vs) | _, _ => none

def resV (s : St) (rs : List RV) : Option V :=
  match resL s rs with
  | some [v] => some v
  | some l => some (.tup l)
  | none => none

def resFn (tmps : Array Value) : ResultVar → Sem Value
  | .tmp t => pure (tmps.getD t undef)
  | .cell c t => do loadVar t (← asAddr (tmps.getD c undef))

theorem results_eq (fn : Func) (tmps : Array Value) : results fn tmps = (do let vs ← fn.results.mapM (resFn tmps); pure (if h : vs.size = 1 then vs[0] else .tuple vs) : Sem Value) := by
  unfold results
  congr

theorem res_sound {P : Program} {fn : Func} {rs : List RV} (hc : cRes P fn.results.toList = some rs) {w0 w : World} {E0 E : Env} {nt : Nat} {s : St} {a : Act} (hr : Rel w0 E0 nt s a w E) {x : V} (h : resV s rs = some x) :
    ∃ v, (results fn a.tmps).run P w = .ok v w ∧ Rep w E x v := by
  have list : ∀ (rl : List ResultVar) (rs : List RV) (vs : List V), cRes P rl = some rs → resL s rs = some vs → ∃ us, (rl.mapM (resFn a.tmps)).run P w = .ok us w ∧ RepL w E vs us := by
    intro rl
    induction rl with
    | nil => intro rs vs h1 h2; simp [cRes] at h1; subst h1; simp [resL] at h2; subst h2; exact ⟨[], by simp, rfl⟩
    | cons q rl ih =>
      intro rs vs h1 h2
      cases q with
      | tmp t =>
        simp only [cRes] at h1
        obtain ⟨rs', h3, rfl⟩ := opt_bind h1
        simp only [resL, RV.get] at h2
        split at h2 <;> simp only [reduceCtorEq, Option.some.injEq] at h2
        rename_i v vs' h4 h5
        subst h2
        simp only [Option.some.injEq] at h4
        obtain ⟨us, g1, g2⟩ := ih rs' vs' h3 h5
        exact ⟨a.tmps.getD t undef :: us, by simp only [List.mapM_cons, resFn, Sem.run_bind, Sem.run_pure, Result.andThen_ok, g1], _, us, rfl, by rw [← h4]; exact hr.tmps t, g2⟩
      | cell c t =>
        simp only [cRes] at h1
        split at h1 <;> simp only [reduceCtorEq, Option.some.injEq] at h1
        rename_i sz rs' h3 h4
        subst h1
        simp only [resL, RV.get] at h2
        split at h2 <;> simp only [reduceCtorEq, Option.some.injEq] at h2
        rename_i v vs' h5 h6
        subst h2
        obtain ⟨cs, h7, h8⟩ := Option.bind_eq_some_iff.1 h5
        obtain ⟨b, off, us0, q1, q2, q3⟩ := loadFrom_rep (fun k o _ => hr.objs k o) (hr.tmps c) h7
        obtain ⟨u, g3, g4⟩ := loadVar_run (P := P) (w := w) h3 q2 q3 h8
        obtain ⟨us, g1, g2⟩ := ih rs' vs' h4 h6
        refine ⟨u :: us, ?_, _, us, rfl, g4, g2⟩
        have ha : (asAddr (a.tmps.getD c undef)).run P w = .ok ⟨b, off, none⟩ w := by rw [q1]; rfl
        simp only [List.mapM_cons, resFn, Sem.run_bind, ha, Sem.run_pure, Result.andThen_ok, g3, g1]
  unfold resV at h
  split at h <;> simp only [reduceCtorEq, Option.some.injEq] at h
  · rename_i v hl
    subst h
    obtain ⟨us, g1, g2⟩ := list _ _ _ hc hl
    simp only [RepL] at g2
    obtain ⟨u, us', rfl, g3, rfl⟩ := g2
    refine ⟨u, ?_, g3⟩
    rw [results_eq, Array.mapM_eq_mapM_toList]
    simp only [Sem.run_bind, Sem.run_map, g1, Result.andThen_ok, Sem.run_pure]
    rfl
  · rename_i l hne hl
    subst h
    obtain ⟨us, g1, g2⟩ := list _ _ _ hc hl
    have hul := g2.length
    have hne1 : ¬ us.length = 1 := by
      intro he
      rw [he] at hul
      cases l with
      | nil => simp at hul
      | cons v l =>
        cases l with
        | nil => exact hne v rfl
        | cons _ _ => simp at hul
    refine ⟨.tuple ⟨us⟩, ?_, us, rfl, g2⟩
    rw [results_eq, Array.mapM_eq_mapM_toList]
    simp only [Sem.run_bind, Sem.run_map, g1, Result.andThen_ok, Sem.run_pure]
    have : ¬ (List.toArray us).size = 1 := by simpa using hne1
    rw [dif_neg this]

def St.init (args : List V) (ob : List (Option VObj)) : St := { tm := args.zipIdx.map fun p => (p.2, p.1), ob := ob, base := ob.length }

theorem init_get {args : List V} {ob : List (Option VObj)} (t : Nat) : (St.init args ob).get t = (args[t]?).getD .junk := by
  unfold St.get St.init
  simp only
  have : ∀ (l : List V) (k : Nat), (List.lookup t ((l.zipIdx k).map fun p => (p.2, p.1))) = if k ≤ t then l[t - k]? else none := by
    intro l
    induction l with
    | nil => intro k; simp
    | cons x l ih =>
      intro k
      simp only [List.zipIdx_cons, List.map_cons, List.lookup]
      by_cases h : t = k
      · subst h; simp
      · have hb : (t == k) = false := by simpa using h
        rw [hb]
        simp only
        rw [ih (k + 1)]
        by_cases hle : k ≤ t
        · rw [if_pos hle, if_pos (by omega)]
          have : t - k = (t - (k + 1)) + 1 := by omega
          rw [this]; simp
        · rw [if_neg hle, if_neg (by omega)]
  rw [this args 0]
  simp

theorem Rel.init {w : World} {E : Env} {args : List V} {vs : List Value} {ob : List (Option VObj)} {nt : Nat} (hn : args.length ≤ nt) (hdom : ∀ k, E.dom k ↔ k < ob.length) (hob : ∀ k o, ob[k]? = some (some o) → ObjRep w E k o) (hf : ∀ b, w.heap.size ≤ b → E.lab b = .imm) (h : RepL w E args vs) :
    Rel w E nt (St.init args ob) { tmps := (⟨vs⟩ : Array Value) ++ Array.replicate (nt - (⟨vs⟩ : Array Value).size) undef, defers := [] } w E where
  defers := rfl
  size := by have := h.length; simp; omega
  tmps := by
    intro t
    rw [init_get]
    cases hx : args[t]? with
    | none => trivial
    | some x =>
      obtain ⟨v, h1, h2⟩ := h.get hx
      simp only [Option.getD_some]
      have : ((⟨vs⟩ : Array Value) ++ Array.replicate (nt - (⟨vs⟩ : Array Value).size) undef).getD t undef = v := by
        rw [Array.getD_eq_getD_getElem?, Array.getElem?_append_left]
        · simp [h1]
        · rcases Nat.lt_or_ge t vs.length with h' | h'
          · simpa using h'
          · rw [List.getElem?_eq_none h'] at h1; cases h1
      rw [this]; exact h2
  dom := hdom
  objs := hob
  fresh := hf
  ext := Ext.refl w E
  base := fun k hk => (hdom k).1 hk

/-- The end of a function whose result is a value. -/
def RetV (rs : List RV) (r : V) : VX → St → Prop
  | .exit _, _ => False
  | _, s => ∃ x y, resV s rs = some x ∧ lendV s.ob x = some y ∧ Sub y r

structure FnOkF (fo : List Nat) (P : Program) (f : FuncId) (fn : Func) (vc : VC) (rs : List RV) : Prop where
  func : P.funcs[f]? = some fn
  body : fn.body.bind (comp fo P fn.ntmps) = some vc
  res : cRes P fn.results.toList = some rs
  name : (fn.name == "runtime.NumGoroutine") = false

abbrev FnOk (P : Program) (f : FuncId) (fn : Func) (vc : VC) (rs : List RV) : Prop := FnOkF [] P f fn vc rs

theorem FnOkF.enter {fo : List Nat} {P : Program} {f : FuncId} {fn : Func} {vc : VC} {rs : List RV} (h : FnOkF fo P f fn vc rs) : Enter P f := by
  refine ⟨fn, h.func, ?_, h.name⟩
  have := h.body
  cases hb : fn.body with
  | none => rw [hb] at this; cases this
  | some c => rfl

/-- A function of values. -/
theorem VFn.intro {fo : List Nat} {P : Program} {f : FuncId} {fn : Func} {vc : VC} {rs : List RV} (hok : FnOkF fo P f fn vc rs) {args : List V} {r : V} (hn : args.length ≤ fn.ntmps) (h : vwp P vc (RetV rs r) (St.init args [])) : VFn P f args r := by
  refine ⟨hok.enter, fun w E vs hdom hob hf hr => ?_⟩
  obtain ⟨c, hb, hc⟩ := Option.bind_eq_some_iff.1 hok.body
  refine calls_of_wp hok.func hb ?_
  refine wp_mono (vwp_sound c vc hc _ _ _ _ _ (Rel.init hn hdom hob hf hr) h) ?_
  intro e a w' hl
  have fin : (∃ s E', (∃ x y, resV s rs = some x ∧ lendV s.ob x = some y ∧ Sub y r) ∧ Rel w E fn.ntmps s a w' E') → a.defers = [] ∧ ∃ v, (results fn a.tmps).run P w' = .ok v w' ∧ ∃ v_1 E', Ending.returned v = .returned v_1 ∧ WRes E w r [] v_1 w' E' := by
    rintro ⟨s, E', ⟨x, y, hx, hlend, hsub⟩, hrel⟩
    obtain ⟨v, h1, h2⟩ := res_sound hok.res hrel hx
    refine ⟨hrel.defers, v, h1, v, E'.lend s.ob, rfl, ?_⟩
    have hrep := Rep.sub hsub (lend_rep (fun k o _ => hrel.objs k o) x y v hlend h2)
    refine ⟨?_, fun k => by simp [Env.lend], hrep, fun k o hk => by simp at hk, fun b hb => lend_imm.2 (.inl (hrel.fresh b hb))⟩
    have hx := hrel.ext
    have hd0 : ∀ k, ¬ E.dom k := fun k hk => by have := (hdom k).1 hk; simp at this
    refine ⟨hx.os, hx.tape, hx.output, hx.size, ?_, ?_, fun k hk => absurd hk (hd0 k), fun k hk => absurd hk (hd0 k), fun k hk => absurd hk (hd0 k), fun k hk => absurd hk (hd0 k)⟩
    · intro b hb hl
      obtain ⟨q1, q2⟩ := hx.imm b hb hl
      exact ⟨lend_imm.2 (.inl q1), q2⟩
    · intro b hb hl
      obtain ⟨q1, q2⟩ := hx.ext b hb hl
      refine ⟨?_, q2⟩
      rcases lend_or (E := E') (ob := s.ob) b with h3 | h3
      · rcases lend_imm.1 h3 with h4 | ⟨k, o, hk, ho, hnk, hbk⟩
        · rw [q1] at h4; cases h4
        · have := lend_lab (hrel.objs k _ ho) hnk
          rw [hbk, q1] at this; cases this
      · exact h3
  cases e with
  | normal => exact fin hl
  | ret => exact fin hl
  | exit id => obtain ⟨s, E', hk, _⟩ := hl; exact hk.elim
  | goto l => exact hl.elim
  | panic ch => exact hl.elim
  | outgrown => exact hl.elim

/-- A loop, by a state for each value of what goes on. -/
theorem vwp_loop {P : Program} {c : VC} {Q : VX → St → Prop} {s : St} {γ : Type} (S : γ → St) (ok : γ → Prop) (μ : γ → Nat) (g0 : γ) (h0 : ok g0) (hs : s.fg (S g0))
    (hr : ∀ g, ok g → vwp P c (fun e s' => match e with | .normal => ∃ g', ok g' ∧ μ g' < μ g ∧ s'.fg (S g') | e => Q e s') (S g)) : vwp P (.loop c) Q s := by
  refine ⟨fun n s => ∃ g, ok g ∧ μ g = n ∧ s = S g, μ g0, ⟨S g0, hs, g0, h0, rfl, rfl⟩, ?_⟩
  rintro n s ⟨g, hg, rfl, rfl⟩
  refine vwp_mono c _ _ _ ?_ (hr g hg)
  intro e s' he
  cases e
  · obtain ⟨g', h1, h2, h3⟩ := he
    exact ⟨μ g', S g', h2, h3, g', h1, rfl, rfl⟩
  · exact he
  · exact he
end Go.Proofs.VL

namespace Go.Proofs.VL
open Go Go.RowKit
set_option linter.unusedSimpArgs false
set_option linter.unusedVariables false

/-- The end of a function that leaves objects. -/
def RetC (rs : List RV) (r : V) (ob' : List (Option VObj)) : VX → St → Prop
  | .exit _, _ => False
  | _, s => ∃ x, resV s rs = some x ∧ (St.mk [(0, x)] s.ob s.base).fg (St.mk [(0, r)] ob' s.base)

/-- A function of values and objects. -/
theorem VCall.intro {fo : List Nat} {P : Program} {f : FuncId} {fn : Func} {vc : VC} {rs : List RV} (hok : FnOkF fo P f fn vc rs) {args : List V} {r : V} {ob ob' : List (Option VObj)} (hn : args.length ≤ fn.ntmps) (h : vwp P vc (RetC rs r ob') (St.init args ob)) : VCall P f args ob r ob' := by
  refine ⟨hok.enter, fun w E vs hdom hob hf hr => ?_⟩
  obtain ⟨c, hb, hc⟩ := Option.bind_eq_some_iff.1 hok.body
  refine calls_of_wp hok.func hb ?_
  refine wp_mono (vwp_sound c vc hc _ _ _ _ _ (Rel.init hn hdom hob hf hr) h) ?_
  intro e a w' hl
  have fin : (∃ s E', (∃ x, resV s rs = some x ∧ (St.mk [(0, x)] s.ob s.base).fg (St.mk [(0, r)] ob' s.base)) ∧ Rel w E fn.ntmps s a w' E') → a.defers = [] ∧ ∃ v, (results fn a.tmps).run P w' = .ok v w' ∧ ∃ v_1 E', Ending.returned v = .returned v_1 ∧ WRes E w r ob' v_1 w' E' := by
    rintro ⟨s, E', ⟨x, hx, hfg⟩, hrel⟩
    obtain ⟨v, h1, h2⟩ := res_sound hok.res hrel hx
    have h3 : Rel w E 1 (St.mk [(0, x)] s.ob s.base) { tmps := #[v], defers := [] } w' E' := by
      refine ⟨rfl, rfl, fun t => ?_, hrel.dom, hrel.objs, hrel.fresh, hrel.ext, hrel.base⟩
      cases t with
      | zero => exact h2
      | succ t => simp [St.get, List.lookup, Rep]
    obtain ⟨E2, h4⟩ := h3.forget hfg
    exact ⟨hrel.defers, v, h1, v, E2, rfl, h4.ext, h4.dom, h4.tmps 0, h4.objs, h4.fresh⟩
  cases e with
  | normal => exact fin hl
  | ret => exact fin hl
  | exit id => obtain ⟨s, E', hk, _⟩ := hl; exact hk.elim
  | goto l => exact hl.elim
  | panic ch => exact hl.elim
  | outgrown => exact hl.elim
end Go.Proofs.VL

namespace Go.Proofs.VL
open Go Go.RowKit
set_option linter.unusedSimpArgs false
set_option linter.unusedVariables false

theorem nr {α : Sort _} {a b : α} (h : a = b) : a = b := h

/-! ### stepping -/
def VO.isCall : VO → Bool
  | .call _ _ => true
  | _ => false

/-- The value of an operation that calls nothing, and the objects then. -/
def VO.run (o : VO) (ρ : X → V) (ob : List (Option VObj)) : Option (V × List (Option VObj)) :=
  match o with
  | .call _ _ => none
  | .store sz a x => VO.evW (.store sz a x) ρ ob
  | .app e sz b x y => VO.evW (.app e sz b x y) ρ ob
  | .apps e x y => VO.evW (.apps e x y) ρ ob
  | o => (o.evR ρ ob).map fun p => (p.1, ob ++ p.2.map some)

def VO.isE : VO → Bool
  | .eqn _ _ _ _ => true
  | _ => false

theorem step_run {P : Program} {o : VO} (hc : o.isCall = false) {ρ : X → V} {ob : List (Option VObj)} {K : V → List (Option VObj) → Prop} {v : V} {ob' : List (Option VObj)} (h : o.run ρ ob = some (v, ob')) (hk : K v ob') : o.step P ρ ob K := by
  cases o <;> simp only [VO.isCall, Bool.true_eq_false] at hc <;> simp only [VO.run] at h <;> simp only [VO.step]
  case store => rw [h]; exact hk
  case app => rw [h]; exact hk
  case apps => rw [h]; exact hk
  all_goals
    rw [Option.map_eq_some_iff] at h
    obtain ⟨⟨a, b⟩, h1, h2⟩ := h
    simp only [Prod.mk.injEq] at h2
    obtain ⟨rfl, rfl⟩ := h2
    rw [h1]; exact hk

theorem stepD_run {P : Program} {o : VO} {wc : Bool × Bool} (hc : o.isCall = false) {ρ : X → V} {ob : List (Option VObj)} {K : V → List (Option VObj) → Prop} {v : V} {ob' : List (Option VObj)} (h : o.run ρ ob = some (v, ob')) (hk : K v ob') : o.stepD P wc.1 wc.2 ρ ob K := by
  cases o <;> simp only [VO.isCall, Bool.true_eq_false] at hc <;> simp only [VO.run] at h <;> simp only [VO.stepD]
  case store => rw [h]; exact hk
  case app => rw [h]; exact hk
  case apps => rw [h]; exact hk
  all_goals
    rw [Option.map_eq_some_iff] at h
    obtain ⟨⟨a, b⟩, h1, h2⟩ := h
    simp only [Prod.mk.injEq] at h2
    obtain ⟨rfl, rfl⟩ := h2
    rw [h1]; exact hk

def mstep (P : Program) (m : Option (Bool × Bool)) (o : VOper) (s : St) (K : St → Prop) : Prop :=
  match m with
  | none => o.step P s K
  | some wc => o.stepD P wc.1 wc.2 s K

def mops (P : Program) : List (Option (Bool × Bool) × VOper) → St → (St → Prop) → Prop
  | [], s, K => K s
  | p :: os, s, K => mstep P p.1 p.2 s fun s' => mops P os s' K

def tagN : List VOper → List (Option (Bool × Bool) × VOper)
  | [] => []
  | o :: os => (none, o) :: tagN os

def tagD (fl : Bool) : List VOper → List Bool → List (Option (Bool × Bool) × VOper)
  | [], _ => []
  | o :: os, wc => (some (fl, wc.headD false), o) :: tagD fl os wc.tail

theorem mops_tagN {P : Program} : ∀ {os : List VOper} {s : St} {K : St → Prop}, mops P (tagN os) s K → vops P os s K
  | [], s, K, h => h
  | o :: os, s, K, h => by
    simp only [tagN, mops, mstep] at h
    simp only [vops, VOper.step] at h ⊢
    split at h
    · exact VO.step_mono (fun v ob h => mops_tagN h) h
    · split at h
      · split at h
        · rename_i hb; simp only [hb, if_true]; exact VO.step_mono (fun v ob h => mops_tagN h) h
        · rename_i hb; simp only [hb, if_false]; exact mops_tagN h
      · exact mops_tagN h
      · exact h

theorem mops_tagD {P : Program} {fl : Bool} : ∀ {os : List VOper} {wc : List Bool} {s : St} {K : St → Prop}, mops P (tagD fl os wc) s K → dvops P fl os wc s K
  | [], _, s, K, h => h
  | o :: os, wc, s, K, h => by
    simp only [tagD, mops, mstep] at h
    simp only [dvops, VOper.stepD] at h ⊢
    split at h
    · exact VO.stepD_mono (fun v ob h => mops_tagD h) h
    · split at h
      · split at h
        · rename_i hb; simp only [hb, if_true]; exact VO.stepD_mono (fun v ob h => mops_tagD h) h
        · rename_i hb; simp only [hb, if_false]; exact mops_tagD h
      · exact mops_tagD h
      · exact h

inductive Fr where
  | seq (b : VC)
  | block (id : Nat)

def kont (P : Program) : List Fr → (VX → St → Prop) → VX → St → Prop
  | [], Q => Q
  | .seq b :: fs, Q => fun e s' => match e with | .normal => vwp P b (kont P fs Q) s' | e => kont P fs Q e s'
  | .block id :: fs, Q => fun e s' => match e with | .exit i => if i = id then kont P fs Q .normal s' else kont P fs Q (.exit i) s' | e => kont P fs Q e s'

/-- What is still to do: operations, then code, then what stands around it. -/
def vk (P : Program) (os : List (Option (Bool × Bool) × VOper)) (c : VC) (fs : List Fr) (Q : VX → St → Prop) (s : St) : Prop := mops P os s fun s' => vwp P c (kont P fs Q) s'

section
variable {P : Program} {os : List (Option (Bool × Bool) × VOper)} {c a b : VC} {fs : List Fr} {Q : VX → St → Prop} {s : St}

theorem vk_start (h : vk P [] c [] Q s) : vwp P c Q s := h
theorem vk_seq (h : vk P [] a (.seq b :: fs) Q s) : vk P [] (.seq a b) fs Q s := h
theorem vk_block {id : Nat} (h : vk P [] a (.block id :: fs) Q s) : vk P [] (.block id a) fs Q s := h
theorem vk_skip_seq (h : vk P [] b fs Q s) : vk P [] .skip (.seq b :: fs) Q s := h
theorem vk_skip_block {id : Nat} (h : vk P [] .skip fs Q s) : vk P [] .skip (.block id :: fs) Q s := h
theorem vk_skip_nil (h : Q .normal s) : vk P [] .skip [] Q s := h
theorem vk_exit_seq {i : Nat} (h : vk P [] (.exit i) fs Q s) : vk P [] (.exit i) (.seq b :: fs) Q s := h
theorem vk_exit_eq {i : Nat} (h : vk P [] .skip fs Q s) : vk P [] (.exit i) (.block i :: fs) Q s := by
  show (if i = i then _ else _)
  rw [if_pos rfl]; exact h
theorem vk_exit_ne {i j : Nat} (hne : (i == j) = false) (h : vk P [] (.exit i) fs Q s) : vk P [] (.exit i) (.block j :: fs) Q s := by
  show (if i = j then _ else _)
  rw [if_neg (by simpa using hne)]; exact h
theorem vk_exit_nil {i : Nat} (h : Q (.exit i) s) : vk P [] (.exit i) [] Q s := h
theorem vk_ret_cons {f : Fr} (h : vk P [] .ret fs Q s) : vk P [] .ret (f :: fs) Q s := by cases f <;> exact h
theorem vk_ret_nil (h : Q .ret s) : vk P [] .ret [] Q s := h
theorem vk_reg {ops : List VOper} (h : vk P (tagN ops) .skip fs Q s) : vk P [] (.reg ops) fs Q s := mops_tagN (K := fun s' => kont P fs Q .normal s') h
theorem vk_dreg {ops : List VOper} {wc : List Bool} (h : vk P (tagD true ops wc) .skip fs Q s) : vk P [] (.dreg ops wc) fs Q s := mops_tagD (K := fun s' => kont P fs Q .normal s') h
theorem vk_true {x : X} (hx : s.x x = .bool true) (h : vk P [] a fs Q s) : vk P [] (.cond x a b) fs Q s := by
  show vwp P (.cond x a b) _ s
  simp only [vwp, hx, if_true]; exact h
theorem vk_false {x : X} (hx : s.x x = .bool false) (h : vk P [] b fs Q s) : vk P [] (.cond x a b) fs Q s := by
  show vwp P (.cond x a b) _ s
  simp only [vwp, hx, Bool.false_eq_true, if_false]; exact h
theorem vk_if {x : X} {p : Prop} [Decidable p] (hx : s.x x = .bool (decide p)) (h1 : p → vk P [] a fs Q s) (h2 : ¬ p → vk P [] b fs Q s) : vk P [] (.cond x a b) fs Q s := by
  by_cases hp : p
  · exact vk_true (by rw [hx]; simp [hp]) (h1 hp)
  · exact vk_false (by rw [hx]; simp [hp]) (h2 hp)
theorem vk_cond {x : X} {t : Bool} (hx : s.x x = .bool t) (h1 : t = true → vk P [] a fs Q s) (h2 : t = false → vk P [] b fs Q s) : vk P [] (.cond x a b) fs Q s := by
  cases t
  · exact vk_false hx (h2 rfl)
  · exact vk_true hx (h1 rfl)

theorem vk_op {m : Option (Bool × Bool)} {d : Option Nat} {o : VO} {v : V} {ob' : List (Option VObj)} (hc : o.isCall = false) (hr : o.run s.x s.ob = some (v, ob')) (h : vk P os c fs Q (({ s with ob := ob' } : St).putO d v)) : vk P ((m, ⟨d, o, none⟩) :: os) c fs Q s := by
  show mstep P m ⟨d, o, none⟩ s _
  cases m with
  | none => exact step_run (K := fun v ob' => mops P os (({ s with ob := ob' } : St).putO d v) fun s' => vwp P c (kont P fs Q) s') hc hr h
  | some wc => exact stepD_run (K := fun v ob' => mops P os (({ s with ob := ob' } : St).putO d v) fun s' => vwp P c (kont P fs Q) s') hc hr h

theorem vk_on {m : Option (Bool × Bool)} {d : Option Nat} {o : VO} {t : Nat} {want : Bool} (hg : s.get t = .bool want) (h : vk P ((m, ⟨d, o, none⟩) :: os) c fs Q s) : vk P ((m, ⟨d, o, some (t, want)⟩) :: os) c fs Q s := by
  show mstep P m ⟨d, o, some (t, want)⟩ s _
  cases m with
  | none =>
    simp only [mstep, VOper.step, hg, if_true]
    exact h
  | some wc =>
    simp only [mstep, VOper.stepD, hg, if_true]
    exact h

theorem vk_off {m : Option (Bool × Bool)} {d : Option Nat} {o : VO} {t : Nat} {want : Bool} (hg : s.get t = .bool !want) (h : vk P os c fs Q (s.putO d (.tup []))) : vk P ((m, ⟨d, o, some (t, want)⟩) :: os) c fs Q s := by
  show mstep P m ⟨d, o, some (t, want)⟩ s _
  have hne : ¬ (!want) = want := by cases want <;> simp
  cases m with
  | none =>
    simp only [mstep, VOper.step, hg, if_neg hne]
    exact h
  | some wc =>
    simp only [mstep, VOper.stepD, hg, if_neg hne]
    exact h

theorem vk_call {d : Option Nat} {f : X} {args : List X} {g : FuncId} {first caps : List V} {r : V} {ob' : List (Option VObj)} (hf : s.x f = .fn g first caps) (hc : VCall P g (first ++ args.map s.x ++ caps) s.ob r ob')
    (h : vk P os c fs Q (({ s with ob := ob' } : St).putO d r)) : vk P ((none, ⟨d, .call f args, none⟩) :: os) c fs Q s := by
  show VO.step P (.call f args) s.x s.ob _
  simp only [VO.step, hf]
  exact ⟨r, ob', hc, h⟩

theorem vk_callW {d : Option Nat} {f : X} {args : List X} {g : FuncId} {first caps : List V} {r : V} {ob' : List (Option VObj)} (hf : s.x f = .fn g first caps) (hc : VCall P g (first ++ args.map s.x ++ caps) s.ob r ob') (hl : s.ob.length ≤ ob'.length)
    (h : vk P os c fs Q (({ s with ob := ob' } : St).putO d r)) : vk P ((some (true, true), ⟨d, .call f args, none⟩) :: os) c fs Q s := by
  simp only [vk, mops, mstep, VOper.stepD, VO.stepD, hf]
  exact ⟨r, ob', hc, hl, h⟩

/-- A call of values alone, in any region. -/
theorem vk_callR {m : Option (Bool × Bool)} {d : Option Nat} {f : X} {args : List X} {g : FuncId} {first caps : List V} {r : V} (hf : s.x f = .fn g first caps) (hc : CallR P s.ob g (first ++ args.map s.x ++ caps) r)
    (h : vk P os c fs Q (s.putO d r)) : vk P ((m, ⟨d, .call f args, none⟩) :: os) c fs Q s := by
  cases m with
  | none => exact vk_call hf hc.call h
  | some wc =>
    obtain ⟨fl, wc⟩ := wc
    cases wc with
    | true =>
      cases fl with
      | true => exact vk_callW hf hc.call (Nat.le_refl _) h
      | false =>
        simp only [vk, mops, mstep, VOper.stepD, VO.stepD, hf]
        exact .inl ⟨r, hc, h⟩
    | false =>
      simp only [vk, mops, mstep, VOper.stepD, VO.stepD, hf]
      exact ⟨r, hc, h⟩

/-- A call that touches but the objects its arguments name. -/
theorem vk_callF {d : Option Nat} {f : X} {args : List X} {g : FuncId} {first caps : List V} {r : V} {ob' : List (Option VObj)} {ms : List Nat} {args0 : List V} {obs obs' : List (Option VObj)} {r0 : V} (hf : s.x f = .fn g first caps) (hc : FCall P s.ob g (first ++ args.map s.x ++ caps) r ob' ms args0 obs obs' r0)
    (h : vk P os c fs Q (({ s with ob := ob' } : St).putO d r)) : vk P ((some (false, true), ⟨d, .call f args, none⟩) :: os) c fs Q s := by
  simp only [vk, mops, mstep, VOper.stepD, VO.stepD, hf]
  exact .inr ⟨r, ob', ms, args0, obs, obs', r0, hc, h⟩

theorem vk_pass (h : vk P [] a (.seq b :: fs) Q s) : vk P [] (.seqc a b) fs Q s := by
  refine vwp_mono a _ _ s ?_ h
  intro e s' he
  cases e
  · exact .inl he
  · exact he
  · exact he

def joinQ (P : Program) {γ : Type} (S : γ → St) (ok : γ → Prop) (fs : List Fr) (Q : VX → St → Prop) : VX → St → Prop
  | .normal, s' => ∃ g, ok g ∧ s'.fg (S g)
  | .exit i, s' => vk P [] (.exit i) fs Q s'
  | .ret, s' => vk P [] .ret fs Q s'

/-- The ways meet again. -/
theorem vk_join {γ : Type} (S : γ → St) (ok : γ → Prop) (h : vk P [] a [] (joinQ P S ok fs Q) s) (hb : ∀ g, ok g → vk P [] b fs Q (S g)) : vk P [] (.seqc a b) fs Q s := by
  refine vwp_mono a _ _ s ?_ h
  intro e s' he
  cases e
  · obtain ⟨g, h1, h2⟩ := he
    exact .inr ⟨_, h2, hb g h1⟩
  · exact he
  · exact he

def loopQ (P : Program) {γ : Type} (S : γ → St) (ok : γ → Prop) (μ : γ → Nat) (g : γ) (fs : List Fr) (Q : VX → St → Prop) : VX → St → Prop
  | .normal, s' => ∃ g', ok g' ∧ μ g' < μ g ∧ s'.fg (S g')
  | .exit i, s' => vk P [] (.exit i) fs Q s'
  | .ret, s' => vk P [] .ret fs Q s'

theorem vk_loop {γ : Type} (S : γ → St) (ok : γ → Prop) (μ : γ → Nat) (g0 : γ) (h0 : ok g0) (hs : s.fg (S g0)) (hr : ∀ g, ok g → vk P [] c [] (loopQ P S ok μ g fs Q) (S g)) : vk P [] (.loop c) fs Q s := by
  refine vwp_loop S ok μ g0 h0 hs fun g hg => ?_
  refine Eq.mp (congrArg (fun q => vwp P c q (S g)) ?_) (hr g hg)
  funext e s'
  cases e <;> rfl

/-- A loop: what its round may end in has a name of its own. -/
theorem vk_loopR {γ : Type} (S : γ → St) (ok : γ → Prop) (μ : γ → Nat) (g0 : γ) (h0 : ok g0) (hs : s.fg (S g0))
    (hr : ∀ g, ok g → ∀ R : VX → St → Prop, (∀ s' g', ok g' → μ g' < μ g → s'.fg (S g') → R .normal s') → (∀ i s', vk P [] (.exit i) fs Q s' → R (.exit i) s') → (∀ s', vk P [] .ret fs Q s' → R .ret s') → vk P [] c [] R (S g)) : vk P [] (.loop c) fs Q s :=
  vk_loop S ok μ g0 h0 hs fun g hg => hr g hg _ (fun _ g' h1 h2 h3 => ⟨g', h1, h2, h3⟩) (fun _ _ h => h) (fun _ h => h)

/-- The ways meet again. -/
theorem vk_joinR {γ : Type} (S : γ → St) (ok : γ → Prop)
    (h : ∀ R : VX → St → Prop, (∀ s' g, ok g → s'.fg (S g) → R .normal s') → (∀ i s', vk P [] (.exit i) fs Q s' → R (.exit i) s') → (∀ s', vk P [] .ret fs Q s' → R .ret s') → vk P [] a [] R s)
    (hb : ∀ g, ok g → vk P [] b fs Q (S g)) : vk P [] (.seqc a b) fs Q s :=
  vk_join S ok (h _ (fun _ g h1 h2 => ⟨g, h1, h2⟩) (fun _ _ h => h) (fun _ h => h)) hb

theorem vops_tagN (os : List VOper) (K : St → Prop) : ∀ s, vops P os s K = mops P (tagN os) s K := by
  induction os with
  | nil => intro s; rfl
  | cons o os ih =>
    intro s
    simp only [vops, tagN, mops, mstep]
    congr 1
    funext s'
    exact ih s'

theorem dvops_tagD {fl : Bool} (os : List VOper) (K : St → Prop) : ∀ (wc : List Bool) s, dvops P fl os wc s K = mops P (tagD fl os wc) s K := by
  induction os with
  | nil => intro wc s; rfl
  | cons o os ih =>
    intro wc s
    simp only [dvops, tagD, mops, mstep]
    congr 1
    funext s'
    exact ih _ s'

theorem e_seq : vk P [] (.seq a b) fs Q s = vk P [] a (.seq b :: fs) Q s := nr rfl
theorem e_block {id : Nat} : vk P [] (.block id a) fs Q s = vk P [] a (.block id :: fs) Q s := nr rfl
theorem e_skip_seq : vk P [] .skip (.seq b :: fs) Q s = vk P [] b fs Q s := nr rfl
theorem e_skip_block {id : Nat} : vk P [] .skip (.block id :: fs) Q s = vk P [] .skip fs Q s := nr rfl
theorem e_skip_nil : vk P [] .skip [] Q s = Q .normal s := nr rfl
theorem e_exit_seq {i : Nat} : vk P [] (.exit i) (.seq b :: fs) Q s = vk P [] (.exit i) fs Q s := nr rfl
theorem e_exit_block {i j : Nat} : vk P [] (.exit i) (.block j :: fs) Q s = if i = j then vk P [] .skip fs Q s else vk P [] (.exit i) fs Q s := nr rfl
theorem e_exit_nil {i : Nat} : vk P [] (.exit i) [] Q s = Q (.exit i) s := nr rfl
theorem e_ret_cons {f : Fr} : vk P [] .ret (f :: fs) Q s = vk P [] .ret fs Q s := by cases f <;> exact nr rfl
theorem e_ret_nil : vk P [] .ret [] Q s = Q .ret s := nr rfl
theorem e_reg {ops : List VOper} : vk P [] (.reg ops) fs Q s = vk P (tagN ops) .skip fs Q s := vops_tagN ops _ s
theorem e_dregF {ops : List VOper} {wc : List Bool} {sp : List (List X × List X)} : vk P [] (.dregF ops wc sp) fs Q s = vk P (tagD false ops wc) (.chk sp) fs Q s := dvops_tagD ops (fun s' => chkS sp s' = true ∧ kont P fs Q .normal s') wc s
theorem e_chk {sp : List (List X × List X)} : vk P [] (.chk sp) fs Q s = if chkS sp s = true then vk P [] .skip fs Q s else False := by
  show (chkS sp s = true ∧ kont P fs Q .normal s) = _
  by_cases h : chkS sp s = true
  · rw [if_pos h]; exact propext ⟨fun k => k.2, fun k => ⟨h, k⟩⟩
  · rw [if_neg h]; exact propext ⟨fun k => (h k.1).elim, fun k => k.elim⟩
theorem e_dreg {ops : List VOper} {wc : List Bool} : vk P [] (.dreg ops wc) fs Q s = vk P (tagD true ops wc) .skip fs Q s := dvops_tagD ops _ wc s
theorem e_cond {x : X} : vk P [] (.cond x a b) fs Q s = match s.x x with | .bool c => if c = true then vk P [] a fs Q s else vk P [] b fs Q s | _ => False := nr rfl

theorem step_eq {o : VO} (hc : o.isCall = false) (hE : o.isE = false) (ρ : X → V) (ob : List (Option VObj)) (K : V → List (Option VObj) → Prop) : o.step P ρ ob K = match o.run ρ ob with | some (v, ob') => K v ob' | none => False := by
  cases o <;> simp only [VO.isCall, Bool.true_eq_false] at hc <;> simp only [VO.isE, Bool.true_eq_false] at hE <;> simp only [VO.run, VO.step]
  all_goals first | rfl | (split <;> rename_i h <;> simp [h])

theorem stepD_eq {o : VO} (hc : o.isCall = false) (wc : Bool × Bool) (ρ : X → V) (ob : List (Option VObj)) (K : V → List (Option VObj) → Prop) : o.stepD P wc.1 wc.2 ρ ob K = match o.run ρ ob with | some (v, ob') => K v ob' | none => False := by
  cases o <;> simp only [VO.isCall, Bool.true_eq_false] at hc <;> simp only [VO.run, VO.stepD]
  all_goals first | rfl | (split <;> rename_i h <;> simp [h])

theorem e_op {m : Option (Bool × Bool)} {d : Option Nat} {o : VO} (hc : o.isCall = false) (hE : o.isE = false) : vk P ((m, ⟨d, o, none⟩) :: os) c fs Q s = match o.run s.x s.ob with | some (v, ob') => vk P os c fs Q (({ s with ob := ob' } : St).putO d v) | none => False := by
  cases m with
  | none => exact step_eq hc hE _ _ _
  | some wc => exact stepD_eq hc wc _ _ _

theorem e_opD {wc : Bool × Bool} {d : Option Nat} {o : VO} (hc : o.isCall = false) : vk P ((some wc, ⟨d, o, none⟩) :: os) c fs Q s = match o.run s.x s.ob with | some (v, ob') => vk P os c fs Q (({ s with ob := ob' } : St).putO d v) | none => False := stepD_eq hc wc _ _ _

theorem e_guard {m : Option (Bool × Bool)} {d : Option Nat} {o : VO} {t : Nat} {want : Bool} : vk P ((m, ⟨d, o, some (t, want)⟩) :: os) c fs Q s = match s.get t with
    | .bool b => if b = want then vk P ((m, ⟨d, o, none⟩) :: os) c fs Q s else vk P os c fs Q (s.putO d (.tup []))
    | .tup [] => vk P os c fs Q (s.putO d (.tup []))
    | _ => False := by
  cases m <;> exact nr rfl
end
end Go.Proofs.VL

namespace Go.Proofs.VL
open Go Go.RowKit
set_option linter.unusedSimpArgs false
set_option linter.unusedVariables false

theorem VCall.sub {P : Program} {f : FuncId} {args args' : List V} {ob ob' : List (Option VObj)} {r r' : V} (h : VCall P f args ob r ob') (ha : SubL args' args) (hr : Sub r r') : VCall P f args' ob r' ob' := by
  refine ⟨h.1, fun w E vs hdom hob hf hv => (h.2 w E vs hdom hob hf (RepL.sub ha hv)).mono ?_⟩
  rintro e w' ⟨v, E', rfl, hres⟩
  exact ⟨v, E', rfl, hres.ext, hres.dom, Rep.sub hr hres.rep, hres.objs, hres.fresh⟩

theorem VFn.sub {P : Program} {f : FuncId} {args args' : List V} {r r' : V} (h : VFn P f args r) (ha : SubL args' args) (hr : Sub r r') : VFn P f args' r' := VCall.sub h ha hr
end Go.Proofs.VL

namespace Go.Proofs.VL
open Go Go.RowKit
set_option linter.unusedSimpArgs false
set_option linter.unusedVariables false

/-- Objects of the callee's own that nobody can come to any more are left. -/
theorem VCall.trim {P : Program} {f : FuncId} {args : List V} {ob ob' extra : List (Option VObj)} {r : V} (h : VCall P f args ob r (ob' ++ extra)) (hn : ob.length ≤ ob'.length) (hr : wfV ob'.length r = true) (ho : wfOb ob'.length ob' = true) : VCall P f args ob r ob' := by
  refine ⟨h.1, fun w E vs hdom hob hf hv => (h.2 w E vs hdom hob hf hv).mono ?_⟩
  rintro e w' ⟨v, E1, rfl, hres⟩
  let E' : Env := { E1 with dom := fun k => k < ob'.length, lab := fun b => match E1.lab b with | .obj j => if j < ob'.length then .obj j else .ext | l => l }
  have himm : ∀ b, E1.lab b = .imm ↔ E'.lab b = .imm := by
    intro b
    show _ ↔ (match E1.lab b with | .obj j => if j < ob'.length then Lab.obj j else .ext | l => l) = .imm
    cases E1.lab b with
    | imm => simp
    | ext => simp
    | obj j => simp only [reduceCtorEq, false_iff]; split <;> simp
  have hext : ∀ b, E1.lab b = .ext → E'.lab b = .ext := by
    intro b hb
    show (match E1.lab b with | .obj j => if j < ob'.length then Lab.obj j else .ext | l => l) = .ext
    rw [hb]
  have hd1 : ∀ k, k < ob'.length → E1.dom k := fun k hk => (hres.dom k).2 (by simp; omega)
  have T : Tell w' ob'.length id E1 E' := ⟨fun k hk => ⟨fun _ => hk, fun _ => hd1 k hk⟩, fun _ _ => rfl, fun _ _ => rfl, fun _ _ => rfl, fun b _ => himm b⟩
  have hx := hres.ext
  refine ⟨v, E', rfl, ?_, fun k => Iff.rfl, ?_, ?_, fun b hb => (himm b).1 (hres.fresh b hb)⟩
  · refine ⟨hx.os, hx.tape, hx.output, hx.size, fun b hb hl => ?_, fun b hb hl => ?_, fun k hk => ?_, fun k hk => hx.blk k hk, fun k hk => hx.cap k hk, fun k hk => hx.nil k hk⟩
    · obtain ⟨q1, q2⟩ := hx.imm b hb hl
      exact ⟨(himm b).1 q1, q2⟩
    · obtain ⟨q1, q2⟩ := hx.ext b hb hl
      exact ⟨hext b q1, q2⟩
    · have := (hdom k).1 hk
      show k < ob'.length
      omega
  · have := (Rep.ren T r v hr).1 hres.rep
    rwa [renV_id (m := id) (fun _ _ => rfl) r hr] at this
  · intro k o hk
    have hkl : k < ob'.length := by
      rcases Nat.lt_or_ge k ob'.length with h' | h'
      · exact h'
      · rw [List.getElem?_eq_none h'] at hk; cases hk
    have hwo : wfO ob'.length o = true := by
      have := List.all_eq_true.1 ho _ (List.mem_of_getElem? hk)
      simpa using this
    have h1 := hres.objs k o (by rw [List.getElem?_append_left hkl]; exact hk)
    have := (ObjRep.ren T hkl (fun b hb => by
      show _ ↔ (match E1.lab b with | .obj j => if j < ob'.length then Lab.obj j else .ext | l => l) = .obj k
      cases E1.lab b with
      | imm => simp
      | ext => simp
      | obj j =>
        simp only [Lab.obj.injEq]
        split
        · simp
        · simp; omega) o hwo).1 h1
    rwa [renO_id (m := id) (fun _ _ => rfl) o hwo] at this
end Go.Proofs.VL

namespace Go.Proofs.VL
open Go Go.RowKit
set_option linter.unusedSimpArgs false
set_option linter.unusedVariables false

/-! ### a callee's small list of objects, within a great one -/
/-- A callee's contract over its own objects alone serves in any list that has these. -/
theorem VCall.frame {P : Program} {f : FuncId} {args : List V} {obs obs' : List (Option VObj)} {r : V} (h : VCall P f args obs r obs') (ms : List Nat) (B : List (Option VObj))
    (hin : inObs (nameOf ms B.length) B ms obs) (hwa : wfL obs.length args = true) (hwo : wfOb obs.length obs = true) (hwr : wfV obs'.length r = true) (hwo' : wfOb obs'.length obs' = true) (hle : obs.length ≤ obs'.length) :
    VCall P f (renL (nameOf ms B.length) args) B (renV (nameOf ms B.length) r) (putObs (nameOf ms B.length) B ms obs') := by
  obtain ⟨hlen, hnd, hmem⟩ := hin
  refine ⟨h.1, fun w E vs hdom hob hf hv => ?_⟩
  have hms : ∀ k, k < obs.length → ∃ j, ms[k]? = some j ∧ nameOf ms B.length k = j ∧ ms.getD k 0 = j ∧ j < B.length := by
    intro k hk
    have hk' : k < ms.length := by omega
    refine ⟨ms[k], List.getElem?_eq_getElem hk', nameOf_lt (List.getElem?_eq_getElem hk'), ?_, (hmem k _ (List.getElem?_eq_getElem hk')).1⟩
    rw [List.getD_eq_getElem?_getD, List.getElem?_eq_getElem hk']; rfl
  -- what the callee knows
  have T : Tell w obs.length (nameOf ms B.length) (E.small ms) E := by
    refine ⟨?_, ?_, ?_, ?_, fun b _ => small_imm⟩
    · intro k hk
      obtain ⟨j, h1, h2, h3, h4⟩ := hms k hk
      rw [h2, hdom]
      exact ⟨fun _ => h4, fun _ => by show k < ms.length; omega⟩
    all_goals
      intro k hk
      obtain ⟨j, h1, h2, h3, h4⟩ := hms k hk
      rw [h2]; simp only [Env.small, h3]
  have hvs := (RepL.ren T args vs hwa).2 hv
  have hobs : ∀ k o, obs[k]? = some (some o) → ObjRep w (E.small ms) k o := by
    intro k o hk
    have hkl : k < obs.length := getElem?_lt hk
    obtain ⟨j, h1, h2, h3, h4⟩ := hms k hkl
    have hB := (hmem k j h1).2 o hk
    have hwo1 : wfO obs.length o = true := by
      have := List.all_eq_true.1 hwo _ (List.mem_of_getElem? hk)
      simpa using this
    refine (ObjRep.ren T hkl (fun b _ => ?_) o hwo1).2 ?_
    · rw [h2]; exact small_obj hnd h1
    · rw [h2]; exact hob j _ hB
  refine (h.2 w (E.small ms) vs (fun k => by show k < ms.length ↔ _; omega) hobs (fun b hb => small_imm.2 (hf b hb)) hvs).mono ?_
  rintro e w' ⟨v, E1, rfl, hres⟩
  have hx := hres.ext
  have hms' : ∀ k, k < ms.length → ∃ j, ms[k]? = some j ∧ nameOf ms B.length k = j ∧ ms.getD k 0 = j ∧ j < B.length := fun k hk => hms k (by omega)
  -- what is known then
  let E' : Env :=
    { dom := fun k => k < B.length + (obs'.length - ms.length),
      blk := fun k => if k < B.length then E.blk k else E1.blk (ms.length + (k - B.length)),
      cap := fun k => if k < B.length then E.cap k else E1.cap (ms.length + (k - B.length)),
      nil := fun k => if k < B.length then E.nil k else E1.nil (ms.length + (k - B.length)),
      lab := fun b => labAfter ms B.length (decide (b < w.heap.size)) (E.lab b) (E1.lab b) }
  have himm : ∀ b, E1.lab b = .imm ↔ E'.lab b = .imm := fun b => labAfter_imm
  have hninj : ∀ i j, i < obs'.length → j < obs'.length → nameOf ms B.length i = nameOf ms B.length j → i = j := by
    intro i j hi hj he
    by_cases h1 : i < ms.length
    · obtain ⟨a, a1, a2, a3, a4⟩ := hms' i h1
      by_cases h2 : j < ms.length
      · obtain ⟨b, b1, b2, b3, b4⟩ := hms' j h2
        rw [a2, b2] at he; subst he; exact nodup_inj hnd a1 b1
      · rw [a2] at he; simp only [nameOf, if_neg h2] at he; omega
    · by_cases h2 : j < ms.length
      · obtain ⟨b, b1, b2, b3, b4⟩ := hms' j h2
        rw [b2] at he; simp only [nameOf, if_neg h1] at he; omega
      · simp only [nameOf, if_neg h1, if_neg h2] at he; omega
  have hlab1 : ∀ b j, E1.lab b = .obj j → E'.lab b = .obj (nameOf ms B.length j) := by
    intro b j hb
    show labAfter _ _ _ _ _ = _
    rw [hb]; rfl
  have hlab2 : ∀ b, b < w.heap.size → (E.small ms).lab b = .ext → (E.lab b = .ext ∨ ∃ j, E.lab b = .obj j ∧ j < B.length) → E'.lab b = E.lab b ∧ w'.heap[b]? = w.heap[b]? := by
    intro b hb hs hj
    obtain ⟨q1, q2⟩ := hx.ext b hb hs
    refine ⟨?_, q2⟩
    show labAfter _ _ _ _ _ = _
    rw [q1]
    simp only [labAfter, hb, decide_true, if_true]
    rcases hj with hj | ⟨j, hj, hjB⟩
    · rw [hj]
    · rw [hj]
      simp only
      rw [if_neg]
      rintro (h | h)
      · rcases small_ext.1 hs with h1 | ⟨j', h1, h2⟩
        · rw [hj] at h1; cases h1
        · rw [hj] at h1; injection h1 with h1; subst h1; exact h2 h
      · omega
  have hd1 : ∀ k, E1.dom k ↔ k < obs'.length := hres.dom
  have T' : Tell w' obs'.length (nameOf ms B.length) E1 E' := by
    refine ⟨?_, ?_, ?_, ?_, fun b _ => himm b⟩
    · intro k hk
      rw [hd1]
      refine ⟨fun _ => ?_, fun _ => hk⟩
      show nameOf ms B.length k < B.length + (obs'.length - ms.length)
      by_cases h1 : k < ms.length
      · obtain ⟨a, a1, a2, a3, a4⟩ := hms' k h1; omega
      · simp only [nameOf, if_neg h1]; omega
    · intro k hk
      show (if _ then _ else _) = _
      by_cases h1 : k < ms.length
      · obtain ⟨a, a1, a2, a3, a4⟩ := hms' k h1
        rw [a2, if_pos a4, hx.blk k h1]; simp only [Env.small, a3]
      · have : nameOf ms B.length k = B.length + (k - ms.length) := by simp only [nameOf, if_neg h1]
        rw [this, if_neg (by omega)]
        congr 1; omega
    · intro k hk
      show (if _ then _ else _) = _
      by_cases h1 : k < ms.length
      · obtain ⟨a, a1, a2, a3, a4⟩ := hms' k h1
        rw [a2, if_pos a4, hx.cap k h1]; simp only [Env.small, a3]
      · have : nameOf ms B.length k = B.length + (k - ms.length) := by simp only [nameOf, if_neg h1]
        rw [this, if_neg (by omega)]
        congr 1; omega
    · intro k hk
      show (if _ then _ else _) = _
      by_cases h1 : k < ms.length
      · obtain ⟨a, a1, a2, a3, a4⟩ := hms' k h1
        rw [a2, if_pos a4, hx.nil k h1]; simp only [Env.small, a3]
      · have : nameOf ms B.length k = B.length + (k - ms.length) := by simp only [nameOf, if_neg h1]
        rw [this, if_neg (by omega)]
        congr 1; omega
  have hX : Ext w E w' E' := by
    refine ⟨hx.os, hx.tape, hx.output, hx.size, fun b hb hl => ?_, fun b hb hl => ?_, fun k hk => ?_, fun k hk => ?_, fun k hk => ?_, fun k hk => ?_⟩
    · obtain ⟨q1, q2⟩ := hx.imm b hb (small_imm.2 hl)
      exact ⟨(himm b).1 q1, q2⟩
    · obtain ⟨q1, q2⟩ := hlab2 b hb (small_ext.2 (.inl hl)) (.inl hl)
      exact ⟨q1.trans hl, q2⟩
    · have := (hdom k).1 hk
      show k < B.length + (obs'.length - ms.length)
      omega
    · show (if _ then _ else _) = _
      rw [if_pos ((hdom k).1 hk)]
    · show (if _ then _ else _) = _
      rw [if_pos ((hdom k).1 hk)]
    · show (if _ then _ else _) = _
      rw [if_pos ((hdom k).1 hk)]
  have hmsB : ∀ j ∈ ms, j < B.length := by
    intro j hj
    obtain ⟨i, hi⟩ := List.getElem?_of_mem hj
    exact (hmem i j hi).1
  have hml : ms.length ≤ obs'.length := by omega
  refine ⟨v, E', rfl, hX, fun k => ?_, (Rep.ren T' r v hwr).1 hres.rep, ?_, fun b hb => (himm b).1 (hres.fresh b hb)⟩
  · rw [putObs_length _ _ _ _ hml]
  · have one : ∀ i o, obs'[i]? = some (some o) → ObjRep w' E' (nameOf ms B.length i) (renO (nameOf ms B.length) o) := by
      intro i o hi
      have hil := getElem?_lt hi
      have hwo1 : wfO obs'.length o = true := by
        have := List.all_eq_true.1 hwo' _ (List.mem_of_getElem? hi)
        simpa using this
      refine (ObjRep.ren T' hil (fun b _ => ?_) o hwo1).1 (hres.objs i o hi)
      constructor
      · intro hb; exact hlab1 b i hb
      · intro hb
        cases hl : E1.lab b with
        | imm => rw [(himm b).1 hl] at hb; cases hb
        | obj j =>
          rw [hlab1 b j hl] at hb
          injection hb with hb
          by_cases hj : j < obs'.length
          · rw [hninj j i hj hil hb]
          · exfalso
            have h1 : ¬ j < ms.length := by omega
            simp only [nameOf, if_neg h1] at hb
            by_cases h2 : i < ms.length
            · obtain ⟨a, a1, a2, a3, a4⟩ := hms' i h2
              simp only [nameOf, if_pos h2, a3] at hb; omega
            · simp only [if_neg h2] at hb; omega
        | ext =>
          exfalso
          have hE' : E'.lab b = labAfter ms B.length (decide (b < w.heap.size)) (E.lab b) .ext := by
            show labAfter _ _ _ _ _ = _
            rw [hl]
          rw [hE'] at hb
          obtain ⟨q1, q2, q3⟩ := labAfter_old hb
          by_cases h2 : i < ms.length
          · obtain ⟨a, a1, a2, a3, a4⟩ := hms' i h2
            rw [a2] at q2; exact q2 (List.mem_of_getElem? a1)
          · simp only [nameOf, if_neg h2] at q3; omega
    intro k o hk
    obtain ⟨p1, p2, p3⟩ := putObs_get (nameOf ms B.length) ms obs' B hml hnd hmsB k
    have back : ∀ {i : Nat}, (obs'[i]?).map (Option.map (renO (nameOf ms B.length))) = some (some o) → ∃ o', obs'[i]? = some (some o') ∧ renO (nameOf ms B.length) o' = o := by
      intro i h
      cases hi : obs'[i]? with
      | none => rw [hi] at h; cases h
      | some q =>
        rw [hi] at h
        cases q with
        | none => simp at h
        | some q => exact ⟨q, rfl, by simpa using h⟩
    by_cases hkB : k < B.length
    · by_cases hkm : k ∈ ms
      · obtain ⟨i, hi⟩ := List.getElem?_of_mem hkm
        rw [p2 i hi] at hk
        obtain ⟨o', ho, rfl⟩ := back hk
        have := one i o' ho
        rwa [nameOf_lt hi] at this
      · rw [p1 hkB hkm] at hk
        refine (hob k o hk).move hX ((hdom k).2 hkB) ?_
        rintro (hl | hl) hb
        · obtain ⟨q1, q2⟩ := hlab2 _ hb (small_ext.2 (.inr ⟨k, hl, hkm⟩)) (.inr ⟨k, hl, hkB⟩)
          exact ⟨q2, q1⟩
        · obtain ⟨q1, q2⟩ := hX.imm _ hb hl
          exact ⟨q2, q1.trans hl.symm⟩
    · rw [p3 (by omega)] at hk
      obtain ⟨o', ho, rfl⟩ := back hk
      have := one _ o' ho
      have he : nameOf ms B.length (ms.length + (k - B.length)) = k := by
        unfold nameOf
        rw [if_neg (by omega)]; omega
      rwa [he] at this
end Go.Proofs.VL


namespace Go.Proofs.VL
/-! ### short names -/
theorem Q0.{u0} : type_of% @List.zipIdx_cons.{u0} := @List.zipIdx_cons.{u0}
theorem Q1.{u0} : type_of% @List.zipIdx_nil.{u0} := @List.zipIdx_nil.{u0}
theorem Q2.{u0,u1} : type_of% @List.map_cons.{u0,u1} := @List.map_cons.{u0,u1}
theorem Q3.{u0,u1} : type_of% @List.map_nil.{u0,u1} := @List.map_nil.{u0,u1}
theorem Q4.{u0} : type_of% @Option.getD_some.{u0} := @Option.getD_some.{u0}
theorem Q5.{u0} : type_of% @Option.getD_none.{u0} := @Option.getD_none.{u0}
theorem Q6.{u0,u1} : type_of% @Option.map_some.{u0,u1} := @Option.map_some.{u0,u1}
theorem Q7.{u0,u1} : type_of% @Option.map_none.{u0,u1} := @Option.map_none.{u0,u1}
theorem Q8.{u0,u1} : type_of% @Option.bind_some.{u0,u1} := @Option.bind_some.{u0,u1}
theorem Q9.{u0,u1} : type_of% @Option.bind_none.{u0,u1} := @Option.bind_none.{u0,u1}
theorem Q10.{u0} : type_of% @Option.isSome_none.{u0} := @Option.isSome_none.{u0}
theorem Q11.{u0} : type_of% @Option.isSome_some.{u0} := @Option.isSome_some.{u0}
theorem Q12.{u0} : type_of% @beq_self_eq_true.{u0} := @beq_self_eq_true.{u0}
theorem Q13.{u0} : type_of% @List.append_nil.{u0} := @List.append_nil.{u0}
theorem Q14.{u0} : type_of% @List.nil_append.{u0} := @List.nil_append.{u0}
theorem Q15.{u0} : type_of% @List.cons_append.{u0} := @List.cons_append.{u0}
theorem Q16 : type_of% @Nat.zero_add := @Nat.zero_add
theorem Q17 : type_of% @Nat.add_zero := @Nat.add_zero
theorem Q18.{u0} : type_of% @List.replicate_succ.{u0} := @List.replicate_succ.{u0}
theorem Q19.{u0} : type_of% @List.replicate_zero.{u0} := @List.replicate_zero.{u0}
theorem Q20.{u0} : type_of% @List.set_cons_zero.{u0} := @List.set_cons_zero.{u0}
theorem Q21.{u0} : type_of% @List.set_cons_succ.{u0} := @List.set_cons_succ.{u0}
theorem Q22.{u0} : type_of% @List.length_cons.{u0} := @List.length_cons.{u0}
theorem Q23.{u0} : type_of% @List.length_nil.{u0} := @List.length_nil.{u0}
theorem Q24.{u0} : type_of% @List.getElem?_cons_zero.{u0} := @List.getElem?_cons_zero.{u0}
theorem Q25.{u0} : type_of% @List.getElem?_cons_succ.{u0} := @List.getElem?_cons_succ.{u0}
theorem Q26.{u0} : type_of% @List.getElem?_nil.{u0} := @List.getElem?_nil.{u0}
theorem Q27 : type_of% @and_true := @and_true
theorem Q28 : type_of% @true_and := @true_and
theorem Q29 : type_of% @and_self := @and_self
theorem Q30.{u0} : type_of% @List.headD_cons.{u0} := @List.headD_cons.{u0}
theorem Q31.{u0} : type_of% @List.tail_cons.{u0} := @List.tail_cons.{u0}
theorem Q32.{u0} : type_of% @List.all_cons.{u0} := @List.all_cons.{u0}
theorem Q33.{u0} : type_of% @List.all_nil.{u0} := @List.all_nil.{u0}
theorem Q34 : type_of% @Bool.and_true := @Bool.and_true
theorem Q35 : type_of% @Bool.true_and := @Bool.true_and
theorem Q36 : type_of% @Bool.and_self := @Bool.and_self
theorem Q37 : type_of% @Bool.and_false := @Bool.and_false
theorem Q38 : type_of% @Bool.false_and := @Bool.false_and
theorem Q39 : type_of% @Bool.not_true := @Bool.not_true
theorem Q40 : type_of% @Bool.not_false := @Bool.not_false
theorem Q41 : type_of% @decide_true := @decide_true
theorem Q42 : type_of% @decide_false := @decide_false
theorem Q43 : type_of% @decide_eq_true_eq := @decide_eq_true_eq
theorem Q44.{u0} : type_of% @if_true.{u0} := @if_true.{u0}
theorem Q45.{u0} : type_of% @if_false.{u0} := @if_false.{u0}
theorem Q46 : type_of% @Bool.false_eq_true := @Bool.false_eq_true
theorem Q47 : type_of% @Bool.true_eq_false := @Bool.true_eq_false
theorem Q48.{u0} : type_of% @List.length_append.{u0} := @List.length_append.{u0}
theorem Q49.{u0,u1} : type_of% @List.length_map.{u0,u1} := @List.length_map.{u0,u1}
theorem Q50.{u0} : type_of% @List.take_zero.{u0} := @List.take_zero.{u0}
theorem Q51.{u0} : type_of% @List.take_succ_cons.{u0} := @List.take_succ_cons.{u0}
theorem Q52.{u0} : type_of% @List.take_nil.{u0} := @List.take_nil.{u0}
theorem Q53.{u0} : type_of% @List.drop_zero.{u0} := @List.drop_zero.{u0}
theorem Q54.{u0} : type_of% @List.drop_succ_cons.{u0} := @List.drop_succ_cons.{u0}
theorem Q55.{u0} : type_of% @List.drop_nil.{u0} := @List.drop_nil.{u0}
theorem Q56.{u0} : type_of% @List.length_set.{u0} := @List.length_set.{u0}
theorem Q57 : type_of% @Nat.le_refl := @Nat.le_refl
theorem Q58 : type_of% @Int.toNat_natCast := @Int.toNat_natCast
theorem Q59 : type_of% @Int.toNat_zero := @Int.toNat_zero
theorem Q60.{u0} : type_of% @List.length_singleton.{u0} := @List.length_singleton.{u0}
theorem Q61.{u0} : type_of% @ge_iff_le.{u0} := @ge_iff_le.{u0}
theorem Q62.{u0} : type_of% @gt_iff_lt.{u0} := @gt_iff_lt.{u0}
theorem Q63 : type_of% @Int.cast_ofNat_Int := @Int.cast_ofNat_Int
theorem Q64 : type_of% @Int.natCast_zero := @Int.natCast_zero
theorem Q65.{u0} : type_of% @List.getLast?_nil.{u0} := @List.getLast?_nil.{u0}
theorem Q66.{u0} : type_of% @List.getLast?_singleton.{u0} := @List.getLast?_singleton.{u0}
theorem Q67.{u0} : type_of% @List.dropLast_singleton.{u0} := @List.dropLast_singleton.{u0}
end Go.Proofs.VL

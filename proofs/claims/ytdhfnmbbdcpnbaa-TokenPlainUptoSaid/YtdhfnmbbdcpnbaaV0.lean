/- A logic of values over the model, part 1: symbolic states, their soundness, rules for calls and loops. No law is stated here. -/
import Derived.Below
import Derived.Orders
import Derived.WalkKit
import Derived.Laws.Slices
import Derived.Laws.Strings
import Derived.WalkSpells
import Derived.WalkLawsBesides
import Derived.Laws.StructEq
import Derived.Laws.IdiomStrings
import Derived.Laws.BytesArg
import Derived.Laws.MakeOwn
import Derived.MapKept
namespace Go.Proofs.VL
open Go Go.RowKit

inductive V where
  | bool (b : Bool) | int (k : IntKind) (n : Int) | str (l : List UInt8)
  | nils | sl (sz : Nat) (rows : List (List V)) | ref (k n : Nat)
  | ptr (k off : Nat) | eptr (k i sz off : Nat) | iptr (cs : List V)
  | agg (cs : List V) | tup (cs : List V) | fn (f : FuncId) (first caps : List V)
  | nilp | nilm | nilf | nili | mapr (k : Nat) | refs (k sz off n : Nat) | junk
  deriving Inhabited

inductive Lab where
  | imm | ext | obj (k : Nat)
  deriving DecidableEq

structure Env where
  dom : Nat → Prop
  lab : Nat → Lab
  blk : Nat → Nat
  cap : Nat → Nat
  nil : Nat → Bool
  dfr : List Deferred := []

/-- The same of a frame that has put nothing off. -/
def Env.dry (E : Env) : Env := { E with dfr := [] }

def CellsAt (w : World) (b off : Nat) (vs : List Value) : Prop := ∀ j v, vs[j]? = some v → w.cell? ⟨b, off + j, none⟩ = some v

def Env.pure (E : Env) : Env := { E with dom := fun _ => False }

def aval (E : Env) (k n : Nat) : Value := .slice (if E.nil k then none else some ⟨E.blk k, 0, none⟩) n (E.cap k)

def Ones (vs : List Value) : Prop := ∀ v ∈ vs, v.oneCell' = true

mutual
def Rep (w : World) (E : Env) : V → Value → Prop
  | .bool b, v => v = .bool b
  | .int k n, v => v = .int k n
  | .str l, v => v = .string ⟨⟨l⟩⟩
  | .nils, v => v = .slice none 0 0
  | .sl sz rows, v => ∃ a cap vs, v = .slice a rows.length cap ∧ rows.length ≤ cap ∧ RepFlat w E.pure sz rows vs ∧ Ones vs ∧ (rows = [] ∨ ∃ b off, a = some ⟨b, off, none⟩ ∧ E.lab b = .imm ∧ b < w.heap.size ∧ CellsAt w b off vs)
  | .ref k n, v => E.dom k ∧ n ≤ E.cap k ∧ (E.nil k = true → E.cap k = 0) ∧ v = aval E k n
  | .ptr k off, v => E.dom k ∧ v = .pointer (some ⟨E.blk k, off, none⟩)
  | .eptr k i sz off, v => E.dom k ∧ E.nil k = false ∧ v = .pointer (some ⟨E.blk k, i * sz + off, none⟩)
  | .iptr cs, v => ∃ b off vs, v = .pointer (some ⟨b, off, none⟩) ∧ E.lab b = .imm ∧ b < w.heap.size ∧ CellsAt w b off vs ∧ RepL w E.pure cs vs
  | .agg cs, v => ∃ vs, v = .agg ⟨vs⟩ ∧ RepL w E cs vs
  | .tup cs, v => ∃ vs, v = .tuple ⟨vs⟩ ∧ RepL w E cs vs
  | .fn f first caps, v => ∃ a b, v = .func (.func f) ⟨a⟩ ⟨b⟩ ∧ RepL w E first a ∧ RepL w E caps b
  | .nilp, v => v = .pointer none
  | .nilm, v => v = .map none
  | .nilf, v => v = .nilFunc
  | .nili, v => v = .nilIface
  | .mapr k, v => E.dom k ∧ v = .map (some (E.blk k))
  | .refs k sz off n, v => E.dom k ∧ E.nil k = false ∧ off + n ≤ E.cap k ∧ ∃ a, v = .slice (some ⟨E.blk k, a, none⟩) n (E.cap k - off) ∧ (off < E.cap k → a = off * sz)
  | .junk, _ => True
def RepL (w : World) (E : Env) : List V → List Value → Prop
  | [], vs => vs = []
  | x :: xs, vs => ∃ v vs', vs = v :: vs' ∧ Rep w E x v ∧ RepL w E xs vs'
def RepFlat (w : World) (E : Env) (sz : Nat) : List (List V) → List Value → Prop
  | [], vs => vs = []
  | r :: rs, vs => ∃ a b, vs = a ++ b ∧ a.length = sz ∧ RepL w E r a ∧ RepFlat w E sz rs b
end

/-- One state of memory leads to a later one. -/
structure Ext (w : World) (E : Env) (w' : World) (E' : Env) : Prop where
  os : w'.os = w.os
  tape : w'.tape = w.tape
  output : w'.output = w.output
  size : w.heap.size ≤ w'.heap.size
  imm : ∀ b, b < w.heap.size → E.lab b = .imm → E'.lab b = .imm ∧ w'.heap[b]? = w.heap[b]?
  ext : ∀ b, b < w.heap.size → E.lab b = .ext → E'.lab b = .ext ∧ w'.heap[b]? = w.heap[b]?
  dom : ∀ k, E.dom k → E'.dom k
  blk : ∀ k, E.dom k → E'.blk k = E.blk k
  cap : ∀ k, E.dom k → E'.cap k = E.cap k
  nil : ∀ k, E.dom k → E'.nil k = E.nil k

theorem cell_lt {w : World} {b i : Nat} {v : Value} (h : w.cell? ⟨b, i, none⟩ = some v) : b < w.heap.size := by
  rcases Nat.lt_or_ge b w.heap.size with h' | h'
  · exact h'
  · simp [World.cell?, Array.getElem?_eq_none h'] at h

theorem CellsAt.of_block {w w' : World} {b off : Nat} {vs : List Value} (h : w'.heap[b]? = w.heap[b]?) (hc : CellsAt w b off vs) : CellsAt w' b off vs := by
  intro j v hj
  have := hc j v hj
  simpa [World.cell?, h] using this

theorem CellsAt.lt {w : World} {b off : Nat} {vs : List Value} (h : CellsAt w b off vs) (h0 : 0 < vs.length) : b < w.heap.size := by
  cases vs with
  | nil => simp at h0
  | cons v r => exact cell_lt (h 0 v rfl)

theorem Ext.refl (w : World) (E : Env) : Ext w E w E :=
  ⟨rfl, rfl, rfl, Nat.le_refl _, fun _ _ h => ⟨h, rfl⟩, fun _ _ h => ⟨h, rfl⟩, fun _ h => h, fun _ _ => rfl, fun _ _ => rfl, fun _ _ => rfl⟩

theorem Ext.trans {a b c : World} {A B C : Env} (h : Ext a A b B) (g : Ext b B c C) : Ext a A c C where
  os := g.os.trans h.os
  tape := g.tape.trans h.tape
  output := g.output.trans h.output
  size := Nat.le_trans h.size g.size
  imm := fun k hk hl => by
    obtain ⟨h1, h2⟩ := h.imm k hk hl
    obtain ⟨g1, g2⟩ := g.imm k (Nat.lt_of_lt_of_le hk h.size) h1
    exact ⟨g1, g2.trans h2⟩
  ext := fun k hk hl => by
    obtain ⟨h1, h2⟩ := h.ext k hk hl
    obtain ⟨g1, g2⟩ := g.ext k (Nat.lt_of_lt_of_le hk h.size) h1
    exact ⟨g1, g2.trans h2⟩
  dom := fun k hk => g.dom k (h.dom k hk)
  blk := fun k hk => (g.blk k (h.dom k hk)).trans (h.blk k hk)
  cap := fun k hk => (g.cap k (h.dom k hk)).trans (h.cap k hk)
  nil := fun k hk => (g.nil k (h.dom k hk)).trans (h.nil k hk)

theorem Ext.pure {w w' : World} {E E' : Env} (h : Ext w E w' E') : Ext w E.pure w' E'.pure :=
  ⟨h.os, h.tape, h.output, h.size, h.imm, h.ext, fun _ hk => hk, fun _ hk => hk.elim, fun _ hk => hk.elim, fun _ hk => hk.elim⟩

theorem Ext.ofBare {w w' : World} {E E' : Env} (h : Ext w E.dry w' E') : Ext w E w' E' := ⟨h.os, h.tape, h.output, h.size, h.imm, h.ext, h.dom, h.blk, h.cap, h.nil⟩
theorem Ext.toBare {w w' : World} {E E' : Env} (h : Ext w E w' E') : Ext w E.dry w' E' := ⟨h.os, h.tape, h.output, h.size, h.imm, h.ext, h.dom, h.blk, h.cap, h.nil⟩

theorem aval_ext {w w' : World} {E E' : Env} (H : Ext w E w' E') {k : Nat} (h : E.dom k) (n : Nat) : aval E' k n = aval E k n := by
  simp only [aval, H.nil k h, H.blk k h, H.cap k h]

/-- The part of it that a reading wants. -/
structure IExt (w : World) (E : Env) (w' : World) (E' : Env) : Prop where
  size : w.heap.size ≤ w'.heap.size
  imm : ∀ b, b < w.heap.size → E.lab b = .imm → E'.lab b = .imm ∧ w'.heap[b]? = w.heap[b]?
  dom : ∀ k, E.dom k → E'.dom k
  blk : ∀ k, E.dom k → E'.blk k = E.blk k
  cap : ∀ k, E.dom k → E'.cap k = E.cap k
  nil : ∀ k, E.dom k → E'.nil k = E.nil k

theorem Ext.i {w w' : World} {E E' : Env} (h : Ext w E w' E') : IExt w E w' E' := ⟨h.size, h.imm, h.dom, h.blk, h.cap, h.nil⟩

theorem IExt.pure {w w' : World} {E E' : Env} (h : IExt w E w' E') : IExt w E.pure w' E'.pure :=
  ⟨h.size, h.imm, fun _ hk => hk, fun _ hk => hk.elim, fun _ hk => hk.elim, fun _ hk => hk.elim⟩

theorem aval_iext {w w' : World} {E E' : Env} (H : IExt w E w' E') {k : Nat} (h : E.dom k) (n : Nat) : aval E' k n = aval E k n := by
  simp only [aval, H.nil k h, H.blk k h, H.cap k h]

mutual
theorem Rep.iext {w w' : World} {E E' : Env} (H : IExt w E w' E') : (x : V) → (v : Value) → Rep w E x v → Rep w' E' x v
  | .bool _, _, h => h
  | .int _ _, _, h => h
  | .str _, _, h => h
  | .nils, _, h => h
  | .sl sz rows, v, h => by
    simp only [Rep] at h ⊢
    obtain ⟨a, cap, vs, rfl, hl, hr, h1, h⟩ := h
    refine ⟨a, cap, vs, rfl, hl, RepFlat.iext H.pure sz rows vs hr, h1, ?_⟩
    rcases h with h | ⟨b, off, ha, hb, hlt, hc⟩
    · exact .inl h
    · obtain ⟨i1, i2⟩ := H.imm b hlt hb
      exact .inr ⟨b, off, ha, i1, Nat.lt_of_lt_of_le hlt H.size, hc.of_block i2⟩
  | .ref k n, v, h => by
    simp only [Rep] at h ⊢
    obtain ⟨h1, h2, h3, rfl⟩ := h
    refine ⟨H.dom k h1, ?_, ?_, ?_⟩
    · rw [H.cap k h1]; exact h2
    · rw [H.cap k h1, H.nil k h1]; exact h3
    · rw [aval_iext H h1]
  | .ptr k off, v, h => by
    simp only [Rep] at h ⊢
    obtain ⟨h1, rfl⟩ := h
    exact ⟨H.dom k h1, by rw [H.blk k h1]⟩
  | .eptr k i sz off, v, h => by
    simp only [Rep] at h ⊢
    obtain ⟨h1, h2, rfl⟩ := h
    exact ⟨H.dom k h1, by rw [H.nil k h1]; exact h2, by rw [H.blk k h1]⟩
  | .iptr cs, v, h => by
    simp only [Rep] at h ⊢
    obtain ⟨b, off, vs, rfl, hb, hlt, hc, hr⟩ := h
    obtain ⟨i1, i2⟩ := H.imm b hlt hb
    exact ⟨b, off, vs, rfl, i1, Nat.lt_of_lt_of_le hlt H.size, hc.of_block i2, RepL.iext H.pure cs vs hr⟩
  | .agg cs, v, h => by
    simp only [Rep] at h ⊢
    obtain ⟨vs, rfl, hr⟩ := h
    exact ⟨vs, rfl, RepL.iext H cs vs hr⟩
  | .tup cs, v, h => by
    simp only [Rep] at h ⊢
    obtain ⟨vs, rfl, hr⟩ := h
    exact ⟨vs, rfl, RepL.iext H cs vs hr⟩
  | .fn f first caps, v, h => by
    simp only [Rep] at h ⊢
    obtain ⟨a, b, rfl, ha, hb⟩ := h
    exact ⟨a, b, rfl, RepL.iext H first a ha, RepL.iext H caps b hb⟩
  | .nilp, _, h => h
  | .nilm, _, h => h
  | .nilf, _, h => h
  | .nili, _, h => h
  | .mapr k, v, h => by
    simp only [Rep] at h ⊢
    obtain ⟨h1, rfl⟩ := h
    exact ⟨H.dom k h1, by rw [H.blk k h1]⟩
  | .refs k sz off n, v, h => by
    simp only [Rep] at h ⊢
    obtain ⟨h1, h2, h3, a, rfl, h4⟩ := h
    exact ⟨H.dom k h1, by rw [H.nil k h1]; exact h2, by rw [H.cap k h1]; exact h3, a, by rw [H.blk k h1, H.cap k h1], by rw [H.cap k h1]; exact h4⟩
  | .junk, _, _ => trivial
theorem RepL.iext {w w' : World} {E E' : Env} (H : IExt w E w' E') : (xs : List V) → (vs : List Value) → RepL w E xs vs → RepL w' E' xs vs
  | [], _, h => h
  | x :: xs, vs, h => by
    simp only [RepL] at h ⊢
    obtain ⟨v, vs', rfl, h1, h2⟩ := h
    exact ⟨v, vs', rfl, Rep.iext H x v h1, RepL.iext H xs vs' h2⟩
theorem RepFlat.iext {w w' : World} {E E' : Env} (H : IExt w E w' E') (sz : Nat) : (rows : List (List V)) → (vs : List Value) → RepFlat w E sz rows vs → RepFlat w' E' sz rows vs
  | [], _, h => h
  | r :: rs, vs, h => by
    simp only [RepFlat] at h ⊢
    obtain ⟨a, b, rfl, h1, h2, h3⟩ := h
    exact ⟨a, b, rfl, h1, RepL.iext H r a h2, RepFlat.iext H sz rs b h3⟩
end

theorem Rep.ext {w w' : World} {E E' : Env} (H : Ext w E w' E') (x : V) (v : Value) (h : Rep w E x v) : Rep w' E' x v := Rep.iext H.i x v h
theorem RepL.ext {w w' : World} {E E' : Env} (H : Ext w E w' E') (xs : List V) (vs : List Value) (h : RepL w E xs vs) : RepL w' E' xs vs := RepL.iext H.i xs vs h
theorem RepFlat.ext {w w' : World} {E E' : Env} (H : Ext w E w' E') (sz : Nat) (rows : List (List V)) (vs : List Value) (h : RepFlat w E sz rows vs) : RepFlat w' E' sz rows vs := RepFlat.iext H.i sz rows vs h

theorem RepL.length {w : World} {E : Env} {xs : List V} {vs : List Value} (h : RepL w E xs vs) : vs.length = xs.length := by
  induction xs generalizing vs with
  | nil => simp only [RepL] at h; simp [h]
  | cons x xs ih =>
    simp only [RepL] at h
    obtain ⟨v, vs', rfl, _, h2⟩ := h
    simp [ih h2]

theorem RepL.get {w : World} {E : Env} {xs : List V} {vs : List Value} (h : RepL w E xs vs) {i : Nat} {x : V} (hi : xs[i]? = some x) : ∃ v, vs[i]? = some v ∧ Rep w E x v := by
  induction xs generalizing vs i with
  | nil => simp at hi
  | cons y xs ih =>
    simp only [RepL] at h
    obtain ⟨v, vs', rfl, h1, h2⟩ := h
    cases i with
    | zero =>
      simp at hi
      subst hi
      exact ⟨v, rfl, h1⟩
    | succ i => simpa using ih h2 (by simpa using hi)

theorem RepL.append {w : World} {E : Env} {xs ys : List V} {vs us : List Value} (h : RepL w E xs vs) (g : RepL w E ys us) : RepL w E (xs ++ ys) (vs ++ us) := by
  induction xs generalizing vs with
  | nil => simp only [RepL] at h; subst h; simpa using g
  | cons x xs ih =>
    simp only [RepL] at h
    obtain ⟨v, vs', rfl, h1, h2⟩ := h
    exact ⟨v, vs' ++ us, rfl, h1, ih h2⟩

theorem RepL.take {w : World} {E : Env} {xs : List V} {vs : List Value} (h : RepL w E xs vs) (n : Nat) : RepL w E (xs.take n) (vs.take n) := by
  induction xs generalizing vs n with
  | nil => simp only [RepL] at h; subst h; simp [RepL]
  | cons x xs ih =>
    simp only [RepL] at h
    obtain ⟨v, vs', rfl, h1, h2⟩ := h
    cases n with
    | zero => simp [RepL]
    | succ n => exact ⟨v, vs'.take n, rfl, h1, ih h2 n⟩

theorem RepL.drop {w : World} {E : Env} {xs : List V} {vs : List Value} (h : RepL w E xs vs) (n : Nat) : RepL w E (xs.drop n) (vs.drop n) := by
  induction xs generalizing vs n with
  | nil => simp only [RepL] at h; subst h; simp [RepL]
  | cons x xs ih =>
    cases n with
    | zero => simpa using h
    | succ n =>
      simp only [RepL] at h
      obtain ⟨v, vs', rfl, h1, h2⟩ := h
      simpa using ih h2 n

theorem RepL.set {w : World} {E : Env} {xs : List V} {vs : List Value} (h : RepL w E xs vs) {x : V} {v : Value} (hv : Rep w E x v) (n : Nat) : RepL w E (xs.set n x) (vs.set n v) := by
  induction xs generalizing vs n with
  | nil => simp only [RepL] at h; subst h; simp [RepL]
  | cons y xs ih =>
    simp only [RepL] at h
    obtain ⟨u, vs', rfl, h1, h2⟩ := h
    cases n with
    | zero => exact ⟨v, vs', rfl, hv, h2⟩
    | succ n => exact ⟨u, vs'.set n v, rfl, h1, ih h2 n⟩

theorem RepL.of_get {w : World} {E : Env} {xs : List V} {vs : List Value} (hl : vs.length = xs.length) (h : ∀ (i : Nat) x v, xs[i]? = some x → vs[i]? = some v → Rep w E x v) : RepL w E xs vs := by
  induction xs generalizing vs with
  | nil => simpa [RepL] using hl
  | cons x xs ih =>
    cases vs with
    | nil => simp at hl
    | cons v vs => exact ⟨v, vs, rfl, h 0 x v rfl rfl, ih (by simpa using hl) (fun i x' v' h1 h2 => h (i + 1) x' v' (by simpa using h1) (by simpa using h2))⟩

theorem RepFlat.length {w : World} {E : Env} {sz : Nat} {rows : List (List V)} {vs : List Value} (h : RepFlat w E sz rows vs) : vs.length = rows.length * sz := by
  induction rows generalizing vs with
  | nil => simp only [RepFlat] at h; simp [h]
  | cons r rs ih =>
    simp only [RepFlat] at h
    obtain ⟨a, b, rfl, h1, _, h3⟩ := h
    simp [ih h3, h1, Nat.add_mul]; omega

theorem RepFlat.row {w : World} {E : Env} {sz : Nat} {rows : List (List V)} {vs : List Value} (h : RepFlat w E sz rows vs) {i : Nat} {r : List V} (hi : rows[i]? = some r) :
    ∃ a, a.length = sz ∧ RepL w E r a ∧ ∀ j v, a[j]? = some v → vs[i * sz + j]? = some v := by
  induction rows generalizing vs i with
  | nil => simp at hi
  | cons r0 rs ih =>
    simp only [RepFlat] at h
    obtain ⟨a, b, rfl, h1, h2, h3⟩ := h
    cases i with
    | zero =>
      simp at hi
      subst hi
      refine ⟨a, h1, h2, fun j v hj => ?_⟩
      have hlt : j < a.length := by
        rcases Nat.lt_or_ge j a.length with h' | h'
        · exact h'
        · rw [List.getElem?_eq_none h'] at hj; cases hj
      rw [Nat.zero_mul, Nat.zero_add, List.getElem?_append_left hlt]; exact hj
    | succ i =>
      obtain ⟨a', g1, g2, g3⟩ := ih h3 (i := i) (by simpa using hi)
      refine ⟨a', g1, g2, fun j v hj => ?_⟩
      rw [List.getElem?_append_right (by rw [h1, Nat.add_mul]; omega)]
      have : (i + 1) * sz + j - a.length = i * sz + j := by rw [h1, Nat.add_mul]; omega
      rw [this]; exact g3 j v hj

theorem RepFlat.append {w : World} {E : Env} {sz : Nat} {rows rows2 : List (List V)} {vs us : List Value} (h : RepFlat w E sz rows vs) (g : RepFlat w E sz rows2 us) : RepFlat w E sz (rows ++ rows2) (vs ++ us) := by
  induction rows generalizing vs with
  | nil => simp only [RepFlat] at h; subst h; simpa using g
  | cons r rs ih =>
    simp only [RepFlat] at h
    obtain ⟨a, b, rfl, h1, h2, h3⟩ := h
    exact ⟨a, b ++ us, by simp, h1, h2, ih h3⟩

theorem RepFlat.take {w : World} {E : Env} {sz : Nat} {rows : List (List V)} {vs : List Value} (h : RepFlat w E sz rows vs) (n : Nat) : RepFlat w E sz (rows.take n) (vs.take (n * sz)) := by
  induction rows generalizing vs n with
  | nil => simp only [RepFlat] at h; subst h; simp [RepFlat]
  | cons r rs ih =>
    simp only [RepFlat] at h
    obtain ⟨a, b, rfl, h1, h2, h3⟩ := h
    cases n with
    | zero => simp [RepFlat]
    | succ n =>
      refine ⟨a, b.take (n * sz), ?_, h1, h2, ih h3 n⟩
      rw [List.take_append, List.take_of_length_le (by rw [h1, Nat.add_mul]; omega)]
      congr 2
      rw [h1, Nat.add_mul]; omega

theorem RepFlat.drop {w : World} {E : Env} {sz : Nat} {rows : List (List V)} {vs : List Value} (h : RepFlat w E sz rows vs) (n : Nat) : RepFlat w E sz (rows.drop n) (vs.drop (n * sz)) := by
  induction rows generalizing vs n with
  | nil => simp only [RepFlat] at h; subst h; simp [RepFlat]
  | cons r rs ih =>
    cases n with
    | zero => simpa using h
    | succ n =>
      simp only [RepFlat] at h
      obtain ⟨a, b, rfl, h1, h2, h3⟩ := h
      have : (a ++ b).drop ((n + 1) * sz) = b.drop (n * sz) := by
        rw [List.drop_append, List.drop_of_length_le (by rw [h1, Nat.add_mul]; omega)]
        simp only [List.nil_append]
        congr 1
        rw [h1, Nat.add_mul]; omega
      rw [this]
      exact ih h3 n

theorem CellsAt.take {w : World} {b off : Nat} {vs : List Value} (h : CellsAt w b off vs) (n : Nat) : CellsAt w b off (vs.take n) := by
  intro j v hj
  refine h j v ?_
  rw [List.getElem?_take] at hj
  split at hj
  · exact hj
  · cases hj

theorem CellsAt.drop {w : World} {b off : Nat} {vs : List Value} (h : CellsAt w b off vs) (n : Nat) : CellsAt w b (off + n) (vs.drop n) := by
  intro j v hj
  have := h (n + j) v (by simpa [List.getElem?_drop] using hj)
  rwa [← Nat.add_assoc] at this

theorem Ones.take {vs : List Value} (h : Ones vs) (n : Nat) : Ones (vs.take n) := fun v hv => h v (List.mem_of_mem_take hv)
theorem Ones.drop {vs : List Value} (h : Ones vs) (n : Nat) : Ones (vs.drop n) := fun v hv => h v (List.mem_of_mem_drop hv)
theorem Ones.append {vs us : List Value} (h : Ones vs) (g : Ones us) : Ones (vs ++ us) := fun v hv => by
  rcases List.mem_append.1 hv with hv | hv
  · exact h v hv
  · exact g v hv
theorem Ones.nil : Ones [] := fun v hv => by cases hv
end Go.Proofs.VL

namespace Go.Proofs.VL
open Go Go.RowKit

inductive VObj where
  | box (cs : List V)
  | arr (e sz : Nat) (rows : List (List V))
  | fro (sz : Nat) (rows : List (List V))
  | map (es : List (Nat × V × V)) (clock : Nat)
  | miter (m : Option Nat) (since : Nat) (seen : List Nat) (last : Nat)
  deriving Inhabited

/-- Entries of a map: each one's stamp, key, and element. -/
def MapRep (w : World) (E : Env) : List (Nat × V × V) → List MapEntry → Prop
  | [], ms => ms = []
  | e :: es, ms => ∃ m ms', ms = m :: ms' ∧ m.born = e.1 ∧ Rep w E e.2.1 m.key ∧ Rep w E e.2.2 m.val ∧ MapRep w E es ms'

theorem MapRep.iext {w w' : World} {E E' : Env} (H : IExt w E w' E') : ∀ {es : List (Nat × V × V)} {ms : List MapEntry}, MapRep w E es ms → MapRep w' E' es ms
  | [], _, h => h
  | e :: es, ms, h => by
    simp only [MapRep] at h ⊢
    obtain ⟨m, ms', rfl, h1, h2, h3, h4⟩ := h
    exact ⟨m, ms', rfl, h1, Rep.iext H _ _ h2, Rep.iext H _ _ h3, MapRep.iext H h4⟩

theorem MapRep.length {w : World} {E : Env} : ∀ {es : List (Nat × V × V)} {ms : List MapEntry}, MapRep w E es ms → ms.length = es.length
  | [], _, h => by simp only [MapRep] at h; simp [h]
  | e :: es, ms, h => by
    simp only [MapRep] at h
    obtain ⟨m, ms', rfl, _, _, _, h4⟩ := h
    simp [MapRep.length h4]

/-- May nothing of an own row be frozen? A row made of a string (kind 0) has its frozen stretch behind its cells. -/
def okFr (e n : Nat) (fr : Nat × Nat) : Prop := fr = (0, 0) ∨ (e = 0 ∧ n ≤ fr.1)
/-- An own row's block. -/
def ownsV (w : World) (e size : Nat) (v : Value) (n : Nat) (xs : List Value) : Prop :=
  xs.length = n * size ∧
  ((v = .slice none 0 0 ∧ n = 0) ∨
   ∃ g cap cur, v = .slice (some ⟨g, 0, none⟩) n cap ∧ 0 ≤ g ∧ (∃ te fr, w.heap[g]? = some (.cells cur te fr) ∧ okFr e cur.size fr ∧ (e ≠ 0 → te = e)) ∧ n ≤ cap ∧ cap ≤ maxLen ∧ cur.size = cap * size ∧ cur.toList.take (n * size) = xs)
theorem ownsV_of {w : World} {e sz n : Nat} {v : Value} {xs : List Value} (h : w.ownsRow 0 e sz v n xs) : ownsV w e sz v n xs := by
  refine ⟨h.1, ?_⟩
  rcases h.2 with h | ⟨g, cap, cur, hv, hb, hg, r⟩
  · exact .inl h
  · exact .inr ⟨g, cap, cur, hv, hb, ⟨e, _, hg, .inl rfl, fun _ => rfl⟩, r⟩
theorem ownsV_to {w : World} {e sz n : Nat} {v : Value} {xs : List Value} (h : ownsV w e sz v n xs) (he : e ≠ 0) : w.ownsRow 0 e sz v n xs := by
  refine ⟨h.1, ?_⟩
  rcases h.2 with h | ⟨g, cap, cur, hv, hb, ⟨te, fr, hg, hf, ht⟩, r⟩
  · exact .inl h
  · rcases hf with rfl | ⟨h0, _⟩
    · rw [ht he] at hg
      exact .inr ⟨g, cap, cur, hv, hb, hg, r⟩
    · exact absurd h0 he
theorem ownsV_nil (w : World) (e sz : Nat) : ownsV w e sz (.slice none 0 0) 0 [] := ⟨by simp, .inl ⟨rfl, rfl⟩⟩
theorem ownsV.cells {w : World} {e sz n g : Nat} {v : Value} {xs : List Value} (h : ownsV w e sz v n xs) (hg : v.ownBlock = some g) (j : Nat) (x : Value) (hj : xs[j]? = some x) : w.cell? ((⟨g, 0, none⟩ : Addr).add j) = some x := by
  rcases h.2 with ⟨rfl, _⟩ | ⟨g', cap, cur, rfl, _, ⟨te, fr, hh, _⟩, _, _, _, ht⟩
  · simp [Value.ownBlock] at hg
  · simp [Value.ownBlock] at hg
    subst hg
    rw [← ht, List.getElem?_take] at hj
    split at hj
    · have ha : (⟨g', 0, none⟩ : Addr).add j = ⟨g', 0 + j, none⟩ := by unfold Addr.add; split <;> simp_all
      rw [ha]
      simp only [World.cell?, hh]
      simpa using hj
    · cases hj

def ObjRep (w : World) (E : Env) (k : Nat) : VObj → Prop
  | .box cs => E.lab (E.blk k) = .obj k ∧ ∃ c e, w.heap[E.blk k]? = some (.cells ⟨c⟩ e (0, 0)) ∧ RepL w E cs c
  | .arr e sz rows => (E.nil k = true → E.cap k = 0) ∧ rows.length ≤ E.cap k ∧ (E.nil k = false → E.lab (E.blk k) = .obj k) ∧
      ∃ vs, ownsV w e sz (aval E k rows.length) rows.length vs ∧ RepFlat w E.pure sz rows vs ∧ Ones vs
  | .fro sz rows => (E.nil k = true → E.cap k = 0) ∧ rows.length ≤ E.cap k ∧ ∃ vs, RepFlat w E.pure sz rows vs ∧ Ones vs ∧ (rows = [] ∨ (E.nil k = false ∧ E.lab (E.blk k) = .imm ∧ E.blk k < w.heap.size ∧ CellsAt w (E.blk k) 0 vs))
  | .map es clock => E.lab (E.blk k) = .obj k ∧ ∃ ms, w.heap[E.blk k]? = some (.map ms clock) ∧ MapRep w E.pure es ms.toList
  | .miter m since seen last => E.lab (E.blk k) = .obj k ∧ (∀ j, m = some j → E.dom j) ∧ w.heap[E.blk k]? = some (.mapIter (m.map E.blk) since ⟨seen⟩ last)

structure St where
  tm : List (Nat × V)
  ob : List (Option VObj)
  base : Nat

def St.get (s : St) (t : Nat) : V := (s.tm.lookup t).getD .junk
def St.put (s : St) (t : Nat) (v : V) : St := { s with tm := (t, v) :: s.tm }
def St.putO (s : St) (d : Option Nat) (v : V) : St := match d with | some t => s.put t v | none => s

inductive X where
  | t (n : Nat) | c (v : V)

def St.x (s : St) : X → V
  | .t n => s.get n
  | .c v => v

def ofConst1 : Value → V
  | .bool b => .bool b
  | .int k n => .int k n
  | .string s => .str s.data.toList
  | .pointer none => .nilp
  | .slice none 0 0 => .nils
  | .map none => .nilm
  | .nilFunc => .nilf
  | .nilIface => .nili
  | _ => .junk

def ofConst : Value → V
  | .agg cs => .agg (cs.toList.map ofConst1)
  | v => ofConst1 v

theorem rep_const1 (w : World) (E : Env) (v : Value) : Rep w E (ofConst1 v) v := by
  unfold ofConst1
  split <;> simp [Rep]

theorem repL_const (w : World) (E : Env) (vs : List Value) : RepL w E (vs.map ofConst1) vs := by
  induction vs with
  | nil => simp [RepL]
  | cons v vs ih => exact ⟨v, vs, rfl, rep_const1 w E v, ih⟩

theorem rep_const (w : World) (E : Env) (v : Value) : Rep w E (ofConst v) v := by
  unfold ofConst
  split
  · rename_i cs
    exact ⟨cs.toList, by simp, repL_const w E _⟩
  · exact rep_const1 w E _

/-- What the symbolic state says of a frame and a world. -/
structure Rel (w0 : World) (E0 : Env) (nt : Nat) (s : St) (a : Act) (w : World) (E : Env) : Prop where
  defers : a.defers = E0.dfr
  size : a.tmps.size = nt
  tmps : ∀ t, Rep w E (s.get t) (a.tmps.getD t undef)
  dom : ∀ k, E.dom k ↔ k < s.ob.length
  objs : ∀ k o, s.ob[k]? = some (some o) → ObjRep w E k o
  fresh : ∀ b, w.heap.size ≤ b → E.lab b = .imm
  ext : Ext w0 E0 w E
  base : ∀ k, E0.dom k → k < s.base

theorem get_put (s : St) (t u : Nat) (v : V) : (s.put t v).get u = if u = t then v else s.get u := by
  unfold St.get St.put
  by_cases h : u = t
  · simp [h]
  · have : (u == t) = false := by simpa using h
    simp [h, List.lookup, this]

def cX : Operand → Option X
  | .tmp t => some (.t t)
  | .const v => some (.c (ofConst v))
  | .func f => some (.c (.fn f [] []))
  | .global _ => none

theorem Rel.x {w0 w : World} {E0 E : Env} {nt : Nat} {s : St} {a : Act} (h : Rel w0 E0 nt s a w E) {o : Operand} {x : X} (hx : cX o = some x) : Rep w E (s.x x) (a.eval o) := by
  cases o with
  | tmp t => simp only [cX, Option.some.injEq] at hx; subst hx; exact h.tmps t
  | const v => simp only [cX, Option.some.injEq] at hx; subst hx; exact rep_const w E v
  | func f => simp only [cX, Option.some.injEq] at hx; subst hx; exact ⟨[], [], rfl, rfl, rfl⟩
  | global g => simp [cX] at hx

theorem tmps_put {a : Act} {d : Option Nat} {v : Value} (t : Nat) : (a.put d v).tmps.getD t undef = match d with | some d => if t = d ∧ d < a.tmps.size then v else a.tmps.getD t undef | none => a.tmps.getD t undef := by
  cases d with
  | none => rfl
  | some d =>
    simp only [Act.put, Array.getD_eq_getD_getElem?, Array.getElem?_setIfInBounds]
    by_cases h : t = d
    · subst h
      by_cases hs : t < a.tmps.size
      · simp [hs]
      · simp [hs]
    · rw [if_neg (fun e => h e.symm)]; simp [h]

theorem size_put (a : Act) (d : Option Nat) (v : Value) : (a.put d v).tmps.size = a.tmps.size := by cases d <;> simp [Act.put]
theorem defers_put (a : Act) (d : Option Nat) (v : Value) : (a.put d v).defers = a.defers := by cases d <;> rfl
theorem putO_base (s : St) (d : Option Nat) (x : V) : (s.putO d x).base = s.base := by cases d <;> rfl
theorem putO_ob (s : St) (d : Option Nat) (x : V) : (s.putO d x).ob = s.ob := by cases d <;> rfl

/-- A slot is written, the objects are others. -/
theorem Rel.put {w0 w w' : World} {E0 E E' : Env} {nt : Nat} {s : St} {a : Act} (h : Rel w0 E0 nt s a w E) (hx : Ext w E w' E') {ob : List (Option VObj)} (hn : ∀ k, E'.dom k ↔ k < ob.length)
    (ho : ∀ k o, ob[k]? = some (some o) → ObjRep w' E' k o) (hf : ∀ b, w'.heap.size ≤ b → E'.lab b = .imm) {d : Option Nat} {x : V} {v : Value} (hd : ∀ t, d = some t → t < nt) (hv : Rep w' E' x v) :
    Rel w0 E0 nt (({ s with ob := ob } : St).putO d x) (a.put d v) w' E' where
  defers := by rw [defers_put]; exact h.defers
  size := by rw [size_put]; exact h.size
  tmps := by
    intro t
    rw [tmps_put]
    cases d with
    | none => exact Rep.ext hx _ _ (h.tmps t)
    | some d =>
      simp only [St.putO]
      rw [get_put]
      by_cases ht : t = d
      · have := hd d rfl
        rw [← h.size] at this
        simp only [ht, true_and, this, if_true]; exact hv
      · simp only [ht, false_and, if_false]; exact Rep.ext hx _ _ (h.tmps t)
  dom := by rw [putO_ob]; exact hn
  objs := by rw [putO_ob]; exact ho
  fresh := hf
  ext := h.ext.trans hx
  base := fun k hk => by rw [putO_base]; exact h.base k hk

/-- A slot is written, nothing else. -/
theorem Rel.put0 {w0 w : World} {E0 E : Env} {nt : Nat} {s : St} {a : Act} (h : Rel w0 E0 nt s a w E) {d : Option Nat} {x : V} {v : Value} (hd : ∀ t, d = some t → t < nt) (hv : Rep w E x v) :
    Rel w0 E0 nt (s.putO d x) (a.put d v) w E :=
  h.put (Ext.refl w E) h.dom h.objs h.fresh hd hv
end Go.Proofs.VL

namespace Go.Proofs.VL
open Go Go.RowKit

/-! ### operations without memory -/
inductive NK where
  | p | s | m | f

inductive FK where
  | i | b | s

/-- A kind of keys. -/
inductive MK where
  | i (q : IntKind) | s

inductive VO where
  | mv (x : X)
  | pick (c a b : X)
  | bin (op : BinOp) (x y : X)
  | eqb (neg : Bool) (x y : X)
  | eqn (kd : NK) (neg : Bool) (x y : X)
  | eqa (neg : Bool) (ks : List FK) (x y : X)
  | un (op : UnOp) (x : X)
  | cint (k : IntKind) (x : X)
  | cstr (x : X)
  | build (zero : List V) (parts : List (Nat × Nat × X))
  | nilck (x : X)
  | fadr (off : Nat) (x : X)
  | fld (off sz : Nat) (agg : Bool) (x : X)
  | iadr (arr : Option Nat) (sz : Nat) (x i : X)
  | idxs (x i : X)
  | idxa (len sz : Nat) (agg : Bool) (x i : X)
  | slcs (x : X) (lo hi : Option X)
  | slc (sz : Nat) (x : X) (lo hi mx : Option X)
  | ext (x : X) (i : Nat)
  | fn (f : FuncId) (first caps : List X)
  | ln (st : Bool) (x : X)
  | mm (mx : Bool) (xs : List X)
  -- with memory
  | alloc (zero : List V)
  | box (x : X)
  | boxI (x : X)
  | load (agg : Bool) (sz : Nat) (x : X)
  | bsl (own : Bool) (e sz len : Nat) (zero : List V) (parts : List (Nat × X))
  | msl (e sz bytes : Nat) (zero : List V) (len cap : X)
  | b2s (x : X)
  | s2b (e : Nat) (x : X)
  | call (f : X) (args : List X)
  -- that write
  | store (sz : Nat) (a x : X)
  | app (e sz bytes : Nat) (x y : X)
  | apps (e : Nat) (x y : X)
  -- maps
  | mkmap (l : List X)
  | look (ck : Bool) (kd : MK) (zero : V) (x i : X)
  | rng (x : X)
  | nxt (x : X)
  | ent (x : X)
  | upd (kd : MK) (m k x : X)
  | del (kd : MK) (m k : X)
  | clr (sz : Nat) (zero : List V) (x : X)

def evInt (op : BinOp) (k : IntKind) (a b : Int) : Option V :=
  match op with
  | .add => some (.int k (k.wrap (a + b)))
  | .sub => some (.int k (k.wrap (a - b)))
  | .mul => some (.int k (k.wrap (a * b)))
  | .quo => if b = 0 then none else some (.int k (k.wrap (a.tdiv b)))
  | .rem => if b = 0 then none else some (.int k (a.tmod b))
  | .and => some (.int k (k.wrap (BitVec.ofInt k.bits a &&& BitVec.ofInt k.bits b).toNat))
  | .or => some (.int k (k.wrap (BitVec.ofInt k.bits a ||| BitVec.ofInt k.bits b).toNat))
  | .xor => some (.int k (k.wrap (BitVec.ofInt k.bits a ^^^ BitVec.ofInt k.bits b).toNat))
  | .andNot => some (.int k (k.wrap (BitVec.ofInt k.bits a &&& ~~~ BitVec.ofInt k.bits b).toNat))
  | .eql => some (.bool (a == b))
  | .neq => some (.bool (a != b))
  | .lss => some (.bool (decide (a < b)))
  | .leq => some (.bool (decide (a ≤ b)))
  | .gtr => some (.bool (decide (a > b)))
  | .geq => some (.bool (decide (a ≥ b)))
  | _ => none

def evStr (op : BinOp) (a b : List UInt8) : Option V :=
  match op with
  | .add => if a.length + b.length ≤ 9223372036854775807 then some (.str (a ++ b)) else none
  | .eql => some (.bool (a == b))
  | .neq => some (.bool (!(a == b)))
  | .lss => some (.bool (Op.bytesLess a b))
  | .leq => some (.bool (Op.bytesLess a b || a == b))
  | .gtr => some (.bool (!(Op.bytesLess a b || a == b)))
  | .geq => some (.bool (!Op.bytesLess a b))
  | _ => none

def evBin (op : BinOp) : V → V → Option V
  | .int k a, .int yk b =>
    match op with
    | .shl => if b < 0 then none else some (.int k (k.wrap (a * 2 ^ min b.toNat k.bits)))
    | .shr => if b < 0 then none else some (.int k (a.fdiv (2 ^ min b.toNat k.bits)))
    | op => if k = yk then evInt op k a b else none
  | .str a, .str b => evStr op a b
  | _, _ => none

/-- Is it nil? (none: that is not known) -/
def isNil : NK → V → Option Bool
  | .p, .nilp => some true
  | .p, .ptr _ _ => some false
  | .p, .eptr _ _ _ _ => some false
  | .p, .iptr _ => some false
  | .s, .nils => some true
  | .s, .sl _ (_ :: _) => some false
  | .s, .ref _ n => if 0 < n then some false else none
  | .s, .refs _ _ _ _ => some false
  | .m, .nilm => some true
  | .m, .mapr _ => some false
  | .f, .nilf => some true
  | .f, .fn _ _ _ => some false
  | _, _ => none

def eqCell : FK → V → V → Option Bool
  | .i, .int k a, .int k' b => if k = k' then some (a == b) else none
  | .b, .bool a, .bool b => some (a == b)
  | .s, .str a, .str b => some (a == b)
  | _, _, _ => none

def eqCells : List FK → List V → List V → Option Bool
  | [], [], [] => some true
  | k :: ks, x :: xs, y :: ys => match eqCell k x y, eqCells ks xs ys with | some a, some b => some (a && b) | _, _ => none
  | _, _, _ => none

def evUn (op : UnOp) : V → Option V
  | .bool b => match op with | .not => some (.bool (!b)) | _ => none
  | .int k n => match op with
    | .neg => some (.int k (k.wrap (0 - n)))
    | .xor => some (.int k (k.wrap (BitVec.ofInt k.bits (if k.signed then -1 else k.max) ^^^ BitVec.ofInt k.bits n).toNat))
    | _ => none
  | _ => none

def V.cells : V → List V
  | .agg cs => cs
  | v => [v]

def V.ok : V → Bool
  | .junk => false
  | _ => true

def putCells (cs : List V) (off : Nat) : List V → List V
  | [] => cs
  | v :: vs => putCells (cs.set off v) (off + 1) vs

def fillV (ρ : X → V) : List V → List (Nat × Nat × X) → Option (List V)
  | cs, [] => some cs
  | cs, (off, sz, x) :: r => if (ρ x).ok = true ∧ (ρ x).cells.length = sz ∧ off + sz ≤ cs.length then fillV ρ (putCells cs off (ρ x).cells) r else none

def asI : V → Option Int
  | .int _ n => some n
  | _ => none

def boundsV (len cap : Nat) (lo hi mx : Option V) : Option (Nat × Nat × Nat) :=
  match (match mx with | some v => (asI v).bind fun i => if 0 ≤ i ∧ i ≤ cap then some i.toNat else none | none => some cap) with
  | none => none
  | some m =>
    match (match hi with | some v => (asI v).bind fun i => if 0 ≤ i ∧ i ≤ m then some i.toNat else none | none => if mx.isSome then none else some len) with
    | none => none
    | some h =>
      match (match lo with | some v => (asI v).bind fun i => if 0 ≤ i ∧ i ≤ h then some i.toNat else none | none => some 0) with
      | none => none
      | some l => some (l, h, m)

def mmInt (mx : Bool) : V → List V → Option V
  | v, [] => some v
  | .int k a, .int k' b :: r => if k = k' then mmInt mx (.int k (if mx then (if b > a then b else a) else (if b < a then b else a))) r else none
  | _, _ => none

def allInts : List V → Bool
  | [] => true
  | .int _ _ :: r => allInts r
  | _ => false

/-- The value of an operation without memory. -/
def VO.evP (o : VO) (ρ : X → V) : Option V :=
  match o with
  | .mv x => some (ρ x)
  | .pick c a b => match ρ c with | .bool t => some (if t then ρ a else ρ b) | _ => none
  | .bin op x y => evBin op (ρ x) (ρ y)
  | .eqb neg x y => match ρ x, ρ y with | .bool a, .bool b => some (.bool (if neg then !(a == b) else a == b)) | _, _ => none
  | .eqn kd neg x y => match isNil kd (ρ x), isNil kd (ρ y) with
    | some a, some b => if a || b then some (.bool (if neg then !(a && b) else (a && b))) else none
    | _, _ => none
  | .eqa neg ks x y => match ρ x, ρ y with
    | .agg cs, .agg ds => (eqCells ks cs ds).map fun b => .bool (if neg then !b else b)
    | _, _ => none
  | .un op x => evUn op (ρ x)
  | .cint k x => match ρ x with | .int _ n => some (.int k (k.wrap n)) | _ => none
  | .cstr x => match ρ x with | .str l => some (.str l) | _ => none
  | .build zero parts => (fillV ρ zero parts).map .agg
  | .nilck x => match ρ x with | .ptr k o => some (.ptr k o) | .eptr k i s o => some (.eptr k i s o) | .iptr cs => some (.iptr cs) | .fn f a b => some (.fn f a b) | _ => none
  | .fadr off x => match ρ x with
    | .ptr k o => some (.ptr k (o + off))
    | .eptr k i s o => some (.eptr k i s (o + off))
    | .iptr cs => some (.iptr (cs.drop off))
    | _ => none
  | .fld off sz agg x => match ρ x with
    | .agg cs => if off + sz ≤ cs.length then (if agg then some (.agg ((cs.drop off).take sz)) else cs[off]?) else none
    | _ => none
  | .iadr none sz x i => match ρ i with
    | .int _ n => if 0 ≤ n then (match ρ x with
      | .sl s rows => if s = sz then (rows[n.toNat]?).map .iptr else none
      | .ref k m => if n.toNat < m then some (.eptr k n.toNat sz 0) else none
      | .refs k s off m => if s = sz ∧ n.toNat < m then some (.eptr k (off + n.toNat) sz 0) else none
      | _ => none) else none
    | _ => none
  | .iadr (some len) sz x i => match ρ i with
    | .int _ n => if 0 ≤ n ∧ n < len then (match ρ x with
      | .ptr k o => some (.ptr k (o + n.toNat * sz))
      | .iptr cs => some (.iptr (cs.drop (n.toNat * sz)))
      | _ => none) else none
    | _ => none
  | .idxs x i => match ρ x, ρ i with
    | .str l, .int _ n => if 0 ≤ n then (l[n.toNat]?).map (fun c => .int .u8 c.toNat) else none
    | _, _ => none
  | .idxa len sz agg x i => match ρ x, ρ i with
    | .agg cs, .int _ n => if 0 ≤ n ∧ n < len ∧ len * sz ≤ cs.length ∧ 0 < sz then (if agg then some (.agg ((cs.drop (n.toNat * sz)).take sz)) else cs[n.toNat * sz]?) else none
    | _, _ => none
  | .slcs x lo hi => match ρ x with
    | .str l => (boundsV l.length l.length (lo.map ρ) (hi.map ρ) none).map fun b => .str ((l.take b.2.1).drop b.1)
    | _ => none
  | .slc sz x lo hi mx => match ρ x with
    | .sl s rows => if s = sz then (boundsV rows.length rows.length (lo.map ρ) (hi.map ρ) (mx.map ρ)).map fun b => .sl sz ((rows.take b.2.1).drop b.1) else none
    | .nils => (boundsV 0 0 (lo.map ρ) (hi.map ρ) (mx.map ρ)).map fun _ => .nils
    | .ref k n => if mx.isSome then none else match boundsV n n (lo.map ρ) (hi.map ρ) none with
      | some (l, h, _) => if l = 0 then some (.ref k h) else some (.refs k sz l (h - l))
      | none => none
    | .refs k s off n => if mx.isSome ∨ s ≠ sz then none else match boundsV n n (lo.map ρ) (hi.map ρ) none with
      | some (l, h, _) => some (.refs k sz (off + l) (h - l))
      | none => none
    | _ => none
  | .ext x i => match ρ x with | .tup cs => cs[i]? | _ => none
  | .fn f first caps => some (.fn f (first.map ρ) (caps.map ρ))
  | .ln true x => match ρ x with
    | .str l => some (.int .i64 l.length)
    | _ => none
  | .ln false x => match ρ x with
    | .sl _ rows => some (.int .i64 rows.length)
    | .ref _ n => some (.int .i64 n)
    | .refs _ _ _ n => some (.int .i64 n)
    | .nils => some (.int .i64 0)
    | _ => none
  | .mm mx xs => match xs.map ρ with
    | .int k a :: r => mmInt mx (.int k a) r
    | _ => none
  | _ => none
end Go.Proofs.VL

namespace Go.Proofs.VL
open Go Go.RowKit

def aggB (P : Program) (t : TypeId) : Bool := match P.underlying t with | some (.struct _) | some (.array _ _) => true | _ => false
def szB (P : Program) (t : TypeId) : Option Nat := match P.underlying t, P.info? t with | some _, some i => some i.size | _, _ => none
def zeroB (P : Program) (t : TypeId) : Option (List V) := match P.info? t with | some i => (match i.zero with | some z => some (z.cells.toList.map ofConst1) | none => none) | none => none

def cXs : List Operand → Option (List X)
  | [] => some []
  | o :: os => match cX o, cXs os with | some x, some xs => some (x :: xs) | _, _ => none

def cXo : Option Operand → Option (Option X)
  | none => some none
  | some o => match cX o with | some x => some (some x) | none => none

def cParts (P : Program) (place : Nat → Option (Nat × Nat)) : List (Nat × Operand) → Option (List (Nat × Nat × X))
  | [] => some []
  | (i, o) :: r => match place i, cX o, cParts P place r with | some (off, sz), some x, some xs => some ((off, sz, x) :: xs) | _, _, _ => none

def placeB (P : Program) (t : TypeId) : Option (Nat → Option (Nat × Nat)) :=
  match P.underlying t with
  | some (.struct fs) => match fs.toList.mapM (fun f => (szB P f.type).map fun s => (f.offset, s)) with
    | some l => some (fun i => l[i]?)
    | none => none
  | some (.array _ e) => match szB P e with | some s => some (fun i => some (i * s, s)) | none => none
  | _ => none

/-- Fields of one cell each, one behind the other, that are compared by what they hold. -/
def flatFs (P : Program) : Nat → List Field → Option (List FK)
  | _, [] => some []
  | i, f :: fs => if (f.name != "_" && f.offset == i) = true then
      match P.underlying f.type, flatFs P (i + 1) fs with
      | some (.int _), some l => some (.i :: l)
      | some .bool, some l => some (.b :: l)
      | some .string, some l => some (.s :: l)
      | _, _ => none
    else none

def copBin (P : Program) (op : BinOp) (t : TypeId) (x y : X) : Option VO :=
  match P.underlying t with
  | some (.int _) | some .string => some (.bin op x y)
  | some .bool => match op with | .eql => some (.eqb false x y) | .neq => some (.eqb true x y) | _ => none
  | some (.slice _) => match op with | .eql => some (.eqn .s false x y) | .neq => some (.eqn .s true x y) | _ => none
  | some (.pointer _) => match op with | .eql => some (.eqn .p false x y) | .neq => some (.eqn .p true x y) | _ => none
  | some (.map _ _) => match op with | .eql => some (.eqn .m false x y) | .neq => some (.eqn .m true x y) | _ => none
  | some (.func _ _ _) => match op with | .eql => some (.eqn .f false x y) | .neq => some (.eqn .f true x y) | _ => none
  | some (.struct fs) => if P.stoodInHeld t = false ∧ P.eqGuardType P.depth t = false then (match flatFs P 0 fs.toList with | some ks => (match op with | .eql => some (.eqa false ks x y) | .neq => some (.eqa true ks x y) | _ => none) | none => none) else none
  | _ => none

def copConv (ow : Bool) (P : Program) (src dst : TypeId) (x : X) : Option VO :=
  match P.underlying src, P.underlying dst with
  | some (.int _), some (.int k) => some (.cint k x)
  | some .string, some .string => some (.cstr x)
  | some (.slice e), some .string => match P.underlying e with | some (.int .u8) => some (.b2s x) | _ => none
  | some .string, some (.slice e) => match P.underlying e with | some (.int .u8) => if e = 0 then none else some (.s2b (if ow then 0 else e) x) | _ => none
  | _, _ => none

def fieldB (P : Program) (s : TypeId) (f : Nat) : Option Field :=
  match P.underlying s with
  | some (.struct fs) => fs[f]?
  | _ => none

def elemB (P : Program) (t : TypeId) : Option (Nat × Nat × Nat × List V) :=
  match P.underlying t with
  | some (.slice e) => match szB P e, P.info? e, zeroB P e with
    | some s, some i, some z => some (e, s, i.bytes, z)
    | _, _, _ => none
  | _ => none

/-- How a map's keys are compared. -/
def keyB (P : Program) (t : TypeId) : Option MK :=
  match P.underlying t with
  | some (.int q) => some (.i q)
  | some .string => some .s
  | _ => none

/-- A type's zero value. -/
def zeroV (P : Program) (t : TypeId) : Option V :=
  match P.info? t with
  | some i => match i.zero with
    | some z => if aggB P t then (match z with | .agg cs => some (.agg (cs.toList.map ofConst1)) | _ => none) else some (ofConst1 z)
    | none => none
  | none => none

/-- An operation, with what its types say. -/
def cop (ow : Bool) (P : Program) (o : Oper) : Option VO :=
  match o.op with
  | .move x | .assign x => (cX x).map .mv
  | .pick c a b => match cX c, cX a, cX b with | some c, some a, some b => some (.pick c a b) | _, _, _ => none
  | .binOp op t x y _ => match cX x, cX y with | some x, some y => copBin P op t x y | _, _ => none
  | .unOp op _ x => (cX x).map (.un op)
  | .convert s d x => match cX x with | some x => copConv ow P s d x | none => none
  | .build t parts => match zeroB P t, placeB P t with
    | some z, some pl => (cParts P pl parts.toList).map (.build z)
    | _, _ => none
  | .nilCheck x => (cX x).map .nilck
  | .fieldAddr s x f => match fieldB P s f, cX x with
    | some fd, some x => match szB P fd.type with | some s => if s = 0 then none else some (.fadr fd.offset x) | none => none
    | _, _ => none
  | .field s x f => match fieldB P s f, cX x with
    | some fd, some x => (szB P fd.type).map fun s => .fld fd.offset s (aggB P fd.type) x
    | _, _ => none
  | .indexAddr t x i => match P.underlying t, cX x, cX i with
    | some (.slice e), some x, some i => (szB P e).map fun s => .iadr none s x i
    | some (.array n e), some x, some i => (szB P e).map fun s => .iadr (some n) s x i
    | _, _, _ => none
  | .index t x i => match P.underlying t, cX x, cX i with
    | some .string, some x, some i => some (.idxs x i)
    | some (.array n e), some x, some i => (szB P e).map fun s => .idxa n s (aggB P e) x i
    | _, _, _ => none
  | .slice t x lo hi mx => match P.underlying t, cX x, cXo lo, cXo hi, cXo mx with
    | some .string, some x, some lo, some hi, some none => some (.slcs x lo hi)
    | some (.slice e), some x, some lo, some hi, some mx => (szB P e).map fun s => .slc s x lo hi mx
    | _, _, _, _, _ => none
  | .extract x i => (cX x).map fun x => .ext x i
  | .makeFunc (.func f) first caps => match cXs first.toList, cXs caps.toList with | some a, some b => some (.fn f a b) | _, _ => none
  | .alloc e => (zeroB P e).map .alloc
  | .box _ x => (cX x).map fun x => if ow = true then .boxI x else .box x
  | .load t a => match cX a, szB P t with | some a, some s => some (.load (aggB P t) s a) | _, _ => none
  | .store t a x => match cX a, szB P t, cX x with | some a, some s, some x => some (.store s a x) | _, _, _ => none
  | .buildSlice t len parts => match elemB P t with
    | some (e, s, _, z) => if len * s ≤ 16777216 ∧ z.length = s ∧ 0 < s then (cParts P (fun i => some (i, s)) parts.toList).map fun ps => .bsl (len == 0 || ow) e s len z (ps.map fun p => (p.1, p.2.2)) else none
    | none => none
  | .makeSlice t l c => match elemB P t, cX l, cX c with
    | some (e, s, b, z), some l, some c => if z.length = s ∧ 0 < s then some (.msl e s b z l c) else none
    | _, _, _ => none
  | .makeMap t r => match P.underlying t, cXo r with
    | some (.map _ _), some q => some (.mkmap q.toList)
    | _, _ => none
  | .lookup t x i ck => match P.underlying t, cX x, cX i with
    | some (.map k e), some x, some i => match keyB P k, zeroV P e with
      | some kd, some z => some (.look ck kd z x i)
      | _, _ => none
    | _, _, _ => none
  | .mapUpdate t m i x | .insert t m i x => match P.underlying t, cX m, cX i, cX x with
    | some (.map k _), some m, some i, some x => (keyB P k).map fun kd => .upd kd m i x
    | _, _, _, _ => none
  | .range t x => match P.underlying t, cX x with
    | some (.map _ _), some x => some (.rng x)
    | _, _ => none
  | .next x q => if q then none else (cX x).map .nxt
  | .entry x => (cX x).map .ent
  | .call c => match c.callee, cXs c.args.toList with
    | .value f, some xs => (cX f).map fun f => .call f xs
    | .builtin .len, some [x] => match (c.argTypes[0]?).bind P.underlying with
      | some .string => some (.ln true x)
      | some (.slice _) => some (.ln false x)
      | _ => none
    | .builtin .max, some (x :: xs) => some (.mm true (x :: xs))
    | .builtin .min, some (x :: xs) => some (.mm false (x :: xs))
    | .builtin .delete, some [m, i] => match (c.argTypes[0]?).bind P.underlying with
      | some (.map k _) => (keyB P k).map fun kd => .del kd m i
      | _ => none
    | .builtin .clear, some [x] => match c.argTypes[0]? with
      | some t => match elemB P t with
        | some (_, s, _, z) => if z.length = s ∧ 0 < s then some (.clr s z x) else none
        | none => none
      | none => none
    | .builtin .append, some [x, y] => match c.argTypes[0]?, c.argTypes[1]? with
      | some t, some u => match elemB P t, P.underlying u with
        | some (e, s, b, z), some (.slice e') => if e = e' ∧ t = u ∧ z.length = s ∧ 0 < s ∧ e ≠ 0 then some (.app e s b x y) else none
        | some (e, s, b, z), some .string => match P.underlying e with | some (.int .u8) => (if s = 1 ∧ b = 1 ∧ z.length = 1 ∧ e ≠ 0 then some (.apps e x y) else none) | _ => none
        | _, _ => none
      | _, _ => none
    | _, _ => none
  | _ => none
end Go.Proofs.VL

namespace Go.Proofs.VL
open Go Go.RowKit
set_option linter.unusedSimpArgs false
set_option linter.unusedVariables false

theorem szB_some {P : Program} {t : TypeId} {s : Nat} (h : szB P t = some s) : ∃ d i, P.underlying t = some d ∧ P.info? t = some i ∧ i.size = s := by
  unfold szB at h
  split at h
  · rename_i d i hd hi; exact ⟨d, i, hd, hi, by simpa using h⟩
  · cases h

theorem run_isAgg {P : Program} {t : TypeId} {d : TypeDesc} (h : P.underlying t = some d) (w : World) : (isAgg t).run P w = .ok (aggB P t) w := by
  simp [isAgg, run_underlying h, aggB, h]
  cases d <;> simp

theorem run_sizeOf {P : Program} {t : TypeId} {s : Nat} (h : szB P t = some s) (w : World) : (sizeOf t).run P w = .ok s w := by
  obtain ⟨d, i, _, hi, hs⟩ := szB_some h
  simp [sizeOf, typeInfo, hi, hs]

theorem RepL.cXs {P : Program} {w : World} {E : Env} {x : X → V} {ρ : Operand → Value} (H : ∀ o X, cX o = some X → Rep w E (x X) (ρ o)) : ∀ {os : List Operand} {xs : List X}, cXs os = some xs → RepL w E (xs.map x) (os.map ρ)
  | [], xs, h => by simp [VL.cXs] at h; subst h; simp [RepL]
  | o :: os, xs, h => by
    simp only [VL.cXs] at h
    split at h
    · rename_i x' xs' h1 h2
      simp at h; subst h
      exact ⟨_, _, rfl, H o x' h1, RepL.cXs (P := P) H h2⟩
    · cases h

theorem cells_rep {w : World} {E : Env} {x : V} {v : Value} (h : Rep w E x v) (hx : x ≠ .junk) : RepL w E x.cells v.cells.toList := by
  cases x with
  | agg cs => simp only [Rep] at h; obtain ⟨vs, rfl, hr⟩ := h; simpa [V.cells, Value.cells] using hr
  | junk => exact absurd rfl hx
  | _ =>
    have : v.cells = #[v] := by
      simp only [Rep, aval] at h
      first
        | (subst h; rfl)
        | (obtain ⟨_, _, _, rfl, _⟩ := h; rfl)
        | (obtain ⟨_, _, _, rfl⟩ := h; rfl)
        | (obtain ⟨_, rfl⟩ := h; rfl)
        | (obtain ⟨_, _, rfl⟩ := h; rfl)
        | (obtain ⟨_, _, rfl, _⟩ := h; rfl)
        | (obtain ⟨_, rfl, _⟩ := h; rfl)
        | (obtain ⟨_, _, _, _, rfl, _⟩ := h; rfl)
    rw [this]
    exact ⟨v, [], rfl, h, rfl⟩

theorem toList_mk (l : List UInt8) : (⟨⟨l⟩⟩ : ByteArray).toList = l := by
  have := ByteArray.toList_mk l
  exact this

end Go.Proofs.VL

namespace Go.Proofs.VL
open Go Go.RowKit
set_option linter.unusedSimpArgs false
set_option linter.unusedVariables false

/-- What an operation's value must be. -/
def PS (P : Program) (o : Oper) (vo : VO) : Prop :=
  ∀ (w : World) (E : Env) (x : X → V) (ρ : Operand → Value) (r : V), (∀ o X, cX o = some X → Rep w E (x X) (ρ o)) → vo.evP x = some r → ∃ v, (execOp ρ o).run P w = .ok (.value v) w ∧ Rep w E r v

theorem ps_bin {P : Program} {op : BinOp} {w : World} {E : Env} {x y : V} {vx vy : Value} {r : V} (t : TypeId) (X Y : Operand) (hx : Rep w E x vx) (hy : Rep w E y vy) (h : evBin op x y = some r) :
    ∃ v, (do eqGuard op t X Y vx vy; binOp op t vx vy : Sem Value).run P w = .ok v w ∧ Rep w E r v := by
  unfold evBin at h
  split at h
  · rename_i k a yk b
    simp only [Rep] at hx hy
    subst hx; subst hy
    have hg : (eqGuard op t X Y (.int k a) (.int yk b)).run P w = .ok () w := by
      unfold eqGuard; cases op <;> simp
    simp only [Sem.run_bind, hg, Result.andThen_ok]
    split at h
    · split at h
      · cases h
      · rename_i hb
        simp at h; subst h
        exact ⟨_, by simp [binOp, Op.shift, hb]; rfl, by simp [Rep]⟩
    · split at h
      · cases h
      · rename_i hb
        simp at h; subst h
        exact ⟨_, by simp [binOp, Op.shift, hb]; rfl, by simp [Rep]⟩
    · rename_i hshl hshr
      split at h
      · rename_i hk
        subst hk
        unfold evInt at h
        cases op <;> simp only [Option.some.injEq, reduceCtorEq] at h <;> first
          | (subst h; exact ⟨_, by simp [binOp, Op.intArith, Op.intBits, Op.intCmp]; rfl, by simp [Rep]⟩)
          | (split at h
             · cases h
             · rename_i hb
               simp at h; subst h
               exact ⟨_, by simp [binOp, Op.intDiv, hb]; rfl, by simp [Rep]⟩)
          | exact absurd rfl (hshl)
          | exact absurd rfl (hshr)
      · cases h
  · rename_i a b
    simp only [Rep] at hx hy
    subst hx; subst hy
    have hg : (eqGuard op t X Y (.string ⟨⟨a⟩⟩) (.string ⟨⟨b⟩⟩)).run P w = .ok () w := by
      unfold eqGuard; cases op <;> simp
    simp only [Sem.run_bind, hg, Result.andThen_ok]
    unfold evStr at h
    cases op <;> simp only [Option.some.injEq, reduceCtorEq] at h <;> first
      | (subst h; exact ⟨_, by simp [binOp, Op.stringOp, toList_mk]; rfl, by simp [Rep, toList_mk]⟩)
      | (split at h
         · rename_i hb
           simp at h; subst h
           refine ⟨.string ⟨⟨a ++ b⟩⟩, ?_, by simp [Rep]⟩
           have h1 : (⟨⟨a⟩⟩ : ByteArray).size = a.length := rfl
           have h2 : (⟨⟨b⟩⟩ : ByteArray).size = b.length := rfl
           have h3 : ¬ (((⟨⟨a⟩⟩ : ByteArray).size + (⟨⟨b⟩⟩ : ByteArray).size : Nat) : Int) > IntKind.i64.max := by
             rw [h1, h2]; simp [IntKind.max, IntKind.bits, IntKind.signed]; omega
           simp only [binOp, Op.stringOp]
           rw [if_neg h3]
           simp only [Sem.run_pure]
           exact congrArg (fun q => Result.ok (Value.string q) w) (ByteArray.ext (by rw [ByteArray.data_append]; simp))
         · cases h)
  · cases h

theorem ps_eqb {P : Program} {op : BinOp} {neg : Bool} (hop : op = if neg then .neq else .eql) {w : World} {t : TypeId} (ht : P.underlying t = some .bool) (X Y : Operand) (a b : Bool) :
    (do eqGuard op t X Y (.bool a) (.bool b); binOp op t (.bool a) (.bool b) : Sem Value).run P w = .ok (.bool (if neg then !(a == b) else a == b)) w := by
  have hg : (eqGuard op t X Y (.bool a) (.bool b)).run P w = .ok () w := by
    subst hop; unfold eqGuard; cases neg <;> simp
  simp only [Sem.run_bind, hg, Result.andThen_ok]
  subst hop
  cases neg
  · exact run_eql_bool w t a b ht
  · exact run_neq_bool w t a b ht

theorem guard_plain {P : Program} {w : World} (op : BinOp) (t : TypeId) (X Y : Operand) (a b : Value) (h : ∀ cs ds, ¬ (a = .agg cs ∧ b = .agg ds)) (h2 : a ≠ .nilIface) : (eqGuard op t X Y a b).run P w = .ok () w := by
  unfold eqGuard
  cases op <;> simp
  all_goals
    cases a <;> cases b <;> simp at h h2 ⊢

theorem binop_cmp {P : Program} {w : World} (neg : Bool) (t : TypeId) (a b : Value) (q : Bool) (hi : ∀ k n, a ≠ .int k n) (hf : ∀ k n, a ≠ .float k n) (hc : ∀ k m n, a ≠ .complex k m n) (hs : ∀ s, a ≠ .string s)
    (h : (Op.equal t a b).run P w = .ok q w) : (binOp (if neg then .neq else .eql) t a b).run P w = .ok (.bool (if neg then !q else q)) w := by
  cases neg <;> cases a <;> first
    | exact absurd rfl (hi _ _)
    | exact absurd rfl (hf _ _)
    | exact absurd rfl (hc _ _ _)
    | exact absurd rfl (hs _)
    | (simp [binOp, h])
def nkOk (P : Program) (t : TypeId) : NK → Prop
  | .p => ∃ e, P.underlying t = some (.pointer e)
  | .s => ∃ e, P.underlying t = some (.slice e)
  | .m => ∃ k e, P.underlying t = some (.map k e)
  | .f => ∃ p r v, P.underlying t = some (.func p r v)

theorem ps_eqn {P : Program} {w : World} {E : Env} {t : TypeId} {kd : NK} (ht : nkOk P t kd) {x y : V} {vx vy : Value} {a b : Bool} (neg : Bool) (X Y : Operand)
    (hx : Rep w E x vx) (hy : Rep w E y vy) (ha : isNil kd x = some a) (hb : isNil kd y = some b) (hab : (a || b) = true) :
    (do eqGuard (if neg then .neq else .eql) t X Y vx vy; binOp (if neg then .neq else .eql) t vx vy : Sem Value).run P w = .ok (.bool (if neg then !(a && b) else (a && b))) w := by
  have key : ∀ (d : Nat), (Op.equalIn (d + 1) t vx vy).run P w = .ok (a && b) w ∧ (∀ cs ds, ¬ (vx = .agg cs ∧ vy = .agg ds)) ∧ vx ≠ .nilIface ∧ (∀ k n, vx ≠ .int k n) ∧ (∀ k n, vx ≠ .float k n) ∧ (∀ k m n, vx ≠ .complex k m n) ∧ (∀ s, vx ≠ .string s) := by
    intro d
    cases kd with
    | p =>
      obtain ⟨e, he⟩ := ht
      cases x <;> simp [isNil] at ha <;> cases y <;> simp [isNil] at hb <;> subst ha <;> subst hb <;> simp at hab <;> simp only [Rep] at hx hy
      all_goals
        first
          | (subst hx; subst hy; simp [Op.equalIn, run_underlying he]; done)
          | (obtain ⟨_, _, _, rfl, _⟩ := hx; subst hy; simp [Op.equalIn, run_underlying he]; done)
          | (obtain ⟨_, _, rfl⟩ := hx; subst hy; simp [Op.equalIn, run_underlying he]; done)
          | (obtain ⟨_, rfl⟩ := hx; subst hy; simp [Op.equalIn, run_underlying he]; done)
          | (subst hx; obtain ⟨_, _, _, rfl, _⟩ := hy; simp [Op.equalIn, run_underlying he]; done)
          | (subst hx; obtain ⟨_, _, rfl⟩ := hy; simp [Op.equalIn, run_underlying he]; done)
          | (subst hx; obtain ⟨_, rfl⟩ := hy; simp [Op.equalIn, run_underlying he]; done)
    | s =>
      obtain ⟨e, he⟩ := ht
      have nn : ∀ {z : V} {vz : Value} {q : Bool}, Rep w E z vz → isNil .s z = some q → ∃ ad l c, vz = .slice ad l c ∧ q = ad.isNone ∧ (q = true → l = 0 ∧ c = 0) := by
        intro z vz q hz hq
        cases z with
        | nils => simp only [Rep] at hz; subst hz; simp [isNil] at hq; subst hq; exact ⟨none, 0, 0, rfl, rfl, fun _ => ⟨rfl, rfl⟩⟩
        | sl sz rows =>
          cases rows with
          | nil => simp [isNil] at hq
          | cons r rs =>
            simp only [Rep] at hz
            obtain ⟨a', cap, vs, rfl, _, _, _, h2⟩ := hz
            rcases h2 with h2 | ⟨_, _, rfl, _⟩
            · cases h2
            · simp [isNil] at hq; subst hq; exact ⟨_, _, _, rfl, rfl, fun h => by cases h⟩
        | refs k sz off n => simp only [Rep] at hz; obtain ⟨_, _, _, a, rfl, _⟩ := hz; simp [isNil] at hq; subst hq; exact ⟨_, _, _, rfl, rfl, fun h => by cases h⟩
        | ref k n =>
          simp only [isNil] at hq
          split at hq <;> simp at hq
          rename_i hn
          subst hq
          simp only [Rep, aval] at hz
          obtain ⟨_, h2, h3, rfl⟩ := hz
          have : E.nil k = false := by
            cases hq : E.nil k with
            | false => rfl
            | true => have := h3 hq; omega
          rw [this]
          exact ⟨_, _, _, rfl, rfl, fun h => by cases h⟩
        | _ => simp [isNil] at hq
      obtain ⟨a1, l1, c1, rfl, rfl, h1⟩ := nn hx ha
      obtain ⟨a2, l2, c2, rfl, rfl, h2⟩ := nn hy hb
      cases a1 <;> cases a2 <;> simp at hab <;> simp [Op.equalIn, run_underlying he]
    | m =>
      obtain ⟨k, e, he⟩ := ht
      cases x <;> simp [isNil] at ha <;> cases y <;> simp [isNil] at hb <;> subst ha <;> subst hb <;> simp at hab <;> simp only [Rep] at hx hy
      all_goals
        first
          | (subst hx; subst hy; simp [Op.equalIn, run_underlying he]; done)
          | (obtain ⟨_, rfl⟩ := hx; subst hy; simp [Op.equalIn, run_underlying he]; done)
          | (subst hx; obtain ⟨_, rfl⟩ := hy; simp [Op.equalIn, run_underlying he]; done)
    | f =>
      obtain ⟨p, r, v, he⟩ := ht
      cases x <;> simp [isNil] at ha <;> cases y <;> simp [isNil] at hb <;> subst ha <;> subst hb <;> simp at hab <;> simp only [Rep] at hx hy
      all_goals
        first
          | (subst hx; subst hy; simp [Op.equalIn, run_underlying he]; done)
          | (obtain ⟨_, _, rfl, _⟩ := hx; subst hy; simp [Op.equalIn, run_underlying he]; done)
          | (subst hx; obtain ⟨_, _, rfl, _⟩ := hy; simp [Op.equalIn, run_underlying he]; done)
  obtain ⟨h1, h2, h3, h4, h5, h6, h7⟩ := key 9999
  simp only [Sem.run_bind, guard_plain _ t X Y vx vy h2 h3, Result.andThen_ok]
  exact binop_cmp neg t vx vy (a && b) h4 h5 h6 h7 h1

/-- May a slice be nil? Nobody knows: but it is, or it is not. -/
def unkS : V → V → Bool
  | .sl _ _, .nils => true
  | .ref _ _, .nils => true
  | _, _ => false

theorem ps_eqnU {P : Program} {w : World} {E : Env} {t : TypeId} (ht : nkOk P t .s) {x y : V} {vx vy : Value} (neg : Bool) (X Y : Operand) (hx : Rep w E x vx) (hy : Rep w E y vy) (hu : unkS x y = true) :
    ∃ q : Bool, (do eqGuard (if neg then .neq else .eql) t X Y vx vy; binOp (if neg then .neq else .eql) t vx vy : Sem Value).run P w = .ok (.bool q) w := by
  have hxs : ∃ ad l c, vx = .slice ad l c := by
    unfold unkS at hu
    split at hu
    · simp only [Rep] at hx; obtain ⟨a, cap, vs, rfl, _⟩ := hx; exact ⟨_, _, _, rfl⟩
    · simp only [Rep] at hx; obtain ⟨_, _, _, rfl⟩ := hx; exact ⟨_, _, _, rfl⟩
    · cases hu
  have hys : vy = .slice none 0 0 := by
    unfold unkS at hu
    split at hu
    · exact hy
    · exact hy
    · cases hu
  obtain ⟨ad, l, c, rfl⟩ := hxs
  subst hys
  obtain ⟨e, he⟩ := ht
  have h0 : ∀ d, (Op.equalIn (d + 1) t (.slice ad l c) (.slice none 0 0)).run P w = .ok ad.isNone w := by
    intro d
    cases ad <;> simp [Op.equalIn, run_underlying he]
  have h1 := h0 9999
  refine ⟨if neg then !ad.isNone else ad.isNone, ?_⟩
  simp only [Sem.run_bind, guard_plain _ t X Y (.slice ad l c) (.slice none 0 0) (by simp) (by simp), Result.andThen_ok]
  exact binop_cmp neg t _ _ ad.isNone (by simp) (by simp) (by simp) (by simp) h1

theorem eqFields_run {P : Program} {w : World} {E : Env} (d : Nat) (xs ys : Array Value) : ∀ (fs : List Field) (i : Nat) (ks : List FK) (cs ds : List V) (b : Bool), flatFs P i fs = some ks →
    RepL w E cs (xs.toList.drop i) → RepL w E ds (ys.toList.drop i) → eqCells ks cs ds = some b → (Op.eqFields (d + 1) xs ys fs).run P w = .ok b w
  | [], i, ks, cs, ds, b, hf, _, _, h => by
    simp only [flatFs, Option.some.injEq] at hf
    subst hf
    cases cs <;> cases ds <;> simp [eqCells] at h
    subst h
    simp [Op.eqFields]
  | f :: fs, i, ks, cs, ds, b, hf, hxs, hys, h => by
    simp only [flatFs] at hf
    split at hf
    · rename_i hfo
      simp only [Bool.and_eq_true, bne_iff_ne, ne_eq, beq_iff_eq] at hfo
      obtain ⟨f1, f2⟩ := hfo
      subst f2
      have step : ∀ {k : FK} {l : List FK}, ks = k :: l → flatFs P (f.offset + 1) fs = some l → (∀ (c d' : V) (v u : Value) (a : Bool), eqCell k c d' = some a → Rep w E c v → Rep w E d' u → v.oneCell' = true ∧ (Op.equalIn (d + 1) f.type v u).run P w = .ok a w) →
          (aggB P f.type = false ∧ ∃ q, P.underlying f.type = some q) → (Op.eqFields (d + 1) xs ys (f :: fs)).run P w = .ok b w := by
        intro k l hk hl hcell hagg
        subst hk
        cases cs with
        | nil => simp [eqCells] at h
        | cons c cs =>
        cases ds with
        | nil => simp [eqCells] at h
        | cons d' ds =>
        simp only [RepL] at hxs hys
        obtain ⟨v, vs, hv, hr, hrs⟩ := hxs
        obtain ⟨u, us, hu, hq, hqs⟩ := hys
        have hx0 : xs[f.offset]? = some v := by
          have := congrArg (·[0]?) hv
          simpa using this
        have hy0 : ys[f.offset]? = some u := by
          have := congrArg (·[0]?) hu
          simpa using this
        have hxt : xs.toList.drop (f.offset + 1) = vs := by rw [← List.drop_drop, hv]; rfl
        have hyt : ys.toList.drop (f.offset + 1) = us := by rw [← List.drop_drop, hu]; rfl
        simp only [eqCells] at h
        split at h <;> simp only [reduceCtorEq, Option.some.injEq] at h
        rename_i a b' ha hb
        subst h
        have ih := eqFields_run d xs ys fs (f.offset + 1) l cs ds b' hl (by rw [hxt]; exact hrs) (by rw [hyt]; exact hqs) hb
        obtain ⟨_, k3⟩ := hcell c d' v u a ha hr hq
        obtain ⟨ha0, q, hq0⟩ := hagg
        have hp : ∀ (zs : Array Value) (z : Value), zs[f.offset]? = some z → (part f.type zs f.offset).run P w = .ok z w := by
          intro zs z hz
          simp [part, run_isAgg hq0, ha0, hz]
        simp only [Op.eqFields, f1, ne_eq, not_false_eq_true, if_true, Sem.run_bind, hp _ _ hx0, hp _ _ hy0, k3, Result.andThen_ok]
        cases a
        · simp
        · simpa using ih
      split at hf <;> simp only [reduceCtorEq, Option.some.injEq] at hf
      · rename_i q l hu hl
        refine step hf.symm hl ?_ ⟨by simp [aggB, hu], _, hu⟩
        intro c d' v u a hc hr hq
        cases c <;> cases d' <;> simp only [eqCell, reduceCtorEq] at hc
        split at hc <;> simp only [reduceCtorEq, Option.some.injEq] at hc
        rename_i hkk
        simp only [Rep] at hr hq
        subst hkk; subst hr; subst hq; subst hc
        exact ⟨rfl, by simp [Op.equalIn, run_underlying hu]⟩
      · rename_i l hu hl
        refine step hf.symm hl ?_ ⟨by simp [aggB, hu], _, hu⟩
        intro c d' v u a hc hr hq
        cases c <;> cases d' <;> simp only [eqCell, reduceCtorEq, Option.some.injEq] at hc
        simp only [Rep] at hr hq
        subst hr; subst hq; subst hc
        exact ⟨rfl, by simp [Op.equalIn, run_underlying hu]⟩
      · rename_i l hu hl
        refine step hf.symm hl ?_ ⟨by simp [aggB, hu], _, hu⟩
        intro c d' v u a hc hr hq
        cases c <;> cases d' <;> simp only [eqCell, reduceCtorEq, Option.some.injEq] at hc
        simp only [Rep] at hr hq
        subst hr; subst hq; subst hc
        exact ⟨rfl, by simp [Op.equalIn, run_underlying hu, beq_toListBytes, toList_mk]⟩
    · cases hf

theorem ps_eqa {P : Program} {w : World} {E : Env} {t : TypeId} {fs : Array Field} (ht : P.underlying t = some (.struct fs)) (h1 : P.stoodInHeld t = false) (h2 : P.eqGuardType P.depth t = false) {ks : List FK} (hf : flatFs P 0 fs.toList = some ks)
    {cs ds : List V} {vx vy : Value} (hx : Rep w E (.agg cs) vx) (hy : Rep w E (.agg ds) vy) {b : Bool} (h : eqCells ks cs ds = some b) (neg : Bool) (X Y : Operand) :
    (do eqGuard (if neg then .neq else .eql) t X Y vx vy; binOp (if neg then .neq else .eql) t vx vy : Sem Value).run P w = .ok (.bool (if neg then !b else b)) w := by
  simp only [Rep] at hx hy
  obtain ⟨xs, rfl, hxs⟩ := hx
  obtain ⟨ys, rfl, hys⟩ := hy
  have hfs : P.fieldsOf t = fs := by simp [Program.fieldsOf, ht]
  have hrun : (Op.equalIn 10000 t (.agg ⟨xs⟩) (.agg ⟨ys⟩)).run P w = .ok b w := by
    rw [show (10000 : Nat) = 9998 + 1 + 1 from rfl, run_equalIn_struct w (9998 + 1) t ⟨xs⟩ ⟨ys⟩ (by rw [hfs]; exact ht) h1, hfs]
    exact eqFields_run 9998 ⟨xs⟩ ⟨ys⟩ fs.toList 0 ks cs ds b hf (by simpa using hxs) (by simpa using hys) h
  simp only [Sem.run_bind, run_eqGuard_agg w _ t X Y _ _ h2, Result.andThen_ok]
  exact binop_cmp neg t _ _ b (by simp) (by simp) (by simp) (by simp) hrun
end Go.Proofs.VL

namespace Go.Proofs.VL
open Go Go.RowKit
set_option linter.unusedSimpArgs false
set_option linter.unusedVariables false

theorem putCells_length (xs : List V) : ∀ (cs : List V) (off : Nat), (putCells cs off xs).length = cs.length := by
  induction xs with
  | nil => intro cs off; rfl
  | cons x xs ih => intro cs off; simp [putCells, ih]

theorem fold_put {w : World} {E : Env} : ∀ (vs : List Value) (xs : List V) (k off : Nat) (cs : List V) (c : Array Value), RepL w E xs vs → RepL w E cs c.toList →
    RepL w E (putCells cs (off + k) xs) ((vs.zipIdx k).foldl (fun (q : Array Value) (p : Value × Nat) => q.setIfInBounds (off + p.2) p.1) c).toList
  | [], xs, k, off, cs, c, h, g => by
    cases xs with
    | nil => simpa [putCells] using g
    | cons x xs => simp only [RepL] at h; obtain ⟨_, _, h, _⟩ := h; cases h
  | v :: vs, xs, k, off, cs, c, h, g => by
    cases xs with
    | nil => simp [RepL] at h
    | cons x xs =>
      simp only [RepL] at h
      obtain ⟨v', vs', he, h1, h2⟩ := h
      injection he with he1 he2
      subst he1; subst he2
      simp only [List.zipIdx_cons, List.foldl_cons, putCells]
      rw [Nat.add_assoc]
      refine fold_put vs xs (k + 1) off _ _ h2 ?_
      rw [Array.toList_setIfInBounds]
      exact g.set h1 _

theorem fill_rep {w : World} {E : Env} {x : X → V} {ρ : Operand → Value} (H : ∀ o X, cX o = some X → Rep w E (x X) (ρ o)) {place : Nat → Option (Nat × Nat)} {P : Program} :
    ∀ (parts : List (Nat × Operand)) (ps : List (Nat × Nat × X)) (cs : List V) (c : Array Value) (r : List V), cParts P place parts = some ps → RepL w E cs c.toList → fillV x cs ps = some r →
      ∃ d, Instr.fill place c (parts.map fun p => (p.1, ρ p.2)) = some d ∧ RepL w E r d.toList
  | [], ps, cs, c, r, hp, hc, hf => by
    simp [cParts] at hp; subst hp
    simp [fillV] at hf; subst hf
    exact ⟨c, rfl, hc⟩
  | (i, o) :: parts, ps, cs, c, r, hp, hc, hf => by
    simp only [cParts] at hp
    split at hp
    · rename_i off sz X ps' hpl hX hps
      simp at hp; subst hp
      simp only [fillV] at hf
      split at hf
      · rename_i hb
        have hv := cells_rep (H o X hX) (by rintro e; rw [e] at hb; simp [V.ok] at hb)
        have hl := hv.length
        have hcl := hc.length
        simp only [Array.length_toList] at hl hcl
        have hput := fold_put (ρ o).cells.toList _ 0 off cs c hv hc
        simp only [Nat.add_zero] at hput
        obtain ⟨d, h1, h2⟩ := fill_rep H parts ps' _ _ r hps hput hf
        refine ⟨d, ?_, h2⟩
        simp only [List.map_cons, Instr.fill, hpl]
        rw [if_neg]
        · rw [← h1]
          congr 1
          rw [← Array.foldl_toList]
          simp
        · simp only [hl, ne_eq, Bool.or_eq_true, decide_eq_true_eq, not_or, Decidable.not_not, hb.2.1, true_and, hcl]
          omega
      · cases hf
    · cases hp
end Go.Proofs.VL

namespace Go.Proofs.VL
open Go Go.RowKit
set_option linter.unusedSimpArgs false
set_option linter.unusedVariables false

theorem part_run {P : Program} {w : World} {t : TypeId} {s off : Nat} (hs : szB P t = some s) {cs : List V} {c : List Value} {E : Env} {r : V} (hc : RepL w E cs c)
    (h : (if off + s ≤ cs.length then (if aggB P t then some (V.agg ((cs.drop off).take s)) else cs[off]?) else none) = some r) :
    ∃ v, (part t ⟨c⟩ off).run P w = .ok v w ∧ Rep w E r v := by
  obtain ⟨d, i, hd, hi, hsz⟩ := szB_some hs
  split at h
  · rename_i hle
    unfold part
    simp only [Sem.run_bind, run_isAgg hd, Result.andThen_ok]
    by_cases ha : aggB P t = true
    · simp only [ha, if_true, Option.some.injEq] at h ⊢
      subst h
      refine ⟨.agg (Array.extract ⟨c⟩ off (off + s)), ?_, ?_⟩
      · simp [run_sizeOf hs]
      · simp only [Rep]
        refine ⟨(c.drop off).take s, ?_, (hc.drop off).take s⟩
        congr 1
        apply Array.ext'
        simp [List.take_drop, List.extract_eq_take_drop]
    · simp only [ha, Bool.false_eq_true, if_false] at h ⊢
      obtain ⟨v, h1, h2⟩ := hc.get h
      refine ⟨v, ?_, h2⟩
      have : (⟨c⟩ : Array Value)[off]? = some v := by simpa using h1
      simp [this]
  · cases h

theorem bounds_run {P : Program} {w : World} {E : Env} {x : X → V} {ρ : Operand → Value} (H : ∀ o X, cX o = some X → Rep w E (x X) (ρ o)) (isS : Bool) (len cap CAP : Nat) (hcap : cap ≤ CAP) {lo hi mx : Option Operand} {lo' hi' mx' : Option X}
    (hl : cXo lo = some lo') (hh : cXo hi = some hi') (hm : cXo mx = some mx') {l h m : Nat} (hb : boundsV len cap (lo'.map x) (hi'.map x) (mx'.map x) = some (l, h, m)) :
    ∃ m', (Instr.sliceBounds isS len CAP (lo.map ρ) (hi.map ρ) (mx.map ρ)).run P w = .ok (l, h, m') w ∧ l ≤ h ∧ (h ≤ cap ∨ h = len) ∧ (mx = none → m' = CAP) ∧ (mx ≠ none → h ≤ m' ∧ m' ≤ cap) := by
  have asi : ∀ {o : Operand} {X : X} {i : Int}, cX o = some X → asI (x X) = some i → ∃ k, ρ o = .int k i := by
    intro o X i h1 h2
    have := H o X h1
    cases hx : x X <;> rw [hx] at h2 this <;> simp [asI] at h2
    subst h2
    simp only [Rep] at this
    exact ⟨_, this⟩
  have cxo : ∀ {o : Option Operand} {X : Option X}, cXo o = some X → (o = none ∧ X = none) ∨ ∃ o' X', o = some o' ∧ X = some X' ∧ cX o' = some X' := by
    intro o X h
    cases o with
    | none => simp [cXo] at h; exact .inl ⟨rfl, h.symm⟩
    | some o =>
      simp only [cXo] at h
      split at h
      · rename_i X' hX; simp at h; exact .inr ⟨o, X', rfl, h.symm, hX⟩
      · cases h
  have sb : ∀ {o : Operand} {X : X} {y n Y : Nat} (code : BoundsCode), cX o = some X → y ≤ Y → ((asI (x X)).bind fun i => if 0 ≤ i ∧ i ≤ (y : Int) then some i.toNat else none) = some n →
      (Instr.sliceBound (ρ o) Y code).run P w = .ok n w ∧ n ≤ y := by
    intro o X y n Y code h1 hY h2
    cases ha : asI (x X) with
    | none => simp [ha] at h2
    | some i =>
      simp only [ha, Option.bind_some] at h2
      split at h2
      · rename_i hi
        simp at h2
        obtain ⟨k, hk⟩ := asi h1 ha
        rw [hk]
        refine ⟨?_, by omega⟩
        have hi2 : 0 ≤ i ∧ i ≤ (Y : Int) := ⟨hi.1, by omega⟩
        simp [Instr.sliceBound, asIntOf, hi2, h2]
      · cases h2
  unfold boundsV at hb
  rcases cxo hm with ⟨rfl, rfl⟩ | ⟨om, Xm, rfl, rfl, hXm⟩
  · simp only [Option.map_none] at hb
    rcases cxo hh with ⟨rfl, rfl⟩ | ⟨oh, Xh, rfl, rfl, hXh⟩
    · simp only [Option.map_none, Option.isSome_none, Bool.false_eq_true, if_false] at hb
      rcases cxo hl with ⟨rfl, rfl⟩ | ⟨ol, Xl, rfl, rfl, hXl⟩
      · simp at hb
        obtain ⟨rfl, rfl, rfl⟩ := hb
        exact ⟨CAP, by simp [Instr.sliceBounds], Nat.zero_le _, .inr rfl, fun _ => rfl, fun h => absurd rfl h⟩
      · simp only [Option.map_some] at hb
        split at hb
        · cases hb
        · rename_i l' hl'
          simp at hb
          obtain ⟨rfl, rfl, rfl⟩ := hb
          obtain ⟨r1, r2⟩ := sb .sliceB hXl (Nat.le_refl _) hl'
          exact ⟨CAP, by simp [Instr.sliceBounds, r1], r2, .inr rfl, fun _ => rfl, fun h => absurd rfl h⟩
    · simp only [Option.map_some] at hb
      split at hb
      · cases hb
      · rename_i h' hh'
        obtain ⟨q1, q2⟩ := sb (if isS then .sliceAcap else .sliceAlen) hXh hcap hh'
        rcases cxo hl with ⟨rfl, rfl⟩ | ⟨ol, Xl, rfl, rfl, hXl⟩
        · simp at hb
          obtain ⟨rfl, rfl, rfl⟩ := hb
          exact ⟨CAP, by simp [Instr.sliceBounds, q1], Nat.zero_le _, .inl q2, fun _ => rfl, fun h => absurd rfl h⟩
        · simp only [Option.map_some] at hb
          split at hb
          · cases hb
          · rename_i l' hl'
            simp at hb
            obtain ⟨rfl, rfl, rfl⟩ := hb
            obtain ⟨r1, r2⟩ := sb .sliceB hXl (Nat.le_refl _) hl'
            exact ⟨CAP, by simp [Instr.sliceBounds, r1, q1], r2, .inl q2, fun _ => rfl, fun h => absurd rfl h⟩
  · simp only [Option.map_some] at hb
    split at hb
    · cases hb
    · rename_i m' hm'
      obtain ⟨p1, p2⟩ := sb (if isS then .slice3Acap else .slice3Alen) hXm hcap hm'
      rcases cxo hh with ⟨rfl, rfl⟩ | ⟨oh, Xh, rfl, rfl, hXh⟩
      · simp at hb
      · simp only [Option.map_some] at hb
        split at hb
        · cases hb
        · rename_i h' hh'
          obtain ⟨q1, q2⟩ := sb .slice3B hXh (Nat.le_refl _) hh'
          rcases cxo hl with ⟨rfl, rfl⟩ | ⟨ol, Xl, rfl, rfl, hXl⟩
          · simp at hb
            obtain ⟨rfl, rfl, rfl⟩ := hb
            exact ⟨m', by simp [Instr.sliceBounds, q1, p1], Nat.zero_le _, .inl (by omega), (fun h => absurd h (by simp)), fun _ => ⟨q2, p2⟩⟩
          · simp only [Option.map_some] at hb
            split at hb
            · cases hb
            · rename_i l' hl'
              simp at hb
              obtain ⟨rfl, rfl, rfl⟩ := hb
              obtain ⟨r1, r2⟩ := sb .slice3C hXl (Nat.le_refl _) hl'
              exact ⟨m', by simp [Instr.sliceBounds, r1, q1, p1], r2, .inl (by omega), (fun h => absurd h (by simp)), fun _ => ⟨q2, p2⟩⟩
end Go.Proofs.VL

namespace Go.Proofs.VL
open Go Go.RowKit
set_option linter.unusedSimpArgs false
set_option linter.unusedVariables false

theorem add_off (b off n : Nat) : (⟨b, off, none⟩ : Addr).add n = ⟨b, off + n, none⟩ := by
  unfold Addr.add
  split
  · rename_i h; subst h; rfl
  · rfl

theorem run_value {P : Program} {w : World} {s : Sem Value} {v : Value} (h : s.run P w = .ok v w) : (do pure (Next.value (← s)) : Sem Next).run P w = .ok (.value v) w := by
  simp [h]

theorem mm_rep {P : Program} {w : World} {E : Env} (mx : Bool) : ∀ (xs : List V) (vs : List Value) (x : V) (v : Value) (r : V), Rep w E x v → RepL w E xs vs → (∃ k n, x = .int k n) → mmInt mx x xs = some r →
    ∃ u, (vs.foldlM (if mx then Builtin.max2 else Builtin.min2) v).run P w = .ok u w ∧ Rep w E r u
  | [], vs, x, v, r, hx, h, hi, hr => by
    simp only [RepL] at h; subst h
    obtain ⟨k, n, rfl⟩ := hi
    simp [mmInt] at hr; subst hr
    exact ⟨v, by simp, hx⟩
  | y :: ys, vs, x, v, r, hx, h, hi, hr => by
    simp only [RepL] at h
    obtain ⟨u, vs', rfl, h1, h2⟩ := h
    obtain ⟨k, n, rfl⟩ := hi
    cases y <;> simp [mmInt] at hr
    rename_i k' m
    obtain ⟨rfl, hr⟩ := hr
    simp only [Rep] at hx h1
    subst hx; subst h1
    obtain ⟨u, g1, g2⟩ := mm_rep (P := P) mx ys vs' (.int k (if mx then (if m > n then m else n) else (if m < n then m else n))) (.int k (if mx then (if m > n then m else n) else (if m < n then m else n))) r (by simp [Rep]) h2 ⟨k, _, rfl⟩ (by simpa using hr)
    refine ⟨u, ?_, g2⟩
    cases mx
    · simp only [Bool.false_eq_true, if_false, List.foldlM_cons, Builtin.min2] at g1 ⊢
      simpa using g1
    · simp only [if_true, List.foldlM_cons, Builtin.max2] at g1 ⊢
      simpa using g1

theorem opt_bind {α β : Type} {o : Option α} {f : α → β} {r : β} (h : o.map f = some r) : ∃ a, o = some a ∧ f a = r := by
  cases o with
  | none => simp at h
  | some a => exact ⟨a, rfl, by simpa using h⟩

theorem ps_slice {P : Program} {w : World} {E : Env} {x : X → V} {ρ : Operand → Value} (H : ∀ o X, cX o = some X → Rep w E (x X) (ρ o)) {t e : TypeId} {s : Nat} (ht : P.underlying t = some (.slice e)) (hs : szB P e = some s)
    {X0 : Operand} {X' : X} (hX : cX X0 = some X') {lo hi mx : Option Operand} {lo' hi' mx' : Option X} (hl : cXo lo = some lo') (hh : cXo hi = some hi') (hm : cXo mx = some mx') {r : V}
    (hr : (VO.slc s X' lo' hi' mx').evP x = some r) :
    ∃ v, (Instr.sliceAt t (ρ X0) (lo.map ρ) (hi.map ρ) (mx.map ρ)).run P w = .ok v w ∧ Rep w E r v := by
  have hrx := H X0 X' hX
  simp only [VO.evP] at hr
  have key : ∀ {a : Option Addr} {n CAP l h m : Nat}, ρ X0 = .slice a n CAP → n ≤ CAP → boundsV n n (lo'.map x) (hi'.map x) (mx'.map x) = some (l, h, m) →
      ∃ m', (Instr.sliceAt t (ρ X0) (lo.map ρ) (hi.map ρ) (mx.map ρ)).run P w = .ok (.slice (if m' = l then a else a.map (·.add (l * s))) (h - l) (m' - l)) w ∧ l ≤ h ∧ h ≤ n ∧ (mx = none → m' = CAP) ∧ h ≤ m' := by
    intro a n CAP l h m ha hn hb
    obtain ⟨m', g1, g2, g3, g4, g5⟩ := bounds_run (P := P) (w := w) H true n n CAP hn hl hh hm hb
    have hn' : h ≤ n := by rcases g3 with g3 | g3 <;> omega
    refine ⟨m', ?_, g2, hn', g4, ?_⟩
    · rw [ha]
      simp [Instr.sliceAt, Instr.slice, run_underlying ht, g1, run_sizeOf hs]
    · cases mx with
      | none => rw [g4 rfl]; omega
      | some v => exact (g5 (by simp)).1
  cases hx : x X' <;> rw [hx] at hr hrx <;> simp only [reduceCtorEq] at hr
  case nils =>
    simp only [Rep] at hrx
    obtain ⟨⟨l, h, m⟩, hb, hr⟩ := opt_bind hr
    subst hr
    obtain ⟨m', g1, g2, g3, g4, g5⟩ := key hrx (Nat.le_refl _) hb
    have hm0 : m' = 0 := by
      cases mx with
      | none => exact g4 rfl
      | some v =>
        obtain ⟨m2, k1, k2, k3, k4, k5⟩ := bounds_run (P := P) (w := w) H true 0 0 0 (Nat.le_refl _) hl hh hm hb
        have k6 := (k5 (by simp)).2
        have : (Instr.sliceAt t (ρ X0) (lo.map ρ) (hi.map ρ) ((some v).map ρ)).run P w = .ok (.slice (if m2 = l then none else none) (h - l) (m2 - l)) w := by
          rw [hrx]; simp only [Instr.sliceAt, Instr.slice, run_underlying ht, Sem.run_bind, Result.andThen_ok, k1, run_sizeOf hs]; simp
        rw [g1] at this
        simp at this
        omega
    refine ⟨_, g1, ?_⟩
    simp only [Rep]
    have : l = 0 := by omega
    have : h = 0 := by omega
    subst hm0; subst l; subst h
    simp
  case sl sz rows =>
    split at hr
    · rename_i hsz
      subst hsz
      obtain ⟨⟨l, h, m⟩, hb, hr⟩ := opt_bind hr
      subst hr
      simp only [Rep] at hrx
      obtain ⟨a, cap, vs, hv, hcap, hflat, hones, hmem⟩ := hrx
      obtain ⟨m', g1, g2, g3, g4, g5⟩ := key hv hcap hb
      have hlen : ((rows.take h).drop l).length = h - l := by simp; omega
      refine ⟨_, g1, ?_⟩
      simp only [Rep]
      refine ⟨_, _, (vs.take (h * sz)).drop (l * sz), by rw [hlen], ?_, (hflat.take h).drop l, (hones.take _).drop _, ?_⟩
      · rw [hlen]; omega
      · by_cases hz : (rows.take h).drop l = []
        · exact .inl hz
        · right
          have hlt : l < h := by
            rcases Nat.lt_or_ge l h with h' | h'
            · exact h'
            · exact absurd (List.eq_nil_of_length_eq_zero (by omega)) hz
          rcases hmem with hmem | ⟨b, off, rfl, hlab, hbl, hc⟩
          · subst hmem; simp at hz
          · refine ⟨b, off + l * sz, ?_, hlab, hbl, (hc.take _).drop _⟩
            rw [if_neg (by omega)]
            simp [add_off]
    · cases hr
  case ref k n =>
    split at hr
    · cases hr
    · rename_i hmx
      split at hr
      · rename_i l h q hb
        simp only [Rep, aval] at hrx
        obtain ⟨hd, hn, hnil, hv⟩ := hrx
        have hmxn : mx' = none := by cases mx' <;> simp at hmx ⊢
        subst hmxn
        obtain ⟨m', g1, g2, g3, g4, g5⟩ := key hv hn hb
        have hmn : mx = none := by
          cases mx with
          | none => rfl
          | some o => simp only [cXo] at hm; split at hm <;> simp at hm
        rw [g4 hmn] at g1
        refine ⟨_, g1, ?_⟩
        by_cases hl0 : l = 0
        · rw [if_pos hl0] at hr
          simp only [Option.some.injEq] at hr
          subst hr
          subst hl0
          simp only [Rep, aval]
          refine ⟨hd, by omega, hnil, ?_⟩
          simp only [Nat.zero_mul, Nat.sub_zero]
          congr 1
          split
          · rfl
          · split <;> simp [add_off]
        · rw [if_neg hl0] at hr
          simp only [Option.some.injEq] at hr
          subst hr
          have hnf : E.nil k = false := by
            cases hq : E.nil k with
            | false => rfl
            | true => have := hnil hq; omega
          simp only [Rep]
          refine ⟨hd, hnf, by omega, if E.cap k = l then 0 else l * s, ?_, fun h => by rw [if_neg (by omega)]⟩
          rw [hnf]
          simp only [Bool.false_eq_true, if_false]
          congr 1
          split
          · rfl
          · simp [add_off]
      · cases hr
  case refs k s' off n =>
    split at hr
    · cases hr
    · rename_i hmx
      have hmx1 : mx'.isSome = false := by
        cases hq : mx'.isSome with
        | false => rfl
        | true => exact absurd (Or.inl (by simp [hq])) hmx
      have hss : s' = s := by
        rcases Nat.decEq s' s with h | h
        · exact absurd (Or.inr h) hmx
        · exact h
      subst hss
      split at hr
      · rename_i l h q hb
        simp only [Option.some.injEq] at hr
        subst hr
        simp only [Rep] at hrx
        obtain ⟨hd, hnf, hn, a, hv, ha⟩ := hrx
        have hmxn : mx' = none := by cases mx' <;> simp at hmx1 ⊢
        subst hmxn
        obtain ⟨m', g1, g2, g3, g4, g5⟩ := key hv (by omega) hb
        have hmn : mx = none := by
          cases mx with
          | none => rfl
          | some o => simp only [cXo] at hm; split at hm <;> simp at hm
        rw [g4 hmn] at g1
        refine ⟨_, g1, ?_⟩
        simp only [Rep]
        refine ⟨hd, hnf, by omega, if E.cap k - off = l then a else a + l * s', ?_, fun h => ?_⟩
        · rw [Nat.sub_sub]
          congr 1
          split
          · rfl
          · simp [add_off]
        · rw [if_neg (by omega), ha (by omega), Nat.add_mul]
      · cases hr
end Go.Proofs.VL

namespace Go.Proofs.VL
open Go Go.RowKit
set_option linter.unusedSimpArgs false
set_option linter.unusedVariables false

theorem placeB_build {P : Program} {t : TypeId} {z : List V} {pl : Nat → Option (Nat × Nat)} (hz : zeroB P t = some z) (hp : placeB P t = some pl) {w : World} {E : Env} {parts : List (Nat × Value)} {r : List V}
    (h : ∀ c : Array Value, RepL w E z c.toList → ∃ d, Instr.fill pl c parts = some d ∧ RepL w E r d.toList) :
    ∃ v, (Instr.build t parts.toArray).run P w = .ok v w ∧ Rep w E (.agg r) v := by
  unfold zeroB at hz
  split at hz
  · rename_i i hi
    split at hz
    · rename_i zv hzv
      simp only [Option.some.injEq] at hz
      have hc : RepL w E z zv.cells.toList := by rw [← hz]; exact repL_const w E _
      obtain ⟨d, h1, h2⟩ := h zv.cells hc
      have hzr : (zeroValue t).run P w = .ok zv w := by simp [zeroValue, typeInfo, hi, hzv]
      unfold placeB at hp
      split at hp
      · rename_i fs hu
        split at hp
        · rename_i l hl
          simp only [Option.some.injEq] at hp
          have hmap : ∀ (fl : List Field) (l : List (Nat × Nat)), (fl.mapM (fun f => (szB P f.type).map fun s => (f.offset, s))) = some l → (fl.mapM (fun f => do pure (f.offset, ← sizeOf f.type) : Field → Sem (Nat × Nat))).run P w = .ok l w := by
            intro fl
            induction fl with
            | nil => intro l hl; simp at hl; subst hl; simp
            | cons f fl ih =>
              intro l hl
              simp only [List.mapM_cons] at hl
              cases hs : szB P f.type with
              | none => simp [hs] at hl
              | some s =>
                simp only [hs, Option.map_some] at hl
                cases hr : fl.mapM (fun f => (szB P f.type).map fun s => (f.offset, s)) with
                | none => simp [hr] at hl
                | some l' =>
                  simp [hr] at hl
                  subst hl
                  have := ih l' hr
                  simp only [List.mapM_cons, Sem.run_bind, run_sizeOf hs, Result.andThen_ok, Sem.run_pure, this]
          refine ⟨.agg d, ?_, d.toList, by simp, h2⟩
          unfold Instr.build
          simp only [Sem.run_bind, hzr, Result.andThen_ok, run_underlying hu]
          rw [Array.mapM_eq_mapM_toList]
          have hfun : (fun i => l[i]?) = pl := hp
          simp only [Sem.run_map, hmap _ _ hl, Result.andThen_ok, Sem.run_bind]
          have hpl : (fun (x : Nat) => (List.toArray l)[x]?) = pl := by rw [← hfun]; funext x; simp
          rw [show (fun x => (List.toArray l)[x]?) = pl from hpl]
          simp [h1]
        · cases hp
      · rename_i n e hu
        split at hp
        · rename_i s hs
          simp only [Option.some.injEq] at hp
          refine ⟨.agg d, ?_, d.toList, by simp, h2⟩
          unfold Instr.build
          simp only [Sem.run_bind, hzr, Result.andThen_ok, run_underlying hu, run_sizeOf hs]
          rw [show (fun i => some (i * s, s)) = pl from hp]
          simp [h1]
        · cases hp
      · cases hp
    · cases hz
  · cases hz
end Go.Proofs.VL

namespace Go.Proofs.VL
open Go Go.RowKit
set_option linter.unusedSimpArgs false
set_option linter.unusedVariables false

theorem opt2 {α β γ : Type} {o : Option α} {p : Option β} {f : α → β → Option γ} {r : γ} (h : (match o, p with | some a, some b => f a b | _, _ => none) = some r) : ∃ a b, o = some a ∧ p = some b ∧ f a b = some r := by
  cases o <;> cases p <;> simp at h
  exact ⟨_, _, rfl, rfl, h⟩

theorem exec_value {P : Program} {w : World} {ρ : Operand → Value} {o : Oper} {s : Sem Value} {v : Value} (he : execOp ρ o = (do pure (Next.value (← s)) : Sem Next)) (h : s.run P w = .ok v w) : (execOp ρ o).run P w = .ok (.value v) w := by
  rw [he]; simp [h]

theorem xint {w : World} {E : Env} {x : V} {v : Value} (h : Rep w E x v) {n : Int} (k : IntKind) (hx : x = .int k n) : v = .int k n := by subst hx; simpa [Rep] using h

theorem cop_pure {ow : Bool} {P : Program} {o : Oper} {vo : VO} (hc : cop ow P o = some vo) : PS P o vo := by
  obtain ⟨dst, op, ty, pos, after, guard⟩ := o
  intro w E x ρ r H hr
  unfold cop at hc
  cases op <;> simp only [reduceCtorEq] at hc
  case move a =>
    obtain ⟨X, hX, rfl⟩ := opt_bind hc
    simp only [VO.evP, Option.some.injEq] at hr; subst hr
    exact ⟨ρ a, rfl, H a X hX⟩
  case assign a =>
    obtain ⟨X, hX, rfl⟩ := opt_bind hc
    simp only [VO.evP, Option.some.injEq] at hr; subst hr
    exact ⟨ρ a, rfl, H a X hX⟩
  case pick c a b =>
    split at hc <;> simp at hc
    rename_i c' a' b' h1 h2 h3
    subst hc
    simp only [VO.evP] at hr
    split at hr <;> simp at hr
    rename_i t ht
    have hcv := H c c' h1
    rw [ht] at hcv; simp only [Rep] at hcv
    refine ⟨if t then ρ a else ρ b, ?_, ?_⟩
    · simp [execOp, hcv, asBool]
    · subst hr; cases t
      · exact H b b' h3
      · exact H a a' h2
  case build t parts =>
    split at hc <;> simp at hc
    rename_i z pl hz hpl
    obtain ⟨ps, hps, rfl⟩ := hc
    simp only [VO.evP] at hr
    obtain ⟨cs, hcs, rfl⟩ := opt_bind hr
    obtain ⟨v, h1, h2⟩ := placeB_build (P := P) hz hpl (w := w) (E := E) (parts := parts.toList.map fun p => (p.1, ρ p.2)) (r := cs) (fun c hc => fill_rep H parts.toList ps z c cs hps hc hcs)
    refine ⟨v, exec_value rfl ?_, h2⟩
    have : (parts.map fun (i, x) => (i, ρ x)) = (parts.toList.map fun p => (p.1, ρ p.2)).toArray := by
      apply Array.ext'; simp
    rw [this]; exact h1
  case nilCheck a =>
    obtain ⟨X, hX, rfl⟩ := opt_bind hc
    have hv := H a X hX
    simp only [VO.evP] at hr
    split at hr <;> simp at hr <;> rename_i hx <;> rw [hx] at hv <;> subst hr
    · simp only [Rep] at hv ⊢; obtain ⟨h1, h2⟩ := hv; exact ⟨ρ a, by simp [execOp, h2], h1, h2⟩
    · simp only [Rep] at hv ⊢; obtain ⟨h1, h2, h3⟩ := hv; exact ⟨ρ a, by simp [execOp, h3], h1, h2, h3⟩
    · simp only [Rep] at hv ⊢; obtain ⟨b, off, vs, h2, h3⟩ := hv; exact ⟨ρ a, by simp [execOp, h2], b, off, vs, h2, h3⟩
    · simp only [Rep] at hv ⊢; obtain ⟨a1, b1, h2, h3⟩ := hv; exact ⟨ρ a, by simp [execOp, h2], a1, b1, h2, h3⟩
  case binOp bop t a b yt =>
    split at hc
    · rename_i X Y hX hY
      have hx := H a X hX
      have hy := H b Y hY
      unfold copBin at hc
      split at hc
      · simp at hc; subst hc
        obtain ⟨v, h1, h2⟩ := ps_bin (P := P) t a b hx hy hr
        exact ⟨v, exec_value rfl h1, h2⟩
      · simp at hc; subst hc
        obtain ⟨v, h1, h2⟩ := ps_bin (P := P) t a b hx hy hr
        exact ⟨v, exec_value rfl h1, h2⟩
      · rename_i hu
        have go : ∀ neg : Bool, bop = (if neg then .neq else .eql) → (VO.eqb neg X Y).evP x = some r → ∃ v, (execOp ρ ⟨dst, .binOp bop t a b yt, ty, pos, after, guard⟩).run P w = .ok (.value v) w ∧ Rep w E r v := by
          intro neg hop hr
          simp only [VO.evP] at hr
          split at hr <;> simp at hr
          rename_i p q hp hq
          rw [hp] at hx; rw [hq] at hy
          simp only [Rep] at hx hy
          refine ⟨.bool (if neg then !(p == q) else p == q), exec_value rfl ?_, ?_⟩
          · rw [hx, hy]; exact ps_eqb (P := P) hop hu a b p q
          · subst hr; simp only [Rep]
        split at hc <;> simp at hc <;> subst hc
        · exact go false rfl hr
        · exact go true rfl hr
      case h_8 =>
        rename_i fs hu
        split at hc
        · rename_i hh
          split at hc <;> try (cases hc; done)
          rename_i ks hks
          have go : ∀ neg : Bool, bop = (if neg then .neq else .eql) → (VO.eqa neg ks X Y).evP x = some r → ∃ v, (execOp ρ ⟨dst, .binOp bop t a b yt, ty, pos, after, guard⟩).run P w = .ok (.value v) w ∧ Rep w E r v := by
            intro neg hop hr
            simp only [VO.evP] at hr
            split at hr <;> try (cases hr; done)
            rename_i p q hp hq
            rw [hp] at hx; rw [hq] at hy
            obtain ⟨b', hb, rfl⟩ := opt_bind hr
            refine ⟨.bool (if neg then !b' else b'), exec_value rfl ?_, by simp only [Rep]⟩
            rw [hop]; exact ps_eqa (P := P) hu hh.1 hh.2 hks hx hy hb neg a b
          split at hc <;> simp at hc <;> subst hc
          · exact go false rfl hr
          · exact go true rfl hr
        · cases hc
      all_goals
        rename_i hu
        have go : ∀ (kd : NK) (neg : Bool), nkOk P t kd → bop = (if neg then .neq else .eql) → (VO.eqn kd neg X Y).evP x = some r → ∃ v, (execOp ρ ⟨dst, .binOp bop t a b yt, ty, pos, after, guard⟩).run P w = .ok (.value v) w ∧ Rep w E r v := by
          intro kd neg hk hop hr
          simp only [VO.evP] at hr
          split at hr <;> simp at hr
          rename_i p q hp hq
          refine ⟨.bool (if neg then !(p && q) else (p && q)), exec_value rfl ?_, ?_⟩
          · subst hop; exact ps_eqn (P := P) hk neg a b hx hy hp hq (by simpa using hr.1)
          · rw [← hr.2]; simp only [Rep]; cases neg <;> cases p <;> cases q <;> simp
        first
          | (split at hc <;> simp at hc <;> subst hc <;> first | exact go .s false ⟨_, hu⟩ rfl hr | exact go .s true ⟨_, hu⟩ rfl hr | exact go .p false ⟨_, hu⟩ rfl hr | exact go .p true ⟨_, hu⟩ rfl hr | exact go .m false ⟨_, _, hu⟩ rfl hr | exact go .m true ⟨_, _, hu⟩ rfl hr | exact go .f false ⟨_, _, _, hu⟩ rfl hr | exact go .f true ⟨_, _, _, hu⟩ rfl hr)
          | (cases hc)
    · cases hc
  case unOp uop t a =>
    obtain ⟨X, hX, rfl⟩ := opt_bind hc
    have hv := H a X hX
    simp only [VO.evP] at hr
    unfold evUn at hr
    split at hr
    · rename_i b hb
      rw [hb] at hv; simp only [Rep] at hv
      cases uop <;> simp at hr
      subst hr
      exact ⟨.bool (!b), by simp [execOp, hv, Op.unary], by simp [Rep]⟩
    · rename_i k n hb
      rw [hb] at hv; simp only [Rep] at hv
      cases uop <;> simp at hr <;> subst hr
      · exact ⟨_, by simp [execOp, hv, Op.unary, Op.intArith]; rfl, by simp [Rep]⟩
      · exact ⟨_, by simp [execOp, hv, Op.unary, Op.intBits]; rfl, by simp [Rep]⟩
    · cases hr
  case convert s d a =>
    split at hc
    · rename_i X hX
      have hv := H a X hX
      unfold copConv at hc
      split at hc
      · rename_i k0 k hs hd
        simp at hc; subst hc
        simp only [VO.evP] at hr
        split at hr <;> simp at hr
        rename_i k1 n hn
        rw [hn] at hv; simp only [Rep] at hv
        subst hr
        refine ⟨.int k (k.wrap n), exec_value rfl ?_, by simp [Rep]⟩
        simp [convert, run_underlying hs, run_underlying hd, hv, Conv.intToInt]
      · rename_i hs hd
        simp at hc; subst hc
        simp only [VO.evP] at hr
        split at hr <;> simp at hr
        rename_i l hl
        rw [hl] at hv; simp only [Rep] at hv
        subst hr
        refine ⟨.string ⟨⟨l⟩⟩, exec_value rfl ?_, by simp [Rep]⟩
        simp [convert, run_underlying hs, run_underlying hd, hv]
      · split at hc <;> simp at hc
        subst hc; simp [VO.evP] at hr
      · split at hc <;> try (cases hc; done)
        split at hc <;> simp at hc
        subst hc; simp [VO.evP] at hr
      · cases hc
    · cases hc
  case makeFunc f first caps =>
    cases f <;> try (cases hc; done)
    rename_i fid
    simp only at hc
    split at hc <;> simp at hc
    rename_i a' b' h1 h2
    subst hc
    simp only [VO.evP, Option.some.injEq] at hr
    subst hr
    refine ⟨.func (.func fid) (first.map ρ) (caps.map ρ), by simp [execOp, Instr.makeFunc], ?_⟩
    simp only [Rep]
    refine ⟨first.toList.map ρ, caps.toList.map ρ, ?_, RepL.cXs (P := P) H h1, RepL.cXs (P := P) H h2⟩
    congr 1 <;> (apply Array.ext'; simp)
  case slice t a lo hi mx =>
    split at hc
    · rename_i X lo' hi' h1 h2 h3 h4 h5
      simp at hc; subst hc
      have hv := H a X h2
      simp only [VO.evP] at hr
      split at hr <;> try (cases hr; done)
      rename_i l hl
      rw [hl] at hv; simp only [Rep] at hv
      obtain ⟨⟨p, q, z⟩, hb, rfl⟩ := opt_bind hr
      have hmx : mx = none := by
        cases mx with
        | none => rfl
        | some o => simp only [cXo] at h5; split at h5 <;> simp at h5
      subst hmx
      obtain ⟨m', g1, g2, g3, g4, g5⟩ := bounds_run (P := P) (w := w) H false l.length l.length l.length (Nat.le_refl _) h3 h4 (mx := none) (mx' := none) rfl (by simpa using hb)
      have hq : q ≤ l.length := by rcases g3 with g3 | g3 <;> omega
      refine ⟨.string ⟨⟨(l.take q).drop p⟩⟩, exec_value rfl ?_, by simp [Rep]⟩
      have hsz : (⟨⟨l⟩⟩ : ByteArray).size = l.length := rfl
      simp only [Option.map_none] at g1
      simp only [Instr.sliceAt, Instr.slice, Sem.run_bind, run_underlying h1, Result.andThen_ok, hv, Option.map_none, Option.isSome_none, Bool.false_eq_true, if_false, hsz, g1, Sem.run_pure]
      refine congrArg (fun s => Result.ok (Value.string s) w) (ByteArray.ext ?_)
      rw [ByteArray.data_extract]
      apply Array.ext'
      simp [List.extract_eq_take_drop, List.drop_take]
    · rename_i X lo' hi' mx' h1 h2 h3 h4 h5
      obtain ⟨s, hs, rfl⟩ := opt_bind hc
      obtain ⟨v, g1, g2⟩ := ps_slice (P := P) H h1 hs h2 h3 h4 h5 hr
      exact ⟨v, exec_value rfl g1, g2⟩
    · cases hc
  case fieldAddr t a f =>
    split at hc
    · rename_i fd X h1 h2
      split at hc
      · rename_i s hs
        split at hc
        · cases hc
        · rename_i hs0
          simp at hc; subst hc
          have hv := H a X h2
          unfold fieldB at h1
          split at h1 <;> try (cases h1; done)
          rename_i fs hu
          have hgo : ∀ b off : Nat, ρ a = .pointer (some ⟨b, off, none⟩) → (execOp ρ ⟨dst, .fieldAddr t a f, ty, pos, after, guard⟩).run P w = .ok (.value (.pointer (some ⟨b, off + fd.offset, none⟩))) w := by
            intro b off hb
            refine exec_value rfl ?_
            simp [Instr.fieldAt, run_underlying hu, h1, hb, Instr.sureAddr, fieldPlace, run_sizeOf hs, hs0, add_off]
          simp only [VO.evP] at hr
          split at hr <;> simp at hr <;> rename_i hx <;> rw [hx] at hv <;> subst hr <;> simp only [Rep] at hv ⊢
          · exact ⟨_, hgo _ _ hv.2, hv.1, rfl⟩
          · exact ⟨_, hgo _ _ hv.2.2, hv.1, hv.2.1, by rw [Nat.add_assoc]⟩
          · obtain ⟨b, off, vs, q1, q2, q3, q4, q5⟩ := hv
            exact ⟨_, hgo _ _ q1, b, off + fd.offset, vs.drop fd.offset, rfl, q2, q3, q4.drop _, q5.drop _⟩
      · cases hc
    · cases hc
  case field t a f =>
    split at hc
    · rename_i fd X h1 h2
      obtain ⟨s, hs, rfl⟩ := opt_bind hc
      have hv := H a X h2
      unfold fieldB at h1
      split at h1 <;> try (cases h1; done)
      rename_i fs hu
      simp only [VO.evP] at hr
      split at hr <;> try (cases hr; done)
      rename_i cs hcs
      rw [hcs] at hv; simp only [Rep] at hv
      obtain ⟨vs, hvs, hr2⟩ := hv
      obtain ⟨v, g1, g2⟩ := part_run (P := P) (w := w) hs hr2 hr
      refine ⟨v, exec_value rfl ?_, g2⟩
      simp [Instr.field, run_underlying hu, h1, hvs, asAgg, g1]
    · cases hc
  case indexAddr t a i =>
    split at hc
    · rename_i e X I h1 h2 h3
      obtain ⟨s, hs, rfl⟩ := opt_bind hc
      have hv := H a X h2
      have hi := H i I h3
      simp only [VO.evP] at hr
      split at hr <;> try (cases hr; done)
      rename_i k n hn
      rw [hn] at hi; simp only [Rep] at hi
      split at hr <;> try (cases hr; done)
      rename_i hn0
      have hgo : ∀ (b off len cap : Nat), ρ a = .slice (some ⟨b, off, none⟩) len cap → n.toNat < len → (execOp ρ ⟨dst, .indexAddr t a i, ty, pos, after, guard⟩).run P w = .ok (.value (.pointer (some ⟨b, off + n.toNat * s, none⟩))) w := by
        intro b off len cap hb hl
        refine exec_value rfl ?_
        have : 0 ≤ n ∧ n < (len : Int) := ⟨hn0, by omega⟩
        simp [Instr.indexAt, hi, asIntOf, run_underlying h1, hb, this, run_sizeOf hs, add_off]
      split at hr <;> (try (cases hr; done)) <;> rename_i hx <;> rw [hx] at hv
      · rename_i s' rows
        split at hr <;> try (cases hr; done)
        rename_i hss
        subst hss
        obtain ⟨row, hrow, rfl⟩ := opt_bind hr
        simp only [Rep] at hv ⊢
        obtain ⟨ad, cap, vs, q1, q2, q3, _, q4⟩ := hv
        have hlt : n.toNat < rows.length := by
          rcases Nat.lt_or_ge n.toNat rows.length with h' | h'
          · exact h'
          · rw [List.getElem?_eq_none h'] at hrow; cases hrow
        rcases q4 with q4 | ⟨b, off, rfl, q5, q6, q7⟩
        · subst q4; simp at hlt
        · obtain ⟨rv, z1, z2, z3⟩ := q3.row hrow
          refine ⟨_, hgo _ _ _ _ q1 hlt, b, off + n.toNat * s', rv, rfl, q5, q6, ?_, z2⟩
          intro j v hj
          have := q7 _ _ (z3 j v hj)
          rwa [← Nat.add_assoc] at this
      · rename_i kk m
        split at hr <;> simp at hr
        rename_i hm
        subst hr
        simp only [Rep, aval] at hv ⊢
        obtain ⟨q1, q2, q3, q4⟩ := hv
        have hnil : E.nil kk = false := by
          cases hnl : E.nil kk with
          | false => rfl
          | true => have := q3 hnl; omega
        rw [hnil] at q4
        simp only [Bool.false_eq_true, if_false] at q4
        refine ⟨_, hgo _ _ _ _ q4 hm, q1, hnil, ?_⟩
        simp
      · rename_i kk ss off m
        split at hr <;> simp at hr
        rename_i hm
        subst hr
        obtain ⟨rfl, hm⟩ := hm
        simp only [Rep] at hv ⊢
        obtain ⟨q1, q2, q3, ad, q4, q5⟩ := hv
        refine ⟨_, hgo _ _ _ _ q4 hm, q1, q2, ?_⟩
        rw [q5 (by omega), Nat.add_mul]; rfl
    · rename_i len e X I h1 h2 h3
      obtain ⟨s, hs, rfl⟩ := opt_bind hc
      have hv := H a X h2
      have hi := H i I h3
      simp only [VO.evP] at hr
      split at hr <;> try (cases hr; done)
      rename_i k n hn
      rw [hn] at hi; simp only [Rep] at hi
      split at hr <;> try (cases hr; done)
      rename_i hnb
      have hgo : ∀ (b off : Nat), ρ a = .pointer (some ⟨b, off, none⟩) → (execOp ρ ⟨dst, .indexAddr t a i, ty, pos, after, guard⟩).run P w = .ok (.value (.pointer (some ⟨b, off + n.toNat * s, none⟩))) w := by
        intro b off hb
        refine exec_value rfl ?_
        simp [Instr.indexAt, hi, asIntOf, run_underlying h1, hb, Instr.sureAddr, hnb, run_sizeOf hs, add_off]
      split at hr <;> simp at hr <;> rename_i hx <;> rw [hx] at hv <;> subst hr <;> simp only [Rep] at hv ⊢
      · exact ⟨_, hgo _ _ hv.2, hv.1, rfl⟩
      · obtain ⟨b, off, vs, q1, q2, q3, q4, q5⟩ := hv
        exact ⟨_, hgo _ _ q1, b, off + n.toNat * s, vs.drop (n.toNat * s), rfl, q2, q3, q4.drop _, q5.drop _⟩
    · cases hc
  case index t a i =>
    split at hc
    · rename_i X I h1 h2 h3
      simp at hc; subst hc
      have hv := H a X h2
      have hi := H i I h3
      simp only [VO.evP] at hr
      split at hr <;> try (cases hr; done)
      rename_i l k n hl hn
      rw [hn] at hi; rw [hl] at hv; simp only [Rep] at hi hv
      split at hr <;> try (cases hr; done)
      rename_i hn0
      obtain ⟨c, hcc, rfl⟩ := opt_bind hr
      refine ⟨.int .u8 c.toNat, exec_value rfl ?_, by simp [Rep]⟩
      have hg : (⟨⟨l⟩⟩ : ByteArray)[n.toNat]? = some c := by
        have hlt : n.toNat < l.length := by
          rcases Nat.lt_or_ge n.toNat l.length with h' | h'
          · exact h'
          · rw [List.getElem?_eq_none h'] at hcc; cases hcc
        have hlt2 : n.toNat < (⟨⟨l⟩⟩ : ByteArray).size := hlt
        rw [getElem?_pos (⟨⟨l⟩⟩ : ByteArray) n.toNat hlt2]
        rw [List.getElem?_eq_getElem hlt] at hcc
        simp only [Option.some.injEq] at hcc ⊢
        rw [← hcc]; rfl
      simp [Instr.index, hi, asIntOf, run_underlying h1, hv, hn0, hg]
    · rename_i len e X I h1 h2 h3
      obtain ⟨s, hs, rfl⟩ := opt_bind hc
      have hv := H a X h2
      have hi := H i I h3
      simp only [VO.evP] at hr
      split at hr <;> try (cases hr; done)
      rename_i cs k n hl hn
      rw [hn] at hi; rw [hl] at hv; simp only [Rep] at hi hv
      obtain ⟨vs, hvs, hrl⟩ := hv
      split at hr <;> try (cases hr; done)
      rename_i hb
      have hle : n.toNat * s + s ≤ cs.length := by
        have h1 : n.toNat + 1 ≤ len := by omega
        have h2 : (n.toNat + 1) * s ≤ len * s := Nat.mul_le_mul_right _ h1
        rw [Nat.add_mul] at h2
        omega
      obtain ⟨v, g1, g2⟩ := part_run (P := P) (w := w) hs (off := n.toNat * s) hrl (r := r) (by rw [if_pos hle]; exact hr)
      refine ⟨v, exec_value rfl ?_, g2⟩
      simp [Instr.index, hi, asIntOf, run_underlying h1, hvs, hb.1, hb.2.1, run_sizeOf hs, g1]
    · cases hc
  case extract a i =>
    obtain ⟨X, hX, rfl⟩ := opt_bind hc
    have hv := H a X hX
    simp only [VO.evP] at hr
    split at hr <;> try (cases hr; done)
    rename_i cs hcs
    rw [hcs] at hv; simp only [Rep] at hv
    obtain ⟨vs, hvs, hrl⟩ := hv
    obtain ⟨v, g1, g2⟩ := hrl.get hr
    refine ⟨v, exec_value rfl ?_, g2⟩
    have : (⟨vs⟩ : Array Value)[i]? = some v := by simpa using g1
    simp [Instr.extract, hvs, this]
  case alloc e => obtain ⟨z, hz, rfl⟩ := opt_bind hc; simp [VO.evP] at hr
  case box e a => obtain ⟨z, hz, rfl⟩ := opt_bind hc; cases ow <;> simp [VO.evP] at hr
  case load t a => split at hc <;> simp at hc; subst hc; simp [VO.evP] at hr
  case store t a b => split at hc <;> simp at hc; subst hc; simp [VO.evP] at hr
  case buildSlice t len parts =>
    split at hc
    · split at hc
      · obtain ⟨z, hz, rfl⟩ := opt_bind hc; simp [VO.evP] at hr
      · cases hc
    · cases hc
  case makeSlice t l c =>
    split at hc
    · split at hc
      · simp at hc; subst hc; simp [VO.evP] at hr
      · cases hc
    · cases hc
  case makeMap t q => split at hc <;> simp at hc <;> subst hc <;> simp [VO.evP] at hr
  case lookup t a i ck =>
    split at hc
    · split at hc <;> simp at hc
      subst hc; simp [VO.evP] at hr
    · cases hc
  case mapUpdate t m i a =>
    split at hc
    · obtain ⟨kd, _, rfl⟩ := opt_bind hc; simp [VO.evP] at hr
    · cases hc
  case insert t m i a =>
    split at hc
    · obtain ⟨kd, _, rfl⟩ := opt_bind hc; simp [VO.evP] at hr
    · cases hc
  case range t a =>
    split at hc <;> simp at hc
    subst hc; simp [VO.evP] at hr
  case next a q =>
    split at hc
    · cases hc
    · obtain ⟨X, _, rfl⟩ := opt_bind hc; simp [VO.evP] at hr
  case entry a => obtain ⟨X, _, rfl⟩ := opt_bind hc; simp [VO.evP] at hr
  case call c =>
    obtain ⟨callee, args, argTypes⟩ := c
    simp only at hc
    split at hc
    · obtain ⟨z, hz, rfl⟩ := opt_bind hc; simp [VO.evP] at hr
    · rename_i X hxs
      have hargs : ∃ a0, args = #[a0] ∧ cX a0 = some X := by
        cases hl : args.toList with
        | nil => simp [hl, cXs] at hxs
        | cons a0 l =>
          rw [hl] at hxs
          simp only [cXs] at hxs
          split at hxs <;> simp at hxs
          rename_i x1 xs1 q1 q2
          obtain ⟨rfl, rfl⟩ := hxs
          have : l = [] := by
            cases l with
            | nil => rfl
            | cons b l => simp only [cXs] at q2; split at q2 <;> simp at q2
          subst this
          exact ⟨a0, by apply Array.ext'; simp [hl], q1⟩
      obtain ⟨a0, rfl, hX⟩ := hargs
      have hv := H a0 X hX
      have hex : ∀ v, (Builtin.len_ argTypes ty #[ρ a0]).run P w = .ok v w → (execOp ρ ⟨dst, .call ⟨.builtin .len, #[a0], argTypes⟩, ty, pos, after, guard⟩).run P w = .ok (.value v) w := by
        intro v hv
        simp [execOp, resolve, invoke, builtin, hv]
      split at hc
      · rename_i hu
        simp at hc; subst hc
        simp only [VO.evP] at hr
        split at hr <;> (try (cases hr; done)) <;> simp only [Option.some.injEq] at hr
        rename_i l hl
        rw [hl] at hv; simp only [Rep] at hv
        subst hr
        refine ⟨.int .i64 l.length, hex _ ?_, by simp [Rep]⟩
        cases ht : argTypes[0]? with
        | none => rw [ht] at hu; cases hu
        | some t0 =>
          rw [ht] at hu
          simp only [Option.bind_some] at hu
          simp [Builtin.len_, ht, run_underlying hu, hv, goInt]
          rfl
      · rename_i e hu
        simp at hc; subst hc
        simp only [VO.evP] at hr
        have hgo : ∀ (ad : Option Addr) (n cap : Nat), ρ a0 = .slice ad n cap → (Builtin.len_ argTypes ty #[ρ a0]).run P w = .ok (.int .i64 n) w := by
          intro ad n cap h
          cases ht : argTypes[0]? with
          | none => rw [ht] at hu; cases hu
          | some t0 =>
            rw [ht] at hu
            simp only [Option.bind_some] at hu
            simp [Builtin.len_, ht, run_underlying hu, h, goInt]
        split at hr <;> (try (cases hr; done)) <;> simp only [Option.some.injEq] at hr <;> rename_i hl <;> rw [hl] at hv <;> subst hr <;> simp only [Rep, aval] at hv
        · obtain ⟨ad, cap, vs, q1, _⟩ := hv
          exact ⟨_, hex _ (hgo _ _ _ q1), by simp [Rep]⟩
        · exact ⟨_, hex _ (hgo _ _ _ hv.2.2.2), by simp [Rep]⟩
        · obtain ⟨_, _, _, ad, q4, _⟩ := hv
          exact ⟨_, hex _ (hgo _ _ _ q4), by simp [Rep]⟩
        · exact ⟨_, hex _ (hgo _ _ _ hv), by simp [Rep]⟩
      · cases hc
    · rename_i X XS hxs
      simp only [Option.some.injEq] at hc; subst hc
      have hrl := RepL.cXs (P := P) H hxs
      simp only [VO.evP] at hr
      split at hr <;> try (cases hr; done)
      rename_i k n rest hrest
      have hrl2 := hrl
      rw [hrest] at hrl2
      simp only [RepL] at hrl2
      obtain ⟨v0, vs0, hvs, h1, h2⟩ := hrl2
      obtain ⟨u, g1, g2⟩ := mm_rep (P := P) (w := w) true rest vs0 _ v0 r h1 h2 ⟨k, n, rfl⟩ hr
      refine ⟨u, ?_, g2⟩
      have hm : (args.map ρ).toList = v0 :: vs0 := by rw [Array.toList_map]; exact hvs
      simp only [if_true] at g1
      simp [execOp, resolve, invoke, builtin, Builtin.max_]
      rw [Array.toList_map] at hm
      rw [hm]
      simp [g1]
    · rename_i X XS hxs
      simp only [Option.some.injEq] at hc; subst hc
      have hrl := RepL.cXs (P := P) H hxs
      simp only [VO.evP] at hr
      split at hr <;> try (cases hr; done)
      rename_i k n rest hrest
      have hrl2 := hrl
      rw [hrest] at hrl2
      simp only [RepL] at hrl2
      obtain ⟨v0, vs0, hvs, h1, h2⟩ := hrl2
      obtain ⟨u, g1, g2⟩ := mm_rep (P := P) (w := w) false rest vs0 _ v0 r h1 h2 ⟨k, n, rfl⟩ hr
      refine ⟨u, ?_, g2⟩
      have hm : (args.map ρ).toList = v0 :: vs0 := by rw [Array.toList_map]; exact hvs
      simp only [Bool.false_eq_true, if_false] at g1
      simp [execOp, resolve, invoke, builtin, Builtin.min_]
      rw [Array.toList_map] at hm
      rw [hm]
      simp [g1]
    · split at hc
      · obtain ⟨kd, _, rfl⟩ := opt_bind hc; simp [VO.evP] at hr
      · cases hc
    · split at hc
      · split at hc
        · split at hc <;> simp at hc
          subst hc; simp [VO.evP] at hr
        · cases hc
      · cases hc
    · split at hc
      · split at hc
        · split at hc <;> simp at hc
          obtain ⟨_, rfl⟩ := hc
          simp [VO.evP] at hr
        · split at hc
          · split at hc <;> simp at hc
            obtain ⟨_, rfl⟩ := hc
            simp [VO.evP] at hr
          · cases hc
        · cases hc
      · cases hc
    · cases hc
end Go.Proofs.VL

namespace Go.Proofs.VL
open Go Go.RowKit
set_option linter.unusedSimpArgs false
set_option linter.unusedVariables false

/-- Nothing that was there has changed. -/
structure RExt (w : World) (E : Env) (w' : World) (E' : Env) : Prop where
  os : w'.os = w.os
  tape : w'.tape = w.tape
  output : w'.output = w.output
  size : w.heap.size ≤ w'.heap.size
  heap : ∀ b, b < w.heap.size → w'.heap[b]? = w.heap[b]?
  lab : ∀ b, b < w.heap.size → E'.lab b = E.lab b
  dom : ∀ k, E.dom k → E'.dom k
  blk : ∀ k, E.dom k → E'.blk k = E.blk k
  cap : ∀ k, E.dom k → E'.cap k = E.cap k
  nil : ∀ k, E.dom k → E'.nil k = E.nil k

theorem RExt.ext {w w' : World} {E E' : Env} (h : RExt w E w' E') : Ext w E w' E' :=
  ⟨h.os, h.tape, h.output, h.size, fun b hb hl => ⟨by rw [h.lab b hb]; exact hl, h.heap b hb⟩, fun b hb hl => ⟨by rw [h.lab b hb]; exact hl, h.heap b hb⟩, h.dom, h.blk, h.cap, h.nil⟩

theorem RExt.refl (w : World) (E : Env) : RExt w E w E := ⟨rfl, rfl, rfl, Nat.le_refl _, fun _ _ => rfl, fun _ _ => rfl, fun _ h => h, fun _ _ => rfl, fun _ _ => rfl, fun _ _ => rfl⟩

theorem RExt.drew (w : World) (E : Env) : RExt w E { w with drawn := w.drawn + 1 } E := ⟨rfl, rfl, rfl, Nat.le_refl _, fun _ _ => rfl, fun _ _ => rfl, fun _ h => h, fun _ _ => rfl, fun _ _ => rfl, fun _ _ => rfl⟩

theorem block_lt {w : World} {b : Nat} {o : Obj} (h : w.heap[b]? = some o) : b < w.heap.size := by
  rcases Nat.lt_or_ge b w.heap.size with h' | h'
  · exact h'
  · rw [Array.getElem?_eq_none h'] at h; cases h

theorem ownsV_block {w w' : World} {e sz n : Nat} {v : Value} {xs : List Value} (hm : ∀ k, v.ownBlock = some k → w'.heap[k]? = w.heap[k]?) (h : ownsV w e sz v n xs) : ownsV w' e sz v n xs := by
  obtain ⟨h1, h2⟩ := h
  refine ⟨h1, ?_⟩
  rcases h2 with h2 | ⟨g, cap, cur, rfl, hg, ⟨te, fr, hh, q⟩, r⟩
  · exact .inl h2
  · exact .inr ⟨g, cap, cur, rfl, hg, ⟨te, fr, (hm g (by simp [Value.ownBlock])).trans hh, q⟩, r⟩

theorem ObjRep.move {w w' : World} {E E' : Env} {k : Nat} {o : VObj} (hx : Ext w E w' E') (hk : E.dom k) (hb : (E.lab (E.blk k) = .obj k ∨ E.lab (E.blk k) = .imm) → E.blk k < w.heap.size → w'.heap[E.blk k]? = w.heap[E.blk k]? ∧ E'.lab (E.blk k) = E.lab (E.blk k)) (h : ObjRep w E k o) : ObjRep w' E' k o := by
  cases o with
  | box cs =>
    simp only [ObjRep] at h ⊢
    obtain ⟨h1, c, e, h2, h3⟩ := h
    obtain ⟨g1, g2⟩ := hb (.inl h1) (block_lt h2)
    rw [hx.blk k hk]
    exact ⟨by rw [g2]; exact h1, c, e, by rw [g1]; exact h2, RepL.ext hx _ _ h3⟩
  | arr e sz rows =>
    simp only [ObjRep] at h ⊢
    obtain ⟨h1, h2, h3, vs, h4, h5, h6⟩ := h
    rw [hx.blk k hk, hx.cap k hk, hx.nil k hk, aval_ext hx hk]
    refine ⟨h1, h2, ?_, vs, ?_, RepFlat.ext hx.pure _ _ _ h5, h6⟩
    · intro hn
      have hlt : E.blk k < w.heap.size := by
        rcases h4.2 with ⟨h, _⟩ | ⟨g, cap, cur, h, _, ⟨te, fr, hh, _⟩, _⟩
        · simp [aval, hn] at h
        · simp [aval, hn] at h; rw [h.1]; exact block_lt hh
      rw [(hb (.inl (h3 hn)) hlt).2]; exact h3 hn
    · refine ownsV_block ?_ h4
      intro b hbv
      have hn : E.nil k = false := by
        cases hn : E.nil k with
        | false => rfl
        | true => simp [aval, hn, Value.ownBlock] at hbv
      have hbe : E.blk k = b := by simpa [aval, hn, Value.ownBlock] using hbv
      have hlt : E.blk k < w.heap.size := by
        rcases h4.2 with ⟨h, _⟩ | ⟨g, cap, cur, h, _, ⟨te, fr, hh, _⟩, _⟩
        · simp [aval, hn] at h
        · simp [aval, hn] at h; rw [h.1]; exact block_lt hh
      rw [← hbe]; exact (hb (.inl (h3 hn)) hlt).1
  | fro sz rows =>
    simp only [ObjRep] at h ⊢
    obtain ⟨h1, h2, vs, h3, h8, h4⟩ := h
    rw [hx.blk k hk, hx.cap k hk, hx.nil k hk]
    refine ⟨h1, h2, vs, RepFlat.ext hx.pure _ _ _ h3, h8, ?_⟩
    rcases h4 with h4 | ⟨h4, h5, h6, h7⟩
    · exact .inl h4
    · obtain ⟨g1, g2⟩ := hb (.inr h5) h6
      exact .inr ⟨h4, by rw [g2]; exact h5, Nat.lt_of_lt_of_le h6 hx.size, h7.of_block g1⟩
  | map es clock =>
    simp only [ObjRep] at h ⊢
    obtain ⟨h1, ms, h2, h3⟩ := h
    obtain ⟨g1, g2⟩ := hb (.inl h1) (block_lt h2)
    rw [hx.blk k hk]
    exact ⟨by rw [g2]; exact h1, ms, by rw [g1]; exact h2, MapRep.iext hx.pure.i h3⟩
  | miter m since seen last =>
    simp only [ObjRep] at h ⊢
    obtain ⟨h1, h2, h3⟩ := h
    obtain ⟨g1, g2⟩ := hb (.inl h1) (block_lt h3)
    rw [hx.blk k hk]
    refine ⟨by rw [g2]; exact h1, fun j hj => hx.dom j (h2 j hj), ?_⟩
    rw [g1, h3]
    cases m with
    | none => rfl
    | some j => simp only [Option.map_some, hx.blk j (h2 j rfl)]

theorem ObjRep.rext {w w' : World} {E E' : Env} {k : Nat} {o : VObj} (hx : RExt w E w' E') (hk : E.dom k) (h : ObjRep w E k o) : ObjRep w' E' k o :=
  h.move hx.ext hk (fun _ hb => ⟨hx.heap _ hb, hx.lab _ hb⟩)

/-- A name for a block that is new. -/
def Env.new (E : Env) (k b : Nat) (l : Lab) (cap : Nat) (nil : Bool) : Env :=
  { dom := fun j => E.dom j ∨ j = k, lab := fun j => if j = b then l else E.lab j, blk := fun j => if j = k then b else E.blk j, cap := fun j => if j = k then cap else E.cap j, nil := fun j => if j = k then nil else E.nil j }

theorem RExt.new {w : World} {E : Env} {k : Nat} (hk : ¬ E.dom k) (o : Obj) (l : Lab) (cap : Nat) (nil : Bool) : RExt w E (w.alloc o) (E.new k w.heap.size l cap nil) where
  os := rfl
  tape := rfl
  output := rfl
  size := by simp
  heap := fun b hb => Below.heap_alloc w o b hb
  lab := fun b hb => by simp [Env.new, Nat.ne_of_lt hb]
  dom := fun _ h => .inl h
  blk := fun j hj => by simp only [Env.new]; rw [if_neg]; rintro rfl; exact hk hj
  cap := fun j hj => by simp only [Env.new]; rw [if_neg]; rintro rfl; exact hk hj
  nil := fun j hj => by simp only [Env.new]; rw [if_neg]; rintro rfl; exact hk hj

theorem RExt.push (w : World) (E : Env) (o : Obj) : RExt w E (w.alloc o) E where
  os := rfl
  tape := rfl
  output := rfl
  size := by simp
  heap := fun b hb => Below.heap_alloc w o b hb
  lab := fun b hb => rfl
  dom := fun _ h => h
  blk := fun _ _ => rfl
  cap := fun _ _ => rfl
  nil := fun _ _ => rfl

theorem RExt.trans {a b c : World} {A B C : Env} (h : RExt a A b B) (g : RExt b B c C) : RExt a A c C where
  os := g.os.trans h.os
  tape := g.tape.trans h.tape
  output := g.output.trans h.output
  size := Nat.le_trans h.size g.size
  heap := fun k hk => (g.heap k (Nat.lt_of_lt_of_le hk h.size)).trans (h.heap k hk)
  lab := fun k hk => (g.lab k (Nat.lt_of_lt_of_le hk h.size)).trans (h.lab k hk)
  dom := fun k hk => g.dom k (h.dom k hk)
  blk := fun k hk => (g.blk k (h.dom k hk)).trans (h.blk k hk)
  cap := fun k hk => (g.cap k (h.dom k hk)).trans (h.cap k hk)
  nil := fun k hk => (g.nil k (h.dom k hk)).trans (h.nil k hk)

theorem push_get (w : World) (o : Obj) : (w.alloc o).heap[w.heap.size]? = some o := heap_alloc_new w o

/-- What an operation that reads and makes memory must come to. -/
structure RRes (P : Program) (E : Env) (w : World) (ob : List (Option VObj)) (v : V) (news : List VObj) (val : Value) (w' : World) (E' : Env) : Prop where
  ext : RExt w E w' E'
  dom : ∀ k, E'.dom k ↔ E.dom k ∨ (ob.length ≤ k ∧ k < ob.length + news.length)
  rep : Rep w' E' v val
  objs : ∀ j o, news[j]? = some o → ObjRep w' E' (ob.length + j) o
  fresh : ∀ b, w'.heap.size ≤ b → E'.lab b = .imm

theorem RRes.old {P : Program} {E : Env} {w w' : World} {ob : List (Option VObj)} {v : V} {val : Value} (hx : RExt w E w' E) (hr : Rep w' E v val) (hf : ∀ b, w'.heap.size ≤ b → E.lab b = .imm) : RRes P E w ob v [] val w' E :=
  ⟨hx, fun k => by simp; omega, hr, fun j o h => by simp at h, hf⟩

/-- A new variable. -/
theorem RRes.box {P : Program} {E : Env} {w : World} {ob : List (Option VObj)} {cs : List V} {c : List Value} (e : TypeId) (hk : ¬ E.dom ob.length) (hf : ∀ b, w.heap.size ≤ b → E.lab b = .imm) (hc : RepL w E cs c) :
    RRes P E w ob (.ptr ob.length 0) [.box cs] (.pointer (some ⟨w.heap.size, 0, none⟩)) (w.alloc (.cells ⟨c⟩ e)) (E.new ob.length w.heap.size (.obj ob.length) 0 false) where
  ext := RExt.new hk _ _ _ _
  dom := fun k => by
    simp only [Env.new, List.length_singleton]
    constructor
    · rintro (h | h)
      · exact .inl h
      · exact .inr ⟨by omega, by omega⟩
    · rintro (h | h)
      · exact .inl h
      · exact .inr (by omega)
  rep := by simp [Rep, Env.new]
  objs := fun j o h => by
    cases j with
    | zero =>
      simp at h; subst h
      simp only [ObjRep, Nat.add_zero]
      refine ⟨by simp [Env.new], c, e, by simp only [Env.new, if_true]; exact push_get w _, RepL.ext (RExt.new hk _ _ _ _).ext _ _ hc⟩
    | succ j => simp at h
  fresh := fun b hb => by
    have : w.heap.size < b := by simp at hb; omega
    simp only [Env.new]
    rw [if_neg (by omega)]; exact hf b (by omega)
/-- A new block of another kind. -/
theorem RRes.obj {P : Program} {E : Env} {w : World} {ob : List (Option VObj)} {vo : VObj} {v : V} {val : Value} (o : Obj) (hk : ¬ E.dom ob.length) (hf : ∀ b, w.heap.size ≤ b → E.lab b = .imm)
    (hv : Rep (w.alloc o) (E.new ob.length w.heap.size (.obj ob.length) 0 false) v val) (ho : ObjRep (w.alloc o) (E.new ob.length w.heap.size (.obj ob.length) 0 false) ob.length vo) :
    RRes P E w ob v [vo] val (w.alloc o) (E.new ob.length w.heap.size (.obj ob.length) 0 false) where
  ext := RExt.new hk _ _ _ _
  dom := fun k => by
    simp only [Env.new, List.length_singleton]
    constructor
    · rintro (h | h)
      · exact .inl h
      · exact .inr ⟨by omega, by omega⟩
    · rintro (h | h)
      · exact .inl h
      · exact .inr (by omega)
  rep := hv
  objs := fun j o h => by
    cases j with
    | zero => simp at h; subst h; exact ho
    | succ j => simp at h
  fresh := fun b hb => by
    have : w.heap.size < b := by simp at hb; omega
    simp only [Env.new]
    rw [if_neg (by omega)]; exact hf b (by omega)
end Go.Proofs.VL

namespace Go.Proofs.VL
open Go Go.RowKit
set_option linter.unusedSimpArgs false
set_option linter.unusedVariables false

theorem RepFlat.mk {w : World} {E : Env} {sz : Nat} : ∀ {rows : List (List V)} {vs : List Value}, vs.length = rows.length * sz → (∀ (i : Nat) r, rows[i]? = some r → RepL w E r ((vs.drop (i * sz)).take sz)) → RepFlat w E sz rows vs
  | [], vs, hl, _ => by simp at hl; simpa [RepFlat] using hl
  | r :: rs, vs, hl, h => by
    have hl' : vs.length = rs.length * sz + sz := by rw [hl, List.length_cons, Nat.add_mul]; omega
    refine ⟨vs.take sz, vs.drop sz, (List.take_append_drop _ _).symm, by rw [List.length_take]; omega, ?_, RepFlat.mk ?_ ?_⟩
    · have := h 0 r rfl
      simpa using this
    · rw [List.length_drop]; omega
    · intro i r' hi
      have := h (i + 1) r' (by simpa using hi)
      rw [List.drop_drop]
      have e : sz + i * sz = (i + 1) * sz := by rw [Nat.add_mul]; omega
      rw [e]; exact this

theorem zeros_flat {w : World} {E : Env} {z : List V} {zc : Array Value} (hz : RepL w E z zc.toList) (n : Nat) (h0 : 0 < z.length) :
    RepFlat w E z.length (List.replicate n z) ((Array.range (n * z.length)).map fun i => zc[i % zc.size]!).toList := by
  have hzl : zc.size = z.length := by simpa using hz.length
  refine RepFlat.mk (by simp) ?_
  intro i r hi
  have hin : i < n ∧ r = z := by
    rw [List.getElem?_replicate] at hi
    split at hi
    · exact ⟨by assumption, by simpa using hi.symm⟩
    · cases hi
  obtain ⟨hin, rfl⟩ := hin
  have hle : i * r.length + r.length ≤ n * r.length := by
    have := Nat.mul_le_mul_right r.length hin
    rw [Nat.succ_mul] at this; exact this
  refine RepL.of_get (by simp; omega) ?_
  intro j x v hx hv
  have hj : j < r.length := by
    rcases Nat.lt_or_ge j r.length with h' | h'
    · exact h'
    · rw [List.getElem?_eq_none h'] at hx; cases hx
  obtain ⟨v', h1, h2⟩ := hz.get hx
  rw [List.getElem?_take, if_pos hj, List.getElem?_drop] at hv
  simp only [Array.toList_map, Array.toList_range, List.getElem?_map] at hv
  rw [List.getElem?_range (by omega)] at hv
  simp only [Option.map_some, Option.some.injEq] at hv
  rw [hzl, Nat.mul_add_mod_of_lt hj] at hv
  have hjz : j < zc.size := by omega
  rw [getElem!_pos zc j hjz] at hv
  have : zc.toList[j]? = some zc[j] := by
    rw [Array.getElem?_toList]; exact Array.getElem?_eq_getElem hjz
  rw [this] at h1
  simp only [Option.some.injEq] at h1
  rw [← hv, h1]; exact h2

theorem foldl_set (off : Nat) : ∀ (a : List Value) (k : Nat) (c : Array Value), off + k + a.length ≤ c.size →
    ((a.zipIdx k).foldl (fun (q : Array Value) (p : Value × Nat) => q.setIfInBounds (off + p.2) p.1) c).toList = c.toList.take (off + k) ++ a ++ c.toList.drop (off + k + a.length)
  | [], k, c, h => by simp
  | v :: a, k, c, h => by
    simp only [List.zipIdx_cons, List.foldl_cons]
    rw [foldl_set off a (k + 1) _ (by simp at h ⊢; omega)]
    rw [Array.toList_setIfInBounds]
    have hl : off + k < c.toList.length := by simp at h ⊢; omega
    rw [← Nat.add_assoc, List.take_succ_eq_append_getElem (by simpa using hl)]
    rw [List.take_set_of_le (Nat.le_refl _), List.drop_set_of_lt (by omega)]
    simp only [List.getElem_set_self, List.append_assoc, List.singleton_append, List.length_cons]
    simp [Nat.add_comm, Nat.add_left_comm]

theorem RepFlat.setRow {w : World} {E : Env} {sz : Nat} {rows : List (List V)} {vs : List Value} (h : RepFlat w E sz rows vs) {r : List V} {a : List Value} (hr : RepL w E r a) (ha : a.length = sz) {i : Nat} (hi : i < rows.length) :
    RepFlat w E sz (rows.set i r) (vs.take (i * sz) ++ a ++ vs.drop (i * sz + sz)) := by
  have e : rows.set i r = rows.take i ++ [r] ++ rows.drop (i + 1) := by
    rw [List.set_eq_take_append_cons_drop, if_pos hi]; simp
  rw [e]
  refine RepFlat.append (RepFlat.append (h.take i) ⟨a, [], by simp, ha, hr, by simp [RepFlat]⟩) ?_
  have := h.drop (i + 1)
  rwa [show (i + 1) * sz = i * sz + sz from Nat.succ_mul _ _] at this

def fillRows (ρ : X → V) (sz : Nat) : List (List V) → List (Nat × X) → Option (List (List V))
  | rows, [] => some rows
  | rows, (i, x) :: r => if (ρ x).ok = true ∧ (ρ x).cells.length = sz ∧ i < rows.length then fillRows ρ sz (rows.set i (ρ x).cells) r else none

theorem fillRows_rep {w : World} {E : Env} {x : X → V} {ρ : Operand → Value} (H : ∀ o X, cX o = some X → Rep w E (x X) (ρ o)) {P : Program} {sz : Nat} :
    ∀ (parts : List (Nat × Operand)) (ps : List (Nat × Nat × X)) (rows : List (List V)) (c : Array Value) (r : List (List V)), cParts P (fun i => some (i, sz)) parts = some ps → RepFlat w E sz rows c.toList → fillRows x sz rows (ps.map fun p => (p.1, p.2.2)) = some r →
      ∃ d, Instr.fill (fun i => some (i * sz, sz)) c (parts.map fun p => (p.1, ρ p.2)) = some d ∧ RepFlat w E sz r d.toList ∧ r.length = rows.length
  | [], ps, rows, c, r, hp, hc, hf => by
    simp [cParts] at hp; subst hp
    simp [fillRows] at hf; subst hf
    exact ⟨c, rfl, hc, rfl⟩
  | (i, o) :: parts, ps, rows, c, r, hp, hc, hf => by
    simp only [cParts] at hp
    split at hp
    · rename_i off s X ps' hpl hX hps
      simp only [Option.some.injEq, Prod.mk.injEq] at hpl
      obtain ⟨rfl, rfl⟩ := hpl
      simp at hp; subst hp
      simp only [List.map_cons, fillRows] at hf
      split at hf
      · rename_i hb
        have hv := cells_rep (H o X hX) (by rintro e; rw [e] at hb; simp [V.ok] at hb)
        have hl := hv.length
        have hcl := hc.length
        simp only [Array.length_toList] at hl hcl
        have hle : i * sz + sz ≤ rows.length * sz := by
          have := Nat.mul_le_mul_right sz hb.2.2
          rw [Nat.succ_mul] at this; exact this
        have hfs := foldl_set (i * sz) (ρ o).cells.toList 0 c (by simp; omega)
        have hset := hc.setRow hv (by simp; omega) hb.2.2
        obtain ⟨d, h1, h2, h3⟩ := fillRows_rep H parts ps' (rows.set i (x X).cells) (((ρ o).cells.toList.zipIdx 0).foldl (fun (q : Array Value) (p : Value × Nat) => q.setIfInBounds (i * sz + p.2) p.1) c) r hps (by rw [hfs]; simpa [hl, hb.2.1] using hset) hf
        refine ⟨d, ?_, h2, by rw [h3]; simp⟩
        simp only [List.map_cons, Instr.fill]
        rw [if_neg]
        · rw [← h1]
          congr 1
          rw [← Array.foldl_toList]
          simp
        · simp only [hl, ne_eq, Bool.or_eq_true, decide_eq_true_eq, not_or, Decidable.not_not, hb.2.1, true_and, hcl]
          omega
      · cases hf
    · cases hp
end Go.Proofs.VL

namespace Go.Proofs.VL
open Go Go.RowKit
set_option linter.unusedSimpArgs false
set_option linter.unusedVariables false

def rowsBytes : List (List V) → Option (List UInt8)
  | [] => some []
  | [.int .u8 n] :: rs => (rowsBytes rs).map fun l => UInt8.ofNat n.toNat :: l
  | _ => none

def bRows (l : List UInt8) : List (List V) := l.map fun c => [.int .u8 c.toNat]

theorem rowsBytes_bRows (l : List UInt8) : rowsBytes (bRows l) = some l := by
  induction l with
  | nil => rfl
  | cons c l ih => simp only [bRows] at ih; simp [bRows, rowsBytes, ih]

/-- Rows out of values without names. -/
def idFree : V → Bool
  | .bool _ | .int _ _ | .str _ | .nils | .sl _ _ | .iptr _ | .nilp | .nilm | .nilf | .nili => true
  | _ => false

def objRows (ob : List (Option VObj)) (k : Nat) : Option (Nat × List (List V)) :=
  match ob[k]? with
  | some (some (.arr _ sz rows)) => some (sz, rows)
  | some (some (.fro sz rows)) => some (sz, rows)
  | _ => none

def loadFrom (ob : List (Option VObj)) : V → Option (List V)
  | .ptr k off => match ob[k]? with | some (some (.box cs)) => some (cs.drop off) | _ => none
  | .eptr k i s off => match objRows ob k with | some (sz, rows) => if s = sz then (rows[i]?).map (·.drop off) else none | none => none
  | .iptr cs => some cs
  | _ => none

def loadV (agg : Bool) (sz : Nat) (cs : List V) : Option V :=
  if sz ≤ cs.length then (if agg then some (.agg (cs.take sz)) else cs[0]?) else none

/-- Is a value a key of a kind? -/
def isKey (kd : MK) : V → Bool
  | .int k _ => match kd with | .i q => decide (k = q) | _ => false
  | .str _ => match kd with | .s => true | _ => false
  | _ => false
/-- Are two keys one? -/
def eqKey : MK → V → V → Option Bool
  | .i q, .int k a, .int k' b => if k = q ∧ k' = q then some (a == b) else none
  | .s, .str a, .str b => some (a == b)
  | _, _, _ => none
def isInt : V → Bool
  | .int _ _ => true
  | _ => false

/-- The element at a key (none within: there is none). -/
def mfind (kd : MK) (key : V) : List (Nat × V × V) → Option (Option V)
  | [] => some none
  | e :: es => match eqKey kd key e.2.1 with | some true => some (some e.2.2) | some false => mfind kd key es | none => none

/-- The value of an operation that reads and makes memory, and what it makes. -/
def VO.evR (o : VO) (ρ : X → V) (ob : List (Option VObj)) : Option (V × List VObj) :=
  match o with
  | .alloc z => some (.ptr ob.length 0, [.box z])
  | .boxI x => if (ρ x).ok = true ∧ (ρ x).cells.all idFree = true then some (.iptr (ρ x).cells, []) else none
  | .box x => if (ρ x).ok then some (.ptr ob.length 0, [.box (ρ x).cells]) else none
  | .load agg sz a => ((loadFrom ob (ρ a)).bind (loadV agg sz)).map fun v => (v, [])
  | .bsl own e sz len zero parts => (fillRows ρ sz (List.replicate len zero) parts).bind fun rows => if rows.all (fun r => r.all idFree) = true then (if own then some (.ref ob.length len, [.arr e sz rows]) else some (.sl sz rows, [])) else none
  | .msl e sz bytes zero l c => match ρ l, ρ c with
    | .int _ n, .int _ m => if 0 ≤ n ∧ n = m ∧ n ≤ 140737488355328 ∧ bytes * n ≤ 281474976710656 ∧ zero.all idFree = true then some (.ref ob.length n.toNat, [.arr e sz (List.replicate n.toNat zero)]) else none
    | _, _ => none
  | .b2s x => match ρ x with
    | .sl 1 rows => (rowsBytes rows).map fun l => (.str l, [])
    | .nils => some (.str [], [])
    | .ref k n => match objRows ob k with
      | some (1, rows) => if n ≤ rows.length then (rowsBytes (rows.take n)).map fun l => (.str l, []) else none
      | _ => none
    | _ => none
  | .s2b e x => match ρ x with | .str l => if e = 0 then (if l.length ≤ 140737488355328 then some (.ref ob.length l.length, [.arr 0 1 (bRows l)]) else none) else some (.sl 1 (bRows l), []) | _ => none
  | .mkmap l => if l.all (fun x => isInt (ρ x)) = true then some (.mapr ob.length, [.map [] 0]) else none
  | .look ck kd z x i => if isKey kd (ρ i) = true then (match ρ x with
    | .nilm => some (if ck then .tup [z, .bool false] else z, [])
    | .mapr k => match ob[k]? with
      | some (some (.map es _)) => match mfind kd (ρ i) es with
        | some (some v) => some (if ck then .tup [v, .bool true] else v, [])
        | some none => some (if ck then .tup [z, .bool false] else z, [])
        | none => none
      | _ => none
    | _ => none) else none
  | .rng x => match ρ x with
    | .nilm => some (.ptr ob.length 0, [.miter none 0 [] 0])
    | .mapr k => match ob[k]? with
      | some (some (.map _ clock)) => some (.ptr ob.length 0, [.miter (some k) clock [] clock])
      | _ => none
    | _ => none
  | .nxt _ => none
  | .ent _ => none
  | o => (o.evP ρ).map fun v => (v, [])

theorem objRows_rep {w : World} {E : Env} {ob : List (Option VObj)} {k : Nat} (hob : ∀ k o, E.dom k → ob[k]? = some (some o) → ObjRep w E k o) (hk : E.dom k) {sz : Nat} {rows : List (List V)} (h : objRows ob k = some (sz, rows)) :
    ∃ vs, RepFlat w E.pure sz rows vs ∧ (rows = [] ∨ (E.nil k = false ∧ CellsAt w (E.blk k) 0 vs)) ∧ Ones vs := by
  unfold objRows at h
  split at h
  · rename_i e s r ho
    simp at h; obtain ⟨rfl, rfl⟩ := h
    have := hob k _ hk ho
    simp only [ObjRep] at this
    obtain ⟨h1, h2, h3, vs, h4, h5, h6⟩ := this
    refine ⟨vs, h5, ?_, h6⟩
    cases hn : E.nil k with
    | true => have := h1 hn; exact .inl (List.eq_nil_of_length_eq_zero (by omega))
    | false =>
      refine .inr ⟨rfl, ?_⟩
      intro j v hj
      have := h4.cells (g := E.blk k) (by simp [aval, hn, Value.ownBlock]) j v hj
      rw [add_off] at this; exact this
  · rename_i s r ho
    simp at h; obtain ⟨rfl, rfl⟩ := h
    have := hob k _ hk ho
    simp only [ObjRep] at this
    obtain ⟨h1, h2, vs, h3, h8, h4⟩ := this
    refine ⟨vs, h3, ?_, h8⟩
    rcases h4 with h4 | ⟨h4, h5, h6, h7⟩
    · exact .inl h4
    · exact .inr ⟨h4, h7⟩
  · cases h

/-- The cells at an address. -/
theorem loadFrom_rep {w : World} {E : Env} {ob : List (Option VObj)} (hob : ∀ k o, E.dom k → ob[k]? = some (some o) → ObjRep w E k o) {x : V} {v : Value} (hx : Rep w E x v) {cs : List V} (h : loadFrom ob x = some cs) :
    ∃ b off vs, v = .pointer (some ⟨b, off, none⟩) ∧ CellsAt w b off vs ∧ RepL w E cs vs := by
  have up : ∀ {cs : List V} {vs : List Value}, RepL w E.pure cs vs → RepL w E cs vs := by
    intro cs vs h
    refine RepL.ext (E := E.pure) (E' := E) ⟨rfl, rfl, rfl, Nat.le_refl _, fun b _ h => ⟨h, rfl⟩, fun b _ h => ⟨h, rfl⟩, fun _ h => h.elim, fun _ h => h.elim, fun _ h => h.elim, fun _ h => h.elim⟩ _ _ h
  unfold loadFrom at h
  split at h
  · rename_i k off
    split at h
    · rename_i c ho
      simp at h; subst h
      simp only [Rep] at hx
      obtain ⟨hk, rfl⟩ := hx
      have := hob k _ hk ho
      simp only [ObjRep] at this
      obtain ⟨h1, cc, e, h2, h3⟩ := this
      refine ⟨E.blk k, off, cc.drop off, rfl, ?_, h3.drop off⟩
      intro j u hj
      simp only [World.cell?, h2]
      simpa [List.getElem?_drop] using hj
    · cases h
  · rename_i k i s off
    split at h
    · rename_i sz rows ho
      split at h
      · rename_i hs
        subst hs
        obtain ⟨row, hrow, rfl⟩ := opt_bind h
        simp only [Rep] at hx
        obtain ⟨hk, hn, rfl⟩ := hx
        obtain ⟨vs, h5, h6, _⟩ := objRows_rep hob hk ho
        rcases h6 with h6 | ⟨h6, h7⟩
        · subst h6; simp at hrow
        · obtain ⟨a, g1, g2, g3⟩ := h5.row hrow
          refine ⟨E.blk k, i * s + off, a.drop off, rfl, ?_, up (g2.drop off)⟩
          intro j u hj
          have := g3 (off + j) u (by simpa [List.getElem?_drop] using hj)
          have := h7 _ _ this
          simpa [Nat.add_assoc] using this
      · cases h
    · cases h
  · simp at h; subst h
    simp only [Rep] at hx
    obtain ⟨b, off, vs, rfl, _, _, hc, hr⟩ := hx
    exact ⟨b, off, vs, rfl, hc, up hr⟩
  · cases h

theorem loadVar_run {P : Program} {w : World} {t : TypeId} {s : Nat} (hs : szB P t = some s) {E : Env} {b off : Nat} {cs : List V} {vs : List Value} (hc : CellsAt w b off vs) (hr : RepL w E cs vs) {r : V} (h : loadV (aggB P t) s cs = some r) :
    ∃ v, (loadVar t ⟨b, off, none⟩).run P w = .ok v w ∧ Rep w E r v := by
  obtain ⟨d, i, hd, hi, hsz⟩ := szB_some hs
  unfold loadV at h
  split at h
  · rename_i hle
    unfold loadVar
    simp only [Sem.run_bind, run_isAgg hd, Result.andThen_ok]
    by_cases ha : aggB P t = true
    · simp only [ha, if_true, Option.some.injEq] at h ⊢
      subst h
      have hl : (vs.take s).length = s := by have := hr.length; simp; omega
      have := run_loadCells_list (P := P) w ⟨b, off, none⟩ (vs.take s) (fun j v hj => by rw [add_off]; exact hc.take s j v hj)
      rw [hl] at this
      refine ⟨.agg (vs.take s).toArray, by simp [run_sizeOf hs, this], ?_⟩
      simp only [Rep]
      exact ⟨vs.take s, rfl, hr.take s⟩
    · simp only [ha, Bool.false_eq_true, if_false] at h ⊢
      obtain ⟨v, h1, h2⟩ := hr.get h
      refine ⟨v, ?_, h2⟩
      have := hc 0 v h1
      simp only [Nat.add_zero] at this
      simp [this]
  · cases h

theorem bytes_back {w : World} {E : Env} : ∀ {rows : List (List V)} {vs : List Value} {l : List UInt8}, RepFlat w E 1 rows vs → rowsBytes rows = some l → ∃ ns : List Int, vs = ns.map (Value.int .u8) ∧ l = ns.map (fun n => UInt8.ofNat n.toNat)
  | [], vs, l, h, hb => by
    simp [RepFlat] at h; simp [rowsBytes] at hb; subst h; subst hb; exact ⟨[], rfl, rfl⟩
  | r :: rs, vs, l, h, hb => by
    simp only [RepFlat] at h
    obtain ⟨a, b, rfl, h1, h2, h3⟩ := h
    unfold rowsBytes at hb
    split at hb
    · cases ‹_ :: _ = []›
    · rename_i n rs' he
      injection he with he1 he2
      subst he1; subst he2
      obtain ⟨l', hl', rfl⟩ := opt_bind hb
      obtain ⟨ns, q1, q2⟩ := bytes_back h3 hl'
      simp only [RepL, Rep] at h2
      obtain ⟨v, vs', rfl, rfl, rfl⟩ := h2
      exact ⟨n :: ns, by simp [q1], by simp [q2]⟩
    · cases hb

theorem foldl_push_list : ∀ (ns : List Int) (r : ByteArray), ns.foldl (fun r n => r.push (UInt8.ofNat n.toNat)) r = ⟨r.data ++ (ns.map (fun n => UInt8.ofNat n.toNat)).toArray⟩
  | [], r => by simp
  | n :: ns, r => by
    simp only [List.foldl_cons, List.map_cons]
    rw [foldl_push_list ns]
    simp [ByteArray.push]

theorem b2s_run {P : Program} {w : World} {s d e : TypeId} (hs : P.underlying s = some (.slice e)) (hd : P.underlying d = some .string) (he : P.underlying e = some (.int .u8)) {b off cap : Nat} {ns : List Int}
    (hc : CellsAt w b off (ns.map (Value.int .u8))) : (convert s d (.slice (some ⟨b, off, none⟩) ns.length cap)).run P w = .ok (.string ⟨⟨ns.map (fun n => UInt8.ofNat n.toNat)⟩⟩) w := by
  rw [run_convert_bytes_string w s d e _ _ cap hs he hd]
  have hl := run_loadCells_list (P := P) w ⟨b, off, none⟩ (ns.map (Value.int .u8)) (fun j v hj => by rw [add_off]; exact hc j v hj)
  simp only [List.length_map] at hl
  rw [run_bytesToString w _ _ cap ns hl, foldl_push_list]
  have he0 : ByteArray.empty.data = #[] := rfl
  rw [he0]
  simp
end Go.Proofs.VL

namespace Go.Proofs.VL
open Go Go.RowKit Go.MapKept
set_option linter.unusedSimpArgs false
set_option linter.unusedVariables false

/-- A map with another element at a key that it has. -/
def mset (kd : MK) (key x : V) : List (Nat × V × V) → List (Nat × V × V)
  | [] => []
  | e :: es => match eqKey kd key e.2.1 with | some true => (e.1, key, x) :: es | _ => e :: mset kd key x es
/-- A map without a key. -/
def mdel (kd : MK) (key : V) : List (Nat × V × V) → List (Nat × V × V)
  | [] => []
  | e :: es => match eqKey kd key e.2.1 with | some true => es | _ => e :: mdel kd key es

def keyD (d : TypeDesc) (kd : MK) : Prop := (∃ q, d = .int q ∧ kd = .i q) ∨ (d = .string ∧ kd = .s)

theorem keyB_some {P : Program} {t : TypeId} {kd : MK} (h : keyB P t = some kd) : ∃ d, P.underlying t = some d ∧ keyD d kd := by
  unfold keyB at h
  split at h <;> simp at h
  · rename_i q hq; subst h; exact ⟨_, hq, .inl ⟨q, rfl, rfl⟩⟩
  · rename_i hq; subst h; exact ⟨_, hq, .inr ⟨rfl, rfl⟩⟩

theorem eqKey_now {d : TypeDesc} {kd : MK} (hd : keyD d kd) {w w' : World} {E E' : Env} {x y : V} {u v : Value} (hx : Rep w E x u) (hy : Rep w' E' y v) {b : Bool} (h : eqKey kd x y = some b) : Instr.sameNow d u v = some b ∧ (b = true → u = v) := by
  rcases hd with ⟨q, rfl, rfl⟩ | ⟨rfl, rfl⟩
  · cases x <;> cases y <;> simp [eqKey] at h
    obtain ⟨⟨rfl, rfl⟩, rfl⟩ := h
    simp only [Rep] at hx hy
    subst hx; subst hy
    refine ⟨by simp [Instr.sameNow], fun hb => ?_⟩
    simp at hb; rw [hb]
  · cases x <;> cases y <;> simp [eqKey] at h
    subst h
    simp only [Rep] at hx hy
    subst hx; subst hy
    rename_i l l'
    have : ((⟨⟨l⟩⟩ : ByteArray) == ⟨⟨l'⟩⟩) = (l == l') := by
      rw [Bool.eq_iff_iff, bytes_beq]
      simp
    refine ⟨by simp [Instr.sameNow, this], fun hb => ?_⟩
    simp at hb; rw [hb]

theorem eqKey_key {d : TypeDesc} {kd : MK} (hd : keyD d kd) {w : World} {E : Env} {x y : V} {u : Value} (hx : Rep w E x u) {b : Bool} (h : eqKey kd x y = some b) : IsKey d u ∧ ∀ w' E', Rep w' E' x u := by
  rcases hd with ⟨q, rfl, rfl⟩ | ⟨rfl, rfl⟩
  · cases x <;> cases y <;> simp [eqKey] at h
    obtain ⟨⟨rfl, rfl⟩, _⟩ := h
    simp only [Rep] at hx; subst hx
    exact ⟨by simp [IsKey], fun _ _ => by simp [Rep]⟩
  · cases x <;> cases y <;> simp [eqKey] at h
    simp only [Rep] at hx; subst hx
    exact ⟨by simp [IsKey], fun _ _ => by simp [Rep]⟩

theorem isKey_rep {d : TypeDesc} {kd : MK} (hd : keyD d kd) {w : World} {E : Env} {x : V} {u : Value} (hx : Rep w E x u) (h : isKey kd x = true) : IsKey d u ∧ ∀ w' E', Rep w' E' x u := by
  rcases hd with ⟨q, rfl, rfl⟩ | ⟨rfl, rfl⟩
  · cases x <;> simp [isKey] at h
    try subst h
    simp only [Rep] at hx; subst hx
    exact ⟨by simp [IsKey], fun _ _ => by simp [Rep]⟩
  · cases x <;> simp [isKey] at h
    try subst h
    simp only [Rep] at hx; subst hx
    exact ⟨by simp [IsKey], fun _ _ => by simp [Rep]⟩

theorem find_none {d : TypeDesc} {kd : MK} (hd : keyD d kd) {w w' : World} {E E' : Env} {key : V} {kv : Value} (hk : Rep w E key kv) : ∀ {es : List (Nat × V × V)} {ms : List MapEntry} (i : Nat), MapRep w' E' es ms → mfind kd key es = some none → Instr.findNow d kv ms i = some none
  | [], ms, i, hm, h => by simp only [MapRep] at hm; subst hm; rfl
  | e :: es, ms, i, hm, h => by
    simp only [MapRep] at hm
    obtain ⟨m, ms', rfl, h1, h2, h3, h4⟩ := hm
    simp only [mfind] at h
    split at h <;> try (cases h; done)
    rename_i hq
    have := (eqKey_now hd hk h2 hq).1
    simp only [Instr.findNow, this]
    exact find_none hd hk (i + 1) h4 h

theorem find_some {d : TypeDesc} {kd : MK} (hd : keyD d kd) {w w' : World} {E E' : Env} {key v : V} {kv : Value} (hk : Rep w E key kv) : ∀ {es : List (Nat × V × V)} {ms : List MapEntry} (i : Nat), MapRep w' E' es ms → mfind kd key es = some (some v) →
    ∃ j m, Instr.findNow d kv ms i = some (some (i + j, m.val)) ∧ ms[j]? = some m ∧ m.key = kv ∧ Rep w' E' v m.val ∧ (∀ x u, Rep w' E' x u → MapRep w' E' (mset kd key x es) (ms.modify j fun e => { e with key := kv, val := u })) ∧ MapRep w' E' (mdel kd key es) (ms.eraseIdx j)
  | [], ms, i, hm, h => by simp [mfind] at h
  | e :: es, ms, i, hm, h => by
    simp only [MapRep] at hm
    obtain ⟨m, ms', rfl, h1, h2, h3, h4⟩ := hm
    simp only [mfind] at h
    split at h <;> try (cases h; done)
    · rename_i hq
      simp only [Option.some.injEq] at h
      subst h
      obtain ⟨q1, q2⟩ := eqKey_now hd hk h2 hq
      have q3 := (eqKey_key hd hk hq).2
      refine ⟨0, m, by simp [Instr.findNow, q1], rfl, (q2 rfl).symm, h3, fun x u hx => ?_, ?_⟩
      · simp only [mset, hq]
        exact ⟨_, ms', rfl, h1, q3 _ _, hx, h4⟩
      · simp only [mdel, hq]
        exact h4
    · rename_i hq
      obtain ⟨q1, q2⟩ := eqKey_now hd hk h2 hq
      obtain ⟨j, m', g1, g2, g3, g4, g5, g6⟩ := find_some hd hk (i + 1) h4 h
      refine ⟨j + 1, m', by simp only [Instr.findNow, q1, g1]; congr 3; omega, by simpa using g2, g3, g4, fun x u hx => ?_, ?_⟩
      · simp only [mset, hq]
        exact ⟨m, _, rfl, h1, h2, h3, g5 x u hx⟩
      · simp only [mdel, hq]
        exact ⟨m, _, rfl, h1, h2, h3, g6⟩

theorem MapRep.snoc {w : World} {E : Env} {c : Nat} {key x : V} {kv u : Value} (hk : Rep w E key kv) (hx : Rep w E x u) : ∀ {es : List (Nat × V × V)} {ms : List MapEntry}, MapRep w E es ms → MapRep w E (es ++ [(c, key, x)]) (ms ++ [{ key := kv, val := u, born := c }])
  | [], ms, h => by
    simp only [MapRep] at h; subst h
    exact ⟨_, [], rfl, rfl, hk, hx, rfl⟩
  | e :: es, ms, h => by
    simp only [MapRep] at h
    obtain ⟨m, ms', rfl, h1, h2, h3, h4⟩ := h
    exact ⟨m, _, rfl, h1, h2, h3, MapRep.snoc hk hx h4⟩
theorem rep_up {w : World} {E : Env} {x : V} {v : Value} (h : Rep w E.pure x v) : Rep w E x v :=
  Rep.ext (E := E.pure) (E' := E) ⟨rfl, rfl, rfl, Nat.le_refl _, fun b _ h => ⟨h, rfl⟩, fun b _ h => ⟨h, rfl⟩, fun _ h => h.elim, fun _ h => h.elim, fun _ h => h.elim, fun _ h => h.elim⟩ _ _ h

/-- An element of a map: without names. -/
def elemFree : V → Bool
  | .agg cs => cs.all idFree
  | v => idFree v

theorem zeroV_run {P : Program} {t : TypeId} {z : V} (h : zeroV P t = some z) (w : World) (E : Env) : ∃ zv, (zeroValue t).run P w = .ok zv w ∧ Rep w E z zv := by
  unfold zeroV at h
  split at h <;> try (cases h; done)
  rename_i i hi
  split at h <;> try (cases h; done)
  rename_i zv hz
  have hrun : (zeroValue t).run P w = .ok zv w := by simp [zeroValue, typeInfo, hi, hz]
  refine ⟨zv, hrun, ?_⟩
  split at h
  · split at h <;> simp at h
    rename_i cs
    subst h
    exact ⟨cs.toList, by simp, repL_const w E _⟩
  · simp at h; subst h
    exact rep_const1 w E zv
end Go.Proofs.VL

namespace Go.Proofs.VL
open Go Go.RowKit Go.MapKept
set_option linter.unusedSimpArgs false
set_option linter.unusedVariables false

theorem zeroB_some {P : Program} {t : TypeId} {z : List V} (h : zeroB P t = some z) : ∃ i zv, P.info? t = some i ∧ i.zero = some zv ∧ z = zv.cells.toList.map ofConst1 := by
  unfold zeroB at h
  split at h
  · rename_i i hi
    split at h
    · rename_i zv hz
      exact ⟨i, zv, hi, hz, by simpa using h.symm⟩
    · cases h
  · cases h

theorem elemB_some {P : Program} {t e s b : Nat} {z : List V} (h : elemB P t = some (e, s, b, z)) : P.underlying t = some (.slice e) ∧ szB P e = some s ∧ (∃ i, P.info? e = some i ∧ i.bytes = b ∧ i.size = s) ∧ zeroB P e = some z := by
  unfold elemB at h
  split at h
  · rename_i e' hu
    split at h
    · rename_i s' i z' h1 h2 h3
      simp at h
      obtain ⟨rfl, rfl, rfl, rfl⟩ := h
      obtain ⟨d, i2, _, hi2, hs2⟩ := szB_some h1
      rw [h2] at hi2
      simp at hi2; subst hi2
      exact ⟨hu, h1, ⟨i, h2, rfl, hs2⟩, h3⟩
    · cases h
  · cases h

/-- A new row of the call's own. -/
theorem RRes.arr {P : Program} {E : Env} {w : World} {ob : List (Option VObj)} {rows : List (List V)} {sz e : Nat} {c : Array Value} (hk : ¬ E.dom ob.length) (hf : ∀ b, w.heap.size ≤ b → E.lab b = .imm)
    (hc : RepFlat w E.pure sz rows c.toList) (hone : Ones c.toList) (hm : rows.length ≤ maxLen) :
    RRes P E w ob (.ref ob.length rows.length) [.arr e sz rows] (.slice (some ⟨w.heap.size, 0, none⟩) rows.length rows.length) (w.alloc (.cells c e)) (E.new ob.length w.heap.size (.obj ob.length) rows.length false) where
  ext := RExt.new hk _ _ _ _
  dom := fun k => by
    simp only [Env.new, List.length_singleton]
    constructor
    · rintro (h | h)
      · exact .inl h
      · exact .inr ⟨by omega, by omega⟩
    · rintro (h | h)
      · exact .inl h
      · exact .inr (by omega)
  rep := by simp [Rep, Env.new, aval]
  objs := fun j o h => by
    cases j with
    | zero =>
      simp at h; subst h
      simp only [ObjRep, Nat.add_zero]
      have hl := hc.length
      refine ⟨by simp [Env.new], by simp [Env.new], by simp [Env.new], c.toList, ?_, RepFlat.ext (RExt.new hk _ _ _ _).ext.pure _ _ _ hc, hone⟩
      refine ownsV_of ⟨hl, .inr ⟨w.heap.size, rows.length, c, by simp [aval, Env.new], Nat.zero_le _, push_get w _, Nat.le_refl _, hm, by simpa using hl, ?_⟩⟩
      rw [← hl]; exact List.take_length
    | succ j => simp at h
  fresh := fun b hb => by
    have : w.heap.size < b := by simp at hb; omega
    simp only [Env.new]
    rw [if_neg (by omega)]; exact hf b (by omega)

/-- A row of the call's own whose frozen stretch lies behind its cells. -/
theorem RRes.arrF {P : Program} {E : Env} {w : World} {ob : List (Option VObj)} {rows : List (List V)} {sz te cap : Nat} {fz : Nat × Nat} {c : Array Value} {vs : List Value} (hk : ¬ E.dom ob.length) (hf : ∀ b, w.heap.size ≤ b → E.lab b = .imm)
    (hc : RepFlat w E.pure sz rows vs) (hone : Ones vs) (hcap : rows.length ≤ cap) (hm : cap ≤ maxLen) (hcs : c.size = cap * sz) (htk : c.toList.take (rows.length * sz) = vs) (hfz : c.size ≤ fz.1) :
    RRes P E w ob (.ref ob.length rows.length) [.arr 0 sz rows] (.slice (some ⟨w.heap.size, 0, none⟩) rows.length cap) (w.alloc (.cells c te fz)) (E.new ob.length w.heap.size (.obj ob.length) cap false) where
  ext := RExt.new hk _ _ _ _
  dom := fun k => by
    simp only [Env.new, List.length_singleton]
    constructor
    · rintro (h | h)
      · exact .inl h
      · exact .inr ⟨by omega, by omega⟩
    · rintro (h | h)
      · exact .inl h
      · exact .inr (by omega)
  rep := by simp [Rep, Env.new, aval, hcap]
  objs := fun j o h => by
    cases j with
    | zero =>
      simp at h; subst h
      simp only [ObjRep, Nat.add_zero]
      have hl := hc.length
      refine ⟨by simp [Env.new], by simp [Env.new, hcap], by simp [Env.new], vs, ?_, RepFlat.ext (RExt.new hk _ _ _ _).ext.pure _ _ _ hc, hone⟩
      exact ⟨hl, .inr ⟨w.heap.size, cap, c, by simp [aval, Env.new], Nat.zero_le _, ⟨te, fz, push_get w _, .inr ⟨rfl, hfz⟩, fun h => absurd rfl h⟩, hcap, hm, hcs, htk⟩⟩
    | succ j => simp at h
  fresh := fun b hb => by
    have : w.heap.size < b := by simp at hb; omega
    simp only [Env.new]
    rw [if_neg (by omega)]; exact hf b (by omega)

/-- A new row that nobody will write. -/
theorem RRes.sl {P : Program} {E : Env} {w : World} {ob : List (Option VObj)} {rows : List (List V)} {sz cap : Nat} {c : Array Value} (e : TypeId) (fz : Nat × Nat) (hf : ∀ b, w.heap.size ≤ b → E.lab b = .imm)
    {vs : List Value} (hc : RepFlat w E.pure sz rows vs) (hone : Ones vs) (hcap : rows.length ≤ cap) (hcells : ∀ (j : Nat) v, vs[j]? = some v → c[j]? = some v) :
    RRes P E w ob (.sl sz rows) [] (.slice (some ⟨w.heap.size, 0, none⟩) rows.length cap) (w.alloc (.cells c e fz)) E := by
  refine RRes.old (RExt.push w E _) ?_ (fun b hb => hf b (by simp at hb; omega))
  simp only [Rep]
  refine ⟨_, _, vs, rfl, hcap, RepFlat.ext (RExt.push w E _).ext.pure _ _ _ hc, hone, .inr ⟨w.heap.size, 0, rfl, hf _ (Nat.le_refl _), by simp, ?_⟩⟩
  intro j v hj
  have := hcells j v hj
  simp only [World.cell?, push_get, Nat.zero_add]
  simpa using this

theorem rep_pure_const (w : World) (E : Env) (vs : List Value) : RepL w E (vs.map ofConst1) vs := repL_const w E vs

theorem rep_pure {w : World} {E : Env} {x : V} {v : Value} (hx : idFree x = true) (h : Rep w E x v) : Rep w E.pure x v := by
  cases x <;> simp [idFree] at hx <;> simp only [Rep] at h ⊢ <;> try exact h
  all_goals exact h

theorem repL_pure {w : World} {E : Env} : ∀ {xs : List V} {vs : List Value}, xs.all idFree = true → RepL w E xs vs → RepL w E.pure xs vs
  | [], vs, _, h => h
  | x :: xs, vs, hx, h => by
    simp only [List.all_cons, Bool.and_eq_true] at hx
    simp only [RepL] at h ⊢
    obtain ⟨v, vs', rfl, h1, h2⟩ := h
    exact ⟨v, vs', rfl, rep_pure hx.1 h1, repL_pure hx.2 h2⟩

theorem repFlat_pure {w : World} {E : Env} {sz : Nat} : ∀ {rows : List (List V)} {vs : List Value}, rows.all (fun r => r.all idFree) = true → RepFlat w E sz rows vs → RepFlat w E.pure sz rows vs
  | [], vs, _, h => h
  | r :: rs, vs, hx, h => by
    simp only [List.all_cons, Bool.and_eq_true] at hx
    simp only [RepFlat] at h ⊢
    obtain ⟨a, b, rfl, h1, h2, h3⟩ := h
    exact ⟨a, b, rfl, h1, repL_pure hx.1 h2, repFlat_pure hx.2 h3⟩

theorem cell_one {w : World} {E : Env} {x : V} {v : Value} (hx : idFree x = true) (h : Rep w E x v) : v.oneCell' = true := by
  cases x <;> simp [idFree] at hx <;> simp only [Rep] at h
  case sl => obtain ⟨_, _, _, rfl, _⟩ := h; rfl
  case iptr => obtain ⟨_, _, _, rfl, _⟩ := h; rfl
  all_goals (subst h; rfl)

theorem cells_one {w : World} {E : Env} : ∀ {xs : List V} {vs : List Value}, xs.all idFree = true → RepL w E xs vs → Ones vs
  | [], vs, _, h => by simp only [RepL] at h; subst h; exact Ones.nil
  | x :: xs, vs, hx, h => by
    simp only [List.all_cons, Bool.and_eq_true] at hx
    simp only [RepL] at h
    obtain ⟨v, vs', rfl, h1, h2⟩ := h
    intro u hu
    rcases List.mem_cons.1 hu with rfl | hu
    · exact cell_one hx.1 h1
    · exact cells_one hx.2 h2 u hu

theorem flat_one {w : World} {E : Env} {sz : Nat} : ∀ {rows : List (List V)} {vs : List Value}, rows.all (fun r => r.all idFree) = true → RepFlat w E sz rows vs → Ones vs
  | [], vs, _, h => by simp only [RepFlat] at h; subst h; exact Ones.nil
  | r :: rs, vs, hx, h => by
    simp only [List.all_cons, Bool.and_eq_true] at hx
    simp only [RepFlat] at h
    obtain ⟨a, b, rfl, h1, h2, h3⟩ := h
    exact (cells_one hx.1 h2).append (flat_one hx.2 h3)

theorem exec_value2 {P : Program} {w w' : World} {ρ : Operand → Value} {o : Oper} {s : Sem Value} {v : Value} (he : execOp ρ o = (do pure (Next.value (← s)) : Sem Next)) (h : s.run P w = .ok v w') : (execOp ρ o).run P w = .ok (.value v) w' := by
  rw [he]; simp [h]

theorem bRows_flat (w : World) (E : Env) (l : List UInt8) : RepFlat w E 1 (bRows l) (l.map fun c => Value.int .u8 c.toNat) := by
  induction l with
  | nil => simp [bRows, RepFlat]
  | cons c l ih => exact ⟨[.int .u8 c.toNat], _, rfl, rfl, ⟨_, _, rfl, rfl, rfl⟩, ih⟩

def VO.isR : VO → Bool
  | .alloc _ | .box _ | .boxI _ | .load _ _ _ | .bsl _ _ _ _ _ _ | .msl _ _ _ _ _ _ | .b2s _ | .s2b _ _ | .mkmap _ | .look _ _ _ _ _ | .rng _ | .nxt _ | .ent _ => true
  | _ => false

theorem evR_P {o : VO} (h : o.isR = false) (ρ : X → V) (ob : List (Option VObj)) : o.evR ρ ob = (o.evP ρ).map fun v => (v, []) := by
  cases o <;> first | rfl | (simp [VO.isR] at h)

theorem r_sound {ow : Bool} {P : Program} {o : Oper} {vo : VO} (hc : cop ow P o = some vo) {w : World} {E : Env} {x : X → V} {ρ : Operand → Value} {ob : List (Option VObj)} {r : V} {news : List VObj} (H : ∀ o X, cX o = some X → Rep w E (x X) (ρ o)) (hr : vo.evR x ob = some (r, news))
    (hob : ∀ k o, E.dom k → ob[k]? = some (some o) → ObjRep w E k o) (hf : ∀ b, w.heap.size ≤ b → E.lab b = .imm) (hk : news ≠ [] → ¬ E.dom ob.length) :
    ∃ val w' E', (execOp ρ o).run P w = .ok (.value val) w' ∧ RRes P E w ob r news val w' E' := by
  cases hR : vo.isR with
  | false =>
    rw [evR_P hR] at hr
    obtain ⟨q, hq, he⟩ := opt_bind hr
    simp only [Prod.mk.injEq] at he
    obtain ⟨rfl, rfl⟩ := he
    obtain ⟨v, h1, h2⟩ := cop_pure hc w E x ρ q H hq
    exact ⟨v, w, E, h1, RRes.old (RExt.refl w E) h2 hf⟩
  | true =>
    obtain ⟨dst, op, ty, pos, after, guard⟩ := o
    unfold cop at hc
    cases op <;> simp only [reduceCtorEq] at hc
    case move a => obtain ⟨X, hX, rfl⟩ := opt_bind hc; simp [VO.isR] at hR
    case assign a => obtain ⟨X, hX, rfl⟩ := opt_bind hc; simp [VO.isR] at hR
    case pick c a b => split at hc <;> simp at hc; subst hc; simp [VO.isR] at hR
    case build t parts => split at hc <;> simp at hc; obtain ⟨ps, hps, rfl⟩ := hc; simp [VO.isR] at hR
    case nilCheck a => obtain ⟨X, hX, rfl⟩ := opt_bind hc; simp [VO.isR] at hR
    case binOp bop t a b yt =>
      split at hc
      · unfold copBin at hc
        split at hc
        · simp at hc; subst hc; simp [VO.isR] at hR
        · simp at hc; subst hc; simp [VO.isR] at hR
        case h_8 =>
          split at hc
          · split at hc
            · split at hc <;> simp at hc <;> subst hc <;> simp [VO.isR] at hR
            · cases hc
          · cases hc
        all_goals first | (split at hc <;> simp at hc <;> subst hc <;> simp [VO.isR] at hR) | cases hc
      · cases hc
    case unOp uop t a => obtain ⟨X, hX, rfl⟩ := opt_bind hc; simp [VO.isR] at hR
    case makeFunc f first caps =>
      cases f <;> try (cases hc; done)
      simp only at hc
      split at hc <;> simp at hc
      subst hc; simp [VO.isR] at hR
    case slice t a lo hi mx =>
      split at hc
      · simp at hc; subst hc; simp [VO.isR] at hR
      · obtain ⟨s, hs, rfl⟩ := opt_bind hc; simp [VO.isR] at hR
      · cases hc
    case fieldAddr t a f =>
      split at hc
      · split at hc
        · split at hc
          · cases hc
          · simp at hc; subst hc; simp [VO.isR] at hR
        · cases hc
      · cases hc
    case field t a f =>
      split at hc
      · obtain ⟨s, hs, rfl⟩ := opt_bind hc; simp [VO.isR] at hR
      · cases hc
    case indexAddr t a i =>
      split at hc
      · obtain ⟨s, hs, rfl⟩ := opt_bind hc; simp [VO.isR] at hR
      · obtain ⟨s, hs, rfl⟩ := opt_bind hc; simp [VO.isR] at hR
      · cases hc
    case index t a i =>
      split at hc
      · simp at hc; subst hc; simp [VO.isR] at hR
      · obtain ⟨s, hs, rfl⟩ := opt_bind hc; simp [VO.isR] at hR
      · cases hc
    case extract a i => obtain ⟨X, hX, rfl⟩ := opt_bind hc; simp [VO.isR] at hR
    case mapUpdate t m i a =>
      split at hc
      · obtain ⟨kd, _, rfl⟩ := opt_bind hc; simp [VO.isR] at hR
      · cases hc
    case insert t m i a =>
      split at hc
      · obtain ⟨kd, _, rfl⟩ := opt_bind hc; simp [VO.isR] at hR
      · cases hc
    case next a q =>
      split at hc
      · cases hc
      · obtain ⟨X, _, rfl⟩ := opt_bind hc; simp [VO.evR] at hr
    case entry a => obtain ⟨X, _, rfl⟩ := opt_bind hc; simp [VO.evR] at hr
    case makeMap t q =>
      split at hc <;> simp at hc
      rename_i k e q' hu hq
      subst hc
      simp only [VO.evR] at hr
      split at hr <;> simp at hr
      rename_i hall
      obtain ⟨rfl, rfl⟩ := hr
      have hrun : (execOp ρ ⟨dst, .makeMap t q, ty, pos, after, guard⟩).run P w = .ok (.value (.map (some w.heap.size))) (w.alloc (.map #[] 0)) := by
        cases q with
        | none => simp [execOp, Instr.makeMap]
        | some o =>
          simp only [cXo] at hq
          split at hq <;> simp at hq
          rename_i X hX
          subst hq
          have h1 := H o X hX
          simp at hall
          cases hx : x X <;> rw [hx] at hall h1 <;> simp [isInt] at hall
          simp only [Rep] at h1
          simp [execOp, Instr.makeMap, run_underlying hu, asInt, asIntOf, h1]
      refine ⟨_, _, _, hrun, RRes.obj _ (hk (by simp)) hf ?_ ?_⟩
      · simp [Rep, Env.new]
      · simp only [ObjRep]
        exact ⟨by simp [Env.new], #[], by simp only [Env.new, if_true]; exact push_get w _, rfl⟩
    case range t a =>
      split at hc <;> simp at hc
      rename_i k e X hu hX
      subst hc
      have hv := H a X hX
      simp only [VO.evR] at hr
      split at hr <;> try (cases hr; done)
      · rename_i hx
        rw [hx] at hv; simp only [Rep] at hv
        simp at hr
        obtain ⟨rfl, rfl⟩ := hr
        have hrun : (execOp ρ ⟨dst, .range t a, ty, pos, after, guard⟩).run P w = .ok (.value (.pointer (some ⟨w.heap.size, 0, none⟩))) (w.alloc (.mapIter none 0 #[] 0)) := by
          simp [execOp, Instr.range, run_underlying hu, hv]
        refine ⟨_, _, _, hrun, RRes.obj _ (hk (by simp)) hf ?_ ?_⟩
        · simp [Rep, Env.new]
        · simp only [ObjRep]
          exact ⟨by simp [Env.new], by simp, by simp only [Env.new, if_true]; exact push_get w _⟩
      · rename_i b hx
        rw [hx] at hv; simp only [Rep] at hv
        split at hr <;> try (cases hr; done)
        rename_i es clock ho
        simp at hr
        obtain ⟨rfl, rfl⟩ := hr
        obtain ⟨hb, hv⟩ := hv
        have hor := hob b _ hb ho
        simp only [ObjRep] at hor
        obtain ⟨hl, ms, hh, hm⟩ := hor
        have hrun : (execOp ρ ⟨dst, .range t a, ty, pos, after, guard⟩).run P w = .ok (.value (.pointer (some ⟨w.heap.size, 0, none⟩))) (w.alloc (.mapIter (some (E.blk b)) clock #[] clock)) := by
          simp [execOp, Instr.range, run_underlying hu, hv, MapKept.run_getObj_map hh]
        refine ⟨_, _, _, hrun, RRes.obj _ (hk (by simp)) hf ?_ ?_⟩
        · simp [Rep, Env.new]
        · simp only [ObjRep]
          have hne : b ≠ ob.length := by rintro rfl; exact hk (by simp) hb
          refine ⟨by simp [Env.new], fun j hj => by simp at hj; subst hj; exact .inl hb, ?_⟩
          have := push_get w (.mapIter (some (E.blk b)) clock #[] clock)
          simp only [Env.new, if_true, Option.map_some, if_neg hne]
          exact this
    case lookup t a i ck =>
      split at hc
      · rename_i k e X I hu hX hI
        split at hc <;> simp at hc
        rename_i kd z hkd hz
        subst hc
        have hv := H a X hX
        have hi := H i I hI
        obtain ⟨d, hd, hdk⟩ := keyB_some hkd
        obtain ⟨zv, hzr, hzrep⟩ := zeroV_run hz w E
        simp only [VO.evR] at hr
        split at hr <;> try (cases hr; done)
        rename_i hkey
        obtain ⟨hik, _⟩ := isKey_rep hdk hi hkey
        have hck : ∀ q, (Instr.checkKey q 10000 k (ρ i)).run P w = .ok () w := fun q => run_checkKey hd hik q 9999
        split at hr <;> try (cases hr; done)
        · rename_i hx
          rw [hx] at hv; simp only [Rep] at hv
          simp at hr
          obtain ⟨rfl, rfl⟩ := hr
          have hf0 : (Instr.findKey k (ρ i) []).run P w = .ok none w := run_findKey hd rfl
          cases ck with
          | true =>
            refine ⟨.tuple #[zv, .bool false], w, E, ?_, RRes.old (RExt.refl w E) ⟨[zv, .bool false], rfl, _, _, rfl, hzrep, _, _, rfl, rfl, rfl⟩ hf⟩
            simp [execOp, Instr.lookup, run_underlying hu, hv, hck, hf0, hzr]
          | false =>
            refine ⟨zv, w, E, ?_, RRes.old (RExt.refl w E) hzrep hf⟩
            simp [execOp, Instr.lookup, run_underlying hu, hv, hck, hf0, hzr]
        · rename_i b hx
          rw [hx] at hv; simp only [Rep] at hv
          obtain ⟨hb, hv⟩ := hv
          split at hr <;> try (cases hr; done)
          rename_i es clock ho
          have hor := hob b _ hb ho
          simp only [ObjRep] at hor
          obtain ⟨hl, ms, hh, hm⟩ := hor
          split at hr <;> try (cases hr; done)
          · rename_i v hfd
            simp at hr
            obtain ⟨rfl, rfl⟩ := hr
            obtain ⟨j, m, g1, g2, g3, g4, _⟩ := find_some hdk hi 0 hm hfd
            have hfk := run_findKey (w := w) hd g1
            cases ck with
            | true =>
              refine ⟨.tuple #[m.val, .bool true], w, E, ?_, RRes.old (RExt.refl w E) ⟨[m.val, .bool true], rfl, _, _, rfl, rep_up g4, _, _, rfl, rfl, rfl⟩ hf⟩
              simp [execOp, Instr.lookup, run_underlying hu, hv, MapKept.run_getObj_map hh, hck, hfk, hzr]
            | false =>
              refine ⟨m.val, w, E, ?_, RRes.old (RExt.refl w E) (rep_up g4) hf⟩
              simp [execOp, Instr.lookup, run_underlying hu, hv, MapKept.run_getObj_map hh, hck, hfk, hzr]
          · rename_i hfd
            simp at hr
            obtain ⟨rfl, rfl⟩ := hr
            have hfk := run_findKey (w := w) hd (find_none hdk hi 0 hm hfd)
            cases ck with
            | true =>
              refine ⟨.tuple #[zv, .bool false], w, E, ?_, RRes.old (RExt.refl w E) ⟨[zv, .bool false], rfl, _, _, rfl, hzrep, _, _, rfl, rfl, rfl⟩ hf⟩
              simp [execOp, Instr.lookup, run_underlying hu, hv, MapKept.run_getObj_map hh, hck, hfk, hzr]
            | false =>
              refine ⟨zv, w, E, ?_, RRes.old (RExt.refl w E) hzrep hf⟩
              simp [execOp, Instr.lookup, run_underlying hu, hv, MapKept.run_getObj_map hh, hck, hfk, hzr]
      · cases hc
    case store t a b => split at hc <;> simp at hc; subst hc; simp [VO.isR] at hR
    case call c =>
      obtain ⟨callee, args, argTypes⟩ := c
      simp only at hc
      split at hc
      · obtain ⟨z, hz, rfl⟩ := opt_bind hc; simp [VO.isR] at hR
      · split at hc <;> simp at hc <;> subst hc <;> simp [VO.isR] at hR
      · simp at hc; subst hc; simp [VO.isR] at hR
      · simp at hc; subst hc; simp [VO.isR] at hR
      · split at hc
        · obtain ⟨kd, _, rfl⟩ := opt_bind hc; simp [VO.isR] at hR
        · cases hc
      · split at hc
        · split at hc
          · split at hc <;> simp at hc
            subst hc; simp [VO.isR] at hR
          · cases hc
        · cases hc
      · split at hc
        · split at hc
          · split at hc <;> simp at hc
            obtain ⟨_, rfl⟩ := hc
            simp [VO.isR] at hR
          · split at hc
            · split at hc <;> simp at hc
              obtain ⟨_, rfl⟩ := hc
              simp [VO.isR] at hR
            · cases hc
          · cases hc
        · cases hc
      · cases hc
    case alloc e =>
      obtain ⟨z, hz, rfl⟩ := opt_bind hc
      simp only [VO.evR, Option.some.injEq, Prod.mk.injEq] at hr
      obtain ⟨rfl, rfl⟩ := hr
      obtain ⟨i, zv, hi, hzv, rfl⟩ := zeroB_some hz
      refine ⟨_, _, _, ?_, RRes.box e (hk (by simp)) hf (c := zv.cells.toList) (repL_const w E _)⟩
      simp [execOp, Instr.alloc, zeroValue, typeInfo, hi, hzv, newVar, newRow]
    case box e a =>
      obtain ⟨X, hX, rfl⟩ := opt_bind hc
      have hrun : (execOp ρ ⟨dst, .box e a, ty, pos, after, guard⟩).run P w = .ok (.value (.pointer (some ⟨w.heap.size, 0, none⟩))) (w.alloc (.cells (ρ a).cells e)) := by
        simp [execOp, Instr.box, newVar, newRow]
      cases ow with
      | true =>
        simp only [if_true, VO.evR] at hr
        split at hr <;> try (cases hr; done)
        rename_i hok
        obtain ⟨hok, hfree⟩ := hok
        simp only [Option.some.injEq, Prod.mk.injEq] at hr
        obtain ⟨rfl, rfl⟩ := hr
        have hv := cells_rep (H a X hX) (by intro e; rw [e] at hok; simp [V.ok] at hok)
        refine ⟨_, _, _, hrun, RRes.old (RExt.push w E _) ?_ (fun b hb => hf b (by simp at hb; omega))⟩
        simp only [Rep]
        refine ⟨_, _, (ρ a).cells.toList, rfl, hf _ (Nat.le_refl _), by simp, ?_, RepL.ext (RExt.push w E _).ext.pure _ _ (repL_pure hfree hv)⟩
        intro j v hj
        simp only [World.cell?, push_get, Nat.zero_add]
        simpa using hj
      | false =>
        simp only [Bool.false_eq_true, if_false, VO.evR] at hr
        split at hr <;> try (cases hr; done)
        rename_i hok
        simp only [Option.some.injEq, Prod.mk.injEq] at hr
        obtain ⟨rfl, rfl⟩ := hr
        have hv := cells_rep (H a X hX) (by intro e; rw [e] at hok; simp [V.ok] at hok)
        exact ⟨_, _, _, hrun, RRes.box e (hk (by simp)) hf (c := (ρ a).cells.toList) hv⟩
    case load t a =>
      split at hc <;> simp at hc
      rename_i X s h1 h2
      subst hc
      simp only [VO.evR] at hr
      obtain ⟨v, hv, he⟩ := opt_bind hr
      simp only [Prod.mk.injEq] at he
      obtain ⟨rfl, rfl⟩ := he
      obtain ⟨cs, hcs, hl⟩ := Option.bind_eq_some_iff.1 hv
      obtain ⟨b, off, vs, q1, q2, q3⟩ := loadFrom_rep hob (H a X h1) hcs
      obtain ⟨u, g1, g2⟩ := loadVar_run (P := P) (w := w) h2 q2 q3 hl
      have hrun : (execOp ρ ⟨dst, .load t a, ty, pos, after, guard⟩).run P w = .ok (.value u) w := by
        simp [execOp, Instr.loadAt, q1, Instr.sureAddr, g1]
      exact ⟨u, w, E, hrun, RRes.old (RExt.refl w E) g2 hf⟩
    case buildSlice t len parts =>
      split at hc
      · rename_i e s b z he
        split at hc
        · rename_i hcond
          obtain ⟨ps, hps, rfl⟩ := opt_bind hc
          obtain ⟨hu, hs, _, hz⟩ := elemB_some he
          obtain ⟨i, zv, hi, hzv, hzz⟩ := zeroB_some hz
          simp only [VO.evR] at hr
          obtain ⟨rows, hrows, hr⟩ := Option.bind_eq_some_iff.1 hr
          split at hr <;> try (cases hr; done)
          rename_i hfree
          have hzl : zv.cells.size = s := by rw [← hcond.2.1, hzz]; simp
          have hz2 : RepL w E z zv.cells.toList := by rw [hzz]; exact repL_const w E _
          have hinit := zeros_flat hz2 len (by rw [hcond.2.1]; exact hcond.2.2)
          rw [hcond.2.1] at hinit
          obtain ⟨d, g1, g2, g3⟩ := fillRows_rep H parts.toList ps _ _ rows hps hinit hrows
          have hlen : rows.length = len := by rw [g3]; simp
          have hrun : (execOp ρ ⟨dst, .buildSlice t len parts, ty, pos, after, guard⟩).run P w = .ok (.value (.slice (some ⟨w.heap.size, 0, none⟩) len len)) (w.alloc (.cells d e)) := by
            refine exec_value2 rfl ?_
            have hparts : (parts.map fun (i, x) => (i, ρ x)).toList = parts.toList.map fun p => (p.1, ρ p.2) := by simp
            have h0 : ¬ (2 ^ 24 < len * s) := by have := hcond.1; omega
            have hrun0 : (Instr.buildSlice t len (parts.map fun (i, x) => (i, ρ x))).run P w = .ok (.slice (some ⟨w.heap.size, 0, none⟩) len len) (w.alloc (.cells d e)) := by
              by_cases hz0 : len * s = 0
              · have hl0 : len = 0 := by
                  rcases Nat.mul_eq_zero.1 hz0 with h | h
                  · exact h
                  · omega
                subst hl0
                simp only [Nat.zero_mul] at g1
                have : Instr.fill (fun i => some (i * s, s)) #[] (parts.toList.map fun p => (p.1, ρ p.2)) = some d := by
                  rw [← g1]; congr 1; apply Array.ext'; simp
                rw [← hparts] at this
                have h2 : ∀ f : Nat → Value, (Array.range (0 * s)).map f = #[] := fun f => by simp
                simp only [Instr.buildSlice, Sem.run_bind, run_underlying hu, Result.andThen_ok, run_sizeOf hs, if_neg h0, Sem.run_pure, if_pos hz0, h2, this, newRow, run_newObj]
                rfl
              · have h1 : Instr.fill (fun i => some (i * s, s)) ((Array.range (len * s)).map fun i => zv.cells[i % zv.cells.size]!) (parts.map fun (i, x) => (i, ρ x)).toList = some d := by rw [hparts]; exact g1
                simp only [Instr.buildSlice, Sem.run_bind, run_underlying hu, Result.andThen_ok, run_sizeOf hs, if_neg h0, Sem.run_pure, if_neg hz0, zeroValue, typeInfo, run_program, hi, hzv, h1, newRow, run_newObj]
                rfl
            exact hrun0
          have hpure := repFlat_pure hfree g2
          split at hr <;> simp only [Option.some.injEq, Prod.mk.injEq] at hr <;> obtain ⟨rfl, rfl⟩ := hr
          · have := RRes.arr (P := P) (E := E) (w := w) (ob := ob) (e := e) (hk (by simp)) hf hpure (flat_one hfree g2) (by rw [hlen]; have := hcond; simp only [maxLen]; have h4 : len ≤ len * s := Nat.le_mul_of_pos_right _ hcond.2.2; omega)
            rw [hlen] at this
            exact ⟨_, _, _, hrun, this⟩
          · have := RRes.sl (P := P) (E := E) (w := w) (ob := ob) (cap := len) (c := d) e (0, 0) hf hpure (flat_one hfree g2) (by omega) (fun j v hj => by simpa using hj)
            rw [hlen] at this
            exact ⟨_, _, _, hrun, this⟩
        · cases hc
      · cases hc
    case makeSlice t l c =>
      split at hc
      · rename_i e s b z L C he hL hC
        split at hc <;> simp only [reduceCtorEq, Option.some.injEq] at hc
        rename_i hcond
        subst hc
        obtain ⟨hu, hs, ⟨i', hi', hb', hsz'⟩, hz⟩ := elemB_some he
        obtain ⟨i, zv, hi, hzv, hzz⟩ := zeroB_some hz
        rw [hi] at hi'
        simp only [Option.some.injEq] at hi'
        subst hi'
        have hl := H l L hL
        have hcc := H c C hC
        simp only [VO.evR] at hr
        split at hr <;> try (cases hr; done)
        rename_i kl n kc m hn hm
        rw [hn] at hl; rw [hm] at hcc; simp only [Rep] at hl hcc
        split at hr <;> try (cases hr; done)
        rename_i hbnd
        simp only [Option.some.injEq, Prod.mk.injEq] at hr
        obtain ⟨rfl, rfl⟩ := hr
        obtain ⟨b1, b2, b3, b4, b5⟩ := hbnd
        have hzl : zv.cells.size = s := by rw [← hcond.1, hzz]; simp
        have hz2 : RepL w E z zv.cells.toList := by rw [hzz]; exact repL_const w E _
        have hinit := zeros_flat hz2 n.toNat (by rw [hcond.1]; exact hcond.2)
        rw [hcond.1] at hinit
        have hfree : (List.replicate n.toNat z).all (fun r => r.all idFree) = true := by
          simp only [List.all_eq_true]
          intro r hr
          rw [List.mem_replicate] at hr
          rw [hr.2]
          simpa [List.all_eq_true] using b5
        have hpure : RepFlat w E.pure s (List.replicate n.toNat z) (madeCells zv.cells (n.toNat * s)).toList := repFlat_pure hfree hinit
        have hrun : (execOp ρ ⟨dst, .makeSlice t l c, ty, pos, after, guard⟩).run P w = .ok (.value (.slice (some ⟨w.heap.size, 0, none⟩) n.toNat n.toNat)) (w.alloc (.cells (madeCells zv.cells (n.toNat * s)) e)) := by
          have hx : execOp ρ ⟨dst, .makeSlice t l c, ty, pos, after, guard⟩ = (do pure (Next.value (← Instr.makeSlice t (ρ l) (ρ c))) : Sem Next) := rfl
          refine exec_value2 hx ?_
          rw [hl, hcc, ← b2]
          have := run_make (P := P) w t e i zv hu hi hzv kl kc n n b1 (Int.le_refl _) (by rw [hb']; exact b4) (by omega)
          rw [hsz'] at this
          exact this
        have := RRes.arr (P := P) (E := E) (w := w) (ob := ob) (e := e) (hk (by simp)) hf hpure (flat_one hfree hinit) (by simp only [maxLen, List.length_replicate]; omega)
        simp only [List.length_replicate] at this
        exact ⟨_, _, _, hrun, this⟩
      · cases hc
    case convert sT d a =>
      split at hc
      · rename_i X hX
        have hv := H a X hX
        unfold copConv at hc
        split at hc
        · simp at hc; subst hc; simp [VO.isR] at hR
        · simp at hc; subst hc; simp [VO.isR] at hR
        · rename_i e hs hd
          split at hc <;> try (cases hc; done)
          rename_i he
          simp only [Option.some.injEq] at hc; subst hc
          simp only [VO.evR] at hr
          have hgo : ∀ (s : ByteArray) , (convert sT d (ρ a)).run P w = .ok (.string s) w → (execOp ρ ⟨dst, .convert sT d a, ty, pos, after, guard⟩).run P w = .ok (.value (.string s)) w := fun s h => by simp [execOp, h]
          split at hr
          · rename_i rows hx
            rw [hx] at hv; simp only [Rep] at hv
            obtain ⟨l, hl, he2⟩ := opt_bind hr
            simp only [Prod.mk.injEq] at he2
            obtain ⟨rfl, rfl⟩ := he2
            obtain ⟨ad, cap, vs, q1, q2, q3, _, q4⟩ := hv
            obtain ⟨ns, rfl, rfl⟩ := bytes_back q3 hl
            have hlen : rows.length = ns.length := by have := q3.length; simpa using this.symm
            rcases q4 with q4 | ⟨b, off, rfl, q5, q6, q7⟩
            · subst q4
              have hns : ns = [] := List.eq_nil_of_length_eq_zero (by simpa using hlen.symm)
              subst hns
              cases ad with
              | none =>
                refine ⟨_, w, E, hgo _ ?_, RRes.old (RExt.refl w E) (by simp only [Rep]; rfl) hf⟩
                rw [q1]; exact run_convert_bytes_nil w sT e hs he _ _ d hd
              | some ad =>
                refine ⟨_, w, E, hgo ⟨⟨[]⟩⟩ ?_, RRes.old (RExt.refl w E) (by simp [Rep]) hf⟩
                rw [q1]
                have := run_convert_bytes_back (P := P) w sT d e ad cap [] hs he hd (fun j hj => absurd hj (by simp))
                simpa using this
            · refine ⟨_, w, E, hgo _ ?_, RRes.old (RExt.refl w E) (by simp only [Rep]; rfl) hf⟩
              rw [q1, hlen]; exact b2s_run hs hd he q7
          · rename_i hx
            rw [hx] at hv; simp only [Rep] at hv
            simp only [Option.some.injEq, Prod.mk.injEq] at hr
            obtain ⟨rfl, rfl⟩ := hr
            refine ⟨_, w, E, hgo _ ?_, RRes.old (RExt.refl w E) (by simp only [Rep]; rfl) hf⟩
            rw [hv]; exact run_convert_bytes_nil w sT e hs he _ _ d hd
          · rename_i k n hx
            rw [hx] at hv; simp only [Rep, aval] at hv
            obtain ⟨hd1, hn1, hnil, hval⟩ := hv
            split at hr <;> try (cases hr; done)
            rename_i rows ho
            split at hr <;> try (cases hr; done)
            rename_i hnr
            obtain ⟨l, hl, he2⟩ := opt_bind hr
            simp only [Prod.mk.injEq] at he2
            obtain ⟨rfl, rfl⟩ := he2
            obtain ⟨vs, h5, h6, _⟩ := objRows_rep hob hd1 ho
            have h5' := h5.take n
            obtain ⟨ns, hns, rfl⟩ := bytes_back h5' hl
            have hlen : n = ns.length := by
              have := h5'.length
              rw [hns] at this
              simp at this
              omega
            rcases h6 with h6 | ⟨h6, h7⟩
            · subst h6
              simp at hnr
              subst hnr
              have hns0 : ns = [] := List.eq_nil_of_length_eq_zero hlen.symm
              subst hns0
              cases hnl : E.nil k with
              | true =>
                refine ⟨_, w, E, hgo _ ?_, RRes.old (RExt.refl w E) (by simp only [Rep]; rfl) hf⟩
                rw [hval, hnl]; exact run_convert_bytes_nil w sT e hs he _ _ d hd
              | false =>
                refine ⟨_, w, E, hgo ⟨⟨[]⟩⟩ ?_, RRes.old (RExt.refl w E) (by simp [Rep]) hf⟩
                rw [hval, hnl]
                have := run_convert_bytes_back (P := P) w sT d e ⟨E.blk k, 0, none⟩ (E.cap k) [] hs he hd (fun j hj => absurd hj (by simp))
                simpa using this
            · refine ⟨_, w, E, hgo _ ?_, RRes.old (RExt.refl w E) (by simp only [Rep]; rfl) hf⟩
              rw [hval, h6, hlen]
              have h7' := h7.take (n * 1)
              rw [hns] at h7'
              simp only [Bool.false_eq_true, if_false]
              exact b2s_run hs hd he h7'
          · cases hr
        · rename_i e hs hd
          split at hc <;> try (cases hc; done)
          rename_i he
          split at hc <;> try (cases hc; done)
          rename_i he0
          simp only [Option.some.injEq] at hc; subst hc
          simp only [VO.evR] at hr
          split at hr <;> try (cases hr; done)
          rename_i l hx
          rw [hx] at hv; simp only [Rep] at hv
          have hrun := run_bytes_of_string (P := P) w sT d e ⟨⟨l⟩⟩ hs hd he
          have hsz : (⟨⟨l⟩⟩ : ByteArray).size = l.length := rfl
          rw [hsz] at hrun
          have hx : (execOp ρ ⟨dst, .convert sT d a, ty, pos, after, guard⟩).run P w = .ok (.value (.slice (some ⟨w.heap.size, 0, none⟩) l.length (grownCap w l.length 0 e)))
              (w.drew.alloc (.cells (bytesRow ⟨⟨l⟩⟩ (grownCap w l.length 0 e)) e ((bytesRow ⟨⟨l⟩⟩ (grownCap w l.length 0 e)).size, (bytesRow ⟨⟨l⟩⟩ (grownCap w l.length 0 e)).size + 1))) := by
            simp [execOp, hv, hrun]
          have hrl : (bRows l).length = l.length := by simp [bRows]
          have hflat := bRows_flat w.drew E.pure l
          have hone : Ones (l.map fun c => Value.int .u8 c.toNat) := by intro u hu; obtain ⟨c, _, rfl⟩ := List.mem_map.1 hu; rfl
          cases ow with
          | true =>
            simp only [if_true] at hr
            split at hr <;> try (cases hr; done)
            rename_i hlm
            simp only [Option.some.injEq, Prod.mk.injEq] at hr
            obtain ⟨rfl, rfl⟩ := hr
            have hgc := grownCap_ge w l.length 0 e
            have hgm : grownCap w l.length 0 e ≤ maxLen := by
              exact grownCap_le_maxLen w l.length 0 e (by simp only [maxLen]; omega)
            have hbs : (bytesRow ⟨⟨l⟩⟩ (grownCap w l.length 0 e)).size = grownCap w l.length 0 e := by
              simp [bytesRow]; omega
            have := RRes.arrF (P := P) (E := E) (w := w.drew) (ob := ob) (rows := bRows l) (sz := 1) (te := e) (cap := grownCap w l.length 0 e) (fz := ((bytesRow ⟨⟨l⟩⟩ (grownCap w l.length 0 e)).size, (bytesRow ⟨⟨l⟩⟩ (grownCap w l.length 0 e)).size + 1)) (c := bytesRow ⟨⟨l⟩⟩ (grownCap w l.length 0 e)) (hk (by simp)) hf hflat hone (by rw [hrl]; exact hgc) hgm (by rw [hbs, Nat.mul_one]) (by
              rw [hrl, Nat.mul_one]
              unfold bytesRow
              rw [Array.toList_append, List.take_append_of_le_length (by simp)]
              simp only [Array.toList_map]
              exact List.take_of_length_le (by simp)) (Nat.le_refl _)
            rw [hrl] at this
            exact ⟨_, _, _, hx, ⟨(RExt.drew w E).trans this.ext, this.dom, this.rep, this.objs, this.fresh⟩⟩
          | false =>
          simp only [Bool.false_eq_true, if_false, if_neg he0, Option.some.injEq, Prod.mk.injEq] at hr
          obtain ⟨rfl, rfl⟩ := hr
          have := RRes.sl (P := P) (E := E) (w := w.drew) (ob := ob) (cap := grownCap w l.length 0 e) (c := bytesRow ⟨⟨l⟩⟩ (grownCap w l.length 0 e)) e ((bytesRow ⟨⟨l⟩⟩ (grownCap w l.length 0 e)).size, (bytesRow ⟨⟨l⟩⟩ (grownCap w l.length 0 e)).size + 1) hf hflat (by intro u hu; obtain ⟨c, _, rfl⟩ := List.mem_map.1 hu; rfl)
            (by rw [hrl]; exact grownCap_ge w l.length 0 e) (by
              intro j v hj
              have hlt : j < l.length := by
                rcases Nat.lt_or_ge j l.length with h' | h'
                · exact h'
                · rw [List.getElem?_eq_none (by simpa using h')] at hj; cases hj
              unfold bytesRow
              rw [Array.getElem?_append_left (by simpa using hlt)]
              simpa using hj)
          rw [hrl] at this
          exact ⟨_, _, _, hx, ⟨(RExt.drew w E).trans this.ext, this.dom, this.rep, this.objs, this.fresh⟩⟩
        · cases hc
      · cases hc
end Go.Proofs.VL

namespace Go.Proofs.VL
open Go Go.RowKit
set_option linter.unusedSimpArgs false
set_option linter.unusedVariables false

/-- What an append comes to: in place, in new memory, or nothing. -/
inductive Appended (w : World) (e sz : Nat) (z : Value) (v : Value) (n m : Nat) (olds news : List Value) : Value → World → Prop
  | nothing : v = .slice none 0 0 → m = 0 → Appended w e sz z v n m olds news (.slice none 0 0) w
  | room (g cap : Nat) (cur : Array Value) : v = .slice (some ⟨g, 0, none⟩) n cap → w.heap[g]? = some (.cells cur e (0, 0)) → n + m ≤ cap → cur.size = cap * sz →
      Appended w e sz z v n m olds news (.slice (some ⟨g, 0, none⟩) (n + m) cap) (w.setRow g (cur.toList.take (n * sz) ++ news ++ cur.toList.drop (n * sz + news.length)).toArray)
  | grow (C : Nat) : n + m ≤ C → C ≤ maxLen →
      Appended w e sz z v n m olds news (.slice (some ⟨w.heap.size, 0, none⟩) (n + m) C) (w.drew.alloc (.cells (olds.toArray ++ news.toArray ++ Builtin.zeroCells z.cells (C - (n + m))) e))

theorem append_gen {P : Program} (w : World) {t u ty e : TypeId} {i : TypeInfo} {z : Value} {d : TypeDesc} (ht : P.underlying t = some (.slice e)) (hu : P.underlying u = some d) (hd : ∀ k, d ≠ .int k) (hi : P.info? e = some i) (hz : i.zero = some z)
    {v : Value} {n : Nat} {olds : List Value} (hown : w.ownsRow 0 e i.size v n olds) {x : Value} {m : Nat} {news : List Value} (hlx : ∀ w : World, (Builtin.lenOf x).run P w = .ok m w)
    (hf : (Builtin.firstCells i.size m x).run P w = .ok news.toArray w) (hf' : (Builtin.firstCells i.size m x).run P w.drew = .ok news.toArray w.drew) (hnl : news.length = m * i.size) (h1 : ∀ u ∈ news, u.oneCell' = true)
    (h63 : n + m ≤ maxLen) (hbytes : (n + m) * i.bytes ≤ 140737488355328) :
    ∃ v' w', (Builtin.append_ #[t, u] ty #[v, x]).run P w = .ok v' w' ∧ Appended w e i.size z v n m olds news v' w' := by
  have hdint : (match d with | .int _ => true | _ => false) = false := by cases d <;> first | rfl | exact absurd rfl (hd _)
  have hsmall : n + m ≤ 9223372036854775807 := by simp only [maxLen] at h63; omega
  have h63' : ¬ (9223372036854775807 < ((n : Int) + (m : Int))) := by omega
  have hdi : (d matches .int _) = false := by cases d <;> first | rfl | exact absurd rfl (hd _)
  rcases hown.2 with ⟨rfl, rfl⟩ | ⟨g, cap, cur, rfl, hbg, hg, hnc, hcm, hcs, htake⟩
  · have hx0 : olds = [] := List.eq_nil_of_length_eq_zero (by simpa using hown.1)
    subst hx0
    by_cases hm : m = 0
    · subst hm
      refine ⟨.slice none 0 0, w, ?_, .nothing rfl rfl⟩
      simp [Builtin.append_, run_underlying ht, run_underlying hu, sizeOf, typeInfo, hi, hlx, hdi, hf]
    · have h48' : ¬ (281474976710656 < Builtin.nextslicecap m 0 * i.bytes) := by
        have := growslice_fits (need := m) (old := 0) (bytes := i.bytes) (by omega) (by simpa using hbytes); omega
      have h63'' : ¬ (9223372036854775807 < (m : Int)) := by omega
      refine ⟨_, _, ?_, .grow (grownCap w (0 + m) 0 e) (grownCap_ge _ _ _ _) (grownCap_le_maxLen _ _ _ _ h63)⟩
      simp [Builtin.append_, run_underlying ht, run_underlying hu, sizeOf, typeInfo, zeroValue, hi, hz, hlx, hm, h63'', h48', Question.forced, run_firstCells_none, hf', hdi, newRow, grownCap]
  · by_cases hroom : n + m ≤ cap
    · refine ⟨_, _, ?_, .room g cap cur rfl hg hroom hcs⟩
      have hfit : n * i.size + news.length ≤ cur.size := by rw [hnl, hcs, ← Nat.add_mul]; exact Nat.mul_le_mul_right _ hroom
      have hst := run_storeCells_at P g (n * i.size) e news 0 cur w hg (by simpa using hfit) h1
      simp only [Nat.add_zero] at hst
      simp [Builtin.append_, run_underlying ht, run_underlying hu, sizeOf, typeInfo, hi, hlx, hroom, hf, hdi, Addr.add_lit, hst]
    · have holds : ∀ j u, olds[j]? = some u → w.cell? ((⟨g, 0, none⟩ : Addr).add j) = some u := hown.cells (g := g) rfl
      have hfo := run_firstCells_some (P := P) w.drew i.size n ⟨g, 0, none⟩ n cap olds hown.1 (by simpa using holds)
      have h48' : ¬ (281474976710656 < Builtin.nextslicecap (n + m) cap * i.bytes) := by
        have := growslice_fits (need := n + m) (old := cap) (bytes := i.bytes) (by omega) hbytes; omega
      refine ⟨_, _, ?_, .grow (grownCap w (n + m) cap e) (grownCap_ge _ _ _ _) (grownCap_le_maxLen _ _ _ _ h63)⟩
      simp [Builtin.append_, run_underlying ht, run_underlying hu, sizeOf, typeInfo, zeroValue, hi, hz, hlx, hroom, h63', h48', Question.forced, hf', hfo, hdi, newRow, grownCap]
      congr 2
      apply Array.ext'
      simp [List.append_assoc]
end Go.Proofs.VL

namespace Go.Proofs.VL
open Go Go.RowKit
set_option linter.unusedSimpArgs false
set_option linter.unusedVariables false

/-- What an operation that writes must come to. -/
structure WRes (E : Env) (w : World) (v : V) (ob' : List (Option VObj)) (val : Value) (w' : World) (E' : Env) : Prop where
  ext : Ext w E w' E'
  dom : ∀ k, E'.dom k ↔ k < ob'.length
  rep : Rep w' E' v val
  objs : ∀ k o, ob'[k]? = some (some o) → ObjRep w' E' k o
  fresh : ∀ b, w'.heap.size ≤ b → E'.lab b = .imm

/-- The same of an operation, whatever other names there are. -/
structure WResG (E : Env) (w : World) (ob : List (Option VObj)) (v : V) (ob' : List (Option VObj)) (val : Value) (w' : World) (E' : Env) : Prop where
  ext : Ext w E w' E'
  dom : ∀ k, E'.dom k ↔ E.dom k ∨ (ob.length ≤ k ∧ k < ob'.length)
  rep : Rep w' E' v val
  objs : ∀ k o, E'.dom k → ob'[k]? = some (some o) → ObjRep w' E' k o
  fresh : ∀ b, w'.heap.size ≤ b → E'.lab b = .imm

theorem WResG.exact {E : Env} {w : World} {ob : List (Option VObj)} {v : V} {ob' : List (Option VObj)} {val : Value} {w' : World} {E' : Env} (h : WResG E w ob v ob' val w' E') (hd : ∀ k, E.dom k ↔ k < ob.length) (hl : ob.length ≤ ob'.length) : WRes E w v ob' val w' E' where
  ext := h.ext
  dom := fun k => by rw [h.dom, hd]; omega
  rep := h.rep
  objs := fun k o hk => h.objs k o ((h.dom k).2 (by
    rw [hd]
    have : k < ob'.length := by
      rcases Nat.lt_or_ge k ob'.length with h' | h'
      · exact h'
      · rw [List.getElem?_eq_none h'] at hk; cases hk
    omega)) hk
  fresh := h.fresh

def appRows (ob : List (Option VObj)) (e sz : Nat) : V → Option (Option Nat × List (List V))
  | .nils => some (none, [])
  | .ref k n => match ob[k]? with
    | some (some (.arr e' sz' rows)) => if e' = e ∧ sz' = sz ∧ n ≤ rows.length then some (some k, rows.take n) else none
    | _ => none
  | _ => none

def srcRows (ob : List (Option VObj)) (sz : Nat) : V → Option (List (List V))
  | .sl s rows => if s = sz then some rows else none
  | .ref k n => match objRows ob k with | some (s, rows) => if s = sz ∧ n ≤ rows.length then some (rows.take n) else none | none => none
  | .nils => some []
  | .refs k s off n => match objRows ob k with | some (s', rows) => if s = sz ∧ s' = sz ∧ off + n ≤ rows.length then some ((rows.drop off).take n) else none | none => none
  | _ => none

def dropOb (ob : List (Option VObj)) : Option Nat → List (Option VObj)
  | some k => ob.set k none
  | none => ob

theorem dropOb_length (ob : List (Option VObj)) (k : Option Nat) : (dropOb ob k).length = ob.length := by cases k <;> simp [dropOb]

theorem ownsRow_take {w : World} {e sz n m : Nat} {a : Option Addr} {cap : Nat} {vs : List Value} (h : w.ownsRow 0 e sz (.slice a n cap) n vs) (hm : m ≤ n) : w.ownsRow 0 e sz (.slice a m cap) m (vs.take (m * sz)) := by
  obtain ⟨h1, h2⟩ := h
  have hle : m * sz ≤ n * sz := Nat.mul_le_mul_right _ hm
  refine ⟨by rw [List.length_take]; omega, ?_⟩
  rcases h2 with ⟨h2, h3⟩ | ⟨g, c, cur, h2, h3, h4, h5, h6, h7, h8⟩
  · injection h2 with q1 q2 q3
    subst q1; subst q3
    have : m = 0 := by omega
    subst this
    exact .inl ⟨rfl, rfl⟩
  · injection h2 with q1 q2 q3
    subst q1; subst q3
    refine .inr ⟨g, cap, cur, rfl, h3, h4, by omega, h6, h7, ?_⟩
    rw [← h8, List.take_take, Nat.min_eq_left hle]

def OldOk (E : Env) (ob : List (Option VObj)) (v : Value) (n : Nat) : Option Nat → Prop
  | none => v = .slice none 0 0
  | some k => k < ob.length ∧ v = aval E k n ∧ (E.nil k = false → E.lab (E.blk k) = .obj k) ∧ (E.nil k = true → E.cap k = 0)

theorem appended_sound {w w' : World} {E : Env} {ob : List (Option VObj)} {e sz : Nat} {z v v' : Value} {old : Option Nat} {rows rows2 : List (List V)} {olds news : List Value} (hsz : 0 < sz) (hzs : z.cells.size = sz)
    (hk0 : ¬ E.dom ob.length) (hob : ∀ k o, E.dom k → ob[k]? = some (some o) → ObjRep w E k o) (hf : ∀ b, w.heap.size ≤ b → E.lab b = .imm)
    (hold : OldOk E ob v rows.length old)
    (hown : w.ownsRow 0 e sz v rows.length olds) (ho : RepFlat w E.pure sz rows olds) (hn : RepFlat w E.pure sz rows2 news) (ho1 : Ones olds) (hn1 : Ones news) (hm : rows.length + rows2.length ≤ maxLen)
    (h : Appended w e sz z v rows.length rows2.length olds news v' w') :
    ∃ E', WResG E w ob (.ref ob.length (rows ++ rows2).length) (dropOb ob old ++ [some (.arr e sz (rows ++ rows2))]) v' w' E' := by
  have hflat := ho.append hn
  have hnl := hn.length
  have hol := ho.length
  have hlen : (rows ++ rows2).length = rows.length + rows2.length := List.length_append
  -- the old objects, in any later state that has kept their blocks
  have keep : ∀ (E' : Env), Ext w E w' E' → (∀ b, b < w.heap.size → (∀ k, old = some k → E.nil k = false → b ≠ E.blk k) → w'.heap[b]? = w.heap[b]? ∧ E'.lab b = E.lab b) →
      (∀ j o, E.dom j → (dropOb ob old)[j]? = some (some o) → ObjRep w' E' j o) := by
    intro E' hx hb j o hjd hj
    have hj' : ob[j]? = some (some o) ∧ old ≠ some j := by
      cases old with
      | none => exact ⟨hj, by simp⟩
      | some k =>
        simp only [dropOb] at hj
        rw [List.getElem?_set] at hj
        split at hj
        · split at hj <;> simp at hj
        · rename_i hne; exact ⟨hj, by simpa using hne⟩
    refine (hob j o hjd hj'.1).move hx hjd ?_
    intro hl hlt
    refine hb _ hlt ?_
    rintro k rfl hnk he
    have hlk := hold.2.2.1 hnk
    rw [← he] at hlk
    rcases hl with hl | hl
    · rw [hl] at hlk; injection hlk with hlk; exact hj'.2 (by rw [hlk])
    · rw [hl] at hlk; cases hlk
  -- the whole list of objects
  have all : ∀ (E' : Env), (∀ j o, E.dom j → (dropOb ob old)[j]? = some (some o) → ObjRep w' E' j o) → ObjRep w' E' ob.length (.arr e sz (rows ++ rows2)) → ∀ k o, (E.dom k ∨ k = ob.length) → (dropOb ob old ++ [some (.arr e sz (rows ++ rows2))])[k]? = some (some o) → ObjRep w' E' k o := by
    intro E' h1 h2 k o hkd hk
    rcases Nat.lt_or_ge k ob.length with h' | h'
    · rw [List.getElem?_append_left (by rw [dropOb_length]; exact h')] at hk
      exact h1 k o (hkd.resolve_right (by omega)) hk
    · rw [List.getElem?_append_right (by rw [dropOb_length]; exact h'), dropOb_length] at hk
      cases hkk : k - ob.length with
      | zero =>
        rw [hkk] at hk
        simp at hk
        have : k = ob.length := by omega
        subst this; rw [← hk]; exact h2
      | succ q => rw [hkk] at hk; simp at hk
  have hdom' : ∀ k, (E.dom k ∨ k = ob.length) ↔ E.dom k ∨ (ob.length ≤ k ∧ k < (dropOb ob old ++ [some (VObj.arr e sz (rows ++ rows2))]).length) := by
    intro k; simp [dropOb_length]; constructor
    · rintro (h | h)
      · exact .inl h
      · exact .inr (by omega)
    · rintro (h | h)
      · exact .inl h
      · exact .inr (by omega)
  cases h with
  | nothing hv hm0 =>
    have hr2 : rows2 = [] := List.eq_nil_of_length_eq_zero hm0
    subst hr2
    have hr1 : rows = [] := by
      rcases hown.2 with ⟨_, h⟩ | ⟨g, cap, cur, h, _⟩
      · exact List.eq_nil_of_length_eq_zero h
      · rw [hv] at h; cases h
    subst hr1
    have hx : Ext w E w (E.new ob.length w.heap.size .imm 0 true) := by
      refine ⟨rfl, rfl, rfl, Nat.le_refl _, fun b hb hl => ⟨by simp [Env.new, Nat.ne_of_lt hb, hl], rfl⟩, fun b hb hl => ⟨by simp [Env.new, Nat.ne_of_lt hb, hl], rfl⟩, fun _ h => .inl h, ?_, ?_, ?_⟩ <;>
        (intro j hj; simp only [Env.new]; rw [if_neg]; rintro rfl; exact hk0 hj)
    refine ⟨_, hx, hdom', by simp [Rep, Env.new, aval], all _ (keep _ hx (fun b hb _ => ⟨rfl, by simp [Env.new, Nat.ne_of_lt hb]⟩)) ?_, ?_⟩
    · simp only [ObjRep]
      refine ⟨by simp [Env.new], by simp [Env.new], by simp [Env.new], [], ?_, by simp [RepFlat], Ones.nil⟩
      simpa [aval, Env.new] using ownsV_nil w e sz
    · intro b hb
      simp only [Env.new]
      split
      · rfl
      · exact hf b hb
  | room g cap cur hv hg hroom hcs =>
    obtain ⟨k, rfl⟩ : ∃ k, old = some k := by
      cases old with
      | none => simp only [OldOk] at hold; rw [hold] at hv; cases hv
      | some k => exact ⟨k, rfl⟩
    simp only [OldOk] at hold
    obtain ⟨hkl, hva, hlab, hnil⟩ := hold
    rw [hva] at hv
    have hnk : E.nil k = false := by
      cases hnk : E.nil k with
      | false => rfl
      | true => simp [aval, hnk] at hv
    simp [aval, hnk] at hv
    obtain ⟨rfl, rfl⟩ := hv
    have hgl : E.blk k < w.heap.size := block_lt hg
    have hlk := hlab hnk
    have hx : Ext w E (w.setRow (E.blk k) (cur.toList.take (rows.length * sz) ++ news ++ cur.toList.drop (rows.length * sz + news.length)).toArray) (E.new ob.length (E.blk k) (.obj ob.length) (E.cap k) false) := by
      refine ⟨rfl, rfl, rfl, by simp [World.setRow], ?_, ?_, fun _ h => .inl h, ?_, ?_, ?_⟩
      · intro b hb hl
        have hne : b ≠ E.blk k := by rintro rfl; rw [hl] at hlk; cases hlk
        exact ⟨by simp [Env.new, hne, hl], setRow_other w _ b _ hne⟩
      · intro b hb hl
        have hne : b ≠ E.blk k := by rintro rfl; rw [hl] at hlk; cases hlk
        exact ⟨by simp [Env.new, hne, hl], setRow_other w _ b _ hne⟩
      all_goals (intro j hj; simp only [Env.new]; rw [if_neg]; rintro rfl; exact hk0 hj)
    refine ⟨_, hx, hdom', ?_, all _ (keep _ hx ?_) ?_, ?_⟩
    · simp only [Rep, Env.new, aval, if_true, or_true, hlen, true_and, Bool.false_eq_true, if_false, and_true]
      exact ⟨hroom, by simp⟩
    · intro b hb hne
      have := hne k rfl hnk
      exact ⟨setRow_other w _ b _ this, by simp [Env.new, this]⟩
    · simp only [ObjRep]
      refine ⟨by simp [Env.new], by simp only [Env.new, if_true, hlen]; exact hroom, by simp [Env.new], olds ++ news, ?_, RepFlat.ext hx.pure _ _ _ hflat, ho1.append hn1⟩
      refine ownsV_of ⟨by rw [hlen, List.length_append, hol, hnl, Nat.add_mul], .inr ⟨E.blk k, E.cap k, _, by simp [aval, Env.new], Nat.zero_le _, setRow_heap w _ cur _ e _ hg, by rw [hlen]; exact hroom, ?_, ?_, ?_⟩⟩
      · rcases hown.2 with ⟨h, _⟩ | ⟨g2, cap2, cur2, h, _, hg2, _, hcm, _, _⟩
        · rw [hva] at h; simp [aval, hnk] at h
        · rw [hva] at h; simp [aval, hnk] at h; rw [h.2]; exact hcm
      · have : rows.length * sz + news.length ≤ cur.size := by rw [hnl, hcs, ← Nat.add_mul]; exact Nat.mul_le_mul_right _ hroom
        simp only [List.size_toArray, List.length_append, List.length_take, List.length_drop, Array.length_toList]
        omega
      · have htake : cur.toList.take (rows.length * sz) = olds := by
          rcases hown.2 with ⟨h, _⟩ | ⟨g2, cap2, cur2, h, _, hg2, _, hcm, _, ht⟩
          · rw [hva] at h; simp [aval, hnk] at h
          · rw [hva] at h; simp [aval, hnk] at h
            rw [← h.1, hg] at hg2
            simp at hg2
            rw [hg2]; exact ht
        rw [htake]
        have : (rows ++ rows2).length * sz = (olds ++ news).length := by rw [hlen, List.length_append, hol, hnl, Nat.add_mul]
        rw [this]
        exact List.take_left
    · intro b hb
      have hbs : w.heap.size ≤ b := by simpa [World.setRow] using hb
      simp only [Env.new]
      rw [if_neg (by omega)]; exact hf b hbs
  | grow C hC hCm =>
    -- the old block is nobody's any more
    have hdec : ∀ b, Decidable (∃ k, old = some k ∧ E.nil k = false ∧ b = E.blk k) := fun b => Classical.propDecidable _
    let E1 : Env := { E with lab := fun b => if (∃ k, old = some k ∧ E.nil k = false ∧ b = E.blk k) then .ext else E.lab b }
    have hE1 : ∀ b, (∀ k, old = some k → E.nil k = false → b ≠ E.blk k) → E1.lab b = E.lab b := by
      intro b hb
      show (if _ then _ else _) = _
      rw [if_neg]
      rintro ⟨k, h1, h2, h3⟩
      exact hb k h1 h2 h3
    have hne : ∀ b, (E.lab b = .imm ∨ E.lab b = .ext) → ∀ k, old = some k → E.nil k = false → b ≠ E.blk k := by
      rintro b hl k rfl hnk rfl
      simp only [OldOk] at hold
      have := hold.2.2.1 hnk
      rw [this] at hl
      rcases hl with hl | hl <;> cases hl
    have hx : Ext w E (w.drew.alloc (.cells (olds.toArray ++ news.toArray ++ Builtin.zeroCells z.cells (C - (rows.length + rows2.length))) e)) (E1.new ob.length w.heap.size (.obj ob.length) C false) := by
      refine ⟨rfl, rfl, rfl, by simp, ?_, ?_, fun _ h => .inl h, ?_, ?_, ?_⟩
      · intro b hb hl
        refine ⟨?_, Below.heap_alloc w.drew _ b hb⟩
        simp only [Env.new]
        rw [if_neg (Nat.ne_of_lt hb), hE1 b (hne b (.inl hl))]; exact hl
      · intro b hb hl
        refine ⟨?_, Below.heap_alloc w.drew _ b hb⟩
        simp only [Env.new]
        rw [if_neg (Nat.ne_of_lt hb), hE1 b (hne b (.inr hl))]; exact hl
      all_goals (intro j hj; simp only [Env.new]; rw [if_neg]; rintro rfl; exact hk0 hj)
    refine ⟨_, hx, hdom', ?_, all _ (keep _ hx ?_) ?_, ?_⟩
    · simp only [Rep, Env.new, aval, if_true, or_true, hlen, true_and, Bool.false_eq_true, if_false, and_true]
      exact ⟨hC, by simp⟩
    · intro b hb hn2
      refine ⟨Below.heap_alloc w.drew _ b hb, ?_⟩
      simp only [Env.new]
      rw [if_neg (Nat.ne_of_lt hb)]; exact hE1 b hn2
    · simp only [ObjRep]
      refine ⟨by simp [Env.new], by simp only [Env.new, if_true, hlen]; exact hC, by simp [Env.new], olds ++ news, ?_, RepFlat.ext hx.pure _ _ _ hflat, ho1.append hn1⟩
      have hpn := push_get w.drew (.cells (olds.toArray ++ news.toArray ++ Builtin.zeroCells z.cells (C - (rows.length + rows2.length))) e)
      refine ownsV_of ⟨by rw [hlen, List.length_append, hol, hnl, Nat.add_mul], .inr ⟨w.heap.size, C, _, by simp [aval, Env.new], Nat.zero_le _, hpn, by rw [hlen]; exact hC, hCm, ?_, ?_⟩⟩
      · simp only [Array.size_append, List.size_toArray, size_zeroCells, hzs, hol, hnl, ← Nat.add_mul]
        congr 1
        omega
      · simp only [Array.toList_append, List.append_assoc]
        have : (rows ++ rows2).length * sz = (olds ++ news).length := by rw [hlen, List.length_append, hol, hnl, Nat.add_mul]
        rw [this, ← List.append_assoc]
        exact List.take_left
    · intro b hb
      have hbs : w.heap.size < b := by simp at hb; omega
      simp only [Env.new]
      rw [if_neg (by omega), hE1 b (hne b (.inl (hf b (by omega))))]; exact hf b (by omega)
end Go.Proofs.VL

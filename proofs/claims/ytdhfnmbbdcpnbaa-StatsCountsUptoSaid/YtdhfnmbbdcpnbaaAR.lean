/- Contracts of functions of the program, for what calls them, and the law that its name tells. -/
import Derived.Test.YtdhfnmbbdcpnbaaPA
namespace Go.Proofs.VL
open Go Go.RowKit
set_option linter.unusedSimpArgs false
set_option linter.unusedVariables false

/-! ### nodes, by number -/
/-- What stands at an id. -/
structure Nd where
  id : Int
  owner : Int
  parent : Int
  kind : Int
  tag : List UInt8 × Runs
  key : List UInt8
  slot : Int
  attrs : List ((List UInt8 × Runs) × (List UInt8 × Runs))
  hooks : List (Int × Bool × Int)
  kids : List Int
  text : List UInt8 × Runs
def aRows (l : List ((List UInt8 × Runs) × (List UInt8 × Runs))) : List (List V) := l.map fun a => [.str a.1.1, .sl 2 (rws a.1.2), .str a.2.1, .sl 2 (rws a.2.2)]
def iRows (l : List Int) : List (List V) := l.map fun n => [.int .i64 n]
def nCells (n : Nd) : List V := [.int .i64 n.id, .int .i64 n.owner, .int .i64 n.parent, .int .i64 n.kind, .str n.tag.1, .sl 2 (rws n.tag.2), .str n.key, .int .i64 n.slot, .sl 4 (aRows n.attrs), .sl 3 (hRows n.hooks), .sl 1 (iRows n.kids), .str n.text.1, .sl 2 (rws n.text.2)]
theorem nCells_free (n : Nd) : (nCells n).all idFree = true := rfl

/-- Entries as they stand in memory: stamp, key, node. -/
abbrev Ents := List (Nat × Nd)
def mV (es : Ents) : List (Nat × V × V) := es.map fun e => (e.1, .int .i64 e.2.id, .agg (nCells e.2))
def getN : Ents → Int → Option Nd
  | [], _ => none
  | e :: es, i => if i = e.2.id then some e.2 else getN es i
def setN (n : Nd) : Ents → Ents
  | [] => []
  | e :: es => if n.id = e.2.id then (e.1, n) :: es else e :: setN n es
def delN (i : Int) : Ents → Ents
  | [] => []
  | e :: es => if i = e.2.id then es else e :: delN i es

theorem mfind_mV (i : Int) : ∀ es : Ents, mfind (.i .i64) (.int .i64 i) (mV es) = some ((getN es i).map fun n => .agg (nCells n))
  | [] => rfl
  | e :: es => by
    have ih := mfind_mV i es
    unfold mV at ih ⊢
    simp only [List.map_cons, mfind, eqKey, and_self, if_true, getN]
    by_cases h : i = e.2.id
    · simp [h]
    · have : (i == e.2.id) = false := by simpa using h
      rw [this, if_neg h]; exact ih
theorem mset_mV (n : Nd) : ∀ es : Ents, mset (.i .i64) (.int .i64 n.id) (.agg (nCells n)) (mV es) = mV (setN n es)
  | [] => rfl
  | e :: es => by
    have ih := mset_mV n es
    unfold mV at ih ⊢
    simp only [List.map_cons, mset, eqKey, and_self, if_true, setN]
    by_cases h : n.id = e.2.id
    · simp [h]
    · have : (n.id == e.2.id) = false := by simpa using h
      rw [this, if_neg h]; simp only [List.map_cons]; rw [← ih]
theorem mdel_mV (i : Int) : ∀ es : Ents, mdel (.i .i64) (.int .i64 i) (mV es) = mV (delN i es)
  | [] => rfl
  | e :: es => by
    have ih := mdel_mV i es
    unfold mV at ih ⊢
    simp only [List.map_cons, mdel, eqKey, and_self, if_true, delN]
    by_cases h : i = e.2.id
    · simp [h]
    · have : (i == e.2.id) = false := by simpa using h
      rw [this, if_neg h]; simp only [List.map_cons]; rw [← ih]
theorem mV_snoc (es : Ents) (c : Nat) (n : Nd) : mV es ++ [(c, .int .i64 n.id, .agg (nCells n))] = mV (es ++ [(c, n)]) := by simp [mV]

/-! ### the arena -/
structure Q4r where
  a : Int
  b : Int
  c : Int
  d : Int
def Q4r.get (q : Q4r) : Nat → Int
  | 0 => q.a
  | 1 => q.b
  | 2 => q.c
  | _ => q.d
def Q4r.set (q : Q4r) (o : Nat) (v : Int) : Q4r :=
  match o with
  | 0 => { q with a := v }
  | 1 => { q with b := v }
  | 2 => { q with c := v }
  | _ => { q with d := v }
/-- An arena: entries, how many ids of an owner came, how many nodes it has. -/
structure Ar where
  es : Ents
  clock : Nat
  u : Q4r
  l : Q4r
def q4Cells (q : Q4r) : List V := [.int .i64 q.a, .int .i64 q.b, .int .i64 q.c, .int .i64 q.d]
def aCells (k : Nat) (A : Ar) : List V := [.mapr k, .int .i64 A.u.a, .int .i64 A.u.b, .int .i64 A.u.c, .int .i64 A.u.d, .int .i64 A.l.a, .int .i64 A.l.b, .int .i64 A.l.c, .int .i64 A.l.d]
/-- The arena's objects: itself, and its map. -/
def aOb (A : Ar) : List (Option VObj) := [some (.box (aCells 1 A)), some (.map (mV A.es) A.clock)]
def mostI (o : Nat) : Int := if o = 0 then 128 else 32
def fullB (A : Ar) (o : Nat) : Bool := decide (mostI o ≤ A.l.get o) || decide (1048575 ≤ A.u.get o)
def nextI (A : Ar) (o : Nat) : Int := o * 1048576 + A.u.get o + 1
/-- A new node. -/
def newN (id : Int) (o : Nat) (kind : Int) (tag : List UInt8 × Runs) (key : List UInt8) (slot : Int) : Nd := { id := id, owner := o, parent := -1, kind := kind, tag := tag, key := key, slot := slot, attrs := [], hooks := [], kids := [], text := ([], []) }
def addA (A : Ar) (o : Nat) (n : Nd) : Ar := { es := A.es ++ [(A.clock, n)], clock := A.clock + 1, u := A.u.set o (A.u.get o + 1), l := A.l.set o (A.l.get o + 1) }
def rootN : Nd := { id := 0, owner := 0, parent := -1, kind := 1, tag := ([100, 105, 118], [(3, 0)]), key := [], slot := 0, attrs := [], hooks := [], kids := [], text := ([], []) }
def newA : Ar := { es := [(0, rootN)], clock := 1, u := ⟨0, 0, 0, 0⟩, l := ⟨1, 0, 0, 0⟩ }
/-- Numbers that may be. -/
def Q4r.ok (q : Q4r) : Prop := (-1000000000 ≤ q.a ∧ q.a ≤ 1000000000) ∧ (-1000000000 ≤ q.b ∧ q.b ≤ 1000000000) ∧ (-1000000000 ≤ q.c ∧ q.c ≤ 1000000000) ∧ -1000000000 ≤ q.d ∧ q.d ≤ 1000000000
structure Ar.ok (A : Ar) : Prop where
  u : A.u.ok
  l : A.l.ok
end Go.Proofs.VL

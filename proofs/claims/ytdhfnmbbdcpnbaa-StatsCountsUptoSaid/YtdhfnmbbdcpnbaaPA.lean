/- Contracts of functions of the program, for what calls them, and the law that its name tells. -/
import Derived.Test.YtdhfnmbbdcpnbaaV3
set_option maxRecDepth 10000
namespace Go.Proofs.VL
open Go Go.RowKit

/-- The first place of a row that a test takes; -1: none. -/
def idxP {α : Type} (p : α → Bool) : List α → Int
  | [] => -1
  | x :: r => if p x then 0 else (if idxP p r < 0 then -1 else idxP p r + 1)
def shiftI (i : Nat) (x : Int) : Int := if x < 0 then -1 else x + i
theorem idxP_ge {α : Type} (p : α → Bool) : ∀ l : List α, -1 ≤ idxP p l
  | [] => by simp [idxP]
  | x :: r => by
    have := idxP_ge p r
    unfold idxP; split
    · omega
    · split <;> omega
theorem shiftI_zero {α : Type} {p : α → Bool} (l : List α) : shiftI 0 (idxP p l) = idxP p l := by
  have := idxP_ge p l
  unfold shiftI; split <;> omega
theorem idxP_hit {α : Type} {p : α → Bool} {x : α} {r : List α} (h : p x = true) : idxP p (x :: r) = 0 := by simp [idxP, h]
theorem idxP_miss {α : Type} {p : α → Bool} {x : α} {r : List α} (h : p x = false) : idxP p (x :: r) = if idxP p r < 0 then -1 else idxP p r + 1 := by simp [idxP, h]
theorem shiftI_nat (i : Nat) : shiftI i 0 = i := by simp [shiftI]
theorem shiftI_succ (i : Nat) (x : Int) : shiftI i (if x < 0 then -1 else x + 1) = shiftI (i + 1) x := by
  unfold shiftI; split <;> (split <;> omega)
theorem drop_at' {α : Type} {l : List α} {i : Nat} {x : α} (h : l[i]? = some x) : l.drop i = x :: l.drop (i + 1) := by
  have hlt := (List.getElem?_eq_some_iff.1 h).1
  rw [List.drop_eq_getElem_cons hlt]
  rw [List.getElem?_eq_getElem hlt] at h
  simp only [Option.some.injEq] at h
  rw [h]
theorem idxP_any {α : Type} (p : α → Bool) : ∀ l : List α, decide (idxP p l ≥ 0) = l.any p
  | [] => rfl
  | x :: r => by
    have ih := idxP_any p r
    have := idxP_ge p r
    simp only [List.any_cons]
    cases h : p x with
    | true => rw [idxP_hit h]; rfl
    | false =>
      rw [idxP_miss h, Bool.false_or, ← ih]
      split <;> simp <;> omega

theorem lend_app1 {r caps : List V} (h : lendL [] r = some r) (hc : lendL [] caps = some caps) : lendL [] ([.agg r] ++ caps) = some ([.agg r] ++ caps) := by
  simp only [List.cons_append, List.nil_append, lendL, lendV, h, hc]
theorem lend_slfn {sz : Nat} {rows : List (List V)} {f : FuncId} {caps : List V} (hc : lendL [] caps = some caps) : lendL [] [.sl sz rows, .fn f [] caps] = some [.sl sz rows, .fn f [] caps] := by
  simp only [lendL, lendV, hc]

def rws (l : Runs) : List (List V) := l.map fun r => [.int .i64 r.1, .int .i64 r.2]
def hRows (l : List (Int × Bool × Int)) : List (List V) := l.map fun h => [.int .i64 h.1, .bool h.2.1, .int .i64 h.2.2]
/-- A patch. -/
structure Pat where
  op : Int
  node : Int
  parent : Int
  at_ : Int
  kind : Int
  tag : List UInt8 × Runs
  key : List UInt8
  slot : Int
  name : List UInt8 × Runs
  value : List UInt8 × Runs
  hooks : List (Int × Bool × Int)
  text : List UInt8 × Runs
def pCells (p : Pat) : List V := [.int .i64 p.op, .int .i64 p.node, .int .i64 p.parent, .int .i64 p.at_, .int .i64 p.kind, .str p.tag.1, .sl 2 (rws p.tag.2), .str p.key, .int .i64 p.slot, .str p.name.1, .sl 2 (rws p.name.2), .str p.value.1, .sl 2 (rws p.value.2), .sl 3 (hRows p.hooks), .str p.text.1, .sl 2 (rws p.text.2)]
theorem PCp : (((((∀ p : Pat, (pCells p).length = 16)) ∧ (((∀ p : Pat, (pCells p)[0]? = some (.int .i64 p.op))) ∧ ((∀ p : Pat, (pCells p)[1]? = some (.int .i64 p.node))))) ∧ (((∀ p : Pat, (pCells p)[2]? = some (.int .i64 p.parent))) ∧ (((∀ p : Pat, (pCells p)[3]? = some (.int .i64 p.at_))) ∧ ((∀ p : Pat, (pCells p)[4]? = some (.int .i64 p.kind)))))) ∧ ((((∀ p : Pat, (pCells p)[5]? = some (.str p.tag.1))) ∧ (((∀ p : Pat, (pCells p)[6]? = some (.sl 2 (rws p.tag.2)))) ∧ ((∀ p : Pat, (pCells p)[7]? = some (.str p.key))))) ∧ (((∀ p : Pat, (pCells p)[8]? = some (.int .i64 p.slot))) ∧ (((∀ p : Pat, (pCells p)[9]? = some (.str p.name.1))) ∧ ((∀ p : Pat, (pCells p)[10]? = some (.sl 2 (rws p.name.2)))))))) ∧ (((((∀ p : Pat, (pCells p)[11]? = some (.str p.value.1))) ∧ (((∀ p : Pat, (pCells p)[12]? = some (.sl 2 (rws p.value.2)))) ∧ ((∀ p : Pat, (pCells p)[13]? = some (.sl 3 (hRows p.hooks)))))) ∧ (((∀ p : Pat, (pCells p)[14]? = some (.str p.text.1))) ∧ (((∀ p : Pat, (pCells p)[15]? = some (.sl 2 (rws p.text.2)))) ∧ ((∀ p : Pat, List.take 2 (List.drop 5 (pCells p)) = [.str p.tag.1, .sl 2 (rws p.tag.2)]))))) ∧ ((((∀ p : Pat, List.take 2 (List.drop 9 (pCells p)) = [.str p.name.1, .sl 2 (rws p.name.2)])) ∧ (((∀ p : Pat, List.take 2 (List.drop 11 (pCells p)) = [.str p.value.1, .sl 2 (rws p.value.2)])) ∧ ((∀ p : Pat, List.take 2 (List.drop 14 (pCells p)) = [.str p.text.1, .sl 2 (rws p.text.2)])))) ∧ ((((∀ p : Pat, List.take 16 (pCells p) = pCells p)) ∧ ((∀ p : Pat, (pCells p).all idFree = true))) ∧ (((∀ p : Pat, (pCells p).all VO.evW.isCell = true)) ∧ ((∀ p : Pat, putCells [.int .i64 0, .int .i64 0, .int .i64 0, .int .i64 0, .int .i64 0, .str [], .nils, .str [], .int .i64 0, .str [], .nils, .str [], .nils, .nils, .str [], .nils] 0 (pCells p) = pCells p)))))) := ⟨⟨⟨⟨fun _ => rfl, ⟨fun _ => rfl, fun _ => rfl⟩⟩, ⟨fun _ => rfl, ⟨fun _ => rfl, fun _ => rfl⟩⟩⟩, ⟨⟨fun _ => rfl, ⟨fun _ => rfl, fun _ => rfl⟩⟩, ⟨fun _ => rfl, ⟨fun _ => rfl, fun _ => rfl⟩⟩⟩⟩, ⟨⟨⟨fun _ => rfl, ⟨fun _ => rfl, fun _ => rfl⟩⟩, ⟨fun _ => rfl, ⟨fun _ => rfl, fun _ => rfl⟩⟩⟩, ⟨⟨fun _ => rfl, ⟨fun _ => rfl, fun _ => rfl⟩⟩, ⟨⟨fun _ => rfl, fun _ => rfl⟩, ⟨fun _ => rfl, fun _ => rfl⟩⟩⟩⟩⟩
def pRows (ps : List Pat) : List (List V) := ps.map pCells
theorem pRows_length (ps : List Pat) : (pRows ps).length = ps.length := by simp [pRows]
theorem pRows_get (ps : List Pat) (i : Nat) : (pRows ps)[i]? = (ps[i]?).map pCells := by simp [pRows]
theorem pRows_sz (ps : List Pat) : ∀ r ∈ pRows ps, r.length = 16 := by
  intro r hr
  obtain ⟨p, _, rfl⟩ := List.mem_map.1 hr
  rfl

def isAttrB (p : Pat) : Bool := decide (p.op = 4 ∨ p.op = 5)
/-- Does a later one make one idle? -/
def overB (p later : Pat) : Bool :=
  if later.node ≠ p.node ∨ p.op < 4 ∨ 7 < p.op then false
  else if later.op = 2 then true
  else if isAttrB p = true then isAttrB later && decide (later.name.1 = p.name.1)
  else decide (later.op = p.op)
def againB (p : Pat) : List Pat → Bool
  | [] => false
  | x :: r => if x.op ≤ 3 then decide (x.op = 3 ∧ x.node = p.node) else againB p r
def idleB (ps : List Pat) (i : Nat) : Bool := match ps[i]? with
  | some p => if p.op = 3 then againB p (ps.drop (i + 1)) else (ps.drop (i + 1)).any (overB p)
  | none => false
def idleI (ps : List Pat) (i : Int) : Bool := if 0 ≤ i then idleB ps i.toNat else false
def fewerB (ps : List Pat) : List Pat := ((List.range ps.length).filter fun i => !idleB ps i).filterMap fun i => ps[i]?
end Go.Proofs.VL

/- Contracts of functions of the program, for what calls them, and the law that its name tells. -/
import Derived.Test.YtdiddnapamjojaaSA8
import Derived.Test.YtdiddnapamjojaaPA
import Derived.Test.YtdiddnapamjojaaV3
import Derived.Test.YtdiddnapamjojaaSH
namespace Go.Proofs.VL
open Go Go.RowKit
set_option maxRecDepth 100000
set_option maxHeartbeats 2000000
set_option linter.unusedSimpArgs false
set_option linter.unusedVariables false
attribute [local irreducible] vwp vk

/-- A call of a hook. -/
structure Cal where
  owner : Int
  name : Int
  node : Int
  phase : Int
def kaCells (c : Cal) : List V := [.int .i64 c.owner, .int .i64 c.name, .int .i64 c.node, .int .i64 c.phase]
def kaRows (l : List Cal) : List (List V) := l.map kaCells
/-- An outcome. -/
structure Oc where
  code : Int
  n : Int
  ans : Runs
  calls : List Cal
def oCells (o : Oc) : List V := [.int .i64 o.code, .int .i64 o.n, .sl 2 (rws o.ans), .sl 4 (kaRows o.calls)]
def oRows (l : List Oc) : List (List V) := l.map oCells
/-- A script's step. -/
structure Stp where
  kind : Int
  a : Int
  b : Int
  v0 : V
  v1 : V
  v2 : V
  v3 : V
  v4 : V
  v5 : V
  v6 : V
  v7 : V
  v8 : V
  v9 : V
  cmds : List (List V)
def sCells (s : Stp) : List V := [.int .i64 s.kind, .int .i64 s.a, .int .i64 s.b, s.v0, s.v1, s.v2, s.v3, s.v4, s.v5, s.v6, s.v7, s.v8, s.v9, .sl 5 s.cmds]
def sRows (l : List Stp) : List (List V) := l.map sCells
theorem kaRows_length (l : List Cal) : (kaRows l).length = l.length := by simp [kaRows]
theorem oRows_length (l : List Oc) : (oRows l).length = l.length := by simp [oRows]
theorem sRows_length (l : List Stp) : (sRows l).length = l.length := by simp [sRows]
theorem kaRows_get (l : List Cal) (i : Nat) : (kaRows l)[i]? = (l[i]?).map kaCells := by simp [kaRows]
theorem oRows_get (l : List Oc) (i : Nat) : (oRows l)[i]? = (l[i]?).map oCells := by simp [oRows]
theorem sRows_get (l : List Stp) (i : Nat) : (sRows l)[i]? = (l[i]?).map sCells := by simp [sRows]

def itsB (l : List Stp) (i : Nat) (owner : Int) : Bool := match l[i]? with | some s => decide (s.kind = 2) && decide (s.a = owner) | none => false
theorem er_its (l : List Stp) (i : Nat) (owner : Int) (hl : l.length ≤ 1000000000000) (hi : i ≤ 1000000000000) : VFn Try.prog 84 [.sl 14 (sRows l), .int .i64 i, .int .i64 owner] (.bool (itsB l i owner)) := by
  refine VFn.intro ok84 (Nat.le_of_ble_eq_true rfl) (vk_start ?_)
  have hsl := sRows_length l
  unfold itsB
  rcases Nat.lt_or_ge i l.length with hlt | hge
  · obtain ⟨s, hs⟩ : ∃ s, l[i]? = some s := ⟨_, List.getElem?_eq_getElem hlt⟩
    have hr : (sRows l)[i]? = some (sCells s) := by rw [sRows_get, hs]; rfl
    rw [hs]
    simp only
    by_cases h : s.kind = 2
    · by_cases h2 : s.a = owner
      · simp (maxSteps := 4000000) (disch := omega) only [EW, Nat.reduceBEq, reduceIte, Nat.reduceAdd, Nat.reduceLeDiff, Nat.reduceLT, Nat.reduceSub, Nat.reduceMul, reduceCtorEq, Int.reduceNeg, Int.reduceSub, Int.reduceAdd, Int.reduceLE, Int.reduceLT, Int.reduceMul, Int.reduceToNat, Int.reduceEq, Int.reduceBEq, Int.reduceBNe, Nat.reduceEqDiff, vc84, rs84, hsl, hr, sCells]
        exact fin (by simp [h, h2, lendV])
      · simp (maxSteps := 4000000) (disch := omega) only [EW, Nat.reduceBEq, reduceIte, Nat.reduceAdd, Nat.reduceLeDiff, Nat.reduceLT, Nat.reduceSub, Nat.reduceMul, reduceCtorEq, Int.reduceNeg, Int.reduceSub, Int.reduceAdd, Int.reduceLE, Int.reduceLT, Int.reduceMul, Int.reduceToNat, Int.reduceEq, Int.reduceBEq, Int.reduceBNe, Nat.reduceEqDiff, vc84, rs84, hsl, hr, sCells]
        exact fin (by simp [h, h2, lendV])
    · simp (maxSteps := 4000000) (disch := omega) only [EW, Nat.reduceBEq, reduceIte, Nat.reduceAdd, Nat.reduceLeDiff, Nat.reduceLT, Nat.reduceSub, Nat.reduceMul, reduceCtorEq, Int.reduceNeg, Int.reduceSub, Int.reduceAdd, Int.reduceLE, Int.reduceLT, Int.reduceMul, Int.reduceToNat, Int.reduceEq, Int.reduceBEq, Int.reduceBNe, Nat.reduceEqDiff, vc84, rs84, hsl, hr, sCells]
      exact fin (by simp [h, lendV])
  · rw [List.getElem?_eq_none (by omega)]
    simp (maxSteps := 4000000) (disch := omega) only [EW, Nat.reduceBEq, reduceIte, Nat.reduceAdd, Nat.reduceLeDiff, Nat.reduceLT, Nat.reduceSub, Nat.reduceMul, reduceCtorEq, Int.reduceNeg, Int.reduceSub, Int.reduceAdd, Int.reduceLE, Int.reduceLT, Int.reduceMul, Int.reduceToNat, Int.reduceEq, Int.reduceBEq, Int.reduceBNe, Nat.reduceEqDiff, vc84, rs84, hsl]
    exact fin rfl

theorem ans_clone (rows : List (List V)) (hl : rows.length ≤ 10000000000) : VFn Try.prog 85 [.sl 2 rows] (.sl 2 rows) := by
  refine VFn.intro ok85 (Nat.le_of_ble_eq_true rfl) (vk_start ?_)
  cases rows with
  | nil =>
    simp (maxSteps := 4000000) (disch := omega) only [EW, Nat.reduceBEq, reduceIte, Nat.reduceAdd, Nat.reduceLeDiff, Nat.reduceLT, Nat.reduceSub, Nat.reduceMul, reduceCtorEq, Int.reduceNeg, Int.reduceSub, Int.reduceAdd, Int.reduceLE, Int.reduceLT, Int.reduceMul, Int.reduceToNat, Int.reduceEq, Int.reduceBEq, Int.reduceBNe, Nat.reduceEqDiff, vc85, rs85]
    exact ⟨⟨_, _, rfl, rfl, .nil _⟩, fin (lend_rows rfl rfl)⟩
  | cons r rows =>
    have hl2 : (r :: rows).length = rows.length + 1 := rfl
    simp (maxSteps := 4000000) (disch := omega) only [EW, Nat.reduceBEq, reduceIte, Nat.reduceAdd, Nat.reduceLeDiff, Nat.reduceLT, Nat.reduceSub, Nat.reduceMul, reduceCtorEq, Int.reduceNeg, Int.reduceSub, Int.reduceAdd, Int.reduceLE, Int.reduceLT, Int.reduceMul, Int.reduceToNat, Int.reduceEq, Int.reduceBEq, Int.reduceBNe, Nat.reduceEqDiff, vc85, rs85, List.take_length]
    exact fin (lend_rows rfl rfl)
theorem cmd_clone (rows : List (List V)) (hl : rows.length ≤ 10000000000) : VFn Try.prog 94 [.sl 5 rows] (.sl 5 rows) := by
  refine VFn.intro ok94 (Nat.le_of_ble_eq_true rfl) (vk_start ?_)
  cases rows with
  | nil =>
    simp (maxSteps := 4000000) (disch := omega) only [EW, Nat.reduceBEq, reduceIte, Nat.reduceAdd, Nat.reduceLeDiff, Nat.reduceLT, Nat.reduceSub, Nat.reduceMul, reduceCtorEq, Int.reduceNeg, Int.reduceSub, Int.reduceAdd, Int.reduceLE, Int.reduceLT, Int.reduceMul, Int.reduceToNat, Int.reduceEq, Int.reduceBEq, Int.reduceBNe, Nat.reduceEqDiff, vc94, rs94]
    exact ⟨⟨_, _, rfl, rfl, .nil _⟩, fin (lend_rows rfl rfl)⟩
  | cons r rows =>
    have hl2 : (r :: rows).length = rows.length + 1 := rfl
    simp (maxSteps := 4000000) (disch := omega) only [EW, Nat.reduceBEq, reduceIte, Nat.reduceAdd, Nat.reduceLeDiff, Nat.reduceLT, Nat.reduceSub, Nat.reduceMul, reduceCtorEq, Int.reduceNeg, Int.reduceSub, Int.reduceAdd, Int.reduceLE, Int.reduceLT, Int.reduceMul, Int.reduceToNat, Int.reduceEq, Int.reduceBEq, Int.reduceBNe, Nat.reduceEqDiff, vc94, rs94, List.take_length]
    exact fin (lend_rows rfl rfl)
theorem call_clone (rows : List (List V)) (hl : rows.length ≤ 10000000000) : VCall Try.prog 87 [.sl 4 rows] [] (.ref 0 rows.length) [some (.arr 123 4 rows)] := by
  refine VCall.intro ok87 (Nat.le_of_ble_eq_true rfl) (vk_start ?_)
  cases rows with
  | nil =>
    simp (maxSteps := 4000000) (disch := omega) only [EW, Nat.reduceBEq, reduceIte, Nat.reduceAdd, Nat.reduceLeDiff, Nat.reduceLT, Nat.reduceSub, Nat.reduceMul, reduceCtorEq, Int.reduceNeg, Int.reduceSub, Int.reduceAdd, Int.reduceLE, Int.reduceLT, Int.reduceMul, Int.reduceToNat, Int.reduceEq, Int.reduceBEq, Int.reduceBNe, Nat.reduceEqDiff, vc87, rs87]
    exact ⟨⟨_, rfl, ⟨[none], rfl, rfl, rfl, rfl, ⟨.nref rfl, trivial⟩, ⟨⟨_, _, rfl⟩, trivial⟩⟩⟩, ⟨_, rfl, ⟨[some 1], rfl, rfl, rfl, rfl, ⟨.ref rfl, trivial⟩, ⟨⟨_, rfl, .arr (.refl _)⟩, trivial⟩⟩⟩⟩
  | cons r rows =>
    have hl2 : (r :: rows).length = rows.length + 1 := rfl
    simp (maxSteps := 4000000) (disch := omega) only [EW, Nat.reduceBEq, reduceIte, Nat.reduceAdd, Nat.reduceLeDiff, Nat.reduceLT, Nat.reduceSub, Nat.reduceMul, reduceCtorEq, Int.reduceNeg, Int.reduceSub, Int.reduceAdd, Int.reduceLE, Int.reduceLT, Int.reduceMul, Int.reduceToNat, Int.reduceEq, Int.reduceBEq, Int.reduceBNe, Nat.reduceEqDiff, vc87, rs87, List.take_length]
    exact ⟨_, rfl, ⟨[some 1], rfl, rfl, rfl, rfl, ⟨.ref rfl, trivial⟩, ⟨⟨_, rfl, .arr (.refl _)⟩, trivial⟩⟩⟩
theorem step_clone (rows : List (List V)) (hl : rows.length ≤ 10000000000) : VCall Try.prog 93 [.sl 14 rows] [] (.ref 0 rows.length) [some (.arr 68 14 rows)] := by
  refine VCall.intro ok93 (Nat.le_of_ble_eq_true rfl) (vk_start ?_)
  cases rows with
  | nil =>
    simp (maxSteps := 4000000) (disch := omega) only [EW, Nat.reduceBEq, reduceIte, Nat.reduceAdd, Nat.reduceLeDiff, Nat.reduceLT, Nat.reduceSub, Nat.reduceMul, reduceCtorEq, Int.reduceNeg, Int.reduceSub, Int.reduceAdd, Int.reduceLE, Int.reduceLT, Int.reduceMul, Int.reduceToNat, Int.reduceEq, Int.reduceBEq, Int.reduceBNe, Nat.reduceEqDiff, vc93, rs93]
    exact ⟨⟨_, rfl, ⟨[none], rfl, rfl, rfl, rfl, ⟨.nref rfl, trivial⟩, ⟨⟨_, _, rfl⟩, trivial⟩⟩⟩, ⟨_, rfl, ⟨[some 1], rfl, rfl, rfl, rfl, ⟨.ref rfl, trivial⟩, ⟨⟨_, rfl, .arr (.refl _)⟩, trivial⟩⟩⟩⟩
  | cons r rows =>
    have hl2 : (r :: rows).length = rows.length + 1 := rfl
    simp (maxSteps := 4000000) (disch := omega) only [EW, Nat.reduceBEq, reduceIte, Nat.reduceAdd, Nat.reduceLeDiff, Nat.reduceLT, Nat.reduceSub, Nat.reduceMul, reduceCtorEq, Int.reduceNeg, Int.reduceSub, Int.reduceAdd, Int.reduceLE, Int.reduceLT, Int.reduceMul, Int.reduceToNat, Int.reduceEq, Int.reduceBEq, Int.reduceBNe, Nat.reduceEqDiff, vc93, rs93, List.take_length]
    exact ⟨_, rfl, ⟨[some 1], rfl, rfl, rfl, rfl, ⟨.ref rfl, trivial⟩, ⟨⟨_, rfl, .arr (.refl _)⟩, trivial⟩⟩⟩

theorem call_own (c : Cal) (owner : Int) : VFn Try.prog 88 [.agg (kaCells c), .iptr [.int .i64 owner]] (.bool (decide (c.owner = owner))) := by
  refine VFn.intro ok88 (Nat.le_of_ble_eq_true rfl) (vk_start ?_)
  simp (maxSteps := 4000000) (disch := omega) only [EW, Nat.reduceBEq, reduceIte, Nat.reduceAdd, Nat.reduceLeDiff, Nat.reduceLT, Nat.reduceSub, Nat.reduceMul, reduceCtorEq, Int.reduceNeg, Int.reduceSub, Int.reduceAdd, Int.reduceLE, Int.reduceLT, Int.reduceMul, Int.reduceToNat, Int.reduceEq, Int.reduceBEq, Int.reduceBNe, Nat.reduceEqDiff, vc88, rs88, kaCells]
  exact fin rfl
def ownP (owner : Int) (c : Cal) : Bool := decide (c.owner = owner)
def fOwn (owner : Int) : V := .fn 88 [] [.iptr [.int .i64 owner]]
theorem lend_kaCells (c : Cal) : lendL [] (kaCells c) = some (kaCells c) := rfl
theorem call_index (ls : List Cal) (owner : Int) (hl : ls.length ≤ 1000000000000) :
    VFn Try.prog 119 [.sl 4 (kaRows ls), fOwn owner] (.int .i64 (idxP (ownP owner) ls)) := by
  refine VFn.intro ok119 (Nat.le_of_ble_eq_true rfl) (vk_start ?_)
  have hcl := kaRows_length ls
  unfold fOwn
  simp (maxSteps := 4000000) (disch := omega) only [EW, Nat.reduceBEq, reduceIte, Nat.reduceAdd, Nat.reduceLeDiff, Nat.reduceLT, Nat.reduceSub, Nat.reduceMul, reduceCtorEq, Int.reduceNeg, Int.reduceSub, Int.reduceAdd, Int.reduceLE, Int.reduceLT, Int.reduceMul, Int.reduceToNat, Int.reduceEq, Int.reduceBEq, Int.reduceBNe, Nat.reduceEqDiff, vc119, rs119, hcl]
  refine vk_loopR (γ := Nat) (fun i => { tm := [(0, .sl 4 (kaRows ls)), (1, .fn 88 [] [.iptr [.int .i64 owner]]), (7, .int .i64 ls.length), (8, .int .i64 i)], ob := [], base := 0 })
    (fun i => i ≤ ls.length ∧ idxP (ownP owner) ls = shiftI i (idxP (ownP owner) (ls.drop i))) (fun i => ls.length - i) 0 ⟨Nat.zero_le _, (shiftI_zero _).symm⟩ ?_ ?_
  · exact ⟨[], rfl, rfl, rfl, rfl, ⟨.same _ rfl, (.same _ rfl), .same _ rfl, .same _ rfl, trivial⟩, trivial⟩
  · rintro i ⟨hi, hI⟩ R hN hE hR
    rcases Nat.lt_or_ge i ls.length with hlt | hge
    · obtain ⟨r, hr⟩ : ∃ r, ls[i]? = some r := ⟨_, List.getElem?_eq_getElem hlt⟩
      have hgr : (kaRows ls)[i]? = some (kaCells r) := by rw [kaRows_get, hr]; rfl
      have htk : (kaCells r).take 4 = kaCells r := rfl
      have hrl : (kaCells r).length = 4 := rfl
      have hc : VFn Try.prog 88 [.agg (kaCells r), .iptr [.int .i64 owner]] (.bool (ownP owner r)) := call_own r owner
      rw [drop_at' hr] at hI
      simp (maxSteps := 4000000) (disch := omega) only [EW, Nat.reduceBEq, reduceIte, Nat.reduceAdd, Nat.reduceLeDiff, Nat.reduceLT, Nat.reduceSub, Nat.reduceMul, reduceCtorEq, Int.reduceNeg, Int.reduceSub, Int.reduceAdd, Int.reduceLE, Int.reduceLT, Int.reduceMul, Int.reduceToNat, Int.reduceEq, Int.reduceBEq, Int.reduceBNe, Nat.reduceEqDiff, hgr, htk, hrl, hcl]
      refine vk_callR rfl ⟨_, .inl (lend_app1 (lend_kaCells r) rfl), hc⟩ ?_
      cases hp : ownP owner r with
      | true =>
        simp (maxSteps := 4000000) (disch := omega) only [EW, Nat.reduceBEq, reduceIte, Nat.reduceAdd, Nat.reduceLeDiff, Nat.reduceLT, Nat.reduceSub, Nat.reduceMul, reduceCtorEq, Int.reduceNeg, Int.reduceSub, Int.reduceAdd, Int.reduceLE, Int.reduceLT, Int.reduceMul, Int.reduceToNat, Int.reduceEq, Int.reduceBEq, Int.reduceBNe, Nat.reduceEqDiff]
        refine hR _ ?_
        simp (maxSteps := 4000000) (disch := omega) only [EW, Nat.reduceBEq, reduceIte, Nat.reduceAdd, Nat.reduceLeDiff, Nat.reduceLT, Nat.reduceSub, Nat.reduceMul, reduceCtorEq, Int.reduceNeg, Int.reduceSub, Int.reduceAdd, Int.reduceLE, Int.reduceLT, Int.reduceMul, Int.reduceToNat, Int.reduceEq, Int.reduceBEq, Int.reduceBNe, Nat.reduceEqDiff]
        rw [hI, idxP_hit hp, shiftI_nat]
        exact fin rfl
      | false =>
        simp (maxSteps := 4000000) (disch := omega) only [EW, Nat.reduceBEq, reduceIte, Nat.reduceAdd, Nat.reduceLeDiff, Nat.reduceLT, Nat.reduceSub, Nat.reduceMul, reduceCtorEq, Int.reduceNeg, Int.reduceSub, Int.reduceAdd, Int.reduceLE, Int.reduceLT, Int.reduceMul, Int.reduceToNat, Int.reduceEq, Int.reduceBEq, Int.reduceBNe, Nat.reduceEqDiff]
        refine hN _ (i + 1) ⟨hlt, ?_⟩ (by omega) ?_
        · rw [hI, idxP_miss hp, shiftI_succ]
        · exact ⟨[], rfl, rfl, rfl, rfl, ⟨.same _ rfl, (.same _ rfl), .same _ rfl, .same _ rfl, trivial⟩, trivial⟩
    · simp (maxSteps := 4000000) (disch := omega) only [EW, Nat.reduceBEq, reduceIte, Nat.reduceAdd, Nat.reduceLeDiff, Nat.reduceLT, Nat.reduceSub, Nat.reduceMul, reduceCtorEq, Int.reduceNeg, Int.reduceSub, Int.reduceAdd, Int.reduceLE, Int.reduceLT, Int.reduceMul, Int.reduceToNat, Int.reduceEq, Int.reduceBEq, Int.reduceBNe, Nat.reduceEqDiff, hcl]
      refine hE _ _ ?_
      rw [hI, List.drop_eq_nil_of_le hge]
      simp (maxSteps := 4000000) (disch := omega) only [EW, Nat.reduceBEq, reduceIte, Nat.reduceAdd, Nat.reduceLeDiff, Nat.reduceLT, Nat.reduceSub, Nat.reduceMul, reduceCtorEq, Int.reduceNeg, Int.reduceSub, Int.reduceAdd, Int.reduceLE, Int.reduceLT, Int.reduceMul, Int.reduceToNat, Int.reduceEq, Int.reduceBEq, Int.reduceBNe, Nat.reduceEqDiff]
      exact fin rfl
end Go.Proofs.VL

/- Contracts of functions of the program, for what calls them, and the law that its name tells. -/
import Derived.Test.YthlmgkfipbphmaaV3
import Derived.Test.YthlmgkfipbphmaaAR
import Derived.Test.YthlmgkfipbphmaaCslices
namespace Go.Proofs.VL
open Go Go.RowKit
set_option maxRecDepth 100000
set_option maxHeartbeats 8000000
set_option linter.unusedSimpArgs false
set_option linter.unusedVariables false
attribute [local irreducible] vwp vk

theorem intCloneK (e : Nat) (rows : List (List V)) (hl : rows.length ≤ 10000000000) : VCall Try.prog 67 [.ref 0 rows.length] [some (.arr e 1 rows)] (.ref 1 rows.length) [some (.arr e 1 rows), some (.arr 3 1 rows)] := by
  refine VCall.intro ok67 (Nat.le_of_ble_eq_true rfl) (vk_start ?_)
  cases rows with
  | nil =>
    simp (maxSteps := 4000000) (disch := omega) only [EW, Nat.reduceBEq, reduceIte, Nat.reduceAdd, Nat.reduceLeDiff, Nat.reduceLT, Nat.reduceSub, Nat.reduceMul, reduceCtorEq, Int.reduceNeg, Int.reduceSub, Int.reduceAdd, Int.reduceLE, Int.reduceLT, Int.reduceMul, Int.reduceToNat, Int.reduceEq, Int.reduceBEq, Int.reduceBNe, Nat.reduceEqDiff, vc67, rs67]
    exact ⟨⟨_, rfl, ⟨[some 0, none], rfl, rfl, rfl, rfl, ⟨.nref rfl, trivial⟩, ⟨⟨_, rfl, .arr (.refl _)⟩, ⟨⟨_, _, rfl⟩, trivial⟩⟩⟩⟩, ⟨_, rfl, ⟨[some 0, some 2], rfl, rfl, rfl, rfl, ⟨.ref rfl, trivial⟩, ⟨⟨_, rfl, .arr (.refl _)⟩, ⟨⟨_, rfl, .arr (.refl _)⟩, trivial⟩⟩⟩⟩⟩
  | cons r rows =>
    have hl2 : (r :: rows).length = rows.length + 1 := rfl
    simp (maxSteps := 4000000) (disch := omega) only [EW, Nat.reduceBEq, reduceIte, Nat.reduceAdd, Nat.reduceLeDiff, Nat.reduceLT, Nat.reduceSub, Nat.reduceMul, reduceCtorEq, Int.reduceNeg, Int.reduceSub, Int.reduceAdd, Int.reduceLE, Int.reduceLT, Int.reduceMul, Int.reduceToNat, Int.reduceEq, Int.reduceBEq, Int.reduceBNe, Nat.reduceEqDiff, vc67, rs67, List.take_length]
    exact ⟨_, rfl, ⟨[some 0, some 2], rfl, rfl, rfl, rfl, ⟨.ref rfl, trivial⟩, ⟨⟨_, rfl, .arr (.refl _)⟩, ⟨⟨_, rfl, .arr (.refl _)⟩, trivial⟩⟩⟩⟩
theorem intCloneAt (e : Nat) (rows : List (List V)) (hl : rows.length ≤ 10000000000) (B : List (Option VObj)) (k : Nat) (h0 : B[k]? = some (some (.arr e 1 rows))) : VCall Try.prog 67 [.ref k rows.length] B (.ref B.length rows.length) (B ++ [some (.arr 3 1 rows)]) := by
  have hf := VCall.frame (intCloneK e rows hl) [k] B ⟨rfl, by simp, fun i j hj => by
    match i, hj with
    | 0, hj => simp at hj; subst hj; exact ⟨(List.getElem?_eq_some_iff.1 h0).1, fun o' ho => by simp at ho; subst ho; exact h0⟩
    | i + 1, hj => simp at hj⟩ rfl rfl rfl rfl (Nat.le_succ 1)
  have hs : B.set k (some (.arr e 1 rows)) = B := by
    apply List.ext_getElem?
    intro i
    rw [List.getElem?_set]
    split
    · rename_i h; subst h; rw [h0]; simp [(List.getElem?_eq_some_iff.1 h0).1]
    · rfl
  have e2 : putObs (nameOf [k] B.length) B [k] [some (.arr e 1 rows), some (.arr 3 1 rows)] = B ++ [some (.arr 3 1 rows)] := by
    simp [putObs, renO, nameOf, hs]
  rw [e2] at hf
  simpa [renL, renV, nameOf] using hf
noncomputable def intCloneF (args : List V) (ob : Obs) : Option (V × Obs) :=
  match args with
  | [.ref k n] => match ob[k]? with
    | some (some (.arr e sz rows)) => match Nat.beq sz 1 && Nat.beq n rows.length && Nat.ble rows.length 10000000000 with
      | true => some (.ref ob.length n, ob ++ [some (.arr 3 1 rows)])
      | false => none
    | _ => none
  | _ => none
theorem intCloneF_ok (args : List V) (ob : Obs) (r : V) (ob' : Obs) (h : intCloneF args ob = some (r, ob')) : VCall Try.prog 67 args ob r ob' := by
  unfold intCloneF at h
  split at h <;> try (cases h; done)
  rename_i k n
  split at h <;> try (cases h; done)
  rename_i e sz rows ho
  split at h <;> try (cases h; done)
  rename_i hb
  simp only [Bool.and_eq_true] at hb
  have h1 := Nat.eq_of_beq_eq_true hb.1.1
  have h2 := Nat.eq_of_beq_eq_true hb.1.2
  subst h1; subst h2
  simp only [Option.some.injEq, Prod.mk.injEq] at h
  obtain ⟨rfl, rfl⟩ := h
  exact intCloneAt e rows (Nat.le_of_ble_eq_true hb.2) ob k ho
theorem intCloneE : VCall Try.prog 67 [.sl 1 []] [] (.ref 0 0) [some (.arr 3 1 [])] := by
  refine VCall.intro ok67 (Nat.le_of_ble_eq_true rfl) (vk_start ?_)
  simp (maxSteps := 4000000) (disch := omega) only [EW, Nat.reduceBEq, reduceIte, Nat.reduceAdd, Nat.reduceLeDiff, Nat.reduceLT, Nat.reduceSub, Nat.reduceMul, reduceCtorEq, Int.reduceNeg, Int.reduceSub, Int.reduceAdd, Int.reduceLE, Int.reduceLT, Int.reduceMul, Int.reduceToNat, Int.reduceEq, Int.reduceBEq, Int.reduceBNe, Nat.reduceEqDiff, vc67, rs67]
  exact ⟨⟨_, rfl, ⟨[none], rfl, rfl, rfl, rfl, ⟨.nref rfl, trivial⟩, ⟨⟨_, _, rfl⟩, trivial⟩⟩⟩, ⟨_, rfl, ⟨[some 1], rfl, rfl, rfl, rfl, ⟨.ref rfl, trivial⟩, ⟨⟨_, rfl, .arr (.refl _)⟩, trivial⟩⟩⟩⟩
theorem hookCloneE : VFn Try.prog 66 [.sl 3 []] (.sl 3 []) := by
  refine VFn.intro ok66 (Nat.le_of_ble_eq_true rfl) (vk_start ?_)
  simp (maxSteps := 4000000) (disch := omega) only [EW, Nat.reduceBEq, reduceIte, Nat.reduceAdd, Nat.reduceLeDiff, Nat.reduceLT, Nat.reduceSub, Nat.reduceMul, reduceCtorEq, Int.reduceNeg, Int.reduceSub, Int.reduceAdd, Int.reduceLE, Int.reduceLT, Int.reduceMul, Int.reduceToNat, Int.reduceEq, Int.reduceBEq, Int.reduceBNe, Nat.reduceEqDiff, vc66, rs66]
  exact ⟨⟨_, _, rfl, rfl, .nil _⟩, fin rfl⟩
noncomputable def intCloneEF (args : List V) (ob : Obs) : Option (V × Obs) := match args with | [.sl 1 []] => some (.ref ob.length 0, ob ++ [some (.arr 3 1 [])]) | _ => none
theorem intCloneEF_ok (args : List V) (ob : Obs) (r : V) (ob' : Obs) (h : intCloneEF args ob = some (r, ob')) : VCall Try.prog 67 args ob r ob' := by
  unfold intCloneEF at h
  split at h <;> try (cases h; done)
  simp only [Option.some.injEq, Prod.mk.injEq] at h
  obtain ⟨rfl, rfl⟩ := h
  have := VCall.app intCloneE ob rfl rfl rfl
  simpa [renV, renL, renO] using this
noncomputable def hookCloneEF (args : List V) (ob : Obs) : Option (V × Obs) := match args with | [.sl 3 []] => some (.sl 3 [], ob) | _ => none
theorem hookCloneEF_ok (args : List V) (ob : Obs) (r : V) (ob' : Obs) (h : hookCloneEF args ob = some (r, ob')) : VCall Try.prog 66 args ob r ob' := by
  unfold hookCloneEF at h
  split at h <;> try (cases h; done)
  simp only [Option.some.injEq, Prod.mk.injEq] at h
  obtain ⟨rfl, rfl⟩ := h
  exact CallR.call ⟨_, .inl rfl, hookCloneE⟩
end Go.Proofs.VL

/- Contracts of functions of the program, for what calls them, and the law that its name tells. -/
import Derived.Test.YthlmgkfipbphmaaGP
import Derived.Test.YthlmgkfipbphmaaGA
import Derived.Test.YthlmgkfipbphmaaV3
namespace Go.Proofs.VL
open Go Go.RowKit
set_option maxRecDepth 100000
set_option linter.unusedSimpArgs false
set_option linter.unusedVariables false

theorem ins_enter : Enter Try.prog 79 := ⟨_, Try.func79, by kernel_rfl, by kernel_rfl⟩
theorem insertK (rows : List (List V)) (e2 i : Nat) (x : V) (hi : i ≤ rows.length) (hb : (rows.length + 1) * 8 ≤ 140737488355328) :
    VCall Try.prog 79 [.ref 0 rows.length, .int .i64 i, .ref 1 1] [some (.arr 3 1 rows), some (.arr e2 1 [[x]])] (.ref 2 (rows.take i ++ [x] :: rows.drop i).length) [none, some (.arr e2 1 [[x]]), some (.arr 3 1 (rows.take i ++ [x] :: rows.drop i))] :=
  insert_call (P := Try.prog) layS ins_enter rows e2 i x hi hb
theorem insertAt (rows : List (List V)) (e2 i : Nat) (x : V) (hi : i ≤ rows.length) (hb : (rows.length + 1) * 8 ≤ 140737488355328) (B : List (Option VObj)) (k j : Nat) (hkj : k ≠ j) (h0 : B[k]? = some (some (.arr 3 1 rows))) (h1 : B[j]? = some (some (.arr e2 1 [[x]]))) :
    VCall Try.prog 79 [.ref k rows.length, .int .i64 i, .ref j 1] B (.ref B.length (rows.take i ++ [x] :: rows.drop i).length) (B.set k none ++ [some (.arr 3 1 (rows.take i ++ [x] :: rows.drop i))]) := by
  have hf := VCall.frame (insertK rows e2 i x hi hb) [k, j] B ⟨rfl, by simp [hkj], fun i j hj => by
    match i, hj with
    | 0, hj => simp at hj; subst hj; exact ⟨(List.getElem?_eq_some_iff.1 h0).1, fun o' ho => by simp at ho; subst ho; exact h0⟩
    | 1, hj => simp at hj; subst hj; exact ⟨(List.getElem?_eq_some_iff.1 h1).1, fun o' ho => by simp at ho; subst ho; exact h1⟩
    | i + 2, hj => simp at hj⟩ rfl rfl rfl rfl (Nat.le_succ 2)
  have hs : (B.set k none).set j (some (.arr e2 1 [[x]])) = B.set k none := by
    apply List.ext_getElem?
    intro i
    rw [List.getElem?_set]
    split
    · rename_i h; subst h
      have hlt := (List.getElem?_eq_some_iff.1 h1).1
      simp only [List.length_set, hlt, if_true]
      rw [List.getElem?_set_ne hkj, h1]
    · rfl
  have e2 : putObs (nameOf [k, j] B.length) B [k, j] [none, some (.arr e2 1 [[x]]), some (.arr 3 1 (rows.take i ++ [x] :: rows.drop i))] = B.set k none ++ [some (.arr 3 1 (rows.take i ++ [x] :: rows.drop i))] := by
    simp [putObs, renO, nameOf, hs]
  rw [e2] at hf
  simpa [renL, renV, nameOf] using hf
theorem insertNil (e2 : Nat) (x : V) : VCall Try.prog 79 [.nils, .int .i64 0, .ref 0 1] [some (.arr e2 1 [[x]])] (.ref 2 1) [some (.arr e2 1 [[x]]), none, some (.arr 3 1 [[x]])] := by
  have h := insertAt [] e2 0 x (Nat.le_refl _) (by decide) [some (.arr e2 1 [[x]]), some (.arr 3 1 [])] 1 0 (by decide) rfl rfl
  exact VCall.adopt h rfl ⟨[some 0, none], rfl, rfl, rfl, rfl, ⟨.nref rfl, .same _ rfl, .ref rfl, trivial⟩, ⟨⟨_, rfl, .arr (.refl _)⟩, ⟨⟨_, _, rfl⟩, trivial⟩⟩⟩
theorem insertNilAt (e2 : Nat) (x : V) (B : List (Option VObj)) (j : Nat) (h1 : B[j]? = some (some (.arr e2 1 [[x]]))) : VCall Try.prog 79 [.nils, .int .i64 0, .ref j 1] B (.ref (B.length + 1) 1) (B ++ [none, some (.arr 3 1 [[x]])]) := by
  have hf := VCall.frame (insertNil e2 x) [j] B ⟨rfl, by simp, fun i j hj => by
    match i, hj with
    | 0, hj => simp at hj; subst hj; exact ⟨(List.getElem?_eq_some_iff.1 h1).1, fun o' ho => by simp at ho; subst ho; exact h1⟩
    | i + 1, hj => simp at hj⟩ rfl rfl rfl rfl (by simp)
  have hs : B.set j (some (.arr e2 1 [[x]])) = B := by
    apply List.ext_getElem?
    intro i
    rw [List.getElem?_set]
    split
    · rename_i h; subst h; rw [h1]; simp [(List.getElem?_eq_some_iff.1 h1).1]
    · rfl
  have e2 : putObs (nameOf [j] B.length) B [j] [some (.arr e2 1 [[x]]), none, some (.arr 3 1 [[x]])] = B ++ [none, some (.arr 3 1 [[x]])] := by
    simp [putObs, renO, nameOf, hs]
  rw [e2] at hf
  simpa [renL, renV, nameOf] using hf
noncomputable def insertF (args : List V) (ob : Obs) : Option (V × Obs) :=
  match args with
  | [.ref k n, .int .i64 (.ofNat i), .ref j 1] => match ob[k]? with
    | some (some (.arr e sz rows)) => match ob[j]? with
      | some (some (.arr e2 1 [[x]])) => match Nat.beq e 3 && Nat.beq sz 1 && Nat.beq n rows.length && Nat.ble i rows.length && Nat.ble ((rows.length + 1) * 8) 140737488355328 && !Nat.beq k j with
        | true => some (.ref ob.length (rows.take i ++ [x] :: rows.drop i).length, ob.set k none ++ [some (.arr 3 1 (rows.take i ++ [x] :: rows.drop i))])
        | false => none
      | _ => none
    | _ => none
  | [.nils, .int .i64 (.ofNat 0), .ref j 1] => match ob[j]? with
    | some (some (.arr e2 1 [[x]])) => some (.ref (ob.length + 1) 1, ob ++ [none, some (.arr 3 1 [[x]])])
    | _ => none
  | _ => none
theorem insertF_ok (args : List V) (ob : Obs) (r : V) (ob' : Obs) (h : insertF args ob = some (r, ob')) : VCall Try.prog 79 args ob r ob' := by
  unfold insertF at h
  split at h <;> try (cases h; done)
  · rename_i k n i j
    split at h <;> try (cases h; done)
    rename_i e sz rows ho
    split at h <;> try (cases h; done)
    rename_i e2 x hj
    split at h <;> try (cases h; done)
    rename_i hb
    simp only [Bool.and_eq_true, Bool.not_eq_true'] at hb
    obtain ⟨⟨⟨⟨⟨h1, h2⟩, h3⟩, h4⟩, h5⟩, h6⟩ := hb
    have h1 := Nat.eq_of_beq_eq_true h1
    have h2 := Nat.eq_of_beq_eq_true h2
    have h3 := Nat.eq_of_beq_eq_true h3
    subst h1; subst h2; subst h3
    simp only [Option.some.injEq, Prod.mk.injEq] at h
    obtain ⟨rfl, rfl⟩ := h
    exact insertAt rows e2 i x (Nat.le_of_ble_eq_true h4) (Nat.le_of_ble_eq_true h5) ob k j (Nat.ne_of_beq_eq_false h6) ho hj
  · rename_i j
    split at h <;> try (cases h; done)
    rename_i e2 x hj
    simp only [Option.some.injEq, Prod.mk.injEq] at h
    obtain ⟨rfl, rfl⟩ := h
    exact insertNilAt e2 x ob j hj
end Go.Proofs.VL

/- Contracts of functions of the program, for what calls them, and the law that its name tells. -/
import Derived.Test.YthlmgkfipbphmaaAF
import Derived.Test.YthlmgkfipbphmaaAG
namespace Go.Proofs.VL
open Go Go.RowKit
set_option maxRecDepth 100000
set_option maxHeartbeats 4000000
set_option linter.unusedSimpArgs false
set_option linter.unusedVariables false
attribute [local irreducible] vwp vk

/-- Entries of which some are in memory of their own. -/
def cloneE (seen : List Nat) (es : Ents) : Ents := es.map fun e => (e.1, if seen.contains e.1 = true then ownN e.2 else e.2)
def cloneA (A : Ar) : Ar := { A with es := A.es.map fun e => (e.1, ownN e.2) }
structure COk (b : Nat) (A : Ar) : Prop where
  st : ∀ e ∈ A.es, e.1 < A.clock
  sn : (A.es.map (·.1)).Nodup
  idn : (A.es.map (·.2.id)).Nodup
  ok : ∀ e ∈ A.es, e.2.ok b

theorem cloneE_nil (es : Ents) : cloneE [] es = es := by
  unfold cloneE
  rw [List.map_congr_left (g := id) (fun e _ => by simp)]
  simp
theorem cloneE_all {es : Ents} {seen : List Nat} (h : ∀ e ∈ es, seen.contains e.1 = true) : cloneE seen es = es.map fun e => (e.1, ownN e.2) := by
  unfold cloneE
  exact List.map_congr_left fun e he => by rw [if_pos (h e he)]
/-- What an entry turns into when it is laid anew. -/
theorem setN_clone : ∀ {es : Ents} {seen : List Nat} {e : Nat × Nd}, (es.map (·.1)).Nodup → (es.map (·.2.id)).Nodup → e ∈ es → setN (ownN e.2) (cloneE seen es) = cloneE (seen ++ [e.1]) es
  | x :: es, seen, e, h1, h2, he => by
    simp only [List.map_cons, List.nodup_cons] at h1 h2
    have hid : ∀ y : Nat × Nd, (if seen.contains y.1 = true then ownN y.2 else y.2).id = y.2.id := by intro y; split <;> rfl
    have e1 : cloneE seen (x :: es) = (x.1, if seen.contains x.1 = true then ownN x.2 else x.2) :: cloneE seen es := rfl
    have e2 : cloneE (seen ++ [e.1]) (x :: es) = (x.1, if (seen ++ [e.1]).contains x.1 = true then ownN x.2 else x.2) :: cloneE (seen ++ [e.1]) es := rfl
    rw [e1, e2]
    unfold setN
    simp only [hid]
    rcases List.mem_cons.1 he with rfl | he
    · rw [if_pos (show (ownN e.2).id = e.2.id from rfl)]
      have ht : cloneE (seen ++ [e.1]) es = cloneE seen es := by
        unfold cloneE
        refine List.map_congr_left fun y hy => ?_
        have hne : y.1 ≠ e.1 := fun hc => h1.1 (List.mem_map.2 ⟨y, hy, hc⟩)
        have : (seen ++ [e.1]).contains y.1 = seen.contains y.1 := by simp [hne]
        rw [this]
      rw [ht, if_pos (by simp)]
    · have hne : x.1 ≠ e.1 := fun hc => h1.1 (List.mem_map.2 ⟨e, he, hc.symm⟩)
      have hni : ¬ (ownN e.2).id = x.2.id := fun hc => h2.1 (List.mem_map.2 ⟨e, he, hc⟩)
      rw [if_neg hni, setN_clone h1.2 h2.2 he]
      have : (seen ++ [e.1]).contains x.1 = seen.contains x.1 := by simp [hne]
      rw [this]
theorem getN_clone : ∀ {es : Ents} {seen : List Nat} {e : Nat × Nd}, (es.map (·.2.id)).Nodup → e ∈ es → getN (cloneE seen es) e.2.id = some (if seen.contains e.1 = true then ownN e.2 else e.2)
  | x :: es, seen, e, h2, he => by
    simp only [List.map_cons, List.nodup_cons] at h2
    have hid : ∀ y : Nat × Nd, (if seen.contains y.1 = true then ownN y.2 else y.2).id = y.2.id := by intro y; split <;> rfl
    have e1 : cloneE seen (x :: es) = (x.1, if seen.contains x.1 = true then ownN x.2 else x.2) :: cloneE seen es := rfl
    rw [e1]
    unfold getN
    simp only [hid]
    rcases List.mem_cons.1 he with rfl | he
    · rw [if_pos rfl]
    · have hni : ¬ e.2.id = x.2.id := fun hc => h2.1 (List.mem_map.2 ⟨e, he, hc⟩)
      rw [if_neg hni]
      exact getN_clone h2.2 he
theorem find_stamp : ∀ {es : Ents} {e : Nat × Nd}, (es.map (·.1)).Nodup → e ∈ es → ∀ g : Nat × Nd → Nat × V × V, (∀ x, (g x).1 = x.1) → (es.map g).find? (fun q => q.1 == e.1) = some (g e)
  | x :: es, e, h, he, g, hg => by
    simp only [List.map_cons, List.nodup_cons] at h
    rw [List.map_cons, List.find?_cons, hg]
    rcases List.mem_cons.1 he with rfl | he
    · simp
    · have hne : (x.1 == e.1) = false := by
        simp only [beq_eq_false_iff_ne]
        exact fun hc => h.1 (List.mem_map.2 ⟨e, he, hc.symm⟩)
      rw [hne]
      exact find_stamp h.2 he g hg

def leftE (seen : List Nat) (es : Ents) : Ents := es.filter fun e => !seen.contains e.1
theorem left_mV (seen : List Nat) : ∀ es : Ents, ((mV (cloneE seen es)).filter fun e => !seen.contains e.1) = mV (leftE seen es)
  | [] => rfl
  | x :: es => by
    have ih := left_mV seen es
    have e1 : mV (cloneE seen (x :: es)) = (x.1, .int .i64 (if seen.contains x.1 = true then ownN x.2 else x.2).id, .agg (nCells (if seen.contains x.1 = true then ownN x.2 else x.2))) :: mV (cloneE seen es) := rfl
    rw [e1, List.filter_cons]
    unfold leftE at ih ⊢
    rw [List.filter_cons]
    cases h : seen.contains x.1 with
    | true => simpa [h] using ih
    | false =>
      simp only [h, Bool.not_false, if_true, Bool.false_eq_true, if_false]
      rw [ih]; rfl
theorem left_less {seen : List Nat} {es : Ents} {e : Nat × Nd} (h : e ∈ leftE seen es) : (leftE (seen ++ [e.1]) es).length < (leftE seen es).length := by
  have e1 : leftE (seen ++ [e.1]) es = (leftE seen es).filter fun x => x.1 != e.1 := by
    unfold leftE
    rw [List.filter_filter]
    refine List.filter_congr fun x hx => ?_
    by_cases hc : x.1 = e.1
    · simp [hc]
    · have : (x.1 != e.1) = true := by simpa using hc
      rw [this]; simp [hc]
  rw [e1]
  refine Nat.lt_of_le_of_ne (List.length_filter_le _ _) fun hc => ?_
  have := List.length_filter_eq_length_iff.1 hc e h
  simp at this
theorem mV_stamps (c : Nat) (es : Ents) (h : ∀ e ∈ es, e.1 < c) (seen : List Nat) : (mV (cloneE seen es)).all (fun e => decide (e.1 < c)) = true := by
  rw [List.all_eq_true]
  intro e he
  unfold mV cloneE at he
  simp only [List.map_map, List.mem_map, Function.comp] at he
  obtain ⟨x, hx, rfl⟩ := he
  simpa using h x hx

theorem a_clone_nil : VFn Try.prog 15 [.nilp] .nilp := by
  refine VFn.intro ok15 (Nat.le_of_ble_eq_true rfl) (vk_start ?_)
  have h1 := a_is_nil
  simp (maxSteps := 4000000) (disch := omega) only [EW, Nat.reduceBEq, reduceIte, Nat.reduceAdd, Nat.reduceLeDiff, Nat.reduceLT, Nat.reduceSub, Nat.reduceMul, reduceCtorEq, Int.reduceNeg, Int.reduceSub, Int.reduceAdd, Int.reduceLE, Int.reduceLT, Int.reduceMul, Int.reduceToNat, Int.reduceEq, Int.reduceBEq, Int.reduceBNe, Nat.reduceEqDiff, vc15, rs15]
  (refine vk_callR rfl ⟨_, .inl rfl, h1⟩ ?_; simp (maxSteps := 4000000) (disch := omega) only [EW, Nat.reduceBEq, reduceIte, Nat.reduceAdd, Nat.reduceLeDiff, Nat.reduceLT, Nat.reduceSub, Nat.reduceMul, reduceCtorEq, Int.reduceNeg, Int.reduceSub, Int.reduceAdd, Int.reduceLE, Int.reduceLT, Int.reduceMul, Int.reduceToNat, Int.reduceEq, Int.reduceBEq, Int.reduceBNe, Nat.reduceEqDiff])
  exact fin rfl

theorem a_clone (A : Ar) (b : Nat) (hb : b ≤ 1000000000) (h : COk b A) :
    VCall Try.prog 15 [.ptr 0 0] (aOb A) (.ptr 2 0) (aOb A ++ [some (.box (aCells 3 (cloneA A))), some (.map (mV (cloneA A).es) A.clock)]) := by
  refine VCall.intro ok15 (Nat.le_of_ble_eq_true rfl) (vk_start ?_)
  have h1 := a_is A
  have hmc := maps_clone (mV A.es) A.clock
  simp (maxSteps := 4000000) (disch := omega) only [EW, Nat.reduceBEq, reduceIte, Nat.reduceAdd, Nat.reduceLeDiff, Nat.reduceLT, Nat.reduceSub, Nat.reduceMul, reduceCtorEq, Int.reduceNeg, Int.reduceSub, Int.reduceAdd, Int.reduceLE, Int.reduceLT, Int.reduceMul, Int.reduceToNat, Int.reduceEq, Int.reduceBEq, Int.reduceBNe, Nat.reduceEqDiff, vc15, rs15]
  refine vk_call rfl h1 ?_
  simp (maxSteps := 4000000) (disch := omega) only [EW, Nat.reduceBEq, reduceIte, Nat.reduceAdd, Nat.reduceLeDiff, Nat.reduceLT, Nat.reduceSub, Nat.reduceMul, reduceCtorEq, Int.reduceNeg, Int.reduceSub, Int.reduceAdd, Int.reduceLE, Int.reduceLT, Int.reduceMul, Int.reduceToNat, Int.reduceEq, Int.reduceBEq, Int.reduceBNe, Nat.reduceEqDiff, aOb, aCells]
  refine vk_callS [1] rfl hmc rfl (by decide) ⟨⟨by simp, by simp [renL, renV, namesL, V.names, nameOf], rfl⟩, trivial⟩ rfl rfl rfl rfl (by simp) (by
    intro k h1 h2
    simp [putObs, nameOf] at h1 h2
    simp [renV, V.names, nameOf]; omega) ?_
  have hfn : (V.fn 43 [] []).names = [] := rfl
  simp (maxSteps := 4000000) (disch := omega) only [EW, Nat.reduceBEq, reduceIte, Nat.reduceAdd, Nat.reduceLeDiff, Nat.reduceLT, Nat.reduceSub, Nat.reduceMul, reduceCtorEq, Int.reduceNeg, Int.reduceSub, Int.reduceAdd, Int.reduceLE, Int.reduceLT, Int.reduceMul, Int.reduceToNat, Int.reduceEq, Int.reduceBEq, Int.reduceBNe, Nat.reduceEqDiff, renV, nameOf, putObs, renO, hfn]
  refine vk_loopR (γ := List Nat) (fun seen => { tm := [(3, .ptr 3 0), (28, .ptr 4 0)], ob := [some (.box (aCells 1 A)), some (.map (mV A.es) A.clock), some (.map (mV (cloneE seen A.es)) A.clock), some (.box (aCells 2 A)), some (.miter (some 2) A.clock seen A.clock)], base := 2 })
    (fun _ => True) (fun seen => (leftE seen A.es).length) [] trivial ?_ ?_
  · rw [cloneE_nil]
    exact ⟨[some 0, some 1, some 2, some 3, some 4], rfl, rfl, rfl, rfl, ⟨.ptr rfl, .ptr rfl, trivial⟩, ⟨⟨_, rfl, .box (.cons (.mapr rfl) (.cons (.same _ rfl) (.cons (.same _ rfl) (.cons (.same _ rfl) (.cons (.same _ rfl) (.cons (.same _ rfl) (.cons (.same _ rfl) (.cons (.same _ rfl) (.cons (.same _ rfl) .nil)))))))))⟩, ⟨⟨_, rfl, .map (SubE.refl _)⟩, ⟨⟨_, rfl, .map (SubE.refl _)⟩, ⟨⟨_, rfl, .box (.cons (.mapr rfl) (.cons (.same _ rfl) (.cons (.same _ rfl) (.cons (.same _ rfl) (.cons (.same _ rfl) (.cons (.same _ rfl) (.cons (.same _ rfl) (.cons (.same _ rfl) (.cons (.same _ rfl) .nil)))))))))⟩, ⟨⟨_, rfl, .miter rfl⟩, trivial⟩⟩⟩⟩⟩⟩
  · rintro seen - R hN hE hR
    have hleft := left_mV seen A.es
    have hst := mV_stamps A.clock A.es h.st seen
    cases hl : leftE seen A.es with
    | nil =>
      rw [hl] at hleft
      have hall : ∀ e ∈ A.es, seen.contains e.1 = true := by
        intro e he
        cases hc : seen.contains e.1 with
        | true => rfl
        | false =>
          have : e ∈ leftE seen A.es := List.mem_filter.2 ⟨he, by rw [hc]; rfl⟩
          rw [hl] at this; simp at this
      have hn : ∀ (ρ : X → V) (x : X) (ob : List (Option VObj)), ρ x = .ptr 4 0 → ob[4]? = some (some (.miter (some 2) A.clock seen A.clock)) → ob[2]? = some (some (.map (mV (cloneE seen A.es)) A.clock)) → nxtV ρ ob x = some [(.tup [.bool false], ob)] := by
        intro ρ x ob h1 h2 h3
        unfold nxtV
        simp only [h1, h2, h3]
        rw [if_pos ⟨hst, Nat.le_refl _⟩, hleft]
        rfl
      clear hN
      simp (maxSteps := 4000000) (disch := omega) only [EW, Nat.reduceBEq, reduceIte, Nat.reduceAdd, Nat.reduceLeDiff, Nat.reduceLT, Nat.reduceSub, Nat.reduceMul, reduceCtorEq, Int.reduceNeg, Int.reduceSub, Int.reduceAdd, Int.reduceLE, Int.reduceLT, Int.reduceMul, Int.reduceToNat, Int.reduceEq, Int.reduceBEq, Int.reduceBNe, Nat.reduceEqDiff]
      refine vk_nxt (hn _ _ _ rfl rfl rfl) ?_
      rintro p hp
      rw [List.mem_singleton] at hp
      subst hp
      simp (maxSteps := 4000000) (disch := omega) only [EW, Nat.reduceBEq, reduceIte, Nat.reduceAdd, Nat.reduceLeDiff, Nat.reduceLT, Nat.reduceSub, Nat.reduceMul, reduceCtorEq, Int.reduceNeg, Int.reduceSub, Int.reduceAdd, Int.reduceLE, Int.reduceLT, Int.reduceMul, Int.reduceToNat, Int.reduceEq, Int.reduceBEq, Int.reduceBNe, Nat.reduceEqDiff]
      refine hE _ _ ?_
      clear hE hR
      simp (maxSteps := 4000000) (disch := omega) only [EW, Nat.reduceBEq, reduceIte, Nat.reduceAdd, Nat.reduceLeDiff, Nat.reduceLT, Nat.reduceSub, Nat.reduceMul, reduceCtorEq, Int.reduceNeg, Int.reduceSub, Int.reduceAdd, Int.reduceLE, Int.reduceLT, Int.reduceMul, Int.reduceToNat, Int.reduceEq, Int.reduceBEq, Int.reduceBNe, Nat.reduceEqDiff]
      have hca : (cloneA A).es = cloneE seen A.es := (cloneE_all hall).symm
      rw [hca]
      exact ⟨_, rfl, ⟨[some 0, some 1, some 3, some 2], rfl, rfl, rfl, rfl, ⟨.ptr rfl, trivial⟩, ⟨⟨_, rfl, .box (.cons (.mapr rfl) (.cons (.same _ rfl) (.cons (.same _ rfl) (.cons (.same _ rfl) (.cons (.same _ rfl) (.cons (.same _ rfl) (.cons (.same _ rfl) (.cons (.same _ rfl) (.cons (.same _ rfl) .nil)))))))))⟩, ⟨⟨_, rfl, .map (SubE.refl _)⟩, ⟨⟨_, rfl, .box (.cons (.mapr rfl) (.cons (.same _ rfl) (.cons (.same _ rfl) (.cons (.same _ rfl) (.cons (.same _ rfl) (.cons (.same _ rfl) (.cons (.same _ rfl) (.cons (.same _ rfl) (.cons (.same _ rfl) .nil)))))))))⟩, ⟨⟨_, rfl, .map (SubE.refl _)⟩, trivial⟩⟩⟩⟩⟩⟩
    | cons q0 qs =>
      have hn : ∀ (ρ : X → V) (x : X) (ob : List (Option VObj)), ρ x = .ptr 4 0 → ob[4]? = some (some (.miter (some 2) A.clock seen A.clock)) → ob[2]? = some (some (.map (mV (cloneE seen A.es)) A.clock)) → nxtV ρ ob x = some ((mV (leftE seen A.es)).map fun e => (.tup [.bool true, e.2.1, e.2.2], ob.set 4 (some (.miter (some 2) A.clock (seen ++ [e.1]) A.clock)))) := by
        intro ρ x ob h1 h2 h3
        unfold nxtV
        simp only [h1, h2, h3]
        rw [if_pos ⟨hst, Nat.le_refl _⟩, hleft, hl]
        rfl
      simp (maxSteps := 4000000) (disch := omega) only [EW, Nat.reduceBEq, reduceIte, Nat.reduceAdd, Nat.reduceLeDiff, Nat.reduceLT, Nat.reduceSub, Nat.reduceMul, reduceCtorEq, Int.reduceNeg, Int.reduceSub, Int.reduceAdd, Int.reduceLE, Int.reduceLT, Int.reduceMul, Int.reduceToNat, Int.reduceEq, Int.reduceBEq, Int.reduceBNe, Nat.reduceEqDiff]
      refine vk_nxt (hn _ _ _ rfl rfl rfl) ?_
      rintro p hp
      obtain ⟨e, he, rfl⟩ := List.mem_map.1 hp
      unfold mV at he
      obtain ⟨q, hq, rfl⟩ := List.mem_map.1 he
      have hqm : q ∈ A.es := (List.mem_filter.1 hq).1
      have hqs : seen.contains q.1 = false := by simpa using (List.mem_filter.1 hq).2
      have hmf := mfind_mV q.2.id (cloneE seen A.es)
      rw [getN_clone h.idn hqm, hqs] at hmf
      simp only [Option.map_some, Bool.false_eq_true, if_false] at hmf
      have hms : mset (.i .i64) (.int .i64 q.2.id) (.agg (nCells (ownN q.2))) (mV (cloneE seen A.es)) = mV (cloneE (seen ++ [q.1]) A.es) := by
        rw [← setN_clone h.sn h.idn hqm]
        exact mset_mV (ownN q.2) (cloneE seen A.es)
      have ho := a_ownS b q.2 hb (h.ok q hqm)
      have hent : ∀ (ρ : X → V) (x : X) (ob : List (Option VObj)), ρ x = .ptr 4 0 → ob[4]? = some (some (.miter (some 2) A.clock (seen ++ [q.1]) A.clock)) → ob[2]? = some (some (.map (mV (cloneE seen A.es)) A.clock)) → entV ρ ob x = some (.tup [.int .i64 q.2.id, .agg (nCells q.2)]) := by
        intro ρ x ob h1 h2 h3
        unfold entV
        simp only [h1, h2, h3, if_true, List.getLast?_append, List.getLast?_singleton, Option.some_or]
        have hf := find_stamp h.sn hqm (fun e => (e.1, .int .i64 (if seen.contains e.1 = true then ownN e.2 else e.2).id, .agg (nCells (if seen.contains e.1 = true then ownN e.2 else e.2)))) (fun _ => rfl)
        have hmm : mV (cloneE seen A.es) = A.es.map (fun e => (e.1, .int .i64 (if seen.contains e.1 = true then ownN e.2 else e.2).id, .agg (nCells (if seen.contains e.1 = true then ownN e.2 else e.2)))) := by unfold mV cloneE; rw [List.map_map]; rfl
        rw [hmm, hf]
        simp only [hqs, Bool.false_eq_true, if_false, Option.map_some]
      have hfin := fun s' hs => hN s' (seen ++ [q.1]) trivial (left_less hq) hs
      clear hN
      have hnl : (nCells q.2).length = 13 := rfl
      have hnc : (nCells q.2).all VO.evW.isCell = true := rfl
      have hnf : (nCells (ownN q.2)).all idFree = true := rfl
      simp (maxSteps := 4000000) (disch := omega) only [EW, Nat.reduceBEq, reduceIte, Nat.reduceAdd, Nat.reduceLeDiff, Nat.reduceLT, Nat.reduceSub, Nat.reduceMul, reduceCtorEq, Int.reduceNeg, Int.reduceSub, Int.reduceAdd, Int.reduceLE, Int.reduceLT, Int.reduceMul, Int.reduceToNat, Int.reduceEq, Int.reduceBEq, Int.reduceBNe, Nat.reduceEqDiff]
      refine vk_ent (hent _ _ _ rfl rfl rfl) ?_
      have hpc : putCells [.int .i64 0, .int .i64 0, .int .i64 0, .int .i64 0, .str [], .nils, .str [], .int .i64 0, .nils, .nils, .nils, .str [], .nils] 0 (nCells q.2) = nCells q.2 := rfl
      have htk : (nCells q.2).take 13 = nCells q.2 := rfl
      simp (maxSteps := 4000000) (disch := omega) only [EW, Nat.reduceBEq, reduceIte, Nat.reduceAdd, Nat.reduceLeDiff, Nat.reduceLT, Nat.reduceSub, Nat.reduceMul, reduceCtorEq, Int.reduceNeg, Int.reduceSub, Int.reduceAdd, Int.reduceLE, Int.reduceLT, Int.reduceMul, Int.reduceToNat, Int.reduceEq, Int.reduceBEq, Int.reduceBNe, Nat.reduceEqDiff, hnl, hnc, hpc, htk, aCells]
      (refine vk_callR rfl ⟨_, .inl rfl, ho⟩ ?_; simp (maxSteps := 4000000) (disch := omega) only [EW, Nat.reduceBEq, reduceIte, Nat.reduceAdd, Nat.reduceLeDiff, Nat.reduceLT, Nat.reduceSub, Nat.reduceMul, reduceCtorEq, Int.reduceNeg, Int.reduceSub, Int.reduceAdd, Int.reduceLE, Int.reduceLT, Int.reduceMul, Int.reduceToNat, Int.reduceEq, Int.reduceBEq, Int.reduceBNe, Nat.reduceEqDiff, hnf, hmf, hms])
      refine hfin _ ?_
      exact ⟨[some 0, some 1, some 2, some 3, some 4], rfl, rfl, rfl, rfl, ⟨.ptr rfl, .ptr rfl, trivial⟩, ⟨⟨_, rfl, .box (.cons (.mapr rfl) (.cons (.same _ rfl) (.cons (.same _ rfl) (.cons (.same _ rfl) (.cons (.same _ rfl) (.cons (.same _ rfl) (.cons (.same _ rfl) (.cons (.same _ rfl) (.cons (.same _ rfl) .nil)))))))))⟩, ⟨⟨_, rfl, .map (SubE.refl _)⟩, ⟨⟨_, rfl, .map (SubE.refl _)⟩, ⟨⟨_, rfl, .box (.cons (.mapr rfl) (.cons (.same _ rfl) (.cons (.same _ rfl) (.cons (.same _ rfl) (.cons (.same _ rfl) (.cons (.same _ rfl) (.cons (.same _ rfl) (.cons (.same _ rfl) (.cons (.same _ rfl) .nil)))))))))⟩, ⟨⟨_, rfl, .miter rfl⟩, trivial⟩⟩⟩⟩⟩⟩
end Go.Proofs.VL

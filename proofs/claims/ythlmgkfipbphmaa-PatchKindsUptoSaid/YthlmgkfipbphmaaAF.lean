/- Contracts of functions of the program, for what calls them, and the law that its name tells. -/
import Derived.Test.YthlmgkfipbphmaaAE
namespace Go.Proofs.VL
open Go Go.RowKit
set_option maxRecDepth 100000
set_option maxHeartbeats 4000000
set_option linter.unusedSimpArgs false
set_option linter.unusedVariables false
attribute [local irreducible] vwp vk

def dropA (A : Ar) (x : Nd) : Ar := { A with es := delN x.id A.es, l := A.l.set x.owner.toNat (A.l.get x.owner.toNat - 1) }
/-- What Free comes to (with so many rounds). -/
def freeF : Nat → Ar → Int → Ar × Int
  | 0, A, _ => (A, 0)
  | f + 1, A, id => if id = 0 then (A, 0) else match getN A.es id with
    | none => (A, 0)
    | some x => x.kids.foldl (fun p k => ((freeF f p.1 k).1, p.2 + (freeF f p.1 k).2)) (dropA A x, 1)
def Q4r.low (m : Int) (q : Q4r) : Prop := (m ≤ q.a ∧ q.a ≤ 1000000000) ∧ (m ≤ q.b ∧ q.b ≤ 1000000000) ∧ (m ≤ q.c ∧ q.c ≤ 1000000000) ∧ m ≤ q.d ∧ q.d ≤ 1000000000
structure FOk (A : Ar) : Prop where
  own : ∀ e ∈ A.es, 0 ≤ e.2.owner ∧ e.2.owner < 4 ∧ e.2.kids.length ≤ 100000000
  low : A.l.low (-1000000000 + A.es.length)
  len : A.es.length ≤ 100000000

theorem getN_mem : ∀ {es : Ents} {i : Int} {n : Nd}, getN es i = some n → ∃ e ∈ es, e.2 = n
  | e :: es, i, n, h => by
    unfold getN at h
    split at h
    · simp only [Option.some.injEq] at h
      exact ⟨e, by simp, h⟩
    · obtain ⟨q, h1, h2⟩ := getN_mem h
      exact ⟨q, by simp [h1], h2⟩
theorem delN_length : ∀ {es : Ents} {i : Int} {n : Nd}, getN es i = some n → (delN i es).length + 1 = es.length
  | e :: es, i, n, h => by
    unfold getN at h
    unfold delN
    split at h
    · rename_i hi; rw [if_pos hi]; rfl
    · rename_i hi; rw [if_neg hi]; simp only [List.length_cons]; have := delN_length h; omega
theorem delN_sub : ∀ (es : Ents) (i : Int), ∀ e ∈ delN i es, e ∈ es
  | [], i, e, h => by simp [delN] at h
  | x :: es, i, e, h => by
    unfold delN at h
    split at h
    · exact List.mem_cons_of_mem _ h
    · rcases List.mem_cons.1 h with rfl | h
      · simp
      · exact List.mem_cons_of_mem _ (delN_sub es i e h)
theorem dropA_ok {A : Ar} {x : Nd} {id : Int} (h : FOk A) (hg : getN A.es id = some x) : FOk (dropA A x) ∧ (dropA A x).es.length + 1 = A.es.length := by
  have hid := getN_id hg
  have hl := delN_length hg
  have hl' : (dropA A x).es.length + 1 = A.es.length := by unfold dropA; rw [hid]; exact hl
  refine ⟨⟨fun e he => h.own e (delN_sub _ _ e he), ?_, by have := h.len; omega⟩, hl'⟩
  obtain ⟨e, he, rfl⟩ := getN_mem hg
  have ho := h.own e he
  obtain ⟨⟨a1, a2⟩, ⟨b1, b2⟩, ⟨c1, c2⟩, d1, d2⟩ := h.low
  have hq : ((dropA A e.2).es.length : Int) = A.es.length - 1 := by omega
  unfold Q4r.low
  rw [hq]
  obtain ⟨o', ho'⟩ : ∃ o' : Nat, e.2.owner = o' := ⟨e.2.owner.toNat, by omega⟩
  have hl0 : (dropA A e.2).l = A.l.set o' (A.l.get o' - 1) := by unfold dropA; rw [ho', Int.toNat_natCast]
  rw [hl0]
  obtain rfl | rfl | rfl | rfl : o' = 0 ∨ o' = 1 ∨ o' = 2 ∨ o' = 3 := by omega
  all_goals
    simp only [Q4r.set, Q4r.get]
    omega
theorem free_ok : ∀ (f : Nat) (A : Ar) (id : Int), FOk A → FOk (freeF f A id).1 ∧ ((freeF f A id).1.es.length : Int) + (freeF f A id).2 = A.es.length ∧ 0 ≤ (freeF f A id).2
  | 0, A, id, h => ⟨h, by simp [freeF], by simp [freeF]⟩
  | f + 1, A, id, h => by
    have fold : ∀ (ks : List Int) (p : Ar × Int), FOk p.1 → FOk (ks.foldl (fun p k => ((freeF f p.1 k).1, p.2 + (freeF f p.1 k).2)) p).1 ∧ ((ks.foldl (fun p k => ((freeF f p.1 k).1, p.2 + (freeF f p.1 k).2)) p).1.es.length : Int) + (ks.foldl (fun p k => ((freeF f p.1 k).1, p.2 + (freeF f p.1 k).2)) p).2 = p.1.es.length + p.2 ∧ p.2 ≤ (ks.foldl (fun p k => ((freeF f p.1 k).1, p.2 + (freeF f p.1 k).2)) p).2 := by
      intro ks
      induction ks with
      | nil => intro p hp; exact ⟨hp, rfl, Int.le_refl _⟩
      | cons k ks ih =>
        intro p hp
        obtain ⟨h1, h2, h3⟩ := free_ok f p.1 k hp
        obtain ⟨g1, g2, g3⟩ := ih ((freeF f p.1 k).1, p.2 + (freeF f p.1 k).2) h1
        exact ⟨g1, by simp only [List.foldl_cons]; rw [g2]; simp only; omega, by simp only [List.foldl_cons]; simp only at g3; omega⟩
    unfold freeF
    split
    · exact ⟨h, by simp, by simp⟩
    · split
      · exact ⟨h, by simp, by simp⟩
      · rename_i x hg
        obtain ⟨q1, q2⟩ := dropA_ok h hg
        obtain ⟨g1, g2, g3⟩ := fold x.kids (dropA A x, 1) q1
        exact ⟨g1, by rw [g2]; simp only; omega, by simp only at g3; omega⟩
/-- Kids, freed one by one. -/
def freeK (f : Nat) (p : Ar × Int) (ks : List Int) : Ar × Int := ks.foldl (fun p k => ((freeF f p.1 k).1, p.2 + (freeF f p.1 k).2)) p
theorem freeK_snoc (f : Nat) (p : Ar × Int) (ks : List Int) (k : Int) : freeK f p (ks ++ [k]) = ((freeF f (freeK f p ks).1 k).1, (freeK f p ks).2 + (freeF f (freeK f p ks).1 k).2) := by simp [freeK]
theorem freeK_ok (f : Nat) : ∀ (ks : List Int) (p : Ar × Int), FOk p.1 → FOk (freeK f p ks).1 ∧ ((freeK f p ks).1.es.length : Int) + (freeK f p ks).2 = p.1.es.length + p.2 ∧ p.2 ≤ (freeK f p ks).2
  | [], p, hp => ⟨hp, rfl, Int.le_refl _⟩
  | k :: ks, p, hp => by
    obtain ⟨h1, h2, h3⟩ := free_ok f p.1 k hp
    obtain ⟨g1, g2, g3⟩ := freeK_ok f ks ((freeF f p.1 k).1, p.2 + (freeF f p.1 k).2) h1
    have e : freeK f p (k :: ks) = freeK f ((freeF f p.1 k).1, p.2 + (freeF f p.1 k).2) ks := rfl
    rw [e]
    exact ⟨g1, by rw [g2]; simp only; omega, by simp only at g3; omega⟩

theorem a_free : ∀ (f : Nat) (A : Ar) (id : Int), A.es.length < f → FOk A → VCall Try.prog 18 [.ptr 0 0, .int .i64 id] (aOb A) (.int .i64 (freeF f A id).2) (aOb (freeF f A id).1)
  | 0, A, id, hf, h => by omega
  | f + 1, A, id, hf, h => by
    have ih := a_free f
    refine VCall.intro ok18 (Nat.le_of_ble_eq_true rfl) (vk_start ?_)
    have h1 := a_has A id
    have hm := mfind_mV id A.es
    by_cases h0 : id = 0
    · subst h0
      have e : freeF (f + 1) A 0 = (A, 0) := by unfold freeF; rw [if_pos rfl]
      rw [e]
      cases hg : getN A.es 0 with
      | none =>
        rw [hg] at h1
        simp (maxSteps := 4000000) (disch := omega) only [EW, Nat.reduceBEq, reduceIte, Nat.reduceAdd, Nat.reduceLeDiff, Nat.reduceLT, Nat.reduceSub, Nat.reduceMul, reduceCtorEq, Int.reduceNeg, Int.reduceSub, Int.reduceAdd, Int.reduceLE, Int.reduceLT, Int.reduceMul, Int.reduceToNat, Int.reduceEq, Int.reduceBEq, Int.reduceBNe, Nat.reduceEqDiff, vc18, rs18]
        refine vk_call rfl h1 ?_
        simp (maxSteps := 4000000) (disch := omega) only [EW, Nat.reduceBEq, reduceIte, Nat.reduceAdd, Nat.reduceLeDiff, Nat.reduceLT, Nat.reduceSub, Nat.reduceMul, reduceCtorEq, Int.reduceNeg, Int.reduceSub, Int.reduceAdd, Int.reduceLE, Int.reduceLT, Int.reduceMul, Int.reduceToNat, Int.reduceEq, Int.reduceBEq, Int.reduceBNe, Nat.reduceEqDiff]
        exact ⟨_, rfl, ⟨[some 0, some 1], rfl, rfl, rfl, rfl, ⟨.same _ rfl, trivial⟩, ⟨⟨_, rfl, .box (.cons (.mapr rfl) (.cons (.same _ rfl) (.cons (.same _ rfl) (.cons (.same _ rfl) (.cons (.same _ rfl) (.cons (.same _ rfl) (.cons (.same _ rfl) (.cons (.same _ rfl) (.cons (.same _ rfl) .nil)))))))))⟩, ⟨⟨_, rfl, .map (SubE.refl _)⟩, trivial⟩⟩⟩⟩
      | some x =>
        rw [hg] at h1
        simp (maxSteps := 4000000) (disch := omega) only [EW, Nat.reduceBEq, reduceIte, Nat.reduceAdd, Nat.reduceLeDiff, Nat.reduceLT, Nat.reduceSub, Nat.reduceMul, reduceCtorEq, Int.reduceNeg, Int.reduceSub, Int.reduceAdd, Int.reduceLE, Int.reduceLT, Int.reduceMul, Int.reduceToNat, Int.reduceEq, Int.reduceBEq, Int.reduceBNe, Nat.reduceEqDiff, vc18, rs18]
        refine vk_call rfl h1 ?_
        simp (maxSteps := 4000000) (disch := omega) only [EW, Nat.reduceBEq, reduceIte, Nat.reduceAdd, Nat.reduceLeDiff, Nat.reduceLT, Nat.reduceSub, Nat.reduceMul, reduceCtorEq, Int.reduceNeg, Int.reduceSub, Int.reduceAdd, Int.reduceLE, Int.reduceLT, Int.reduceMul, Int.reduceToNat, Int.reduceEq, Int.reduceBEq, Int.reduceBNe, Nat.reduceEqDiff]
        exact ⟨_, rfl, ⟨[some 0, some 1], rfl, rfl, rfl, rfl, ⟨.same _ rfl, trivial⟩, ⟨⟨_, rfl, .box (.cons (.mapr rfl) (.cons (.same _ rfl) (.cons (.same _ rfl) (.cons (.same _ rfl) (.cons (.same _ rfl) (.cons (.same _ rfl) (.cons (.same _ rfl) (.cons (.same _ rfl) (.cons (.same _ rfl) .nil)))))))))⟩, ⟨⟨_, rfl, .map (SubE.refl _)⟩, trivial⟩⟩⟩⟩
    · cases hg : getN A.es id with
      | none =>
        rw [hg] at h1
        have e : freeF (f + 1) A id = (A, 0) := by unfold freeF; rw [if_neg h0, hg]
        rw [e]
        simp (maxSteps := 4000000) (disch := omega) only [EW, Nat.reduceBEq, reduceIte, Nat.reduceAdd, Nat.reduceLeDiff, Nat.reduceLT, Nat.reduceSub, Nat.reduceMul, reduceCtorEq, Int.reduceNeg, Int.reduceSub, Int.reduceAdd, Int.reduceLE, Int.reduceLT, Int.reduceMul, Int.reduceToNat, Int.reduceEq, Int.reduceBEq, Int.reduceBNe, Nat.reduceEqDiff, vc18, rs18]
        refine vk_call rfl h1 ?_
        simp (maxSteps := 4000000) (disch := omega) only [EW, Nat.reduceBEq, reduceIte, Nat.reduceAdd, Nat.reduceLeDiff, Nat.reduceLT, Nat.reduceSub, Nat.reduceMul, reduceCtorEq, Int.reduceNeg, Int.reduceSub, Int.reduceAdd, Int.reduceLE, Int.reduceLT, Int.reduceMul, Int.reduceToNat, Int.reduceEq, Int.reduceBEq, Int.reduceBNe, Nat.reduceEqDiff]
        exact ⟨_, rfl, ⟨[some 0, some 1], rfl, rfl, rfl, rfl, ⟨.same _ rfl, trivial⟩, ⟨⟨_, rfl, .box (.cons (.mapr rfl) (.cons (.same _ rfl) (.cons (.same _ rfl) (.cons (.same _ rfl) (.cons (.same _ rfl) (.cons (.same _ rfl) (.cons (.same _ rfl) (.cons (.same _ rfl) (.cons (.same _ rfl) .nil)))))))))⟩, ⟨⟨_, rfl, .map (SubE.refl _)⟩, trivial⟩⟩⟩⟩
      | some x =>
        rw [hg] at h1 hm
        simp only [Option.map_some] at hm
        have e : freeF (f + 1) A id = freeK f (dropA A x, 1) x.kids := by unfold freeF freeK; rw [if_neg h0, hg]
        rw [e]
        obtain ⟨q1, q2⟩ := dropA_ok h hg
        have hid := getN_id hg
        obtain ⟨en, hen, hex⟩ := getN_mem hg
        have ho := h.own en hen
        rw [hex] at ho
        have hlow := h.low
        have hdel := mdel_mV id A.es
        obtain ⟨o', ho'⟩ : ∃ o' : Nat, x.owner = o' := ⟨x.owner.toNat, by omega⟩
        have hd : dropA A x = { A with es := delN id A.es, l := A.l.set o' (A.l.get o' - 1) } := by unfold dropA; rw [hid, ho', Int.toNat_natCast]
        have hkl := iRows_length x.kids
        obtain ⟨⟨a1, a2⟩, ⟨b1, b2⟩, ⟨c1, c2⟩, d1, d2⟩ := hlow
        have hlen := h.len
        obtain rfl | rfl | rfl | rfl : o' = 0 ∨ o' = 1 ∨ o' = 2 ∨ o' = 3 := by omega
        all_goals
          simp (maxSteps := 4000000) (disch := omega) only [EW, Nat.reduceBEq, reduceIte, Nat.reduceAdd, Nat.reduceLeDiff, Nat.reduceLT, Nat.reduceSub, Nat.reduceMul, reduceCtorEq, Int.reduceNeg, Int.reduceSub, Int.reduceAdd, Int.reduceLE, Int.reduceLT, Int.reduceMul, Int.reduceToNat, Int.reduceEq, Int.reduceBEq, Int.reduceBNe, Nat.reduceEqDiff, vc18, rs18]
          refine vk_call rfl h1 ?_
          simp (maxSteps := 4000000) (disch := omega) only [EW, Nat.reduceBEq, reduceIte, Nat.reduceAdd, Nat.reduceLeDiff, Nat.reduceLT, Nat.reduceSub, Nat.reduceMul, reduceCtorEq, Int.reduceNeg, Int.reduceSub, Int.reduceAdd, Int.reduceLE, Int.reduceLT, Int.reduceMul, Int.reduceToNat, Int.reduceEq, Int.reduceBEq, Int.reduceBNe, Nat.reduceEqDiff, aOb, aCells, hm, nCells, hdel, ho', hkl]
          refine vk_loopR (γ := Nat) (fun j => { tm := [(0, .ptr 0 0), (6, .int .i64 (freeK f (dropA A x, 1) (x.kids.take j)).2), (40, .sl 1 (iRows x.kids)), (41, .int .i64 x.kids.length), (42, .int .i64 j)], ob := [some (.box (aCells 1 (freeK f (dropA A x, 1) (x.kids.take j)).1)), some (.map (mV (freeK f (dropA A x, 1) (x.kids.take j)).1.es) (freeK f (dropA A x, 1) (x.kids.take j)).1.clock)], base := 2 })
            (fun j => j ≤ x.kids.length) (fun j => x.kids.length - j) 0 (Nat.zero_le _) ?_ ?_
          · have e0 : freeK f (dropA A x, 1) (x.kids.take 0) = (dropA A x, 1) := by rw [List.take_zero]; rfl
            rw [e0, hd]
            exact ⟨[some 0, some 1], rfl, rfl, rfl, rfl, ⟨.ptr rfl, .same _ rfl, .same _ rfl, .same _ rfl, .same _ rfl, trivial⟩, ⟨⟨_, rfl, .box (.cons (.mapr rfl) (.cons (.same _ rfl) (.cons (.same _ rfl) (.cons (.same _ rfl) (.cons (.same _ rfl) (.cons (.same _ rfl) (.cons (.same _ rfl) (.cons (.same _ rfl) (.cons (.same _ rfl) .nil)))))))))⟩, ⟨⟨_, rfl, .map (SubE.refl _)⟩, trivial⟩⟩⟩
          · rintro j hj R hN hE hR
            rcases Nat.lt_or_ge j x.kids.length with hlt | hge
            · obtain ⟨k, hk⟩ : ∃ k, x.kids[j]? = some k := ⟨_, List.getElem?_eq_getElem hlt⟩
              have hrow : (iRows x.kids)[j]? = some [.int .i64 k] := by simp [iRows, hk]
              have htk : x.kids.take (j + 1) = x.kids.take j ++ [k] := by rw [List.take_add_one, hk]; rfl
              have hfin := fun s' hs => hN s' (j + 1) hlt (by omega) hs
              simp only [htk, freeK_snoc] at hfin
              obtain ⟨g1, g2, g3⟩ := freeK_ok f (x.kids.take j) (dropA A x, 1) q1
              generalize freeK f (dropA A x, 1) (x.kids.take j) = p at *
              obtain ⟨B, n⟩ := p
              simp only at g1 g2 g3 hfin
              have hc := ih B k (by omega) g1
              obtain ⟨r1, r2, r3⟩ := free_ok f B k g1
              generalize freeF f B k = r at *
              obtain ⟨B', m⟩ := r
              simp only at r1 r2 r3 hc hfin
              clear hN
              simp (maxSteps := 4000000) (disch := omega) only [EW, Nat.reduceBEq, reduceIte, Nat.reduceAdd, Nat.reduceLeDiff, Nat.reduceLT, Nat.reduceSub, Nat.reduceMul, reduceCtorEq, Int.reduceNeg, Int.reduceSub, Int.reduceAdd, Int.reduceLE, Int.reduceLT, Int.reduceMul, Int.reduceToNat, Int.reduceEq, Int.reduceBEq, Int.reduceBNe, Nat.reduceEqDiff, hrow, hkl]
              refine vk_call rfl hc ?_
              simp (maxSteps := 4000000) (disch := omega) only [EW, Nat.reduceBEq, reduceIte, Nat.reduceAdd, Nat.reduceLeDiff, Nat.reduceLT, Nat.reduceSub, Nat.reduceMul, reduceCtorEq, Int.reduceNeg, Int.reduceSub, Int.reduceAdd, Int.reduceLE, Int.reduceLT, Int.reduceMul, Int.reduceToNat, Int.reduceEq, Int.reduceBEq, Int.reduceBNe, Nat.reduceEqDiff]
              refine hfin _ ?_
              exact ⟨[some 0, some 1], rfl, rfl, rfl, rfl, ⟨.ptr rfl, .same _ rfl, .same _ rfl, .same _ rfl, .same _ rfl, trivial⟩, ⟨⟨_, rfl, .box (.cons (.mapr rfl) (.cons (.same _ rfl) (.cons (.same _ rfl) (.cons (.same _ rfl) (.cons (.same _ rfl) (.cons (.same _ rfl) (.cons (.same _ rfl) (.cons (.same _ rfl) (.cons (.same _ rfl) .nil)))))))))⟩, ⟨⟨_, rfl, .map (SubE.refl _)⟩, trivial⟩⟩⟩
            · have e2 : j = x.kids.length := by omega
              subst e2
              rw [List.take_length]
              clear hN
              simp (maxSteps := 4000000) (disch := omega) only [EW, Nat.reduceBEq, reduceIte, Nat.reduceAdd, Nat.reduceLeDiff, Nat.reduceLT, Nat.reduceSub, Nat.reduceMul, reduceCtorEq, Int.reduceNeg, Int.reduceSub, Int.reduceAdd, Int.reduceLE, Int.reduceLT, Int.reduceMul, Int.reduceToNat, Int.reduceEq, Int.reduceBEq, Int.reduceBNe, Nat.reduceEqDiff, hkl]
              refine hE _ _ ?_
              clear hE hR
              simp (maxSteps := 4000000) (disch := omega) only [EW, Nat.reduceBEq, reduceIte, Nat.reduceAdd, Nat.reduceLeDiff, Nat.reduceLT, Nat.reduceSub, Nat.reduceMul, reduceCtorEq, Int.reduceNeg, Int.reduceSub, Int.reduceAdd, Int.reduceLE, Int.reduceLT, Int.reduceMul, Int.reduceToNat, Int.reduceEq, Int.reduceBEq, Int.reduceBNe, Nat.reduceEqDiff]
              exact ⟨_, rfl, ⟨[some 0, some 1], rfl, rfl, rfl, rfl, ⟨.same _ rfl, trivial⟩, ⟨⟨_, rfl, .box (.cons (.mapr rfl) (.cons (.same _ rfl) (.cons (.same _ rfl) (.cons (.same _ rfl) (.cons (.same _ rfl) (.cons (.same _ rfl) (.cons (.same _ rfl) (.cons (.same _ rfl) (.cons (.same _ rfl) .nil)))))))))⟩, ⟨⟨_, rfl, .map (SubE.refl _)⟩, trivial⟩⟩⟩⟩
end Go.Proofs.VL

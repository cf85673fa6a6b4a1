/- Contracts of functions of the program, for what calls them, and the law that its name tells. -/
import Derived.Test.YtdhfnmbbdcpnbaaDV
namespace Go.Proofs.VL
open Go Go.RowKit
set_option maxRecDepth 100000
set_option maxHeartbeats 4000000
set_option linter.unusedSimpArgs false
set_option linter.unusedVariables false
attribute [local irreducible] vwp vk

/-- What holds of codes with their stamps. -/
structure CodesOk (es : List (Nat × Int)) (clock : Nat) : Prop where
  st : ∀ e ∈ es, e.1 < clock
  sn : (es.map (·.1)).Nodup
  kn : (es.map (·.2)).Nodup

theorem CodesOk.nil : CodesOk [] 0 := ⟨by simp, by simp, by simp⟩
theorem CodesOk.add {es : List (Nat × Int)} {clock : Nat} (h : CodesOk es clock) (c : Int) : CodesOk (addK es clock c).1 (addK es clock c).2 := by
  unfold addK
  split
  · exact h
  · rename_i hn
    refine ⟨?_, ?_, ?_⟩
    · intro e he
      rcases List.mem_append.1 he with he | he
      · have := h.st e he; show e.1 < clock + 1; omega
      · simp at he; subst he; show clock < clock + 1; omega
    · rw [List.map_append, List.nodup_append]
      refine ⟨h.sn, by simp, ?_⟩
      intro a ha b hb
      obtain ⟨e, he, rfl⟩ := List.mem_map.1 ha
      simp at hb
      have := h.st e he
      omega
    · rw [List.map_append, List.nodup_append]
      refine ⟨h.kn, by simp, ?_⟩
      intro a ha b hb
      simp at hb
      subst hb
      exact fun e => hn (e ▸ ha)
theorem addK_mem (es : List (Nat × Int)) (clock : Nat) (c x : Int) : x ∈ (addK es clock c).1.map (·.2) ↔ x ∈ es.map (·.2) ∨ x = c := by
  unfold addK
  split
  · rename_i h
    constructor
    · exact .inl
    · rintro (h1 | rfl)
      · exact h1
      · exact h
  · simp

def leftC (L es : List (Nat × Int)) : List (Nat × Int) := es.filter fun e => !(L.map (·.1)).contains e.1
theorem left_cV (L es : List (Nat × Int)) : ((cV es).filter fun e => !(L.map (·.1)).contains e.1) = cV (leftC L es) := by
  unfold cV leftC
  rw [List.filter_map]
  rfl
theorem cV_stamps {es : List (Nat × Int)} {clock : Nat} (h : CodesOk es clock) : ((cV es).all fun e => decide (e.1 < clock)) = true := by
  rw [List.all_eq_true]
  intro e he
  obtain ⟨q, hq, rfl⟩ := List.mem_map.1 he
  simpa using h.st q hq
theorem find_cV : ∀ {es : List (Nat × Int)}, (es.map (·.1)).Nodup → ∀ {q : Nat × Int}, q ∈ es → (cV es).find? (fun e => e.1 == q.1) = some (q.1, .int .i64 q.2, .bool true)
  | e :: es, hn, q, hq => by
    unfold cV
    rw [List.map_cons, List.find?_cons]
    rw [List.map_cons, List.nodup_cons] at hn
    rcases List.mem_cons.1 hq with rfl | hq
    · simp
    · have : (e.1 == q.1) = false := by
        rw [beq_eq_false_iff_ne]
        intro he
        exact hn.1 (he ▸ List.mem_map.2 ⟨q, hq, rfl⟩)
      simp only [this]
      exact find_cV hn.2 hq
theorem leftC_less {L es : List (Nat × Int)} {q : Nat × Int} (hq : q ∈ leftC L es) : (leftC (L ++ [q]) es).length < (leftC L es).length := by
  have h1 : leftC (L ++ [q]) es = (leftC L es).filter fun e => !(e.1 == q.1) := by
    unfold leftC
    rw [List.filter_filter]
    congr 1
    funext e
    rw [Bool.eq_iff_iff]
    simp [and_comm, or_comm]
  rw [h1]
  have h2 := List.length_filter_lt_length_iff_exists (p := fun e : Nat × Int => !(e.1 == q.1)) (l := leftC L es)
  exact h2.2 ⟨q, hq, by simp⟩

theorem inj_map {α β : Type} {f : α → β} : ∀ {l : List α}, (l.map f).Nodup → ∀ {a b : α}, a ∈ l → b ∈ l → f a = f b → a = b
  | x :: l, h, a, b, ha, hb, he => by
    rw [List.map_cons, List.nodup_cons] at h
    rcases List.mem_cons.1 ha with h1 | h1
    · rcases List.mem_cons.1 hb with h2 | h2
      · rw [h1, h2]
      · rw [h1] at he; exact absurd (List.mem_map.2 ⟨b, h2, he.symm⟩) h.1
    · rcases List.mem_cons.1 hb with h2 | h2
      · rw [h2] at he; exact absurd (List.mem_map.2 ⟨a, h1, he⟩) h.1
      · exact inj_map h.2 h1 h2 he
theorem nodup_le {α : Type} [DecidableEq α] : ∀ {L M : List α}, L.Nodup → (∀ e ∈ L, e ∈ M) → L.length ≤ M.length
  | [], M, _, _ => Nat.zero_le _
  | a :: L, M, h, hm => by
    rw [List.nodup_cons] at h
    have h1 := nodup_le (M := M.erase a) h.2 (fun e he => (List.mem_erase_of_ne (fun e1 : e = a => h.1 (by rw [← e1]; exact he))).2 (hm e (by simp [he])))
    have h2 := List.length_erase_of_mem (hm a (by simp))
    have h3 := List.length_pos_of_mem (hm a (by simp))
    simp only [List.length_cons]
    omega

theorem sort_origs {out cs : List Int} (hnd : out.Nodup) (hm : ∀ x, x ∈ out ↔ x ∈ cs) : (out.mergeSort fun x y => decide (x ≤ y)) = origs cs := by
  obtain ⟨h3, h4⟩ := origs_facts cs
  have hp := List.mergeSort_perm out (fun x y => decide (x ≤ y))
  refine eq_of_mem _ _ ?_ h3 fun x => by rw [List.mem_mergeSort, h4, hm]
  have h1 := sorted_le out
  have h2 : (out.mergeSort fun x y => decide (x ≤ y)).Nodup := hp.nodup_iff.2 hnd
  exact (h1.and h2).imp (by rintro a b ⟨h5, h6⟩; omega)

theorem sort_enter : Enter Try.prog 58 := ⟨_, Try.func58, by kernel_rfl, by kernel_rfl⟩
theorem sortK (e : Nat) (zs : List Int) (hsz : zs.length ≤ 4000000000) :
    VCall Try.prog 58 [.ref 0 zs.length] [some (.arr e 1 (irows zs))] (.tup []) [some (.arr e 1 (irows (zs.mergeSort fun x y => decide (x ≤ y))))] := sort_call (P := Try.prog) laySort sort_enter e zs hsz
theorem sort_at (e : Nat) (zs : List Int) (hsz : zs.length ≤ 4000000000) (B : List (Option VObj)) (k : Nat) (hk : B[k]? = some (some (.arr e 1 (irows zs)))) {n : Nat} (hn : n = zs.length) :
    VCall Try.prog 58 [.ref k n] B (.tup []) (B.set k (some (.arr e 1 (irows (zs.mergeSort fun x y => decide (x ≤ y)))))) := by
  subst hn
  have := VCall.frame (sortK e zs hsz) [k] B ⟨rfl, by simp, fun i j h => by
    cases i with
    | zero => simp at h; subst h; exact ⟨(List.getElem?_eq_some_iff.1 hk).1, fun o' ho => by simp at ho; subst ho; exact hk⟩
    | succ i => simp at h⟩ rfl rfl rfl rfl (by simp)
  simpa [putObs, renO, nameOf, renL, renV] using this

theorem st_codes (n0 n1 n2 n3 n4 : Int) (es : List (Nat × Int)) (clock : Nat) (hes : CodesOk es clock) (hl : es.length ≤ 2000000000) (dn cm : Int) (cs : List Int) (hcs : ∀ x, x ∈ es.map (·.2) ↔ x ∈ cs) :
    VCall Try.prog 19 [.ptr 0 0] [some (.box (stC n0 n1 n2 n3 n4 (.mapr 1) dn 0 cm)), some (.map (cV es) clock)] (.ref 2 (origs cs).length) [some (.box (stC n0 n1 n2 n3 n4 (.mapr 1) dn 0 cm)), some (.map (cV es) clock), some (.arr 3 1 (irows (origs cs)))] := by
  refine VCall.introD ok19 (Nat.le_of_ble_eq_true rfl) ?_
  unfold dc19
  refine d_seq (d_vc ?_)
  simp (maxSteps := 4000000) (disch := omega) only [EW, Nat.reduceBEq, reduceIte, Nat.reduceAdd, Nat.reduceLeDiff, Nat.reduceLT, Nat.reduceSub, Nat.reduceMul, reduceCtorEq, Int.reduceNeg, Int.reduceSub, Int.reduceAdd, Int.reduceLE, Int.reduceLT, Int.reduceMul, Int.reduceToNat, Int.reduceEq, Int.reduceBEq, Int.reduceBNe, Nat.reduceEqDiff, St.up, d19a, St.init]
  refine d_seq (d_vc ?_)
  simp (maxSteps := 4000000) (disch := omega) only [EW, Nat.reduceBEq, reduceIte, Nat.reduceAdd, Nat.reduceLeDiff, Nat.reduceLT, Nat.reduceSub, Nat.reduceMul, reduceCtorEq, Int.reduceNeg, Int.reduceSub, Int.reduceAdd, Int.reduceLE, Int.reduceLT, Int.reduceMul, Int.reduceToNat, Int.reduceEq, Int.reduceBEq, Int.reduceBNe, Nat.reduceEqDiff, St.up, d19b]
  refine vk_call rfl (st_is rfl) ?_
  simp (maxSteps := 4000000) (disch := omega) only [EW, Nat.reduceBEq, reduceIte, Nat.reduceAdd, Nat.reduceLeDiff, Nat.reduceLT, Nat.reduceSub, Nat.reduceMul, reduceCtorEq, Int.reduceNeg, Int.reduceSub, Int.reduceAdd, Int.reduceLE, Int.reduceLT, Int.reduceMul, Int.reduceToNat, Int.reduceEq, Int.reduceBEq, Int.reduceBNe, Nat.reduceEqDiff]
  refine d_seq (d_vc ?_)
  simp (maxSteps := 4000000) (disch := omega) only [EW, Nat.reduceBEq, reduceIte, Nat.reduceAdd, Nat.reduceLeDiff, Nat.reduceLT, Nat.reduceSub, Nat.reduceMul, reduceCtorEq, Int.reduceNeg, Int.reduceSub, Int.reduceAdd, Int.reduceLE, Int.reduceLT, Int.reduceMul, Int.reduceToNat, Int.reduceEq, Int.reduceBEq, Int.reduceBNe, Nat.reduceEqDiff, St.up, d19c, stC]
  refine vk_call rfl (lockC rfl rfl) ?_
  simp (maxSteps := 4000000) (disch := omega) only [EW, Nat.reduceBEq, reduceIte, Nat.reduceAdd, Nat.reduceLeDiff, Nat.reduceLT, Nat.reduceSub, Nat.reduceMul, reduceCtorEq, Int.reduceNeg, Int.reduceSub, Int.reduceAdd, Int.reduceLE, Int.reduceLT, Int.reduceMul, Int.reduceToNat, Int.reduceEq, Int.reduceBEq, Int.reduceBNe, Nat.reduceEqDiff]
  unfold d19d
  refine d_seq (d_dfr ?_)
  simp (maxSteps := 4000000) (disch := omega) only [EW, Nat.reduceBEq, reduceIte, Nat.reduceAdd, Nat.reduceLeDiff, Nat.reduceLT, Nat.reduceSub, Nat.reduceMul, reduceCtorEq, Int.reduceNeg, Int.reduceSub, Int.reduceAdd, Int.reduceLE, Int.reduceLT, Int.reduceMul, Int.reduceToNat, Int.reduceEq, Int.reduceBEq, Int.reduceBNe, Nat.reduceEqDiff, St.up]
  refine ⟨_, rfl, d_vc ?_⟩
  simp (maxSteps := 4000000) (disch := omega) only [EW, Nat.reduceBEq, reduceIte, Nat.reduceAdd, Nat.reduceLeDiff, Nat.reduceLT, Nat.reduceSub, Nat.reduceMul, reduceCtorEq, Int.reduceNeg, Int.reduceSub, Int.reduceAdd, Int.reduceLE, Int.reduceLT, Int.reduceMul, Int.reduceToNat, Int.reduceEq, Int.reduceBEq, Int.reduceBNe, Nat.reduceEqDiff, St.up, d19e]
  refine vk_loopR (γ := List (Nat × Int)) (fun L => { tm := [(3, .ref 3 (L.map (·.2)).length), (19, .ptr 2 0)], ob := [some (.box [.int .i64 n0, .int .i64 n1, .int .i64 n2, .int .i64 n3, .int .i64 n4, .int .i32 1, .int .u32 0, .mapr 1, .int .u32 dn, .int .i32 0, .int .u32 0, .int .i64 cm]), some (.map (cV es) clock), some (.miter (some 1) clock (L.map (·.1)) clock), some (.arr 3 1 (irows (L.map (·.2))))], base := 2 })
    (fun L => L.Nodup ∧ ∀ e ∈ L, e ∈ es) (fun L => (leftC L es).length) [] ⟨by simp, by simp⟩ ?_ ?_
  · exact ⟨[some 0, some 1, some 2, none], rfl, rfl, rfl, rfl, ⟨.nref rfl, .ptr rfl, trivial⟩, ⟨⟨_, rfl, .box (.cons (.same _ rfl) (.cons (.same _ rfl) (.cons (.same _ rfl) (.cons (.same _ rfl) (.cons (.same _ rfl) (.cons (.same _ rfl) (.cons (.same _ rfl) (.cons (.mapr rfl) (.cons (.same _ rfl) (.cons (.same _ rfl) (.cons (.same _ rfl) (.cons (.same _ rfl) .nil))))))))))))⟩, ⟨⟨_, rfl, .map (SubE.refl _)⟩, ⟨⟨_, rfl, .miter rfl⟩, ⟨⟨_, _, rfl⟩, trivial⟩⟩⟩⟩⟩
  · rintro L ⟨hLn, hLe⟩ R hN hE hR
    have hleft := left_cV L es
    have hst := cV_stamps hes
    have hLl : L.length ≤ es.length := nodup_le hLn hLe
    cases hlf : leftC L es with
    | nil =>
      rw [hlf] at hleft
      have hall : ∀ e ∈ es, e ∈ L := by
        intro e he
        have h1 : (L.map (·.1)).contains e.1 = true := by
          cases hc : (L.map (·.1)).contains e.1 with
          | true => rfl
          | false =>
            have : e ∈ leftC L es := List.mem_filter.2 ⟨he, by rw [hc]; rfl⟩
            rw [hlf] at this; simp at this
        rw [List.contains_iff_mem] at h1
        obtain ⟨e', he', h2⟩ := List.mem_map.1 h1
        have : e' = e := inj_map hes.sn (hLe e' he') he h2
        exact this ▸ he'
      have hn : ∀ (ρ : X → V) (x : X) (ob : List (Option VObj)), ρ x = .ptr 2 0 → ob[2]? = some (some (.miter (some 1) clock (L.map (·.1)) clock)) → ob[1]? = some (some (.map (cV es) clock)) → nxtV ρ ob x = some [(.tup [.bool false], ob)] := by
        intro ρ x ob h1 h2 h3
        unfold nxtV
        simp only [h1, h2, h3]
        rw [if_pos ⟨hst, Nat.le_refl _⟩, hleft]
        rfl
      have hon : (L.map (·.2)).Nodup := by
        rw [List.nodup_iff_pairwise_ne, List.pairwise_map]
        refine List.Pairwise.imp_of_mem ?_ hLn
        intro a b ha hb hab he
        exact hab (inj_map hes.kn (hLe a ha) (hLe b hb) he)
      have hom : ∀ x, x ∈ L.map (·.2) ↔ x ∈ cs := by
        intro x
        rw [← hcs]
        constructor
        · intro hx; obtain ⟨e, he, rfl⟩ := List.mem_map.1 hx; exact List.mem_map.2 ⟨e, hLe e he, rfl⟩
        · intro hx; obtain ⟨e, he, rfl⟩ := List.mem_map.1 hx; exact List.mem_map.2 ⟨e, hall e he, rfl⟩
      have hso := sort_origs hon hom
      have hsl : (origs cs).length = (L.map (·.2)).length := by rw [← hso]; exact List.length_mergeSort _
      clear hN
      simp (maxSteps := 4000000) (disch := omega) only [EW, Nat.reduceBEq, reduceIte, Nat.reduceAdd, Nat.reduceLeDiff, Nat.reduceLT, Nat.reduceSub, Nat.reduceMul, reduceCtorEq, Int.reduceNeg, Int.reduceSub, Int.reduceAdd, Int.reduceLE, Int.reduceLT, Int.reduceMul, Int.reduceToNat, Int.reduceEq, Int.reduceBEq, Int.reduceBNe, Nat.reduceEqDiff]
      refine vk_nxt (hn _ _ _ rfl rfl rfl) ?_
      rintro p hp
      rw [List.mem_singleton] at hp
      subst hp
      simp (maxSteps := 4000000) (disch := omega) only [EW, Nat.reduceBEq, reduceIte, Nat.reduceAdd, Nat.reduceLeDiff, Nat.reduceLT, Nat.reduceSub, Nat.reduceMul, reduceCtorEq, Int.reduceNeg, Int.reduceSub, Int.reduceAdd, Int.reduceLE, Int.reduceLT, Int.reduceMul, Int.reduceToNat, Int.reduceEq, Int.reduceBEq, Int.reduceBNe, Nat.reduceEqDiff]
      refine hE _ _ ?_
      clear hE hR
      simp (maxSteps := 4000000) (disch := omega) only [EW, Nat.reduceBEq, reduceIte, Nat.reduceAdd, Nat.reduceLeDiff, Nat.reduceLT, Nat.reduceSub, Nat.reduceMul, reduceCtorEq, Int.reduceNeg, Int.reduceSub, Int.reduceAdd, Int.reduceLE, Int.reduceLT, Int.reduceMul, Int.reduceToNat, Int.reduceEq, Int.reduceBEq, Int.reduceBNe, Nat.reduceEqDiff]
      refine vk_call rfl (sort_at 3 (L.map (·.2)) (by simp; omega) _ 3 rfl (by simp)) ?_
      simp (maxSteps := 4000000) (disch := omega) only [EW, Nat.reduceBEq, reduceIte, Nat.reduceAdd, Nat.reduceLeDiff, Nat.reduceLT, Nat.reduceSub, Nat.reduceMul, reduceCtorEq, Int.reduceNeg, Int.reduceSub, Int.reduceAdd, Int.reduceLE, Int.reduceLT, Int.reduceMul, Int.reduceToNat, Int.reduceEq, Int.reduceBEq, Int.reduceBNe, Nat.reduceEqDiff]
      rw [hso]
      refine retD_r (dend_cons (unlockD rfl rfl) (dend_nil ⟨_, rfl, ?_⟩))
      have hsl2 : (origs cs).length = L.length := by rw [hsl]; simp
      rw [hsl2]
      exact ⟨[some 0, some 1, some 3], rfl, rfl, rfl, rfl, ⟨.ref rfl, trivial⟩, ⟨⟨_, rfl, .box (.cons (.same _ rfl) (.cons (.same _ rfl) (.cons (.same _ rfl) (.cons (.same _ rfl) (.cons (.same _ rfl) (.cons (.same _ rfl) (.cons (.same _ rfl) (.cons (.mapr rfl) (.cons (.same _ rfl) (.cons (.same _ rfl) (.cons (.same _ rfl) (.cons (.same _ rfl) .nil))))))))))))⟩, ⟨⟨_, rfl, .map (SubE.refl _)⟩, ⟨⟨_, rfl, .arr (.refl _)⟩, trivial⟩⟩⟩⟩
    | cons q0 qs =>
      have hn : ∀ (ρ : X → V) (x : X) (ob : List (Option VObj)), ρ x = .ptr 2 0 → ob[2]? = some (some (.miter (some 1) clock (L.map (·.1)) clock)) → ob[1]? = some (some (.map (cV es) clock)) → nxtV ρ ob x = some ((cV (leftC L es)).map fun e => (.tup [.bool true, e.2.1, e.2.2], ob.set 2 (some (.miter (some 1) clock (L.map (·.1) ++ [e.1]) clock)))) := by
        intro ρ x ob h1 h2 h3
        unfold nxtV
        simp only [h1, h2, h3]
        rw [if_pos ⟨hst, Nat.le_refl _⟩, hleft, hlf]
        rfl
      clear hE
      simp (maxSteps := 4000000) (disch := omega) only [EW, Nat.reduceBEq, reduceIte, Nat.reduceAdd, Nat.reduceLeDiff, Nat.reduceLT, Nat.reduceSub, Nat.reduceMul, reduceCtorEq, Int.reduceNeg, Int.reduceSub, Int.reduceAdd, Int.reduceLE, Int.reduceLT, Int.reduceMul, Int.reduceToNat, Int.reduceEq, Int.reduceBEq, Int.reduceBNe, Nat.reduceEqDiff]
      refine vk_nxt (hn _ _ _ rfl rfl rfl) ?_
      rintro p hp
      obtain ⟨e, he, rfl⟩ := List.mem_map.1 hp
      obtain ⟨q, hq, rfl⟩ := List.mem_map.1 he
      have hqm : q ∈ es := (List.mem_filter.1 hq).1
      have hqs : (L.map (·.1)).contains q.1 = false := by simpa using (List.mem_filter.1 hq).2
      have hqL : q ∉ L := fun h => by
        have : (L.map (·.1)).contains q.1 = true := List.contains_iff_mem.2 (List.mem_map.2 ⟨q, h, rfl⟩)
        rw [hqs] at this; cases this
      have hent : ∀ (ρ : X → V) (x : X) (ob : List (Option VObj)), ρ x = .ptr 2 0 → ob[2]? = some (some (.miter (some 1) clock (L.map (·.1) ++ [q.1]) clock)) → ob[1]? = some (some (.map (cV es) clock)) → entV ρ ob x = some (.tup [.int .i64 q.2, .bool true]) := by
        intro ρ x ob h1 h2 h3
        unfold entV
        simp only [h1, h2, h3, if_true, List.getLast?_append, List.getLast?_singleton, Option.some_or]
        rw [find_cV hes.sn hqm]
        rfl
      have hfin := fun s' hs => hN s' (L ++ [q]) ⟨List.nodup_append.2 ⟨hLn, by simp, fun a ha b hb => by simp at hb; subst hb; exact fun e => hqL (e ▸ ha)⟩, fun e he => by
        rcases List.mem_append.1 he with he | he
        · exact hLe e he
        · simp at he; exact he ▸ hqm⟩ (leftC_less hq) hs
      clear hN
      have hX : (L.map (·.2)).length ≤ es.length := by simpa using hLl
      have e1 : (L ++ [q]).map (·.1) = L.map (·.1) ++ [q.1] := by simp
      have e2 : (L ++ [q]).map (·.2) = L.map (·.2) ++ [q.2] := by simp
      rw [e1, e2] at hfin
      have hXL : L.length = (L.map (·.2)).length := by simp
      generalize L.map (·.2) = X at *
      generalize L.map (·.1) = Y at *
      have t1 : (irows X).take X.length = irows X := List.take_of_length_le (by rw [irows_length]; exact Nat.le_refl _)
      have t2 : (irows X).length = X.length := irows_length X
      simp (maxSteps := 4000000) (disch := omega) only [EW, Nat.reduceBEq, reduceIte, Nat.reduceAdd, Nat.reduceLeDiff, Nat.reduceLT, Nat.reduceSub, Nat.reduceMul, reduceCtorEq, Int.reduceNeg, Int.reduceSub, Int.reduceAdd, Int.reduceLE, Int.reduceLT, Int.reduceMul, Int.reduceToNat, Int.reduceEq, Int.reduceBEq, Int.reduceBNe, Nat.reduceEqDiff]
      refine vk_ent (hent _ _ _ rfl rfl rfl) ?_
      simp (maxSteps := 4000000) (disch := omega) only [EW, Nat.reduceBEq, reduceIte, Nat.reduceAdd, Nat.reduceLeDiff, Nat.reduceLT, Nat.reduceSub, Nat.reduceMul, reduceCtorEq, Int.reduceNeg, Int.reduceSub, Int.reduceAdd, Int.reduceLE, Int.reduceLT, Int.reduceMul, Int.reduceToNat, Int.reduceEq, Int.reduceBEq, Int.reduceBNe, Nat.reduceEqDiff, t1, t2, hXL]
      refine hfin _ ?_
      rw [show irows (X ++ [q.2]) = irows X ++ [[.int .i64 q.2]] by simp [irows], List.length_append]
      exact ⟨[some 0, some 1, some 2, some 4], rfl, rfl, rfl, rfl, ⟨.ref rfl, .ptr rfl, trivial⟩, ⟨⟨_, rfl, .box (.cons (.same _ rfl) (.cons (.same _ rfl) (.cons (.same _ rfl) (.cons (.same _ rfl) (.cons (.same _ rfl) (.cons (.same _ rfl) (.cons (.same _ rfl) (.cons (.mapr rfl) (.cons (.same _ rfl) (.cons (.same _ rfl) (.cons (.same _ rfl) (.cons (.same _ rfl) .nil))))))))))))⟩, ⟨⟨_, rfl, .map (SubE.refl _)⟩, ⟨⟨_, rfl, .miter rfl⟩, ⟨⟨_, rfl, .arr (.refl _)⟩, trivial⟩⟩⟩⟩⟩
end Go.Proofs.VL

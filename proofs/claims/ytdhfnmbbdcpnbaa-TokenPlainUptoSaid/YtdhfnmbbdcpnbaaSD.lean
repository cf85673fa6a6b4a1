/- Contracts of functions of the program, for what calls them, and the law that its name tells. -/
import Derived.Test.YtdhfnmbbdcpnbaaSC
import Derived.Test.YtdhfnmbbdcpnbaaCmark
namespace Go.Proofs.VL
open Go Go.RowKit
set_option maxRecDepth 100000
set_option maxHeartbeats 1000000
set_option linter.unusedSimpArgs false
set_option linter.unusedVariables false

/-- Labelled texts, as they came. -/
abbrev Raw := List UInt8 × Runs
def rawRows (ss : List Raw) : List (List V) := ss.map fun s => [.str s.1, .sl 2 (rowsOf s.2)]
theorem rawRows_get (ss : List Raw) (i : Nat) : (rawRows ss)[i]? = (ss[i]?).map fun s => [.str s.1, .sl 2 (rowsOf s.2)] := by simp [rawRows]
theorem rawRows_length (ss : List Raw) : (rawRows ss).length = ss.length := by simp [rawRows]
def catT (ss : List Raw) : List UInt8 := ss.flatMap (·.1)
def catO (ss : List Raw) : List Int := ss.flatMap fun s => orig s.1.length s.2
theorem catO_length (ss : List Raw) : (catO ss).length = (catT ss).length := by
  induction ss with
  | nil => rfl
  | cons s ss ih => simp only [catO, catT, List.flatMap_cons, List.length_append, orig_length] at ih ⊢; omega
theorem catT_take (ss : List Raw) (i : Nat) : (catT (ss.take i)).length ≤ (catT ss).length := by
  have : catT ss = catT (ss.take i) ++ catT (ss.drop i) := by simp only [catT]; rw [← List.flatMap_append, List.take_append_drop]
  rw [this]; simp
theorem bRows_append (a b : List UInt8) : bRows a ++ bRows b = bRows (a ++ b) := by simp [bRows]
theorem bRows_length (a : List UInt8) : (bRows a).length = a.length := by simp [bRows]
theorem bRows_take (a : List UInt8) : List.take a.length (bRows a) = bRows a := List.take_of_length_le (by rw [bRows_length]; exact Nat.le_refl _)
theorem expand_take (l : Runs) (j : Nat) {n o : Int} (h : l[j]? = some (n, o)) : expand (l.take (j + 1)) = expand (l.take j) ++ List.replicate n.toNat o := by
  rw [List.take_add_one, h]; simp [expand]

def catObs (a : List Int) (b : List UInt8) : List (Option VObj) := [some (.box [.str [], .nils]), some (.box [.str [], .ref 2 (rle a).length]), some (.arr 116 2 (rowsOf (rle a))), some (.arr 5 1 (bRows b))]

theorem cat (ss : List Raw) (hs : ss.length ≤ 1000000000) (hr : ∀ s ∈ ss, s.2.length ≤ 1000000000) (ht : (catT ss).length ≤ 1000000000) : VFn Try.prog 84 [.sl 2 (rawRows ss)] (rawV (catT ss) (rle (catO ss))) := by
  refine VFn.intro ok84 (Nat.le_of_ble_eq_true rfl) (vk_start ?_)
  simp only [vc84, rs84, rawV, wrap64, EV0, e_condB, Nat.reduceBEq, reduceIte, Nat.reduceAdd, Nat.reduceLeDiff, Nat.reduceLT, Nat.reduceSub, Nat.reduceMul, reduceCtorEq, Int.reduceNeg, Int.reduceSub, Int.reduceAdd, Int.reduceLE, Int.reduceLT, Int.reduceMul, Int.reduceToNat, Int.reduceEq, Int.reduceBEq, Int.reduceBNe, Nat.reduceEqDiff, rawRows_length]
  refine vk_loopR (γ := Nat) (fun i => { tm := [(9, .sl 2 (rawRows ss)), (10, .int .i64 ss.length), (11, .int .i64 i), (2, .ptr 0 0), (3, .ptr 1 0), (4, .ref 3 (catT (ss.take i)).length)], ob := catObs (catO (ss.take i)) (catT (ss.take i)), base := 0 }) (fun i => i ≤ ss.length) (fun i => ss.length - i) 0 (Nat.zero_le _) ?_ ?_
  · exact ⟨[some 0, some 1, none, none], rfl, rfl, rfl, rfl, ⟨.same _ rfl, .same _ rfl, .same _ rfl, .ptr rfl, .ptr rfl, .nref rfl, trivial⟩,
      ⟨⟨_, rfl, .box (.cons (.same _ rfl) (.cons (.same _ rfl) .nil))⟩, ⟨_, rfl, .box (.cons (.same _ rfl) (.cons (.nref rfl) .nil))⟩, ⟨⟨_, _, rfl⟩, ⟨⟨_, _, rfl⟩, trivial⟩⟩⟩⟩
  · intro i hi R hN hE hR
    have c0 : (0 ≤ (i : Int)) = True := by simp
    have hlen := catO_length (ss.take i)
    have hle := catT_take ss i
    rcases Nat.lt_or_ge i ss.length with hlt | hge
    · have c1 : ((i : Int) < (ss.length : Int)) = True := by simp; omega
      obtain ⟨⟨t, rs⟩, hsi⟩ : ∃ r, ss[i]? = some r := ⟨_, List.getElem?_eq_getElem hlt⟩
      have hrow : (rawRows ss)[i]? = some [.str t, .sl 2 (rowsOf rs)] := by rw [rawRows_get, hsi]; rfl
      have w1 : IntKind.i64.wrap ((i : Int) + 1) = i + 1 := wrap64 (by omega) (by omega)
      have htk : ss.take (i + 1) = ss.take i ++ [(t, rs)] := by rw [List.take_add_one, hsi]; rfl
      have hle1 := catT_take ss (i + 1)
      have hcT : catT (ss.take (i + 1)) = catT (ss.take i) ++ t := by rw [htk]; simp [catT]
      have hcO : catO (ss.take (i + 1)) = catO (ss.take i) ++ orig t.length rs := by rw [htk]; simp [catO]
      have hrs := hr (t, rs) (List.mem_of_getElem? hsi)
      have hol := orig_length t.length rs
      generalize catT (ss.take i) = T at *
      generalize catO (ss.take i) = A at *
      rw [hcT] at hle1
      simp only [List.length_append] at hle1
      have b1 : T.length + t.length ≤ 140737488355328 := by omega
      simp only [wrap64, EV0, e_condB, Nat.reduceBEq, reduceIte, Nat.reduceAdd, Nat.reduceLeDiff, Nat.reduceLT, Nat.reduceSub, Nat.reduceMul, reduceCtorEq, Int.reduceNeg, Int.reduceSub, Int.reduceAdd, Int.reduceLE, Int.reduceLT, Int.reduceMul, Int.reduceToNat, Int.reduceEq, Int.reduceBEq, Int.reduceBNe, Nat.reduceEqDiff, catObs, c0, c1, hrow, bRows_length, bRows_append, bRows_take, b1]
      refine vk_call rfl (CallR.call ⟨[rawV t rs], .inl rfl, fix t rs (by omega) hrs⟩) ?_
      simp only [wrap64, EV0, e_condB, Nat.reduceBEq, reduceIte, Nat.reduceAdd, Nat.reduceLeDiff, Nat.reduceLT, Nat.reduceSub, Nat.reduceMul, reduceCtorEq, Int.reduceNeg, Int.reduceSub, Int.reduceAdd, Int.reduceLE, Int.reduceLT, Int.reduceMul, Int.reduceToNat, Int.reduceEq, Int.reduceBEq, Int.reduceBNe, Nat.reduceEqDiff, rawV, rowsOf_length]
      refine vk_loopR (γ := Nat) (fun j => { tm := [(9, .sl 2 (rawRows ss)), (10, .int .i64 ss.length), (11, .int .i64 i), (2, .ptr 0 0), (3, .ptr 1 0), (4, .ref 3 (T ++ t).length), (21, .sl 2 (rowsOf (rle (orig t.length rs)))), (22, .int .i64 (rle (orig t.length rs)).length), (23, .int .i64 j)], ob := catObs (A ++ expand ((rle (orig t.length rs)).take j)) (T ++ t), base := 0 }) (fun j => j ≤ (rle (orig t.length rs)).length) (fun j => (rle (orig t.length rs)).length - j) 0 (Nat.zero_le _) ?_ ?_
      · simp only [List.take_zero, expand, List.flatMap_nil, List.append_nil, List.length_append]
        exact ⟨[some 0, some 1, some 2, some 5], rfl, rfl, rfl, rfl, ⟨.same _ rfl, .same _ rfl, .same _ rfl, .ptr rfl, .ptr rfl, .ref rfl, .same _ rfl, .same _ rfl, .same _ rfl, trivial⟩, ⟨⟨_, rfl, .box (.cons (.same _ rfl) (.cons (.same _ rfl) .nil))⟩, ⟨⟨_, rfl, .box (.cons (.same _ rfl) (.cons (.ref rfl) .nil))⟩, ⟨⟨_, rfl, .arr (.refl _)⟩, ⟨⟨_, rfl, .arr (.refl _)⟩, trivial⟩⟩⟩⟩⟩
      · intro j hj R2 hN2 hE2 hR2
        have d0 : (0 ≤ (j : Int)) = True := by simp
        have hmem : ∀ r ∈ rle (orig t.length rs), 1 ≤ r.1 ∧ r.1 ≤ 1000000000 := fun r hr => by have := rle_mem hr; omega
        have hexp := (expand_rle (orig t.length rs)).1
        have hrll := rle_len (orig t.length rs)
        have hxl : (expand ((rle (orig t.length rs)).take j)).length ≤ t.length := by
          have h1 : expand (rle (orig t.length rs)) = expand ((rle (orig t.length rs)).take j) ++ expand ((rle (orig t.length rs)).drop j) := by simp only [expand]; rw [← List.flatMap_append, List.take_append_drop]
          have h2 := congrArg List.length h1
          rw [hexp, hol, List.length_append] at h2
          omega
        rcases Nat.lt_or_ge j (rle (orig t.length rs)).length with hjlt | hjge
        · have d1 : ((j : Int) < ((rle (orig t.length rs)).length : Int)) = True := by simp; omega
          obtain ⟨⟨n, o⟩, hrj⟩ : ∃ r, (rle (orig t.length rs))[j]? = some r := ⟨_, List.getElem?_eq_getElem hjlt⟩
          have hrow2 : (rowsOf (rle (orig t.length rs)))[j]? = some [.int .i64 n, .int .i64 o] := by rw [rowsOf_get, hrj]; rfl
          have w2 : IntKind.i64.wrap ((j : Int) + 1) = j + 1 := wrap64 (by omega) (by omega)
          have hno := hmem (n, o) (List.mem_of_getElem? hrj)
          simp only at hno
          have hxt := expand_take (rle (orig t.length rs)) j hrj
          have hrl2 := rle_len (A ++ expand ((rle (orig t.length rs)).take j))
          simp only [List.length_append] at hrl2
          have hmem2 : ∀ r ∈ rle (A ++ expand ((rle (orig t.length rs)).take j)), 0 ≤ r.1 ∧ r.1 ≤ 4000000000 := fun r hr => by have := rle_mem hr; simp only [List.length_append] at this; omega
          simp only [wrap64, EV0, e_condB, Nat.reduceBEq, reduceIte, Nat.reduceAdd, Nat.reduceLeDiff, Nat.reduceLT, Nat.reduceSub, Nat.reduceMul, reduceCtorEq, Int.reduceNeg, Int.reduceSub, Int.reduceAdd, Int.reduceLE, Int.reduceLT, Int.reduceMul, Int.reduceToNat, Int.reduceEq, Int.reduceBEq, Int.reduceBNe, Nat.reduceEqDiff, catObs, d0, d1, hrow2]
          refine vk_call rfl (put_at _ _ rfl (by omega) (by omega) hmem2) ?_
          simp only [wrap64, EV0, e_condB, Nat.reduceBEq, reduceIte, Nat.reduceAdd, Nat.reduceLeDiff, Nat.reduceLT, Nat.reduceSub, Nat.reduceMul, reduceCtorEq, Int.reduceNeg, Int.reduceSub, Int.reduceAdd, Int.reduceLE, Int.reduceLT, Int.reduceMul, Int.reduceToNat, Int.reduceEq, Int.reduceBEq, Int.reduceBNe, Nat.reduceEqDiff, w2, rle_putI]
          refine hN2 _ (j + 1) (by omega) (by omega) ?_
          simp only [hxt, catObs, ← List.append_assoc, List.length_append]
          exact ⟨[some 0, some 1, some 5, some 3], rfl, rfl, rfl, rfl, ⟨.same _ rfl, .same _ rfl, .same _ rfl, .ptr rfl, .ptr rfl, .ref rfl, .same _ rfl, .same _ rfl, .same _ rfl, trivial⟩, ⟨⟨_, rfl, .box (.cons (.same _ rfl) (.cons (.same _ rfl) .nil))⟩, ⟨⟨_, rfl, .box (.cons (.same _ rfl) (.cons (.ref rfl) .nil))⟩, ⟨⟨_, rfl, .arr (.refl _)⟩, ⟨⟨_, rfl, .arr (.refl _)⟩, trivial⟩⟩⟩⟩⟩
        · have d1 : ((j : Int) < ((rle (orig t.length rs)).length : Int)) = False := by simp; omega
          have htk2 : (rle (orig t.length rs)).take j = rle (orig t.length rs) := List.take_of_length_le hjge
          simp only [wrap64, EV0, e_condB, Nat.reduceBEq, reduceIte, Nat.reduceAdd, Nat.reduceLeDiff, Nat.reduceLT, Nat.reduceSub, Nat.reduceMul, reduceCtorEq, Int.reduceNeg, Int.reduceSub, Int.reduceAdd, Int.reduceLE, Int.reduceLT, Int.reduceMul, Int.reduceToNat, Int.reduceEq, Int.reduceBEq, Int.reduceBNe, Nat.reduceEqDiff, d0, d1]
          refine hE2 _ _ ?_
          simp only [wrap64, EV0, e_condB, Nat.reduceBEq, reduceIte, Nat.reduceAdd, Nat.reduceLeDiff, Nat.reduceLT, Nat.reduceSub, Nat.reduceMul, reduceCtorEq, Int.reduceNeg, Int.reduceSub, Int.reduceAdd, Int.reduceLE, Int.reduceLT, Int.reduceMul, Int.reduceToNat, Int.reduceEq, Int.reduceBEq, Int.reduceBNe, Nat.reduceEqDiff, w1, htk2, hexp]
          refine hN _ (i + 1) (by omega) (by omega) ?_
          rw [hcT, hcO, List.length_append]
          exact ⟨[some 0, some 1, some 2, some 3], rfl, rfl, rfl, rfl, ⟨.same _ rfl, .same _ rfl, .same _ rfl, .ptr rfl, .ptr rfl, .ref rfl, trivial⟩, ⟨⟨_, rfl, .box (.cons (.same _ rfl) (.cons (.same _ rfl) .nil))⟩, ⟨⟨_, rfl, .box (.cons (.same _ rfl) (.cons (.ref rfl) .nil))⟩, ⟨⟨_, rfl, .arr (.refl _)⟩, ⟨⟨_, rfl, .arr (.refl _)⟩, trivial⟩⟩⟩⟩⟩
    · have c1 : ((i : Int) < (ss.length : Int)) = False := by simp; omega
      have htk : ss.take i = ss := List.take_of_length_le hge
      simp only [wrap64, EV0, e_condB, Nat.reduceBEq, reduceIte, Nat.reduceAdd, Nat.reduceLeDiff, Nat.reduceLT, Nat.reduceSub, Nat.reduceMul, reduceCtorEq, Int.reduceNeg, Int.reduceSub, Int.reduceAdd, Int.reduceLE, Int.reduceLT, Int.reduceMul, Int.reduceToNat, Int.reduceEq, Int.reduceBEq, Int.reduceBNe, Nat.reduceEqDiff, c0, c1]
      refine hE _ _ ?_
      simp only [wrap64, EV0, e_condB, Nat.reduceBEq, reduceIte, Nat.reduceAdd, Nat.reduceLeDiff, Nat.reduceLT, Nat.reduceSub, Nat.reduceMul, reduceCtorEq, Int.reduceNeg, Int.reduceSub, Int.reduceAdd, Int.reduceLE, Int.reduceLT, Int.reduceMul, Int.reduceToNat, Int.reduceEq, Int.reduceBEq, Int.reduceBNe, Nat.reduceEqDiff, htk, catObs, bRows_length, bRows_take, rowsBytes_bRows]
      exact ⟨_, _, rfl, lend_str rfl rfl, .refl _⟩
end Go.Proofs.VL

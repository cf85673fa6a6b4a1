/- Contracts of functions of the program, for what calls them, and the law that its name tells. -/
import Derived.Test.YtdiddnapamjojaaSO
namespace Go.Proofs.VL
open Go Go.RowKit
set_option maxRecDepth 100000
set_option maxHeartbeats 2000000
set_option linter.unusedSimpArgs false
set_option linter.unusedVariables false

theorem is_str {l : LT} (h : l.length ≤ 1000000000) : VFn Try.prog 21 [rawV (rawOf l).1 (rawOf l).2, .sl 2 (cRows l)] (.bool true) := is_of h

/-- Mark, of a text from the writer. -/
theorem mark_zl (t : List UInt8) (ht : t.length ≤ 1000000000) : VFn Try.prog 65 [.str t, .int .i64 0] (rawV (rawOf (zl t)).1 (rawOf (zl t)).2) := by
  have h0 : rle (List.replicate t.length (nearI 0)) = (rawOf (zl t)).2 := by
    show _ = rle ((zl t).map (·.2))
    have : (zl t).map (·.2) = List.replicate t.length (nearI 0) := by
      have e : (zl t).map (·.2) = t.map (fun _ => nearI 0) := by simp [zl]
      rw [e]
      exact List.map_const'
    rw [this]
  have e : (rawOf (zl t)).1 = t := txt_zl t
  rw [e]
  exact mark_of_at t 0 _ ht h0

theorem zl_near (t : List UInt8) : Near (zl t) := Near.map_const (nearI_idem 0) t

/-- Cat of some that are told, with some as they came. -/
theorem catN {ss : List Raw} {l : LT} (h : labs ss = l) (hs : ss.length ≤ 100) (hr : ∀ s ∈ ss, s.2.length ≤ 1000000000) (hl : l.length ≤ 1000000000) : VFn Try.prog 22 [.sl 2 (rawRows ss)] (strV l) := by
  refine cat_of h (by omega) hr ?_
  have := congrArg List.length (labs_fst ss)
  rw [List.length_map, h] at this
  omega

def quoL (l : LT) : LT := zl [34] ++ escL 5 l ++ zl [34]
theorem quoL_near {l : LT} (h : Near l) : Near (quoL l) := ((zl_near _).append (escL_near h)).append (zl_near _)
theorem quoL_len (l : LT) : (quoL l).length ≤ 6 * l.length + 2 := by
  have := escL_len 5 l
  unfold quoL
  simp only [List.length_append, zl_length, List.length_cons, List.length_nil]; omega

theorem quoted_of {t : List UInt8} {rs : Runs} {l : LT} (h : lab t rs = l) (hl : l.length ≤ 10000000) (hrs : rs.length ≤ 100000000) : VFn Try.prog 45 [rawV t rs] (strV (quoL l)) := by
  refine VFn.intro ok45 (Nat.le_of_ble_eq_true rfl) (vk_start ?_)
  have hn : Near l := h ▸ lab_near t rs
  simp only [vc45, rs45, rawV, wrap64, EV0, e_condB, Nat.reduceBEq, reduceIte, Nat.reduceAdd, Nat.reduceLeDiff, Nat.reduceLT, Nat.reduceSub, Nat.reduceMul, reduceCtorEq, Int.reduceNeg, Int.reduceSub, Int.reduceAdd, Int.reduceLE, Int.reduceLT, Int.reduceMul, Int.reduceToNat, Int.reduceEq, Int.reduceBEq, Int.reduceBNe, Nat.reduceEqDiff]
  refine vk_callR rfl ⟨_, .inl rfl, mark_zl [34] (by decide)⟩ ?_
  simp only [wrap64, EV0, e_condB, Nat.reduceBEq, reduceIte, Nat.reduceAdd, Nat.reduceLeDiff, Nat.reduceLT, Nat.reduceSub, Nat.reduceMul, reduceCtorEq, Int.reduceNeg, Int.reduceSub, Int.reduceAdd, Int.reduceLE, Int.reduceLT, Int.reduceMul, Int.reduceToNat, Int.reduceEq, Int.reduceBEq, Int.reduceBNe, Nat.reduceEqDiff, rawV]
  refine vk_callR rfl ⟨_, .inl rfl, value_of h hl hrs⟩ ?_
  simp only [wrap64, EV0, e_condB, Nat.reduceBEq, reduceIte, Nat.reduceAdd, Nat.reduceLeDiff, Nat.reduceLT, Nat.reduceSub, Nat.reduceMul, reduceCtorEq, Int.reduceNeg, Int.reduceSub, Int.reduceAdd, Int.reduceLE, Int.reduceLT, Int.reduceMul, Int.reduceToNat, Int.reduceEq, Int.reduceBEq, Int.reduceBNe, Nat.reduceEqDiff, strV_raw, rawV]
  have h1 := rawOf_len (escL 5 l)
  have h2 := escL_len 5 l
  have h3 := rawOf_len (zl [34])
  rw [zl_length] at h3
  have h4 := quoL_len l
  have hlab : labs [rawOf (zl [34]), rawOf (escL 5 l), rawOf (zl [34])] = quoL l := by
    rw [show [rawOf (zl [34]), rawOf (escL 5 l), rawOf (zl [34])] = [zl [34], escL 5 l, zl [34]].map rawOf from rfl, labs_rawOf]
    · simp [quoL]
    · intro q hq; simp at hq; rcases hq with rfl | rfl | rfl
      · exact zl_near _
      · exact escL_near hn
      · exact zl_near _
  refine vk_callR rfl ⟨[.sl 2 (rawRows [rawOf (zl [34]), rawOf (escL 5 l), rawOf (zl [34])])], ?_, catN hlab (by simp) (by intro s hs; simp at hs; simp at h3; rcases hs with rfl | rfl | rfl <;> omega) (by omega)⟩ ?_
  · first | exact .inl rfl | exact .inr ⟨rfl, rfl⟩ | trace_state
  simp only [wrap64, EV0, e_condB, Nat.reduceBEq, reduceIte, Nat.reduceAdd, Nat.reduceLeDiff, Nat.reduceLT, Nat.reduceSub, Nat.reduceMul, reduceCtorEq, Int.reduceNeg, Int.reduceSub, Int.reduceAdd, Int.reduceLE, Int.reduceLT, Int.reduceMul, Int.reduceToNat, Int.reduceEq, Int.reduceBEq, Int.reduceBNe, Nat.reduceEqDiff, strV_raw, rawV]
  exact ⟨_, _, rfl, rfl, .refl _⟩

theorem quoted_str {l : LT} (h : Near l) (hl : l.length ≤ 10000000) : VFn Try.prog 45 [rawV (rawOf l).1 (rawOf l).2] (strV (quoL l)) := by
  have h1 := rawOf_len l
  exact quoted_of (lab_rawOf h) hl (by omega)

def pairL (n l : LT) : LT := zl [32] ++ n ++ (zl [61] ++ quoL l)

theorem pair_of {t : List UInt8} {rs : Runs} {l : LT} {t' : List UInt8} {rs' : Runs} {l' : LT} (h' : lab t' rs' = l') (h : lab t rs = l) (hl : l.length ≤ 10000000) (hrs : rs.length ≤ 100000000) (hl' : l'.length ≤ 10000000) (hrs' : rs'.length ≤ 100000000) :
    VFn Try.prog 46 [rawV t' rs', rawV t rs] (strV (pairL l' l)) := by
  refine VFn.intro ok46 (Nat.le_of_ble_eq_true rfl) (vk_start ?_)
  have hn : Near l := h ▸ lab_near t rs
  simp only [vc46, rs46, rawV, wrap64, EV0, e_condB, Nat.reduceBEq, reduceIte, Nat.reduceAdd, Nat.reduceLeDiff, Nat.reduceLT, Nat.reduceSub, Nat.reduceMul, reduceCtorEq, Int.reduceNeg, Int.reduceSub, Int.reduceAdd, Int.reduceLE, Int.reduceLT, Int.reduceMul, Int.reduceToNat, Int.reduceEq, Int.reduceBEq, Int.reduceBNe, Nat.reduceEqDiff]
  refine vk_callR rfl ⟨_, .inl rfl, mark_zl [32] (by decide)⟩ ?_
  simp only [wrap64, EV0, e_condB, Nat.reduceBEq, reduceIte, Nat.reduceAdd, Nat.reduceLeDiff, Nat.reduceLT, Nat.reduceSub, Nat.reduceMul, reduceCtorEq, Int.reduceNeg, Int.reduceSub, Int.reduceAdd, Int.reduceLE, Int.reduceLT, Int.reduceMul, Int.reduceToNat, Int.reduceEq, Int.reduceBEq, Int.reduceBNe, Nat.reduceEqDiff, rawV]
  refine vk_callR rfl ⟨_, .inl rfl, mark_zl [61] (by decide)⟩ ?_
  simp only [wrap64, EV0, e_condB, Nat.reduceBEq, reduceIte, Nat.reduceAdd, Nat.reduceLeDiff, Nat.reduceLT, Nat.reduceSub, Nat.reduceMul, reduceCtorEq, Int.reduceNeg, Int.reduceSub, Int.reduceAdd, Int.reduceLE, Int.reduceLT, Int.reduceMul, Int.reduceToNat, Int.reduceEq, Int.reduceBEq, Int.reduceBNe, Nat.reduceEqDiff, rawV]
  refine vk_callR rfl ⟨_, .inl rfl, quoted_of h hl hrs⟩ ?_
  simp only [wrap64, EV0, e_condB, Nat.reduceBEq, reduceIte, Nat.reduceAdd, Nat.reduceLeDiff, Nat.reduceLT, Nat.reduceSub, Nat.reduceMul, reduceCtorEq, Int.reduceNeg, Int.reduceSub, Int.reduceAdd, Int.reduceLE, Int.reduceLT, Int.reduceMul, Int.reduceToNat, Int.reduceEq, Int.reduceBEq, Int.reduceBNe, Nat.reduceEqDiff, strV_raw, rawV]
  have h1 := rawOf_len (quoL l)
  have h2 := quoL_len l
  have h3 := rawOf_len (zl [32])
  have h4 := rawOf_len (zl [61])
  rw [zl_length] at h3 h4
  simp at h3 h4
  have hlab : labs [rawOf (zl [32]), (t', rs'), rawOf (zl [61]), rawOf (quoL l)] = pairL l' l := by
    simp only [labs, List.flatMap_cons, List.flatMap_nil, List.append_nil, h', lab_rawOf (zl_near [32]), lab_rawOf (zl_near [61]), lab_rawOf (quoL_near hn), pairL, List.append_assoc]
  refine vk_callR rfl ⟨[.sl 2 (rawRows [rawOf (zl [32]), (t', rs'), rawOf (zl [61]), rawOf (quoL l)])], .inl rfl, catN hlab (by simp) (by intro s hs; simp at hs; rcases hs with rfl | rfl | rfl | rfl <;> (try simp only) <;> omega) (by simp only [pairL, List.length_append, zl_length, List.length_cons, List.length_nil]; omega)⟩ ?_
  simp only [wrap64, EV0, e_condB, Nat.reduceBEq, reduceIte, Nat.reduceAdd, Nat.reduceLeDiff, Nat.reduceLT, Nat.reduceSub, Nat.reduceMul, reduceCtorEq, Int.reduceNeg, Int.reduceSub, Int.reduceAdd, Int.reduceLE, Int.reduceLT, Int.reduceMul, Int.reduceToNat, Int.reduceEq, Int.reduceBEq, Int.reduceBNe, Nat.reduceEqDiff, strV_raw, rawV]
  exact ⟨_, _, rfl, rfl, .refl _⟩

theorem escapeTells (t : List UInt8) (rs : Runs) (t' : List UInt8) (rs' : Runs) (ht : t.length ≤ 1100000) (hrs : rs.length ≤ 1100000) (ht' : t'.length ≤ 1100000) (hrs' : rs'.length ≤ 1100000) :
    VFn Try.prog 9 [rawV t rs, rawV t' rs'] (.bool true) := by
  refine VFn.intro ok9 (Nat.le_of_ble_eq_true rfl) (vk_start ?_)
  obtain ⟨l, hl⟩ : ∃ l, lab t rs = l := ⟨_, rfl⟩
  obtain ⟨l', hl'⟩ : ∃ l, lab t' rs' = l := ⟨_, rfl⟩
  have n1 : Near l := hl ▸ lab_near t rs
  have n2 : Near l' := hl' ▸ lab_near t' rs'
  have e1 : l.length = t.length := by rw [← hl, lab_length]
  have e2 : l'.length = t'.length := by rw [← hl', lab_length]
  have a1 := escL_len 4 l
  have b1 := escL_len 5 l
  have b2 := quoL_len l
  have r1 := ref_of t rs (by omega) (by omega)
  have r2 := ref_of t' rs' (by omega) (by omega)
  rw [hl] at r1
  rw [hl'] at r2
  have htx : l.map (·.1) = t := by rw [← hl]; exact lab_fst t rs
  simp only [vc9, rs9, rawV, wrap64, EV0, e_condB, Nat.reduceBEq, reduceIte, Nat.reduceAdd, Nat.reduceLeDiff, Nat.reduceLT, Nat.reduceSub, Nat.reduceMul, reduceCtorEq, Int.reduceNeg, Int.reduceSub, Int.reduceAdd, Int.reduceLE, Int.reduceLT, Int.reduceMul, Int.reduceToNat, Int.reduceEq, Int.reduceBEq, Int.reduceBNe, Nat.reduceEqDiff]
  refine vk_callR rfl ⟨[], .inl rfl, alive09⟩ ?_
  simp only [wrap64, EV0, e_condB, Nat.reduceBEq, reduceIte, Nat.reduceAdd, Nat.reduceLeDiff, Nat.reduceLT, Nat.reduceSub, Nat.reduceMul, reduceCtorEq, Int.reduceNeg, Int.reduceSub, Int.reduceAdd, Int.reduceLE, Int.reduceLT, Int.reduceMul, Int.reduceToNat, Int.reduceEq, Int.reduceBEq, Int.reduceBNe, Nat.reduceEqDiff]
  refine vk_callR rfl ⟨[rawV t rs], .inl rfl, r1⟩ ?_
  simp only [wrap64, EV0, e_condB, Nat.reduceBEq, reduceIte, Nat.reduceAdd, Nat.reduceLeDiff, Nat.reduceLT, Nat.reduceSub, Nat.reduceMul, reduceCtorEq, Int.reduceNeg, Int.reduceSub, Int.reduceAdd, Int.reduceLE, Int.reduceLT, Int.reduceMul, Int.reduceToNat, Int.reduceEq, Int.reduceBEq, Int.reduceBNe, Nat.reduceEqDiff]
  refine vk_callR rfl ⟨[.str [34], .int .i64 0], .inl rfl, ref_all [34] 0 (by decide)⟩ ?_
  rw [show ([34].map fun c => (c, nearI 0)) = zl [34] from rfl]
  simp only [wrap64, EV0, e_condB, Nat.reduceBEq, reduceIte, Nat.reduceAdd, Nat.reduceLeDiff, Nat.reduceLT, Nat.reduceSub, Nat.reduceMul, reduceCtorEq, Int.reduceNeg, Int.reduceSub, Int.reduceAdd, Int.reduceLE, Int.reduceLT, Int.reduceMul, Int.reduceToNat, Int.reduceEq, Int.reduceBEq, Int.reduceBNe, Nat.reduceEqDiff]
  refine vk_callR rfl ⟨[.sl 2 (cRows l), .bool true], .inl rfl, ref_words l true n1 (by omega)⟩ ?_
  rw [show wk true = 5 from rfl]
  simp only [wrap64, EV0, e_condB, Nat.reduceBEq, reduceIte, Nat.reduceAdd, Nat.reduceLeDiff, Nat.reduceLT, Nat.reduceSub, Nat.reduceMul, reduceCtorEq, Int.reduceNeg, Int.reduceSub, Int.reduceAdd, Int.reduceLE, Int.reduceLT, Int.reduceMul, Int.reduceToNat, Int.reduceEq, Int.reduceBEq, Int.reduceBNe, Nat.reduceEqDiff]
  refine vk_callR rfl ⟨_, .inl rfl, ref_cat (zl [34]) (escL 5 l) (by rw [zl_length]; simp; omega)⟩ ?_
  simp only [wrap64, EV0, e_condB, Nat.reduceBEq, reduceIte, Nat.reduceAdd, Nat.reduceLeDiff, Nat.reduceLT, Nat.reduceSub, Nat.reduceMul, reduceCtorEq, Int.reduceNeg, Int.reduceSub, Int.reduceAdd, Int.reduceLE, Int.reduceLT, Int.reduceMul, Int.reduceToNat, Int.reduceEq, Int.reduceBEq, Int.reduceBNe, Nat.reduceEqDiff]
  refine vk_callR rfl ⟨_, .inl rfl, ref_cat (zl [34] ++ escL 5 l) (zl [34]) (by simp [zl_length]; omega)⟩ ?_
  rw [show zl [34] ++ escL 5 l ++ zl [34] = quoL l from rfl]
  simp only [wrap64, EV0, e_condB, Nat.reduceBEq, reduceIte, Nat.reduceAdd, Nat.reduceLeDiff, Nat.reduceLT, Nat.reduceSub, Nat.reduceMul, reduceCtorEq, Int.reduceNeg, Int.reduceSub, Int.reduceAdd, Int.reduceLE, Int.reduceLT, Int.reduceMul, Int.reduceToNat, Int.reduceEq, Int.reduceBEq, Int.reduceBNe, Nat.reduceEqDiff]
  refine vk_callR rfl ⟨[.str [32], .int .i64 0], .inl rfl, ref_all [32] 0 (by decide)⟩ ?_
  rw [show ([32].map fun c => (c, nearI 0)) = zl [32] from rfl]
  simp only [wrap64, EV0, e_condB, Nat.reduceBEq, reduceIte, Nat.reduceAdd, Nat.reduceLeDiff, Nat.reduceLT, Nat.reduceSub, Nat.reduceMul, reduceCtorEq, Int.reduceNeg, Int.reduceSub, Int.reduceAdd, Int.reduceLE, Int.reduceLT, Int.reduceMul, Int.reduceToNat, Int.reduceEq, Int.reduceBEq, Int.reduceBNe, Nat.reduceEqDiff]
  refine vk_callR rfl ⟨[rawV t' rs'], .inl rfl, r2⟩ ?_
  simp only [wrap64, EV0, e_condB, Nat.reduceBEq, reduceIte, Nat.reduceAdd, Nat.reduceLeDiff, Nat.reduceLT, Nat.reduceSub, Nat.reduceMul, reduceCtorEq, Int.reduceNeg, Int.reduceSub, Int.reduceAdd, Int.reduceLE, Int.reduceLT, Int.reduceMul, Int.reduceToNat, Int.reduceEq, Int.reduceBEq, Int.reduceBNe, Nat.reduceEqDiff]
  refine vk_callR rfl ⟨_, .inl rfl, ref_cat (zl [32]) l' (by rw [zl_length]; simp; omega)⟩ ?_
  simp only [wrap64, EV0, e_condB, Nat.reduceBEq, reduceIte, Nat.reduceAdd, Nat.reduceLeDiff, Nat.reduceLT, Nat.reduceSub, Nat.reduceMul, reduceCtorEq, Int.reduceNeg, Int.reduceSub, Int.reduceAdd, Int.reduceLE, Int.reduceLT, Int.reduceMul, Int.reduceToNat, Int.reduceEq, Int.reduceBEq, Int.reduceBNe, Nat.reduceEqDiff]
  refine vk_callR rfl ⟨[.str [61], .int .i64 0], .inl rfl, ref_all [61] 0 (by decide)⟩ ?_
  rw [show ([61].map fun c => (c, nearI 0)) = zl [61] from rfl]
  simp only [wrap64, EV0, e_condB, Nat.reduceBEq, reduceIte, Nat.reduceAdd, Nat.reduceLeDiff, Nat.reduceLT, Nat.reduceSub, Nat.reduceMul, reduceCtorEq, Int.reduceNeg, Int.reduceSub, Int.reduceAdd, Int.reduceLE, Int.reduceLT, Int.reduceMul, Int.reduceToNat, Int.reduceEq, Int.reduceBEq, Int.reduceBNe, Nat.reduceEqDiff]
  refine vk_callR rfl ⟨_, .inl rfl, ref_cat (zl [61]) (quoL l) (by rw [zl_length]; simp; omega)⟩ ?_
  simp only [wrap64, EV0, e_condB, Nat.reduceBEq, reduceIte, Nat.reduceAdd, Nat.reduceLeDiff, Nat.reduceLT, Nat.reduceSub, Nat.reduceMul, reduceCtorEq, Int.reduceNeg, Int.reduceSub, Int.reduceAdd, Int.reduceLE, Int.reduceLT, Int.reduceMul, Int.reduceToNat, Int.reduceEq, Int.reduceBEq, Int.reduceBNe, Nat.reduceEqDiff]
  refine vk_callR rfl ⟨_, .inl rfl, ref_cat (zl [32] ++ l') (zl [61] ++ quoL l) (by simp [zl_length]; omega)⟩ ?_
  rw [show zl [32] ++ l' ++ (zl [61] ++ quoL l) = pairL l' l from rfl]
  simp only [wrap64, EV0, e_condB, Nat.reduceBEq, reduceIte, Nat.reduceAdd, Nat.reduceLeDiff, Nat.reduceLT, Nat.reduceSub, Nat.reduceMul, reduceCtorEq, Int.reduceNeg, Int.reduceSub, Int.reduceAdd, Int.reduceLE, Int.reduceLT, Int.reduceMul, Int.reduceToNat, Int.reduceEq, Int.reduceBEq, Int.reduceBNe, Nat.reduceEqDiff]
  refine vk_callR rfl ⟨_, .inl rfl, ref_valid t (by omega)⟩ ?_
  simp only [wrap64, EV0, e_condB, Nat.reduceBEq, reduceIte, Nat.reduceAdd, Nat.reduceLeDiff, Nat.reduceLT, Nat.reduceSub, Nat.reduceMul, reduceCtorEq, Int.reduceNeg, Int.reduceSub, Int.reduceAdd, Int.reduceLE, Int.reduceLT, Int.reduceMul, Int.reduceToNat, Int.reduceEq, Int.reduceBEq, Int.reduceBNe, Nat.reduceEqDiff]
  have hp : (pairL l' l).length ≤ 100000000 := by simp only [pairL, List.length_append, zl_length, List.length_cons, List.length_nil]; omega
  refine vk_loopR (γ := Nat) (fun j => { tm := [(2, .ptr 0 0), (3, .ptr 1 0), (5, .sl 2 (cRows l)), (7, .sl 2 (cRows (quoL l))), (8, .sl 2 (cRows (pairL l' l))), (9, .bool (isValid t && (t.take j).all (fun c => decide (c ≠ 60 ∧ c ≠ 13)))), (10, .int .i64 j)], ob := [some (.box [.str t, .sl 2 (rowsOf rs)]), some (.box [.str t', .sl 2 (rowsOf rs')])], base := 0 })
    (fun j => j ≤ t.length) (fun j => t.length - j) 0 (Nat.zero_le _) ?_ ?_
  · exact ⟨[some 0, some 1], rfl, rfl, rfl, rfl, ⟨.ptr rfl, .ptr rfl, .same _ rfl, .same _ rfl, .same _ rfl, (.of_eq (by simp only [List.take_zero, List.all_nil, Bool.and_true]; rfl) rfl), .same _ rfl, trivial⟩, ⟨⟨_, rfl, .box (.cons (.same _ rfl) (.cons (.same _ rfl) .nil))⟩, ⟨⟨_, rfl, .box (.cons (.same _ rfl) (.cons (.same _ rfl) .nil))⟩, trivial⟩⟩⟩
  · intro j hj R hN hE hR
    have c0 : (0 ≤ (j : Int)) = True := by simp
    generalize hF : (isValid t && (t.take j).all (fun c => decide (c ≠ 60 ∧ c ≠ 13))) = F at *
    rcases Nat.lt_or_ge j t.length with hlt | hge
    · have c1 : ((j : Int) < (l.length : Int)) = True := eq_true (by omega)
      obtain ⟨⟨c, o⟩, hr⟩ : ∃ r, l[j]? = some r := ⟨_, List.getElem?_eq_getElem (by omega)⟩
      have hrow : (cRows l)[j]? = some [.int .u8 c.toNat, .int .i64 o] := by rw [cRows_get, hr]; rfl
      have htj : t[j]? = some c := by rw [← htx, List.getElem?_map, hr]; rfl
      have w1 : IntKind.i64.wrap ((j : Int) + 1) = j + 1 := wrap64 (by omega) (by omega)
      have hF2 : (isValid t && (t.take (j + 1)).all (fun c => decide (c ≠ 60 ∧ c ≠ 13))) = (F && decide (c ≠ 60 ∧ c ≠ 13)) := by
        rw [List.take_add_one, htj, List.all_append, ← Bool.and_assoc, hF]; simp
      have k1 : ((c.toNat : Int) != 60) = decide (c ≠ 60) := by
        by_cases h : c = 60
        · subst h; rfl
        · have h2 : ((c.toNat : Int) == 60) = false := byte_ne (d := 60) rfl h
          have h3 : decide (c ≠ 60) = true := by simp [h]
          rw [h3]
          show (!((c.toNat : Int) == 60)) = true
          rw [h2]; rfl
      have k2 : ((c.toNat : Int) != 13) = decide (c ≠ 13) := by
        by_cases h : c = 13
        · subst h; rfl
        · have h2 : ((c.toNat : Int) == 13) = false := byte_ne (d := 13) rfl h
          have h3 : decide (c ≠ 13) = true := by simp [h]
          rw [h3]
          show (!((c.toNat : Int) == 13)) = true
          rw [h2]; rfl
      cases F with
      | true =>
        by_cases h60 : c = 60
        · have q1 : decide (c ≠ 60) = false := by simp [h60]
          rw [q1] at k1
          simp only [wrap64, EV0, e_condB, Nat.reduceBEq, reduceIte, Nat.reduceAdd, Nat.reduceLeDiff, Nat.reduceLT, Nat.reduceSub, Nat.reduceMul, reduceCtorEq, Int.reduceNeg, Int.reduceSub, Int.reduceAdd, Int.reduceLE, Int.reduceLT, Int.reduceMul, Int.reduceToNat, Int.reduceEq, Int.reduceBEq, Int.reduceBNe, Nat.reduceEqDiff, c0, c1, cRows_length, hrow, k1, w1]
          refine hN _ (j + 1) hlt (by omega) ?_
          exact ⟨[some 0, some 1], rfl, rfl, rfl, rfl, ⟨.ptr rfl, .ptr rfl, .same _ rfl, .same _ rfl, .same _ rfl, (.of_eq (congrArg V.bool (by rw [hF2]; simp [h60])) rfl), .same _ rfl, trivial⟩, ⟨⟨_, rfl, .box (.cons (.same _ rfl) (.cons (.same _ rfl) .nil))⟩, ⟨⟨_, rfl, .box (.cons (.same _ rfl) (.cons (.same _ rfl) .nil))⟩, trivial⟩⟩⟩
        · have q1 : decide (c ≠ 60) = true := by simp [h60]
          rw [q1] at k1
          by_cases h13 : c = 13
          · have q2 : decide (c ≠ 13) = false := by simp [h13]
            rw [q2] at k2
            simp only [wrap64, EV0, e_condB, Nat.reduceBEq, reduceIte, Nat.reduceAdd, Nat.reduceLeDiff, Nat.reduceLT, Nat.reduceSub, Nat.reduceMul, reduceCtorEq, Int.reduceNeg, Int.reduceSub, Int.reduceAdd, Int.reduceLE, Int.reduceLT, Int.reduceMul, Int.reduceToNat, Int.reduceEq, Int.reduceBEq, Int.reduceBNe, Nat.reduceEqDiff, c0, c1, cRows_length, hrow, k1, k2, w1]
            refine hN _ (j + 1) hlt (by omega) ?_
            exact ⟨[some 0, some 1], rfl, rfl, rfl, rfl, ⟨.ptr rfl, .ptr rfl, .same _ rfl, .same _ rfl, .same _ rfl, (.of_eq (congrArg V.bool (by rw [hF2]; simp [h13])) rfl), .same _ rfl, trivial⟩, ⟨⟨_, rfl, .box (.cons (.same _ rfl) (.cons (.same _ rfl) .nil))⟩, ⟨⟨_, rfl, .box (.cons (.same _ rfl) (.cons (.same _ rfl) .nil))⟩, trivial⟩⟩⟩
          · have q2 : decide (c ≠ 13) = true := by simp [h13]
            rw [q2] at k2
            simp only [wrap64, EV0, e_condB, Nat.reduceBEq, reduceIte, Nat.reduceAdd, Nat.reduceLeDiff, Nat.reduceLT, Nat.reduceSub, Nat.reduceMul, reduceCtorEq, Int.reduceNeg, Int.reduceSub, Int.reduceAdd, Int.reduceLE, Int.reduceLT, Int.reduceMul, Int.reduceToNat, Int.reduceEq, Int.reduceBEq, Int.reduceBNe, Nat.reduceEqDiff, c0, c1, cRows_length, hrow, k1, k2, w1]
            refine hN _ (j + 1) hlt (by omega) ?_
            exact ⟨[some 0, some 1], rfl, rfl, rfl, rfl, ⟨.ptr rfl, .ptr rfl, .same _ rfl, .same _ rfl, .same _ rfl, (.of_eq (congrArg V.bool (by rw [hF2]; simp [h60, h13])) rfl), .same _ rfl, trivial⟩, ⟨⟨_, rfl, .box (.cons (.same _ rfl) (.cons (.same _ rfl) .nil))⟩, ⟨⟨_, rfl, .box (.cons (.same _ rfl) (.cons (.same _ rfl) .nil))⟩, trivial⟩⟩⟩
      | false =>
        simp only [wrap64, EV0, e_condB, Nat.reduceBEq, reduceIte, Nat.reduceAdd, Nat.reduceLeDiff, Nat.reduceLT, Nat.reduceSub, Nat.reduceMul, reduceCtorEq, Int.reduceNeg, Int.reduceSub, Int.reduceAdd, Int.reduceLE, Int.reduceLT, Int.reduceMul, Int.reduceToNat, Int.reduceEq, Int.reduceBEq, Int.reduceBNe, Nat.reduceEqDiff, c0, c1, cRows_length, hrow, w1]
        refine hN _ (j + 1) hlt (by omega) ?_
        exact ⟨[some 0, some 1], rfl, rfl, rfl, rfl, ⟨.ptr rfl, .ptr rfl, .same _ rfl, .same _ rfl, .same _ rfl, (.of_eq (congrArg V.bool (by rw [hF2]; simp)) rfl), .same _ rfl, trivial⟩, ⟨⟨_, rfl, .box (.cons (.same _ rfl) (.cons (.same _ rfl) .nil))⟩, ⟨⟨_, rfl, .box (.cons (.same _ rfl) (.cons (.same _ rfl) .nil))⟩, trivial⟩⟩⟩
    · have c1 : ((j : Int) < (l.length : Int)) = False := eq_false (by omega)
      rw [List.take_of_length_le hge] at hF
      have hF3 : isRaw t = F := hF
      simp only [wrap64, EV0, e_condB, Nat.reduceBEq, reduceIte, Nat.reduceAdd, Nat.reduceLeDiff, Nat.reduceLT, Nat.reduceSub, Nat.reduceMul, reduceCtorEq, Int.reduceNeg, Int.reduceSub, Int.reduceAdd, Int.reduceLE, Int.reduceLT, Int.reduceMul, Int.reduceToNat, Int.reduceEq, Int.reduceBEq, Int.reduceBNe, Nat.reduceEqDiff, c0, c1, cRows_length]
      refine hE _ _ ?_
      simp only [wrap64, EV0, e_condB, Nat.reduceBEq, reduceIte, Nat.reduceAdd, Nat.reduceLeDiff, Nat.reduceLT, Nat.reduceSub, Nat.reduceMul, reduceCtorEq, Int.reduceNeg, Int.reduceSub, Int.reduceAdd, Int.reduceLE, Int.reduceLT, Int.reduceMul, Int.reduceToNat, Int.reduceEq, Int.reduceBEq, Int.reduceBNe, Nat.reduceEqDiff]
      refine vk_callR rfl ⟨[rawV t rs], .inl rfl, words_of hl (by omega) (by omega)⟩ ?_
      simp only [wrap64, EV0, e_condB, Nat.reduceBEq, reduceIte, Nat.reduceAdd, Nat.reduceLeDiff, Nat.reduceLT, Nat.reduceSub, Nat.reduceMul, reduceCtorEq, Int.reduceNeg, Int.reduceSub, Int.reduceAdd, Int.reduceLE, Int.reduceLT, Int.reduceMul, Int.reduceToNat, Int.reduceEq, Int.reduceBEq, Int.reduceBNe, Nat.reduceEqDiff, strV_raw, rawV]
      refine vk_callR rfl ⟨[.sl 2 (cRows l), .bool false], .inl rfl, ref_words l false n1 (by omega)⟩ ?_
      rw [show wk false = 4 from rfl]
      simp only [wrap64, EV0, e_condB, Nat.reduceBEq, reduceIte, Nat.reduceAdd, Nat.reduceLeDiff, Nat.reduceLT, Nat.reduceSub, Nat.reduceMul, reduceCtorEq, Int.reduceNeg, Int.reduceSub, Int.reduceAdd, Int.reduceLE, Int.reduceLT, Int.reduceMul, Int.reduceToNat, Int.reduceEq, Int.reduceBEq, Int.reduceBNe, Nat.reduceEqDiff]
      refine vk_callR rfl ⟨_, .inl rfl, is_str (l := escL 4 l) (by omega)⟩ ?_
      simp only [wrap64, EV0, e_condB, Nat.reduceBEq, reduceIte, Nat.reduceAdd, Nat.reduceLeDiff, Nat.reduceLT, Nat.reduceSub, Nat.reduceMul, reduceCtorEq, Int.reduceNeg, Int.reduceSub, Int.reduceAdd, Int.reduceLE, Int.reduceLT, Int.reduceMul, Int.reduceToNat, Int.reduceEq, Int.reduceBEq, Int.reduceBNe, Nat.reduceEqDiff]
      refine vk_callR rfl ⟨[rawV t rs], .inl rfl, value_of hl (by omega) (by omega)⟩ ?_
      simp only [wrap64, EV0, e_condB, Nat.reduceBEq, reduceIte, Nat.reduceAdd, Nat.reduceLeDiff, Nat.reduceLT, Nat.reduceSub, Nat.reduceMul, reduceCtorEq, Int.reduceNeg, Int.reduceSub, Int.reduceAdd, Int.reduceLE, Int.reduceLT, Int.reduceMul, Int.reduceToNat, Int.reduceEq, Int.reduceBEq, Int.reduceBNe, Nat.reduceEqDiff, strV_raw, rawV]
      refine vk_callR rfl ⟨[.sl 2 (cRows l), .bool true], .inl rfl, ref_words l true n1 (by omega)⟩ ?_
      rw [show wk true = 5 from rfl]
      simp only [wrap64, EV0, e_condB, Nat.reduceBEq, reduceIte, Nat.reduceAdd, Nat.reduceLeDiff, Nat.reduceLT, Nat.reduceSub, Nat.reduceMul, reduceCtorEq, Int.reduceNeg, Int.reduceSub, Int.reduceAdd, Int.reduceLE, Int.reduceLT, Int.reduceMul, Int.reduceToNat, Int.reduceEq, Int.reduceBEq, Int.reduceBNe, Nat.reduceEqDiff]
      refine vk_callR rfl ⟨_, .inl rfl, is_str (l := escL 5 l) (by omega)⟩ ?_
      simp only [wrap64, EV0, e_condB, Nat.reduceBEq, reduceIte, Nat.reduceAdd, Nat.reduceLeDiff, Nat.reduceLT, Nat.reduceSub, Nat.reduceMul, reduceCtorEq, Int.reduceNeg, Int.reduceSub, Int.reduceAdd, Int.reduceLE, Int.reduceLT, Int.reduceMul, Int.reduceToNat, Int.reduceEq, Int.reduceBEq, Int.reduceBNe, Nat.reduceEqDiff]
      refine vk_callR rfl ⟨[rawV t rs], .inl rfl, quoted_of hl (by omega) (by omega)⟩ ?_
      simp only [wrap64, EV0, e_condB, Nat.reduceBEq, reduceIte, Nat.reduceAdd, Nat.reduceLeDiff, Nat.reduceLT, Nat.reduceSub, Nat.reduceMul, reduceCtorEq, Int.reduceNeg, Int.reduceSub, Int.reduceAdd, Int.reduceLE, Int.reduceLT, Int.reduceMul, Int.reduceToNat, Int.reduceEq, Int.reduceBEq, Int.reduceBNe, Nat.reduceEqDiff, strV_raw, rawV]
      refine vk_callR rfl ⟨_, .inl rfl, is_str (l := quoL l) (by omega)⟩ ?_
      simp only [wrap64, EV0, e_condB, Nat.reduceBEq, reduceIte, Nat.reduceAdd, Nat.reduceLeDiff, Nat.reduceLT, Nat.reduceSub, Nat.reduceMul, reduceCtorEq, Int.reduceNeg, Int.reduceSub, Int.reduceAdd, Int.reduceLE, Int.reduceLT, Int.reduceMul, Int.reduceToNat, Int.reduceEq, Int.reduceBEq, Int.reduceBNe, Nat.reduceEqDiff]
      refine vk_callR rfl ⟨[rawV t' rs', rawV t rs], .inl rfl, pair_of hl' hl (by omega) (by omega) (by omega) (by omega)⟩ ?_
      simp only [wrap64, EV0, e_condB, Nat.reduceBEq, reduceIte, Nat.reduceAdd, Nat.reduceLeDiff, Nat.reduceLT, Nat.reduceSub, Nat.reduceMul, reduceCtorEq, Int.reduceNeg, Int.reduceSub, Int.reduceAdd, Int.reduceLE, Int.reduceLT, Int.reduceMul, Int.reduceToNat, Int.reduceEq, Int.reduceBEq, Int.reduceBNe, Nat.reduceEqDiff, strV_raw, rawV]
      refine vk_callR rfl ⟨_, .inl rfl, is_str (l := pairL l' l) (by omega)⟩ ?_
      simp only [wrap64, EV0, e_condB, Nat.reduceBEq, reduceIte, Nat.reduceAdd, Nat.reduceLeDiff, Nat.reduceLT, Nat.reduceSub, Nat.reduceMul, reduceCtorEq, Int.reduceNeg, Int.reduceSub, Int.reduceAdd, Int.reduceLE, Int.reduceLT, Int.reduceMul, Int.reduceToNat, Int.reduceEq, Int.reduceBEq, Int.reduceBNe, Nat.reduceEqDiff]
      refine vk_callR rfl ⟨[rawV t rs], .inl rfl, u_raw t rs (by omega)⟩ ?_
      have hFF : (F == F) = true := by cases F <;> rfl
      simp only [wrap64, EV0, e_condB, Nat.reduceBEq, reduceIte, Nat.reduceAdd, Nat.reduceLeDiff, Nat.reduceLT, Nat.reduceSub, Nat.reduceMul, reduceCtorEq, Int.reduceNeg, Int.reduceSub, Int.reduceAdd, Int.reduceLE, Int.reduceLT, Int.reduceMul, Int.reduceToNat, Int.reduceEq, Int.reduceBEq, Int.reduceBNe, Nat.reduceEqDiff, hF3, hFF]
      exact ⟨_, _, rfl, rfl, .refl _⟩
end Go.Proofs.VL

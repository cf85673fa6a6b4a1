/- Contracts of functions of the program, for what calls them, and the law that its name tells. -/
import Derived.Test.YtdiddnapamjojaaTS
import Derived.Test.YtdiddnapamjojaaV2
namespace Go.Proofs.VL
open Go Go.RowKit
set_option maxRecDepth 100000
set_option maxHeartbeats 2000000
set_option linter.unusedSimpArgs false
set_option linter.unusedVariables false
attribute [local irreducible] vwp vk

theorem wire_str {t : List UInt8} {rs : Runs} {l : LT} (h : lab t rs = l) (ht : t.length ≤ 100000000) (hrs : rs.length ≤ 100000000) : VFn Try.prog 52 [rawV t rs] (.sl 1 (bRows (strO l))) := by
  refine VFn.intro ok52 (Nat.le_of_ble_eq_true rfl) (vk_start ?_)
  have hw := w_at (w_str [] false h (by simp) ht hrs) rfl (B := [some (.box [.str t, .sl 2 (rowsOf rs)]), some (.box [.ref 2 0, .bool false]), some (.arr 5 1 [])]) (k0 := 1) (k1 := 2) rfl rfl (by decide)
  have ha : VCall Try.prog 103 [.ptr 1 0, rawV t rs] [some (.box [.str t, .sl 2 (rowsOf rs)]), some (.box [.nils, .bool false])] (.tup []) _ :=
    VCall.adopt hw rfl ⟨[some 0, some 1, none], rfl, rfl, rfl, rfl, ⟨.ptr rfl, .agg (.cons (.same _ rfl) (.cons (.same _ rfl) .nil)), trivial⟩, ⟨⟨_, rfl, .box (.cons (.same _ rfl) (.cons (.same _ rfl) .nil))⟩, ⟨⟨_, rfl, .box (.cons (.nref rfl) (.cons (.same _ rfl) .nil))⟩, ⟨⟨_, _, rfl⟩, trivial⟩⟩⟩⟩
  rw [List.nil_append] at ha
  have hbl := bRows_length (strO l)
  have htk := bRows_take (strO l)
  simp (maxSteps := 4000000) (disch := omega) only [EW, Nat.reduceBEq, reduceIte, Nat.reduceAdd, Nat.reduceLeDiff, Nat.reduceLT, Nat.reduceSub, Nat.reduceMul, reduceCtorEq, Int.reduceNeg, Int.reduceSub, Int.reduceAdd, Int.reduceLE, Int.reduceLT, Int.reduceMul, Int.reduceToNat, Int.reduceEq, Int.reduceBEq, Int.reduceBNe, Nat.reduceEqDiff, vc52, rs52, rawV]
  refine vk_call rfl ha ?_
  simp (maxSteps := 4000000) (disch := omega) only [EW, Nat.reduceBEq, reduceIte, Nat.reduceAdd, Nat.reduceLeDiff, Nat.reduceLT, Nat.reduceSub, Nat.reduceMul, reduceCtorEq, Int.reduceNeg, Int.reduceSub, Int.reduceAdd, Int.reduceLE, Int.reduceLT, Int.reduceMul, Int.reduceToNat, Int.reduceEq, Int.reduceBEq, Int.reduceBNe, Nat.reduceEqDiff]
  exact fin (lend_rows rfl hbl.symm)

/-- Four octets, as the page's number has them. -/
def num4B (n : Int) : List UInt8 := [UInt8.ofNat (n.tdiv 16777216 % 256).toNat, UInt8.ofNat (n.tdiv 65536 % 256).toNat, UInt8.ofNat (n.tdiv 256 % 256).toNat, UInt8.ofNat (n % 256).toNat]
theorem num4_oct {n : Int} (h : 0 ≤ n) : num4B n = oct4 n := by
  unfold num4B oct4
  rw [Int.tdiv_eq_ediv_of_nonneg h, Int.tdiv_eq_ediv_of_nonneg h, Int.tdiv_eq_ediv_of_nonneg h]
theorem num4_len (n : Int) : (num4B n).length = 4 := rfl

theorem oddI_no {n : Int} (h : oddI n = false) : 0 ≤ n ∧ n ≤ 4294967295 := by
  unfold oddI at h
  simp at h; omega

theorem ref_num4 (n : Int) (hn : -9223372036854775808 ≤ n ∧ n ≤ 9223372036854775807) : VFn Try.prog 102 [.int .i64 n] (.sl 1 (bRows (num4B n))) := by
  refine VFn.intro ok102 (Nat.le_of_ble_eq_true rfl) (vk_start ?_)
  have q : ∀ m : Int, 0 < m → -9223372036854775808 ≤ n.tdiv m ∧ n.tdiv m ≤ 9223372036854775807 := by
    intro m hm
    rcases (by omega : n < 0 ∨ 0 ≤ n) with h | h
    · have h1 : n.tdiv m = -((-n).tdiv m) := by rw [Int.neg_tdiv, Int.neg_neg]
      have h2 : (-n).tdiv m = (-n) / m := Int.tdiv_eq_ediv_of_nonneg (by omega)
      have h3 : (-n) / m ≤ -n := Int.ediv_le_self _ (by omega)
      have h4 : 0 ≤ (-n) / m := Int.ediv_nonneg (by omega) (by omega)
      omega
    · have h2 : n.tdiv m = n / m := Int.tdiv_eq_ediv_of_nonneg h
      have h3 : n / m ≤ n := Int.ediv_le_self _ h
      have h4 : 0 ≤ n / m := Int.ediv_nonneg h (by omega)
      omega
  have q1 := q 16777216 (by decide)
  have q2 := q 65536 (by decide)
  have q3 := q 256 (by decide)
  have b1 := byte_op (n.tdiv 16777216)
  have b2 := byte_op (n.tdiv 65536)
  have b3 := byte_op (n.tdiv 256)
  have b4 := byte_op n
  simp (maxSteps := 4000000) (disch := omega) only [EW, Nat.reduceBEq, reduceIte, Nat.reduceAdd, Nat.reduceLeDiff, Nat.reduceLT, Nat.reduceSub, Nat.reduceMul, reduceCtorEq, Int.reduceNeg, Int.reduceSub, Int.reduceAdd, Int.reduceLE, Int.reduceLT, Int.reduceMul, Int.reduceToNat, Int.reduceEq, Int.reduceBEq, Int.reduceBNe, Nat.reduceEqDiff, vc102, rs102, b1, b2, b3, b4]
  exact fin rfl

theorem ref_num4o (n : Int) (hn : -9223372036854775808 ≤ n ∧ n ≤ 9223372036854775807) : VCall Try.prog 102 [.int .i64 n] [] (.ref 0 4) [some (.arr 5 1 (bRows (num4B n)))] := by
  refine VCall.intro ok102 (Nat.le_of_ble_eq_true rfl) (vk_start ?_)
  have q : ∀ m : Int, 0 < m → -9223372036854775808 ≤ n.tdiv m ∧ n.tdiv m ≤ 9223372036854775807 := by
    intro m hm
    rcases (by omega : n < 0 ∨ 0 ≤ n) with h | h
    · have h1 : n.tdiv m = -((-n).tdiv m) := by rw [Int.neg_tdiv, Int.neg_neg]
      have h2 : (-n).tdiv m = (-n) / m := Int.tdiv_eq_ediv_of_nonneg (by omega)
      have h3 : (-n) / m ≤ -n := Int.ediv_le_self _ (by omega)
      have h4 : 0 ≤ (-n) / m := Int.ediv_nonneg (by omega) (by omega)
      omega
    · have h2 : n.tdiv m = n / m := Int.tdiv_eq_ediv_of_nonneg h
      have h3 : n / m ≤ n := Int.ediv_le_self _ h
      have h4 : 0 ≤ n / m := Int.ediv_nonneg h (by omega)
      omega
  have q1 := q 16777216 (by decide)
  have q2 := q 65536 (by decide)
  have q3 := q 256 (by decide)
  have b1 := byte_op (n.tdiv 16777216)
  have b2 := byte_op (n.tdiv 65536)
  have b3 := byte_op (n.tdiv 256)
  have b4 := byte_op n
  simp (maxSteps := 4000000) (disch := omega) only [EW, Nat.reduceBEq, reduceIte, Nat.reduceAdd, Nat.reduceLeDiff, Nat.reduceLT, Nat.reduceSub, Nat.reduceMul, reduceCtorEq, Int.reduceNeg, Int.reduceSub, Int.reduceAdd, Int.reduceLE, Int.reduceLT, Int.reduceMul, Int.reduceToNat, Int.reduceEq, Int.reduceBEq, Int.reduceBNe, Nat.reduceEqDiff, vc102, rs102, b1, b2, b3, b4]
  exact ⟨_, rfl, ⟨[some 0], rfl, rfl, rfl, rfl, ⟨.ref rfl, trivial⟩, ⟨⟨_, rfl, .arr (.refl _)⟩, trivial⟩⟩⟩

theorem ref_wstr {t : List UInt8} {rs : Runs} {l : LT} (h : lab t rs = l) (ht : t.length ≤ 100000000) (hrs : rs.length ≤ 100000000) : VFn Try.prog 53 [rawV t rs] (.sl 1 (bRows (strO l))) := by
  refine VFn.intro ok53 (Nat.le_of_ble_eq_true rfl) (vk_start ?_)
  have hn : Near l := h ▸ lab_near t rs
  have hL : l.length = t.length := by rw [← h, lab_length]
  have hev := near_even hn (by omega)
  have hof := ref_of t rs (by omega) (by omega)
  rw [h] at hof
  have hst := ref_str l (by omega)
  have htx : (rawOf l).1 = txt l := rfl
  have hrl : (rawOf l).2.length ≤ l.length := (rawOf_len l).2
  have htl : (txt l).length = l.length := txt_length l
  obtain ⟨Q, hQ⟩ : ∃ Q, Q = rle (l.map (·.2)) := ⟨_, rfl⟩
  have hQr : (rawOf l).2 = Q := hQ.symm
  rw [hQr] at hrl
  have hev' : ∀ r ∈ Q, oddI r.1 = false ∧ oddI r.2 = false := by rw [hQ]; exact hev
  have e : strO l = textO (txt l) ++ oct4 Q.length ++ runsO Q := by unfold strO; rw [← hQ]
  rw [e]
  clear e hev
  have n1 := ref_num4 (txt l).length (by omega)
  rw [num4_oct (by omega)] at n1
  have n2 := ref_num4 Q.length (by omega)
  rw [num4_oct (by omega)] at n2
  have et : textO (txt l) = oct4 (txt l).length ++ txt l := rfl
  have hql : (rowsOf Q).length = Q.length := rowsOf_length Q
  have htol := textO_len (txt l)
  have hb1 := bRows_length (oct4 (txt l).length)
  have hb2 : (oct4 (txt l).length).length = 4 := rfl
  have hb3 := bRows_length (textO (txt l))
  have hb4 := bRows_length (oct4 (Q.length : Int))
  have hb5 : (oct4 (Q.length : Int)).length = 4 := rfl
  simp (maxSteps := 4000000) (disch := omega) only [EW, Nat.reduceBEq, reduceIte, Nat.reduceAdd, Nat.reduceLeDiff, Nat.reduceLT, Nat.reduceSub, Nat.reduceMul, reduceCtorEq, Int.reduceNeg, Int.reduceSub, Int.reduceAdd, Int.reduceLE, Int.reduceLT, Int.reduceMul, Int.reduceToNat, Int.reduceEq, Int.reduceBEq, Int.reduceBNe, Nat.reduceEqDiff, vc53, rs53, rawV]
  refine vk_callR rfl ⟨[rawV t rs], .inl rfl, hof⟩ ?_
  simp (maxSteps := 4000000) (disch := omega) only [EW, Nat.reduceBEq, reduceIte, Nat.reduceAdd, Nat.reduceLeDiff, Nat.reduceLT, Nat.reduceSub, Nat.reduceMul, reduceCtorEq, Int.reduceNeg, Int.reduceSub, Int.reduceAdd, Int.reduceLE, Int.reduceLT, Int.reduceMul, Int.reduceToNat, Int.reduceEq, Int.reduceBEq, Int.reduceBNe, Nat.reduceEqDiff, strV_raw, rawV, htx, hQr]
  (refine vk_callR rfl ⟨_, .inl rfl, hst⟩ ?_; simp (maxSteps := 4000000) (disch := omega) only [EW, Nat.reduceBEq, reduceIte, Nat.reduceAdd, Nat.reduceLeDiff, Nat.reduceLT, Nat.reduceSub, Nat.reduceMul, reduceCtorEq, Int.reduceNeg, Int.reduceSub, Int.reduceAdd, Int.reduceLE, Int.reduceLT, Int.reduceMul, Int.reduceToNat, Int.reduceEq, Int.reduceBEq, Int.reduceBNe, Nat.reduceEqDiff, strV_raw, rawV, htx, hQr])
  have o1 := ref_num4o (txt l).length (by omega)
  rw [num4_oct (by omega)] at o1
  refine vk_callS [] rfl o1 rfl .nil trivial rfl rfl rfl rfl (Nat.zero_le _) (by simp [putObs, renV, V.names, nameOf]; omega) ?_
  have hk4 : List.take 4 (bRows (oct4 (txt l).length)) = bRows (oct4 (txt l).length) := rfl
  have ch : ∀ (x a b : V) (n : Int), chkS [([X.c (.fn 102 [] []), X.t 11], [X.t 13, X.t 14])] { tm := [], ob := [], base := 0 } = true := fun _ _ _ _ => rfl
  simp (maxSteps := 4000000) (disch := omega) only [EW, Nat.reduceBEq, reduceIte, Nat.reduceAdd, Nat.reduceLeDiff, Nat.reduceLT, Nat.reduceSub, Nat.reduceMul, reduceCtorEq, Int.reduceNeg, Int.reduceSub, Int.reduceAdd, Int.reduceLE, Int.reduceLT, Int.reduceMul, Int.reduceToNat, Int.reduceEq, Int.reduceBEq, Int.reduceBNe, Nat.reduceEqDiff, putObs, renV, nameOf, renO, hk4, bRows_append, rowsOf_length]
  rw [← et]
  generalize textO (txt l) = c at *
  (refine vk_callR rfl ⟨_, .inl rfl, n2⟩ ?_; simp (maxSteps := 4000000) (disch := omega) only [EW, Nat.reduceBEq, reduceIte, Nat.reduceAdd, Nat.reduceLeDiff, Nat.reduceLT, Nat.reduceSub, Nat.reduceMul, reduceCtorEq, Int.reduceNeg, Int.reduceSub, Int.reduceAdd, Int.reduceLE, Int.reduceLT, Int.reduceMul, Int.reduceToNat, Int.reduceEq, Int.reduceBEq, Int.reduceBNe, Nat.reduceEqDiff, rowsOf_length, bRows_length, bRows_take])
  rw [bRows_append]
  have hdl : (c ++ oct4 (Q.length : Int)).length = c.length + 4 := by rw [List.length_append]; rfl
  generalize c ++ oct4 (Q.length : Int) = d at *
  refine vk_loopR (γ := Nat) (fun j => { tm := [(3, .ptr 0 0), (4, .ref 1 (d ++ runsO (Q.take j)).length), (5, .int .i64 j)], ob := [some (.box [.str (txt l), .sl 2 (rowsOf Q)]), some (.arr 5 1 (bRows (d ++ runsO (Q.take j))))], base := 0 })
    (fun j => j ≤ Q.length) (fun j => Q.length - j) 0 (Nat.zero_le _) ?_ ?_
  · rw [List.take_zero, show runsO [] = [] from rfl, List.append_nil]
    exact ⟨[some 1, some 4], rfl, rfl, rfl, rfl, ⟨.ptr rfl, (.refE rfl (by omega)), .same _ rfl, trivial⟩, ⟨⟨_, rfl, .box (.cons (.same _ rfl) (.cons (.same _ rfl) .nil))⟩, ⟨⟨_, rfl, .arr (.refl _)⟩, trivial⟩⟩⟩
  · rintro j hj R hN hE hR
    rcases Nat.lt_or_ge j Q.length with hlt | hge
    · obtain ⟨⟨n, o⟩, hr⟩ : ∃ r, Q[j]? = some r := ⟨_, List.getElem?_eq_getElem hlt⟩
      have hrow : (rowsOf Q)[j]? = some [.int .i64 n, .int .i64 o] := by rw [rowsOf_get, hr]; rfl
      have htk : Q.take (j + 1) = Q.take j ++ [(n, o)] := by rw [List.take_add_one, hr]; rfl
      have hlen : (d ++ runsO (Q.take j)).length ≤ 20000000000 := by rw [List.length_append, runsO_len, List.length_take]; omega
      have e1 : d ++ runsO (Q.take (j + 1)) = d ++ runsO (Q.take j) ++ oct4 n ++ oct4 o := by rw [htk, runsO_snoc]; simp
      have hfin := fun s' hs => hN s' (j + 1) hlt (by omega) hs
      simp only [e1] at hfin
      generalize d ++ runsO (Q.take j) = f at *
      simp (maxSteps := 4000000) (disch := omega) only [EW, Nat.reduceBEq, reduceIte, Nat.reduceAdd, Nat.reduceLeDiff, Nat.reduceLT, Nat.reduceSub, Nat.reduceMul, reduceCtorEq, Int.reduceNeg, Int.reduceSub, Int.reduceAdd, Int.reduceLE, Int.reduceLT, Int.reduceMul, Int.reduceToNat, Int.reduceEq, Int.reduceBEq, Int.reduceBNe, Nat.reduceEqDiff, hrow, rowsOf_length, bRows_length, bRows_take]
      have hq := hev' _ (List.mem_of_getElem? hr)
      have hq1 := oddI_no hq.1
      have hq2 := oddI_no hq.2
      have n3 := ref_num4 n (by omega)
      have n4 := ref_num4 o (by omega)
      rw [num4_oct (by omega)] at n3 n4
      have q1 := bRows_length (oct4 n)
      have q2 := bRows_length (oct4 o)
      have q3 := oct4_len n
      have q4 := oct4_len o
      have q6 := bRows_length f
      (refine vk_callR rfl ⟨_, .inl rfl, n3⟩ ?_; simp (maxSteps := 4000000) (disch := omega) only [EW, Nat.reduceBEq, reduceIte, Nat.reduceAdd, Nat.reduceLeDiff, Nat.reduceLT, Nat.reduceSub, Nat.reduceMul, reduceCtorEq, Int.reduceNeg, Int.reduceSub, Int.reduceAdd, Int.reduceLE, Int.reduceLT, Int.reduceMul, Int.reduceToNat, Int.reduceEq, Int.reduceBEq, Int.reduceBNe, Nat.reduceEqDiff, hrow, rowsOf_length, bRows_length, bRows_take, bRows_append])
      have q5 : (f ++ oct4 n).length = f.length + 4 := by rw [List.length_append, q3]
      generalize f ++ oct4 n = g at *
      have q7 := bRows_length g
      have q8 : List.take (f.length + (oct4 n).length) (bRows g) = bRows g := List.take_of_length_le (by omega)
      (refine vk_callR rfl ⟨_, .inl rfl, n4⟩ ?_; simp (maxSteps := 4000000) (disch := omega) only [EW, Nat.reduceBEq, reduceIte, Nat.reduceAdd, Nat.reduceLeDiff, Nat.reduceLT, Nat.reduceSub, Nat.reduceMul, reduceCtorEq, Int.reduceNeg, Int.reduceSub, Int.reduceAdd, Int.reduceLE, Int.reduceLT, Int.reduceMul, Int.reduceToNat, Int.reduceEq, Int.reduceBEq, Int.reduceBNe, Nat.reduceEqDiff, q8, hrow, rowsOf_length, bRows_length, bRows_take, bRows_append])
      refine hfin _ ?_
      exact ⟨[some 0, some 3], rfl, rfl, rfl, rfl, ⟨.ptr rfl, (.refE rfl (by rw [List.length_append])), .same _ rfl, trivial⟩, ⟨⟨_, rfl, .box (.cons (.same _ rfl) (.cons (.same _ rfl) .nil))⟩, ⟨⟨_, rfl, .arr (.refl _)⟩, trivial⟩⟩⟩
    · have e : j = Q.length := by omega
      subst e
      rw [List.take_length]
      simp (maxSteps := 4000000) (disch := omega) only [EW, Nat.reduceBEq, reduceIte, Nat.reduceAdd, Nat.reduceLeDiff, Nat.reduceLT, Nat.reduceSub, Nat.reduceMul, reduceCtorEq, Int.reduceNeg, Int.reduceSub, Int.reduceAdd, Int.reduceLE, Int.reduceLT, Int.reduceMul, Int.reduceToNat, Int.reduceEq, Int.reduceBEq, Int.reduceBNe, Nat.reduceEqDiff, rowsOf_length]
      refine hE _ _ ?_
      simp (maxSteps := 4000000) (disch := omega) only [EW, Nat.reduceBEq, reduceIte, Nat.reduceAdd, Nat.reduceLeDiff, Nat.reduceLT, Nat.reduceSub, Nat.reduceMul, reduceCtorEq, Int.reduceNeg, Int.reduceSub, Int.reduceAdd, Int.reduceLE, Int.reduceLT, Int.reduceMul, Int.reduceToNat, Int.reduceEq, Int.reduceBEq, Int.reduceBNe, Nat.reduceEqDiff, bRows_length, bRows_take]
      exact fin (lend_rows rfl (by simp [bRows_length]))
end Go.Proofs.VL

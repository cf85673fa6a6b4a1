/- Contracts of functions of the program, for what calls them, and the law that its name tells. -/
import Derived.Test.YtdhfnmbbdcpnbaaSD
import Derived.Test.YtdhfnmbbdcpnbaaCglazierref01
namespace Go.Proofs.VL
open Go Go.RowKit
set_option maxRecDepth 100000
set_option maxHeartbeats 2000000
set_option linter.unusedSimpArgs false
set_option linter.unusedVariables false

theorem fn73 (o : Int) : VFn Try.prog 74 [.int .i64 o] (.int .i64 (nearI o)) := by
  refine VFn.intro ok74 (Nat.le_of_ble_eq_true rfl) (vk_start ?_)
  simp only [vc74, rs74, wrap64, EV0, Nat.reduceBEq, reduceIte, Nat.reduceAdd, Nat.reduceLeDiff, Nat.reduceLT, Nat.reduceSub, Nat.reduceMul, reduceCtorEq, Int.reduceNeg, Int.reduceSub, Int.reduceAdd, Int.reduceLE, Int.reduceLT, Int.reduceMul, Int.reduceToNat, Int.reduceEq, Int.reduceBEq, Int.reduceBNe, Nat.reduceEqDiff]
  refine ⟨_, _, rfl, rfl, .of_eq ?_⟩
  congr 1
  simp only [nearI]
  omega

def cRows (l : LT) : List (List V) := l.map fun c => [.int .u8 c.1.toNat, .int .i64 c.2]
theorem cRows_length (l : LT) : (cRows l).length = l.length := by simp [cRows]
theorem cRows_append (a b : LT) : cRows a ++ cRows b = cRows (a ++ b) := by simp [cRows]
theorem cRows_take (a : LT) : List.take a.length (cRows a) = cRows a := List.take_of_length_le (by rw [cRows_length]; exact Nat.le_refl _)
theorem cRows_get (l : LT) (i : Nat) : (cRows l)[i]? = (l[i]?).map fun c => [.int .u8 c.1.toNat, .int .i64 c.2] := by simp [cRows]

theorem zip_snoc {t : List UInt8} {A : List Int} {c : UInt8} (o : Int) (h : t[A.length]? = some c) : t.zip (A ++ [o]) = t.zip A ++ [(c, o)] := by
  induction A generalizing t with
  | nil => cases t with
    | nil => simp at h
    | cons x t => simp at h; simp [h]
  | cons a A ih => cases t with
    | nil => simp at h
    | cons x t => simp at h; simp [ih h]

theorem zip_len {t : List UInt8} {A : List Int} (h : A.length ≤ t.length) : (t.zip A).length = A.length := by simp; omega

theorem ref_of (t : List UInt8) (rs : Runs) (ht : t.length ≤ 1000000000) (hrs : rs.length ≤ 1000000000) : VFn Try.prog 24 [rawV t rs] (.sl 2 (cRows (lab t rs))) := by
  refine VFn.intro ok24 (Nat.le_of_ble_eq_true rfl) (vk_start ?_)
  simp only [vc24, rs24, rawV, wrap64, EV0, e_condB, Nat.reduceBEq, reduceIte, Nat.reduceAdd, Nat.reduceLeDiff, Nat.reduceLT, Nat.reduceSub, Nat.reduceMul, reduceCtorEq, Int.reduceNeg, Int.reduceSub, Int.reduceAdd, Int.reduceLE, Int.reduceLT, Int.reduceMul, Int.reduceToNat, Int.reduceEq, Int.reduceBEq, Int.reduceBNe, Nat.reduceEqDiff]
  refine vk_loopR (γ := Nat) (fun i => { tm := [(1, .ptr 0 0), (3, .ref 1 (t.zip (takeR t.length (rs.take i)).1).length), (4, .int .i64 i)], ob := [some (.box [.str t, .sl 2 (rowsOf rs)]), some (.arr 125 2 (cRows (t.zip (takeR t.length (rs.take i)).1)))], base := 0 }) (fun i => i ≤ rs.length) (fun i => rs.length - i) 0 (Nat.zero_le _) ?_ ?_
  · have e : (t.zip (takeR t.length (rs.take 0)).1) = [] := by simp [takeR]
    simp only [e]
    exact ⟨[some 0, none], rfl, rfl, rfl, rfl, ⟨.ptr rfl, .nref rfl, .same _ rfl, trivial⟩, ⟨⟨_, rfl, .box (.cons (.same _ rfl) (.cons (.same _ rfl) .nil))⟩, ⟨⟨_, _, rfl⟩, trivial⟩⟩⟩
  · intro i hi R hN hE hR
    have c0 : (0 ≤ (i : Int)) = True := by simp
    have hlen := takeR_len t.length (rs.take i)
    rcases Nat.lt_or_ge i rs.length with hlt | hge
    · have c1 : ((i : Int) < (rs.length : Int)) = True := by simp; omega
      obtain ⟨⟨n, o⟩, hr⟩ : ∃ r, rs[i]? = some r := ⟨_, List.getElem?_eq_getElem hlt⟩
      have hrow : (rowsOf rs)[i]? = some [.int .i64 n, .int .i64 o] := by rw [rowsOf_get, hr]; rfl
      have w1 : IntKind.i64.wrap ((i : Int) + 1) = i + 1 := wrap64 (by omega) (by omega)
      have htk : rs.take (i + 1) = rs.take i ++ [(n, o)] := by rw [List.take_add_one, hr]; rfl
      have hsn := takeR_snoc t.length (rs.take i) (n, o)
      rw [← htk] at hsn
      generalize hK : (takeR t.length (rs.take i)).2 = K at *
      generalize hA : (takeR t.length (rs.take i)).1 = A at *
      simp only [wrap64, EV0, e_condB, Nat.reduceBEq, reduceIte, Nat.reduceAdd, Nat.reduceLeDiff, Nat.reduceLT, Nat.reduceSub, Nat.reduceMul, reduceCtorEq, Int.reduceNeg, Int.reduceSub, Int.reduceAdd, Int.reduceLE, Int.reduceLT, Int.reduceMul, Int.reduceToNat, Int.reduceEq, Int.reduceBEq, Int.reduceBNe, Nat.reduceEqDiff, c0, c1, hrow, rowsOf_length]
      refine vk_loopR (γ := Nat) (fun j => { tm := [(1, .ptr 0 0), (3, .ref 1 (t.zip (A ++ List.replicate j (nearI o))).length), (4, .int .i64 i), (5, .int .i64 j)], ob := [some (.box [.str t, .sl 2 (rowsOf rs)]), some (.arr 125 2 (cRows (t.zip (A ++ List.replicate j (nearI o)))))], base := 0 }) (fun j => j ≤ min n.toNat K) (fun j => K - j) 0 (Nat.zero_le _) ?_ ?_
      · simp only [List.replicate_zero, List.append_nil]
        exact ⟨[some 0, some 1], rfl, rfl, rfl, rfl, ⟨.ptr rfl, .ref rfl, .same _ rfl, .same _ rfl, trivial⟩, ⟨⟨_, rfl, .box (.cons (.same _ rfl) (.cons (.same _ rfl) .nil))⟩, ⟨⟨_, rfl, .arr (.refl _)⟩, trivial⟩⟩⟩
      · intro j hj R2 hN2 hE2 hR2
        have hl2 : (A ++ List.replicate j (nearI o)).length = A.length + j := by simp
        have hz := zip_len (t := t) (A := A ++ List.replicate j (nearI o)) (by rw [hl2]; omega)
        have w2 : IntKind.i64.wrap ((j : Int) + 1) = j + 1 := wrap64 (by omega) (by omega)
        by_cases hb : j < min n.toNat K
        · have d1 : ((j : Int) < n) = True := by simp; omega
          have d2 : (((t.zip (A ++ List.replicate j (nearI o))).length : Int) < (t.length : Int)) = True := by rw [hz, hl2]; simp; omega
          obtain ⟨c, hc⟩ : ∃ c, t[(A ++ List.replicate j (nearI o)).length]? = some c := ⟨_, List.getElem?_eq_getElem (by rw [hl2]; omega)⟩
          have hsn2 := zip_snoc (nearI o) hc
          have e3 : A ++ List.replicate (j + 1) (nearI o) = A ++ List.replicate j (nearI o) ++ [nearI o] := by rw [List.replicate_succ', List.append_assoc]
          rw [← e3] at hsn2
          rw [← hz] at hc
          have d3 : (0 ≤ ((t.zip (A ++ List.replicate j (nearI o))).length : Int)) = True := by simp
          have d4 : (t.zip (A ++ List.replicate j (nearI o))).length + 1 ≤ 140737488355328 := by rw [hz, hl2]; omega
          have d5 : ((t.zip (A ++ List.replicate j (nearI o))).length + 1) * 16 ≤ 140737488355328 := by rw [hz, hl2]; omega
          simp only [wrap64, EV0, e_condB, Nat.reduceBEq, reduceIte, Nat.reduceAdd, Nat.reduceLeDiff, Nat.reduceLT, Nat.reduceSub, Nat.reduceMul, reduceCtorEq, Int.reduceNeg, Int.reduceSub, Int.reduceAdd, Int.reduceLE, Int.reduceLT, Int.reduceMul, Int.reduceToNat, Int.reduceEq, Int.reduceBEq, Int.reduceBNe, Nat.reduceEqDiff, c0, c1, hrow, d1, d2, hc, d3]
          refine vk_callR rfl ⟨[.int .i64 o], .inl rfl, fn73 o⟩ ?_
          simp only [wrap64, EV0, e_condB, Nat.reduceBEq, reduceIte, Nat.reduceAdd, Nat.reduceLeDiff, Nat.reduceLT, Nat.reduceSub, Nat.reduceMul, reduceCtorEq, Int.reduceNeg, Int.reduceSub, Int.reduceAdd, Int.reduceLE, Int.reduceLT, Int.reduceMul, Int.reduceToNat, Int.reduceEq, Int.reduceBEq, Int.reduceBNe, Nat.reduceEqDiff, cRows_length, cRows_take, d4, d5, w2]
          refine hN2 _ (j + 1) (by omega) (by omega) ?_
          simp only [hsn2, List.length_append, List.length_singleton]
          rw [← cRows_append]
          exact ⟨[some 0, some 2], rfl, rfl, rfl, rfl, ⟨.ptr rfl, .ref rfl, .same _ rfl, .same _ rfl, trivial⟩, ⟨⟨_, rfl, .box (.cons (.same _ rfl) (.cons (.same _ rfl) .nil))⟩, ⟨⟨_, rfl, .arr (.refl _)⟩, trivial⟩⟩⟩
        · by_cases hn : j < n.toNat
          · have d1 : ((j : Int) < n) = True := by simp; omega
            have d2 : (((t.zip (A ++ List.replicate j (nearI o))).length : Int) < (t.length : Int)) = False := by rw [hz, hl2]; simp; omega
            simp only [wrap64, EV0, e_condB, Nat.reduceBEq, reduceIte, Nat.reduceAdd, Nat.reduceLeDiff, Nat.reduceLT, Nat.reduceSub, Nat.reduceMul, reduceCtorEq, Int.reduceNeg, Int.reduceSub, Int.reduceAdd, Int.reduceLE, Int.reduceLT, Int.reduceMul, Int.reduceToNat, Int.reduceEq, Int.reduceBEq, Int.reduceBNe, Nat.reduceEqDiff, c0, c1, hrow, d1, d2]
            refine hE2 _ _ ?_
            simp only [wrap64, EV0, e_condB, Nat.reduceBEq, reduceIte, Nat.reduceAdd, Nat.reduceLeDiff, Nat.reduceLT, Nat.reduceSub, Nat.reduceMul, reduceCtorEq, Int.reduceNeg, Int.reduceSub, Int.reduceAdd, Int.reduceLE, Int.reduceLT, Int.reduceMul, Int.reduceToNat, Int.reduceEq, Int.reduceBEq, Int.reduceBNe, Nat.reduceEqDiff, w1]
            refine hN _ (i + 1) (by omega) (by omega) ?_
            have : j = min n.toNat K := by omega
            simp only [hsn]
            rw [this]
            exact ⟨[some 0, some 1], rfl, rfl, rfl, rfl, ⟨.ptr rfl, .ref rfl, .same _ rfl, trivial⟩, ⟨⟨_, rfl, .box (.cons (.same _ rfl) (.cons (.same _ rfl) .nil))⟩, ⟨⟨_, rfl, .arr (.refl _)⟩, trivial⟩⟩⟩
          · have d1 : ((j : Int) < n) = False := by simp; omega
            simp only [wrap64, EV0, e_condB, Nat.reduceBEq, reduceIte, Nat.reduceAdd, Nat.reduceLeDiff, Nat.reduceLT, Nat.reduceSub, Nat.reduceMul, reduceCtorEq, Int.reduceNeg, Int.reduceSub, Int.reduceAdd, Int.reduceLE, Int.reduceLT, Int.reduceMul, Int.reduceToNat, Int.reduceEq, Int.reduceBEq, Int.reduceBNe, Nat.reduceEqDiff, c0, c1, hrow, d1]
            refine hE2 _ _ ?_
            simp only [wrap64, EV0, e_condB, Nat.reduceBEq, reduceIte, Nat.reduceAdd, Nat.reduceLeDiff, Nat.reduceLT, Nat.reduceSub, Nat.reduceMul, reduceCtorEq, Int.reduceNeg, Int.reduceSub, Int.reduceAdd, Int.reduceLE, Int.reduceLT, Int.reduceMul, Int.reduceToNat, Int.reduceEq, Int.reduceBEq, Int.reduceBNe, Nat.reduceEqDiff, w1]
            refine hN _ (i + 1) (by omega) (by omega) ?_
            have : j = min n.toNat K := by omega
            simp only [hsn]
            rw [this]
            exact ⟨[some 0, some 1], rfl, rfl, rfl, rfl, ⟨.ptr rfl, .ref rfl, .same _ rfl, trivial⟩, ⟨⟨_, rfl, .box (.cons (.same _ rfl) (.cons (.same _ rfl) .nil))⟩, ⟨⟨_, rfl, .arr (.refl _)⟩, trivial⟩⟩⟩
    · have c1 : ((i : Int) < (rs.length : Int)) = False := by simp; omega
      have htk : rs.take i = rs := List.take_of_length_le hge
      simp only [wrap64, EV0, e_condB, Nat.reduceBEq, reduceIte, Nat.reduceAdd, Nat.reduceLeDiff, Nat.reduceLT, Nat.reduceSub, Nat.reduceMul, reduceCtorEq, Int.reduceNeg, Int.reduceSub, Int.reduceAdd, Int.reduceLE, Int.reduceLT, Int.reduceMul, Int.reduceToNat, Int.reduceEq, Int.reduceBEq, Int.reduceBNe, Nat.reduceEqDiff, c0, c1, rowsOf_length]
      refine hE _ _ ?_
      simp only [wrap64, EV0, e_condB, Nat.reduceBEq, reduceIte, Nat.reduceAdd, Nat.reduceLeDiff, Nat.reduceLT, Nat.reduceSub, Nat.reduceMul, reduceCtorEq, Int.reduceNeg, Int.reduceSub, Int.reduceAdd, Int.reduceLE, Int.reduceLT, Int.reduceMul, Int.reduceToNat, Int.reduceEq, Int.reduceBEq, Int.reduceBNe, Nat.reduceEqDiff]
      have hor := takeR_orig t.length rs
      rw [htk] at hlen
      simp only [htk]
      generalize hK : (takeR t.length rs).2 = K at *
      generalize hA : (takeR t.length rs).1 = A at *
      refine vk_loopR (γ := Nat) (fun j => { tm := [(1, .ptr 0 0), (3, .ref 1 (t.zip (A ++ List.replicate j 65536)).length)], ob := [some (.box [.str t, .sl 2 (rowsOf rs)]), some (.arr 125 2 (cRows (t.zip (A ++ List.replicate j 65536))))], base := 0 }) (fun j => j ≤ K) (fun j => K - j) 0 (Nat.zero_le _) ?_ ?_
      · simp only [List.replicate_zero, List.append_nil]
        exact ⟨[some 0, some 1], rfl, rfl, rfl, rfl, ⟨.ptr rfl, .ref rfl, trivial⟩, ⟨⟨_, rfl, .box (.cons (.same _ rfl) (.cons (.same _ rfl) .nil))⟩, ⟨⟨_, rfl, .arr (.refl _)⟩, trivial⟩⟩⟩
      · intro j hj R2 hN2 hE2 hR2
        have hl2 : (A ++ List.replicate j (65536 : Int)).length = A.length + j := by simp
        have hz := zip_len (t := t) (A := A ++ List.replicate j 65536) (by rw [hl2]; omega)
        by_cases hb : j < K
        · have d2 : (((t.zip (A ++ List.replicate j 65536)).length : Int) < (t.length : Int)) = True := by rw [hz, hl2]; simp; omega
          obtain ⟨c, hc⟩ : ∃ c, t[(A ++ List.replicate j (65536 : Int)).length]? = some c := ⟨_, List.getElem?_eq_getElem (by rw [hl2]; omega)⟩
          have hsn2 := zip_snoc 65536 hc
          have e3 : A ++ List.replicate (j + 1) (65536 : Int) = A ++ List.replicate j 65536 ++ [65536] := by rw [List.replicate_succ', List.append_assoc]
          rw [← e3] at hsn2
          rw [← hz] at hc
          have d3 : (0 ≤ ((t.zip (A ++ List.replicate j 65536)).length : Int)) = True := by simp
          have d4 : (t.zip (A ++ List.replicate j 65536)).length + 1 ≤ 140737488355328 := by rw [hz, hl2]; omega
          have d5 : ((t.zip (A ++ List.replicate j 65536)).length + 1) * 16 ≤ 140737488355328 := by rw [hz, hl2]; omega
          simp only [wrap64, EV0, e_condB, Nat.reduceBEq, reduceIte, Nat.reduceAdd, Nat.reduceLeDiff, Nat.reduceLT, Nat.reduceSub, Nat.reduceMul, reduceCtorEq, Int.reduceNeg, Int.reduceSub, Int.reduceAdd, Int.reduceLE, Int.reduceLT, Int.reduceMul, Int.reduceToNat, Int.reduceEq, Int.reduceBEq, Int.reduceBNe, Nat.reduceEqDiff, d2, hc, d3, cRows_length, cRows_take, d4, d5]
          refine hN2 _ (j + 1) (by omega) (by omega) ?_
          simp only [hsn2, List.length_append, List.length_singleton]
          rw [← cRows_append]
          exact ⟨[some 0, some 2], rfl, rfl, rfl, rfl, ⟨.ptr rfl, .ref rfl, trivial⟩, ⟨⟨_, rfl, .box (.cons (.same _ rfl) (.cons (.same _ rfl) .nil))⟩, ⟨⟨_, rfl, .arr (.refl _)⟩, trivial⟩⟩⟩
        · have d2 : (((t.zip (A ++ List.replicate j 65536)).length : Int) < (t.length : Int)) = False := by rw [hz, hl2]; simp; omega
          simp only [wrap64, EV0, e_condB, Nat.reduceBEq, reduceIte, Nat.reduceAdd, Nat.reduceLeDiff, Nat.reduceLT, Nat.reduceSub, Nat.reduceMul, reduceCtorEq, Int.reduceNeg, Int.reduceSub, Int.reduceAdd, Int.reduceLE, Int.reduceLT, Int.reduceMul, Int.reduceToNat, Int.reduceEq, Int.reduceBEq, Int.reduceBNe, Nat.reduceEqDiff, d2]
          refine hE2 _ _ ?_
          have : j = K := by omega
          simp only [wrap64, EV0, e_condB, Nat.reduceBEq, reduceIte, Nat.reduceAdd, Nat.reduceLeDiff, Nat.reduceLT, Nat.reduceSub, Nat.reduceMul, reduceCtorEq, Int.reduceNeg, Int.reduceSub, Int.reduceAdd, Int.reduceLE, Int.reduceLT, Int.reduceMul, Int.reduceToNat, Int.reduceEq, Int.reduceBEq, Int.reduceBNe, Nat.reduceEqDiff, this, ← hor]
          exact ⟨_, _, rfl, lend_rows rfl (by rw [cRows_length]), .refl _⟩

theorem cRows_drop_last (l : LT) (c : UInt8 × Int) : cRows (l ++ [c]) = cRows l ++ [[.int .u8 c.1.toNat, .int .i64 c.2]] := by simp [cRows]

theorem ref_cat (a b : LT) (h : a.length + b.length ≤ 2000000000) : VFn Try.prog 32 [.sl 2 (cRows a), .sl 2 (cRows b)] (.sl 2 (cRows (a ++ b))) := by
  refine VFn.intro ok32 (Nat.le_of_ble_eq_true rfl) (vk_start ?_)
  have d1 : a.length ≤ 140737488355328 := by omega
  have d2 : a.length * 16 ≤ 140737488355328 := by omega
  have d3 : a.length + b.length ≤ 140737488355328 := by omega
  have d4 : (a.length + b.length) * 16 ≤ 140737488355328 := by omega
  simp only [vc32, rs32, wrap64, EV0, e_condB, Nat.reduceBEq, reduceIte, Nat.reduceAdd, Nat.reduceLeDiff, Nat.reduceLT, Nat.reduceSub, Nat.reduceMul, reduceCtorEq, Int.reduceNeg, Int.reduceSub, Int.reduceAdd, Int.reduceLE, Int.reduceLT, Int.reduceMul, Int.reduceToNat, Int.reduceEq, Int.reduceBEq, Int.reduceBNe, Nat.reduceEqDiff, cRows_length, cRows_take, d1, d2, d3, d4, cRows_append]
  exact ⟨_, _, rfl, lend_rows rfl (by rw [cRows_length]; simp), .refl _⟩

/-- A labelled text, as it is told of bytes with origins. -/
def strV (l : LT) : V := rawV (l.map (·.1)) (rle (l.map (·.2)))

/-- The first bytes of a labelled text, then 0. -/
def padB (l : LT) (i : Nat) : List (List V) := bRows ((l.take i).map (·.1)) ++ List.replicate (l.length - i) [.int .u8 0]
theorem padB_zero (l : LT) : padB l 0 = List.replicate l.length [.int .u8 0] := by simp [padB, bRows]
theorem padB_full (l : LT) : padB l l.length = bRows (l.map (·.1)) := by simp [padB]
theorem padB_length (l : LT) {i : Nat} (h : i ≤ l.length) : (padB l i).length = l.length := by simp [padB, bRows_length]; omega
theorem padB_get (l : LT) {i : Nat} (h : i < l.length) : (padB l i)[i]? = some [.int .u8 0] := by
  unfold padB
  rw [List.getElem?_append_right (by rw [bRows_length]; simp; omega), bRows_length]
  simp only [List.length_map, List.length_take]
  rw [show i - min i l.length = 0 by omega, List.getElem?_replicate, if_pos (by omega)]
theorem padB_set (l : LT) {i : Nat} {c : UInt8} {o : Int} (h : l[i]? = some (c, o)) : (padB l i).set i [.int .u8 c.toNat] = padB l (i + 1) := by
  have hlt := getElem?_lt h
  unfold padB
  have e : bRows ((l.take (i + 1)).map (·.1)) = bRows ((l.take i).map (·.1)) ++ [[.int .u8 c.toNat]] := by
    rw [List.take_add_one, h]; simp [bRows]
  rw [e, List.set_append_right _ _ (by rw [bRows_length]; simp; omega), bRows_length]
  simp only [List.length_map, List.length_take]
  rw [show i - min i l.length = 0 by omega, show l.length - i = (l.length - (i + 1)) + 1 by omega, List.replicate_succ, List.set_cons_zero]
  simp

theorem ref_str (l : LT) (h : l.length ≤ 2000000000) : VFn Try.prog 28 [.sl 2 (cRows l)] (strV l) := by
  refine VFn.intro ok28 (Nat.le_of_ble_eq_true rfl) (vk_start ?_)
  have d1 : (l.length : Int) ≤ 140737488355328 := by omega
  have d2 : (1 : Int) * (l.length : Int) ≤ 281474976710656 := by omega
  have d3 : (0 ≤ (l.length : Int)) = True := by simp
  simp only [vc28, rs28, strV, rawV, wrap64, EV0, e_condB, Nat.reduceBEq, reduceIte, Nat.reduceAdd, Nat.reduceLeDiff, Nat.reduceLT, Nat.reduceSub, Nat.reduceMul, reduceCtorEq, Int.reduceNeg, Int.reduceSub, Int.reduceAdd, Int.reduceLE, Int.reduceLT, Int.reduceMul, Int.reduceToNat, Int.reduceEq, Int.reduceBEq, Int.reduceBNe, Nat.reduceEqDiff, cRows_length, d1, d2, d3]
  refine vk_loopR (γ := Nat) (fun i => { tm := [(0, .sl 2 (cRows l)), (2, .ptr 0 0), (3, .ptr 1 0), (4, .ref 2 l.length), (5, .int .i64 i)], ob := [some (.box [.str [], .nils]), some (.box [.str [], .ref 3 (rle ((l.take i).map (·.2))).length]), some (.arr 5 1 (padB l i)), some (.arr 116 2 (rowsOf (rle ((l.take i).map (·.2)))))], base := 0 }) (fun i => i ≤ l.length) (fun i => l.length - i) 0 (Nat.zero_le _) ?_ ?_
  · rw [padB_zero]
    exact ⟨[some 0, some 1, some 2, none], rfl, rfl, rfl, rfl, ⟨.same _ rfl, .ptr rfl, .ptr rfl, .ref rfl, .same _ rfl, trivial⟩, ⟨⟨_, rfl, .box (.cons (.same _ rfl) (.cons (.same _ rfl) .nil))⟩, ⟨⟨_, rfl, .box (.cons (.same _ rfl) (.cons (.nref rfl) .nil))⟩, ⟨⟨_, rfl, .arr (.refl _)⟩, ⟨⟨_, _, rfl⟩, trivial⟩⟩⟩⟩⟩
  · intro i hi R hN hE hR
    have c0 : (0 ≤ (i : Int)) = True := by simp
    rcases Nat.lt_or_ge i l.length with hlt | hge
    · have c1 : ((i : Int) < (l.length : Int)) = True := by simp; omega
      obtain ⟨⟨c, o⟩, hr⟩ : ∃ r, l[i]? = some r := ⟨_, List.getElem?_eq_getElem hlt⟩
      have hrow : (cRows l)[i]? = some [.int .u8 c.toNat, .int .i64 o] := by rw [cRows_get, hr]; rfl
      have w1 : IntKind.i64.wrap ((i : Int) + 1) = i + 1 := wrap64 (by omega) (by omega)
      have htk : (l.take (i + 1)).map (·.2) = (l.take i).map (·.2) ++ [o] := by rw [List.take_add_one, hr]; simp
      have hput := rle_snoc ((l.take i).map (·.2)) o
      rw [← htk] at hput
      have hrl := rle_len ((l.take i).map (·.2))
      have hmem : ∀ r ∈ rle ((l.take i).map (·.2)), 1 ≤ r.1 ∧ r.1 ≤ 2000000000 := fun r hr => by have := rle_mem hr; simp only [List.length_map, List.length_take] at this; omega
      have g1 := padB_get l hlt
      have g2 := padB_set l hr
      have hg : padB l (i + 1) = padB l (i + 1) := rfl
      simp only [List.length_map, List.length_take] at hrl
      generalize rle ((l.take i).map (·.2)) = rs at *
      generalize padB l i = pb at *
      have n1 : ¬ ((1 : Int) < 1) := by omega
      rcases List.eq_nil_or_concat rs with rfl | ⟨init, ⟨a, o'⟩, rfl⟩
      · have w2 : IntKind.i64.wrap (-1) = -1 := by decide
        have e0 : rowsOf [] = [] := rfl
        simp only [wrap64, EV0, e_condB, Nat.reduceBEq, reduceIte, Nat.reduceAdd, Nat.reduceLeDiff, Nat.reduceLT, Nat.reduceSub, Nat.reduceMul, reduceCtorEq, Int.reduceNeg, Int.reduceSub, Int.reduceAdd, Int.reduceLE, Int.reduceLT, Int.reduceMul, Int.reduceToNat, Int.reduceEq, Int.reduceBEq, Int.reduceBNe, Nat.reduceEqDiff, c0, c1, hrow, cRows_length, hlt, g1, g2, w2, e0, w1]
        refine hN _ (i + 1) (by omega) (by omega) ?_
        rw [hput]
        simp only [putS, n1, if_false, List.getLast?_nil]
        exact ⟨[some 0, some 1, some 2, some 4], rfl, rfl, rfl, rfl, ⟨.same _ rfl, .ptr rfl, .ptr rfl, .ref rfl, .same _ rfl, trivial⟩, ⟨⟨_, rfl, .box (.cons (.same _ rfl) (.cons (.same _ rfl) .nil))⟩, ⟨⟨_, rfl, .box (.cons (.same _ rfl) (.cons (.ref rfl) .nil))⟩, ⟨⟨_, rfl, .arr (.refl _)⟩, ⟨⟨_, rfl, .arr (.refl _)⟩, trivial⟩⟩⟩⟩⟩
      · have hlen : (init ++ [(a, o')]).length = init.length + 1 := by simp
        simp only [List.concat_eq_append, hlen] at hrl hmem hput ⊢
        have w2 : IntKind.i64.wrap (((init.length + 1 : Nat) : Int) - 1) = ((init.length : Nat) : Int) := by rw [wrap64 (by omega) (by omega)]; omega
        have e1 : (0 ≤ ((init.length : Nat) : Int)) = True := by simp
        have e2 : init.length < init.length + 1 := by omega
        have hrl2 : (rowsOf (init ++ [(a, o')])).length = init.length + 1 := by rw [rowsOf_length, hlen]
        have hrow2 : (rowsOf (init ++ [(a, o')]))[init.length]? = some [.int .i64 a, .int .i64 o'] := by
          rw [rowsOf_append, List.getElem?_append_right (by rw [rowsOf_length]; omega), rowsOf_length]; simp [rowsOf]
        have htk2 : List.take (init.length + 1) (rowsOf (init ++ [(a, o')])) = rowsOf (init ++ [(a, o')]) := List.take_of_length_le (by omega)
        have hak := hmem (a, o') (by simp)
        simp only at hak
        have w3 : IntKind.i64.wrap (a + 1) = a + 1 := wrap64 (by omega) (by omega)
        have f1 : init.length + 1 + 1 ≤ 140737488355328 := by omega
        have f2 : (init.length + 1 + 1) * 16 ≤ 140737488355328 := by omega
        by_cases ho : o' = o
        · have hb : (o' == o) = true := by simpa using ho
          simp only [wrap64, EV0, e_condB, Nat.reduceBEq, reduceIte, Nat.reduceAdd, Nat.reduceLeDiff, Nat.reduceLT, Nat.reduceSub, Nat.reduceMul, reduceCtorEq, Int.reduceNeg, Int.reduceSub, Int.reduceAdd, Int.reduceLE, Int.reduceLT, Int.reduceMul, Int.reduceToNat, Int.reduceEq, Int.reduceBEq, Int.reduceBNe, Nat.reduceEqDiff, c0, c1, hrow, cRows_length, hlt, g1, g2, w1, w2, e1, e2, hrow2, hb, w3]
          refine hN _ (i + 1) (by omega) (by omega) ?_
          have e4 : (rowsOf (init ++ [(a, o')])).set init.length [V.int IntKind.i64 (a + 1), V.int IntKind.i64 o'] = rowsOf (init ++ [(a + 1, o')]) := by
            rw [rowsOf_append, rowsOf_append, List.set_append_right _ _ (by rw [rowsOf_length]; omega), rowsOf_length]; simp [rowsOf]
          have e5 : (init ++ [(a + 1, o')]).length = init.length + 1 := by simp
          rw [hput, e4]
          simp only [putS, n1, if_false, List.getLast?_concat, ← ho, if_true, List.dropLast_concat, e5]
          exact ⟨[some 0, some 1, some 2, some 3], rfl, rfl, rfl, rfl, ⟨.same _ rfl, .ptr rfl, .ptr rfl, .ref rfl, .same _ rfl, trivial⟩, ⟨⟨_, rfl, .box (.cons (.same _ rfl) (.cons (.same _ rfl) .nil))⟩, ⟨⟨_, rfl, .box (.cons (.same _ rfl) (.cons (.ref rfl) .nil))⟩, ⟨⟨_, rfl, .arr (.refl _)⟩, ⟨⟨_, rfl, .arr (.refl _)⟩, trivial⟩⟩⟩⟩⟩
        · have hb : (o' == o) = false := by simpa using ho
          simp only [wrap64, EV0, e_condB, Nat.reduceBEq, reduceIte, Nat.reduceAdd, Nat.reduceLeDiff, Nat.reduceLT, Nat.reduceSub, Nat.reduceMul, reduceCtorEq, Int.reduceNeg, Int.reduceSub, Int.reduceAdd, Int.reduceLE, Int.reduceLT, Int.reduceMul, Int.reduceToNat, Int.reduceEq, Int.reduceBEq, Int.reduceBNe, Nat.reduceEqDiff, c0, c1, hrow, cRows_length, hlt, g1, g2, w1, w2, e1, e2, hrow2, hb, hrl2, htk2, f1, f2]
          refine hN _ (i + 1) (by omega) (by omega) ?_
          have e4 : rowsOf (init ++ [(a, o')]) ++ [[V.int IntKind.i64 1, V.int IntKind.i64 o]] = rowsOf (init ++ [(a, o')] ++ [(1, o)]) := by
            rw [rowsOf_append _ [(1, o)]]; rfl
          have e5 : (init ++ [(a, o')] ++ [(1, o)]).length = init.length + 1 + 1 := by simp
          rw [hput, e4]
          simp only [putS, n1, if_false, List.getLast?_concat, ho, e5]
          exact ⟨[some 0, some 1, some 2, some 4], rfl, rfl, rfl, rfl, ⟨.same _ rfl, .ptr rfl, .ptr rfl, .ref rfl, .same _ rfl, trivial⟩, ⟨⟨_, rfl, .box (.cons (.same _ rfl) (.cons (.same _ rfl) .nil))⟩, ⟨⟨_, rfl, .box (.cons (.same _ rfl) (.cons (.ref rfl) .nil))⟩, ⟨⟨_, rfl, .arr (.refl _)⟩, ⟨⟨_, rfl, .arr (.refl _)⟩, trivial⟩⟩⟩⟩⟩
    · have c1 : ((i : Int) < (l.length : Int)) = False := by simp; omega
      have htk : l.take i = l := List.take_of_length_le hge
      have hi' : i = l.length := by omega
      simp only [wrap64, EV0, e_condB, Nat.reduceBEq, reduceIte, Nat.reduceAdd, Nat.reduceLeDiff, Nat.reduceLT, Nat.reduceSub, Nat.reduceMul, reduceCtorEq, Int.reduceNeg, Int.reduceSub, Int.reduceAdd, Int.reduceLE, Int.reduceLT, Int.reduceMul, Int.reduceToNat, Int.reduceEq, Int.reduceBEq, Int.reduceBNe, Nat.reduceEqDiff, c0, c1, cRows_length]
      refine hE _ _ ?_
      have ht := bRows_take (l.map (·.1))
      simp only [List.length_map] at ht
      simp only [hi', padB_full, wrap64, EV0, e_condB, Nat.reduceBEq, reduceIte, Nat.reduceAdd, Nat.reduceLeDiff, Nat.reduceLT, Nat.reduceSub, Nat.reduceMul, reduceCtorEq, Int.reduceNeg, Int.reduceSub, Int.reduceAdd, Int.reduceLE, Int.reduceLT, Int.reduceMul, Int.reduceToNat, Int.reduceEq, Int.reduceBEq, Int.reduceBNe, Nat.reduceEqDiff, List.take_length, bRows_length, rowsBytes_bRows, ht]
      exact ⟨_, _, rfl, lend_str rfl rfl, .refl _⟩
end Go.Proofs.VL

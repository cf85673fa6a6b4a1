/- Contracts of functions of the program, for what calls them, and the law that its name tells. -/
import Derived.Test.YtdhfnmbbdcpnbaaSE
import Derived.Test.YtdhfnmbbdcpnbaaCglazierref01
import Derived.Test.YtdhfnmbbdcpnbaaCmark
namespace Go.Proofs.VL
open Go Go.RowKit
set_option maxRecDepth 100000
set_option maxHeartbeats 2000000
set_option linter.unusedSimpArgs false
set_option linter.unusedVariables false

def isB (t : List UInt8) (rs : Runs) (l : LT) : Bool := decide (t = l.map (·.1) ∧ rs = rle (l.map (·.2)))

theorem ref_is (t : List UInt8) (rs : Runs) (l : LT) (hl : l.length ≤ 2000000000) (hrs : rs.length ≤ 2000000000) : VFn Try.prog 29 [rawV t rs, .sl 2 (cRows l)] (.bool (isB t rs l)) := by
  refine VFn.intro ok29 (Nat.le_of_ble_eq_true rfl) (vk_start ?_)
  simp only [vc29, rs29, rawV, wrap64, EV0, e_condB, Nat.reduceBEq, reduceIte, Nat.reduceAdd, Nat.reduceLeDiff, Nat.reduceLT, Nat.reduceSub, Nat.reduceMul, reduceCtorEq, Int.reduceNeg, Int.reduceSub, Int.reduceAdd, Int.reduceLE, Int.reduceLT, Int.reduceMul, Int.reduceToNat, Int.reduceEq, Int.reduceBEq, Int.reduceBNe, Nat.reduceEqDiff]
  refine vk_call rfl (CallR.call ⟨[.sl 2 (cRows l)], .inl rfl, ref_str l hl⟩) ?_
  have hxl := rle_len (l.map (·.2))
  simp only [List.length_map] at hxl
  generalize hX : rle (l.map (·.2)) = xs at *
  by_cases h1 : t = l.map (·.1)
  · by_cases h2 : rs.length = xs.length
    · have b1 : (t != l.map (·.1)) = false := by simp [h1]
      have b1' : (t == l.map (·.1)) = true := by simp [h1]
      have b2 : ((rs.length : Int) != (xs.length : Int)) = false := by simp [h2]
      simp only [wrap64, EV0, e_condB, Nat.reduceBEq, reduceIte, Nat.reduceAdd, Nat.reduceLeDiff, Nat.reduceLT, Nat.reduceSub, Nat.reduceMul, reduceCtorEq, Int.reduceNeg, Int.reduceSub, Int.reduceAdd, Int.reduceLE, Int.reduceLT, Int.reduceMul, Int.reduceToNat, Int.reduceEq, Int.reduceBEq, Int.reduceBNe, Nat.reduceEqDiff, strV, rawV, hX, rowsOf_length, b1, b1', b2]
      refine vk_loopR (γ := Nat) (fun i => { tm := [(2, .ptr 0 0), (5, .ptr 1 0), (6, .int .i64 i)], ob := [some (.box [.str t, .sl 2 (rowsOf rs)]), some (.box [.str (l.map (·.1)), .sl 2 (rowsOf xs)])], base := 0 }) (fun i => i ≤ xs.length ∧ rs.take i = xs.take i) (fun i => xs.length - i) 0 ⟨Nat.zero_le _, rfl⟩ ?_ ?_
      · exact ⟨[some 0, some 1], rfl, rfl, rfl, rfl, ⟨.ptr rfl, .ptr rfl, .same _ rfl, trivial⟩, ⟨⟨_, rfl, .box (.cons (.same _ rfl) (.cons (.same _ rfl) .nil))⟩, ⟨⟨_, rfl, .box (.cons (.same _ rfl) (.cons (.same _ rfl) .nil))⟩, trivial⟩⟩⟩
      · rintro i ⟨hi, heq⟩ R hN hE hR
        have c0 : (0 ≤ (i : Int)) = True := by simp
        have w1 : IntKind.i64.wrap ((i : Int) + 1) = i + 1 := wrap64 (by omega) (by omega)
        rcases Nat.lt_or_ge i xs.length with hlt | hge
        · have c1 : ((i : Int) < (xs.length : Int)) = True := by simp; omega
          obtain ⟨⟨n, o⟩, hr⟩ : ∃ r, xs[i]? = some r := ⟨_, List.getElem?_eq_getElem hlt⟩
          obtain ⟨⟨n', o'⟩, hr'⟩ : ∃ r, rs[i]? = some r := ⟨_, List.getElem?_eq_getElem (by omega)⟩
          have hrow : (rowsOf xs)[i]? = some [.int .i64 n, .int .i64 o] := by rw [rowsOf_get, hr]; rfl
          have hrow' : (rowsOf rs)[i]? = some [.int .i64 n', .int .i64 o'] := by rw [rowsOf_get, hr']; rfl
          by_cases hne : n' = n ∧ o' = o
          · obtain ⟨rfl, rfl⟩ := hne
            simp only [wrap64, EV0, e_condB, Nat.reduceBEq, reduceIte, Nat.reduceAdd, Nat.reduceLeDiff, Nat.reduceLT, Nat.reduceSub, Nat.reduceMul, reduceCtorEq, Int.reduceNeg, Int.reduceSub, Int.reduceAdd, Int.reduceLE, Int.reduceLT, Int.reduceMul, Int.reduceToNat, Int.reduceEq, Int.reduceBEq, Int.reduceBNe, Nat.reduceEqDiff, c0, c1, hrow, hrow', rowsOf_length, w1]
            refine hN _ (i + 1) ⟨by omega, ?_⟩ (by omega) ?_
            · rw [List.take_add_one, List.take_add_one, heq, hr, hr']
            · exact ⟨[some 0, some 1], rfl, rfl, rfl, rfl, ⟨.ptr rfl, .ptr rfl, .same _ rfl, trivial⟩, ⟨⟨_, rfl, .box (.cons (.same _ rfl) (.cons (.same _ rfl) .nil))⟩, ⟨⟨_, rfl, .box (.cons (.same _ rfl) (.cons (.same _ rfl) .nil))⟩, trivial⟩⟩⟩
          · have hb' : (n' == n && o' == o) = false := by
              rw [Bool.eq_false_iff]; intro h; simp at h; exact hne h
            simp only [wrap64, EV0, e_condB, Nat.reduceBEq, reduceIte, Nat.reduceAdd, Nat.reduceLeDiff, Nat.reduceLT, Nat.reduceSub, Nat.reduceMul, reduceCtorEq, Int.reduceNeg, Int.reduceSub, Int.reduceAdd, Int.reduceLE, Int.reduceLT, Int.reduceMul, Int.reduceToNat, Int.reduceEq, Int.reduceBEq, Int.reduceBNe, Nat.reduceEqDiff, c0, c1, hrow, hrow', rowsOf_length, w1, hb']
            refine hR _ ?_
            simp only [wrap64, EV0, e_condB, Nat.reduceBEq, reduceIte, Nat.reduceAdd, Nat.reduceLeDiff, Nat.reduceLT, Nat.reduceSub, Nat.reduceMul, reduceCtorEq, Int.reduceNeg, Int.reduceSub, Int.reduceAdd, Int.reduceLE, Int.reduceLT, Int.reduceMul, Int.reduceToNat, Int.reduceEq, Int.reduceBEq, Int.reduceBNe, Nat.reduceEqDiff]
            have hf : isB t rs l = false := by
              simp only [isB, hX, decide_eq_false_iff_not, not_and]
              rintro _ rfl
              rw [hr] at hr'; simp at hr'; exact hne ⟨hr'.1.symm, hr'.2.symm⟩
            rw [hf]
            exact ⟨_, _, rfl, rfl, .refl _⟩
        · have c1 : ((i : Int) < (xs.length : Int)) = False := by simp; omega
          simp only [wrap64, EV0, e_condB, Nat.reduceBEq, reduceIte, Nat.reduceAdd, Nat.reduceLeDiff, Nat.reduceLT, Nat.reduceSub, Nat.reduceMul, reduceCtorEq, Int.reduceNeg, Int.reduceSub, Int.reduceAdd, Int.reduceLE, Int.reduceLT, Int.reduceMul, Int.reduceToNat, Int.reduceEq, Int.reduceBEq, Int.reduceBNe, Nat.reduceEqDiff, c0, c1, rowsOf_length]
          refine hE _ _ ?_
          simp only [wrap64, EV0, e_condB, Nat.reduceBEq, reduceIte, Nat.reduceAdd, Nat.reduceLeDiff, Nat.reduceLT, Nat.reduceSub, Nat.reduceMul, reduceCtorEq, Int.reduceNeg, Int.reduceSub, Int.reduceAdd, Int.reduceLE, Int.reduceLT, Int.reduceMul, Int.reduceToNat, Int.reduceEq, Int.reduceBEq, Int.reduceBNe, Nat.reduceEqDiff]
          have hf : isB t rs l = true := by
            simp only [isB, hX, decide_eq_true_eq]
            refine ⟨h1, ?_⟩
            rw [List.take_of_length_le (by omega), List.take_of_length_le (by omega)] at heq
            exact heq
          rw [hf]
          exact ⟨_, _, rfl, rfl, .refl _⟩
    · have b1 : (t != l.map (·.1)) = false := by simp [h1]
      have b1' : (t == l.map (·.1)) = true := by simp [h1]
      have b2 : ((rs.length : Int) != (xs.length : Int)) = true := by simp; omega
      simp only [wrap64, EV0, e_condB, Nat.reduceBEq, reduceIte, Nat.reduceAdd, Nat.reduceLeDiff, Nat.reduceLT, Nat.reduceSub, Nat.reduceMul, reduceCtorEq, Int.reduceNeg, Int.reduceSub, Int.reduceAdd, Int.reduceLE, Int.reduceLT, Int.reduceMul, Int.reduceToNat, Int.reduceEq, Int.reduceBEq, Int.reduceBNe, Nat.reduceEqDiff, strV, rawV, hX, rowsOf_length, b1, b1', b2]
      have hf : isB t rs l = false := by
        simp only [isB, hX, decide_eq_false_iff_not, not_and]
        rintro _ rfl; exact h2 rfl
      rw [hf]
      exact ⟨_, _, rfl, rfl, .refl _⟩
  · have b1 : (t != l.map (·.1)) = true := by simp [h1]
    have b1' : (t == l.map (·.1)) = false := by simp [h1]
    simp only [wrap64, EV0, e_condB, Nat.reduceBEq, reduceIte, Nat.reduceAdd, Nat.reduceLeDiff, Nat.reduceLT, Nat.reduceSub, Nat.reduceMul, reduceCtorEq, Int.reduceNeg, Int.reduceSub, Int.reduceAdd, Int.reduceLE, Int.reduceLT, Int.reduceMul, Int.reduceToNat, Int.reduceEq, Int.reduceBEq, Int.reduceBNe, Nat.reduceEqDiff, strV, rawV, hX, rowsOf_length, b1, b1']
    have hf : isB t rs l = false := by
      simp only [isB, decide_eq_false_iff_not, not_and]
      intro h; exact absurd h h1
    rw [hf]
    exact ⟨_, _, rfl, rfl, .refl _⟩

theorem mark_of_at (t : List UInt8) (o : Int) (rs : Runs) (ht : t.length ≤ 1000000000) (h : rle (List.replicate t.length (nearI o)) = rs) : VFn Try.prog 59 [.str t, .int .i64 o] (rawV t rs) := h ▸ mark_of t o ht

theorem cat_at (ss : List Raw) (t : List UInt8) (rs : Runs) (hs : ss.length ≤ 1000000000) (hr : ∀ s ∈ ss, s.2.length ≤ 1000000000) (ht : t.length ≤ 1000000000) (h1 : catT ss = t) (h2 : rle (catO ss) = rs) : VFn Try.prog 84 [.sl 2 (rawRows ss)] (rawV t rs) := by
  subst h1; subst h2; exact cat ss hs hr ht

def labs (ss : List Raw) : LT := ss.flatMap fun s => lab s.1 s.2
theorem labs_fst (ss : List Raw) : (labs ss).map (·.1) = catT ss := by
  induction ss with
  | nil => rfl
  | cons s ss ih => simp only [labs, catT, List.flatMap_cons, List.map_append] at ih ⊢; rw [ih, lab_fst]
theorem labs_snd (ss : List Raw) : (labs ss).map (·.2) = catO ss := by
  induction ss with
  | nil => rfl
  | cons s ss ih => simp only [labs, catO, List.flatMap_cons, List.map_append] at ih ⊢; rw [ih, lab_snd]
theorem labs_length (ss : List Raw) : (labs ss).length = (catT ss).length := by rw [← labs_fst]; simp
theorem isB_true {l : LT} {t : List UInt8} {rs : Runs} (h1 : l.map (·.1) = t) (h2 : rle (l.map (·.2)) = rs) : isB t rs l = true := by simp [isB, h1, h2]

end Go.Proofs.VL

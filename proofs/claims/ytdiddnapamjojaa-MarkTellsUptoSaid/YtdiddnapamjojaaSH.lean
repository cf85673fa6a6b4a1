/- Contracts of functions of the program, for what calls them, and the law that its name tells. -/
import Derived.Test.YtdiddnapamjojaaSG
namespace Go.Proofs.VL
open Go Go.RowKit
set_option maxRecDepth 100000
set_option maxHeartbeats 2000000
set_option linter.unusedSimpArgs false
set_option linter.unusedVariables false

theorem take_eq_step {α : Type} {a b : List α} {i : Nat} {x : α} (h : a.take i = b.take i) (ha : a[i]? = some x) (hb : b[i]? = some x) : a.take (i + 1) = b.take (i + 1) := by
  rw [List.take_add_one, List.take_add_one, h, ha, hb]

/-- slices.Equal of runs. -/
theorem eq_runs (a b : Runs) (ha : a.length ≤ 2000000000) (hb : b.length ≤ 2000000000) : VFn Try.prog 83 [.sl 2 (rowsOf a), .sl 2 (rowsOf b)] (.bool (decide (a = b))) := by
  refine VFn.intro ok83 (Nat.le_of_ble_eq_true rfl) (vk_start ?_)
  by_cases hl : a.length = b.length
  · have b2 : ((a.length : Int) != (b.length : Int)) = false := by simp [hl]
    simp only [vc83, rs83, wrap64, EV0, e_condB, Nat.reduceBEq, reduceIte, Nat.reduceAdd, Nat.reduceLeDiff, Nat.reduceLT, Nat.reduceSub, Nat.reduceMul, reduceCtorEq, Int.reduceNeg, Int.reduceSub, Int.reduceAdd, Int.reduceLE, Int.reduceLT, Int.reduceMul, Int.reduceToNat, Int.reduceEq, Int.reduceBEq, Int.reduceBNe, Nat.reduceEqDiff, rowsOf_length, b2]
    refine vk_loopR (γ := Nat) (fun i => { tm := [(0, .sl 2 (rowsOf a)), (1, .sl 2 (rowsOf b)), (12, .int .i64 a.length), (13, .int .i64 i)], ob := [], base := 0 }) (fun i => i ≤ a.length ∧ a.take i = b.take i) (fun i => a.length - i) 0 ⟨Nat.zero_le _, rfl⟩ ?_ ?_
    · exact ⟨[], rfl, rfl, rfl, rfl, ⟨.same _ rfl, .same _ rfl, .same _ rfl, .same _ rfl, trivial⟩, trivial⟩
    · rintro i ⟨hi, heq⟩ R hN hE hR
      have c0 : (0 ≤ (i : Int)) = True := by simp
      have w1 : IntKind.i64.wrap ((i : Int) + 1) = i + 1 := wrap64 (by omega) (by omega)
      rcases Nat.lt_or_ge i a.length with hlt | hge
      · have c1 : ((i : Int) < (a.length : Int)) = True := by simp; omega
        obtain ⟨⟨n, o⟩, hr⟩ : ∃ r, a[i]? = some r := ⟨_, List.getElem?_eq_getElem hlt⟩
        obtain ⟨⟨n', o'⟩, hr'⟩ : ∃ r, b[i]? = some r := ⟨_, List.getElem?_eq_getElem (by omega)⟩
        have hrow : (rowsOf a)[i]? = some [.int .i64 n, .int .i64 o] := by rw [rowsOf_get, hr]; rfl
        have hrow' : (rowsOf b)[i]? = some [.int .i64 n', .int .i64 o'] := by rw [rowsOf_get, hr']; rfl
        by_cases hne : n = n' ∧ o = o'
        · obtain ⟨rfl, rfl⟩ := hne
          simp only [wrap64, EV0, e_condB, Nat.reduceBEq, reduceIte, Nat.reduceAdd, Nat.reduceLeDiff, Nat.reduceLT, Nat.reduceSub, Nat.reduceMul, reduceCtorEq, Int.reduceNeg, Int.reduceSub, Int.reduceAdd, Int.reduceLE, Int.reduceLT, Int.reduceMul, Int.reduceToNat, Int.reduceEq, Int.reduceBEq, Int.reduceBNe, Nat.reduceEqDiff, c0, c1, hrow, hrow', w1]
          exact hN _ (i + 1) ⟨by omega, take_eq_step heq hr hr'⟩ (by omega) ⟨[], rfl, rfl, rfl, rfl, ⟨.same _ rfl, .same _ rfl, .same _ rfl, .same _ rfl, trivial⟩, trivial⟩
        · have hb' : (n == n' && o == o') = false := by
            rw [Bool.eq_false_iff]; intro h; simp at h; exact hne h
          simp only [wrap64, EV0, e_condB, Nat.reduceBEq, reduceIte, Nat.reduceAdd, Nat.reduceLeDiff, Nat.reduceLT, Nat.reduceSub, Nat.reduceMul, reduceCtorEq, Int.reduceNeg, Int.reduceSub, Int.reduceAdd, Int.reduceLE, Int.reduceLT, Int.reduceMul, Int.reduceToNat, Int.reduceEq, Int.reduceBEq, Int.reduceBNe, Nat.reduceEqDiff, c0, c1, hrow, hrow', w1, hb']
          refine hR _ ?_
          simp only [wrap64, EV0, e_condB, Nat.reduceBEq, reduceIte, Nat.reduceAdd, Nat.reduceLeDiff, Nat.reduceLT, Nat.reduceSub, Nat.reduceMul, reduceCtorEq, Int.reduceNeg, Int.reduceSub, Int.reduceAdd, Int.reduceLE, Int.reduceLT, Int.reduceMul, Int.reduceToNat, Int.reduceEq, Int.reduceBEq, Int.reduceBNe, Nat.reduceEqDiff]
          have hf : decide (a = b) = false := by
            rw [decide_eq_false_iff_not]; rintro rfl
            rw [hr] at hr'; simp at hr'; exact hne hr'
          rw [hf]
          exact ⟨_, _, rfl, rfl, .refl _⟩
      · have c1 : ((i : Int) < (a.length : Int)) = False := by simp; omega
        simp only [wrap64, EV0, e_condB, Nat.reduceBEq, reduceIte, Nat.reduceAdd, Nat.reduceLeDiff, Nat.reduceLT, Nat.reduceSub, Nat.reduceMul, reduceCtorEq, Int.reduceNeg, Int.reduceSub, Int.reduceAdd, Int.reduceLE, Int.reduceLT, Int.reduceMul, Int.reduceToNat, Int.reduceEq, Int.reduceBEq, Int.reduceBNe, Nat.reduceEqDiff, c0, c1]
        refine hE _ _ ?_
        simp only [wrap64, EV0, e_condB, Nat.reduceBEq, reduceIte, Nat.reduceAdd, Nat.reduceLeDiff, Nat.reduceLT, Nat.reduceSub, Nat.reduceMul, reduceCtorEq, Int.reduceNeg, Int.reduceSub, Int.reduceAdd, Int.reduceLE, Int.reduceLT, Int.reduceMul, Int.reduceToNat, Int.reduceEq, Int.reduceBEq, Int.reduceBNe, Nat.reduceEqDiff]
        have hf : decide (a = b) = true := by
          rw [decide_eq_true_eq]
          rw [List.take_of_length_le (by omega), List.take_of_length_le (by omega)] at heq
          exact heq
        rw [hf]
        exact ⟨_, _, rfl, rfl, .refl _⟩
  · have b2 : ((a.length : Int) != (b.length : Int)) = true := by simp; omega
    simp only [vc83, rs83, wrap64, EV0, e_condB, Nat.reduceBEq, reduceIte, Nat.reduceAdd, Nat.reduceLeDiff, Nat.reduceLT, Nat.reduceSub, Nat.reduceMul, reduceCtorEq, Int.reduceNeg, Int.reduceSub, Int.reduceAdd, Int.reduceLE, Int.reduceLT, Int.reduceMul, Int.reduceToNat, Int.reduceEq, Int.reduceBEq, Int.reduceBNe, Nat.reduceEqDiff, rowsOf_length, b2]
    have hf : decide (a = b) = false := by
      rw [decide_eq_false_iff_not]; rintro rfl; exact hl rfl
    rw [hf]
    exact ⟨_, _, rfl, rfl, .refl _⟩

theorem byte_eq {a b : UInt8} : ((a.toNat : Int) == (b.toNat : Int)) = (a == b) := by
  rw [Bool.eq_iff_iff]; simp only [beq_iff_eq, Int.natCast_inj]
  exact ⟨fun h => UInt8.toNat_inj.1 h, fun h => by rw [h]⟩

/-- Same of the reference. -/
theorem ref_same (a b : LT) (ha : a.length ≤ 2000000000) (hb : b.length ≤ 2000000000) : VFn Try.prog 32 [.sl 2 (cRows a), .sl 2 (cRows b)] (.bool (decide (a = b))) := by
  refine VFn.intro ok32 (Nat.le_of_ble_eq_true rfl) (vk_start ?_)
  by_cases hl : a.length = b.length
  · have b2 : ((a.length : Int) != (b.length : Int)) = false := by simp [hl]
    simp only [vc32, rs32, wrap64, EV0, e_condB, Nat.reduceBEq, reduceIte, Nat.reduceAdd, Nat.reduceLeDiff, Nat.reduceLT, Nat.reduceSub, Nat.reduceMul, reduceCtorEq, Int.reduceNeg, Int.reduceSub, Int.reduceAdd, Int.reduceLE, Int.reduceLT, Int.reduceMul, Int.reduceToNat, Int.reduceEq, Int.reduceBEq, Int.reduceBNe, Nat.reduceEqDiff, cRows_length, b2]
    refine vk_loopR (γ := Nat) (fun i => { tm := [(0, .sl 2 (cRows a)), (1, .sl 2 (cRows b)), (5, .int .i64 i)], ob := [], base := 0 }) (fun i => i ≤ a.length ∧ a.take i = b.take i) (fun i => a.length - i) 0 ⟨Nat.zero_le _, rfl⟩ ?_ ?_
    · exact ⟨[], rfl, rfl, rfl, rfl, ⟨.same _ rfl, .same _ rfl, .same _ rfl, trivial⟩, trivial⟩
    · rintro i ⟨hi, heq⟩ R hN hE hR
      have c0 : (0 ≤ (i : Int)) = True := by simp
      have w1 : IntKind.i64.wrap ((i : Int) + 1) = i + 1 := wrap64 (by omega) (by omega)
      rcases Nat.lt_or_ge i a.length with hlt | hge
      · have c1 : ((i : Int) < (a.length : Int)) = True := by simp; omega
        obtain ⟨⟨n, o⟩, hr⟩ : ∃ r, a[i]? = some r := ⟨_, List.getElem?_eq_getElem hlt⟩
        obtain ⟨⟨n', o'⟩, hr'⟩ : ∃ r, b[i]? = some r := ⟨_, List.getElem?_eq_getElem (by omega)⟩
        have hrow : (cRows a)[i]? = some [.int .u8 n.toNat, .int .i64 o] := by rw [cRows_get, hr]; rfl
        have hrow' : (cRows b)[i]? = some [.int .u8 n'.toNat, .int .i64 o'] := by rw [cRows_get, hr']; rfl
        by_cases hne : n = n' ∧ o = o'
        · obtain ⟨rfl, rfl⟩ := hne
          simp only [wrap64, EV0, e_condB, Nat.reduceBEq, reduceIte, Nat.reduceAdd, Nat.reduceLeDiff, Nat.reduceLT, Nat.reduceSub, Nat.reduceMul, reduceCtorEq, Int.reduceNeg, Int.reduceSub, Int.reduceAdd, Int.reduceLE, Int.reduceLT, Int.reduceMul, Int.reduceToNat, Int.reduceEq, Int.reduceBEq, Int.reduceBNe, Nat.reduceEqDiff, c0, c1, hrow, hrow', w1, cRows_length]
          exact hN _ (i + 1) ⟨by omega, take_eq_step heq hr hr'⟩ (by omega) ⟨[], rfl, rfl, rfl, rfl, ⟨.same _ rfl, .same _ rfl, .same _ rfl, trivial⟩, trivial⟩
        · have hb' : (n == n' && o == o') = false := by
            rw [Bool.eq_false_iff]; intro h; simp at h; exact hne h
          simp only [wrap64, EV0, e_condB, Nat.reduceBEq, reduceIte, Nat.reduceAdd, Nat.reduceLeDiff, Nat.reduceLT, Nat.reduceSub, Nat.reduceMul, reduceCtorEq, Int.reduceNeg, Int.reduceSub, Int.reduceAdd, Int.reduceLE, Int.reduceLT, Int.reduceMul, Int.reduceToNat, Int.reduceEq, Int.reduceBEq, Int.reduceBNe, Nat.reduceEqDiff, c0, c1, hrow, hrow', w1, cRows_length, byte_eq, hb']
          refine hR _ ?_
          simp only [wrap64, EV0, e_condB, Nat.reduceBEq, reduceIte, Nat.reduceAdd, Nat.reduceLeDiff, Nat.reduceLT, Nat.reduceSub, Nat.reduceMul, reduceCtorEq, Int.reduceNeg, Int.reduceSub, Int.reduceAdd, Int.reduceLE, Int.reduceLT, Int.reduceMul, Int.reduceToNat, Int.reduceEq, Int.reduceBEq, Int.reduceBNe, Nat.reduceEqDiff]
          have hf : decide (a = b) = false := by
            rw [decide_eq_false_iff_not]; rintro rfl
            rw [hr] at hr'; simp at hr'; exact hne hr'
          rw [hf]
          exact ⟨_, _, rfl, rfl, .refl _⟩
      · have c1 : ((i : Int) < (a.length : Int)) = False := by simp; omega
        simp only [wrap64, EV0, e_condB, Nat.reduceBEq, reduceIte, Nat.reduceAdd, Nat.reduceLeDiff, Nat.reduceLT, Nat.reduceSub, Nat.reduceMul, reduceCtorEq, Int.reduceNeg, Int.reduceSub, Int.reduceAdd, Int.reduceLE, Int.reduceLT, Int.reduceMul, Int.reduceToNat, Int.reduceEq, Int.reduceBEq, Int.reduceBNe, Nat.reduceEqDiff, c0, c1, cRows_length]
        refine hE _ _ ?_
        simp only [wrap64, EV0, e_condB, Nat.reduceBEq, reduceIte, Nat.reduceAdd, Nat.reduceLeDiff, Nat.reduceLT, Nat.reduceSub, Nat.reduceMul, reduceCtorEq, Int.reduceNeg, Int.reduceSub, Int.reduceAdd, Int.reduceLE, Int.reduceLT, Int.reduceMul, Int.reduceToNat, Int.reduceEq, Int.reduceBEq, Int.reduceBNe, Nat.reduceEqDiff]
        have hf : decide (a = b) = true := by
          rw [decide_eq_true_eq]
          rw [List.take_of_length_le (by omega), List.take_of_length_le (by omega)] at heq
          exact heq
        rw [hf]
        exact ⟨_, _, rfl, rfl, .refl _⟩
  · have b2 : ((a.length : Int) != (b.length : Int)) = true := by simp; omega
    simp only [vc32, rs32, wrap64, EV0, e_condB, Nat.reduceBEq, reduceIte, Nat.reduceAdd, Nat.reduceLeDiff, Nat.reduceLT, Nat.reduceSub, Nat.reduceMul, reduceCtorEq, Int.reduceNeg, Int.reduceSub, Int.reduceAdd, Int.reduceLE, Int.reduceLT, Int.reduceMul, Int.reduceToNat, Int.reduceEq, Int.reduceBEq, Int.reduceBNe, Nat.reduceEqDiff, cRows_length, b2]
    have hf : decide (a = b) = false := by
      rw [decide_eq_false_iff_not]; rintro rfl; exact hl rfl
    rw [hf]
    exact ⟨_, _, rfl, rfl, .refl _⟩

def sameB (t : List UInt8) (rs : Runs) (t' : List UInt8) (rs' : Runs) : Bool := decide (lab t rs = lab t' rs')

theorem lab_eq {t t' : List UInt8} {rs rs' : Runs} : lab t rs = lab t' rs' ↔ t = t' ∧ rle (orig t.length rs) = rle (orig t'.length rs') := by
  constructor
  · intro h
    have h1 := congrArg (List.map (·.1)) h
    have h2 := congrArg (List.map (·.2)) h
    rw [lab_fst, lab_fst] at h1
    rw [lab_snd, lab_snd] at h2
    exact ⟨h1, by rw [h2]⟩
  · rintro ⟨rfl, h⟩
    unfold lab
    rw [rle_inj h]

theorem mark_same (t : List UInt8) (rs : Runs) (t' : List UInt8) (rs' : Runs) (ht : t.length ≤ 1000000000) (hrs : rs.length ≤ 1000000000) (ht' : t'.length ≤ 1000000000) (hrs' : rs'.length ≤ 1000000000) :
    VFn Try.prog 31 [rawV t rs, rawV t' rs'] (.bool (sameB t rs t' rs')) := by
  refine VFn.intro ok31 (Nat.le_of_ble_eq_true rfl) (vk_start ?_)
  have l1 := rle_len (orig t.length rs)
  have l2 := rle_len (orig t'.length rs')
  rw [orig_length] at l1 l2
  by_cases he : t = t'
  · have b1 : (t == t') = true := by simp [he]
    simp only [vc31, rs31, rawV, wrap64, EV0, e_condB, Nat.reduceBEq, reduceIte, Nat.reduceAdd, Nat.reduceLeDiff, Nat.reduceLT, Nat.reduceSub, Nat.reduceMul, reduceCtorEq, Int.reduceNeg, Int.reduceSub, Int.reduceAdd, Int.reduceLE, Int.reduceLT, Int.reduceMul, Int.reduceToNat, Int.reduceEq, Int.reduceBEq, Int.reduceBNe, Nat.reduceEqDiff, b1]
    refine vk_callR rfl ⟨[rawV t rs], .inl rfl, fix t rs ht hrs⟩ ?_
    simp only [wrap64, EV0, e_condB, Nat.reduceBEq, reduceIte, Nat.reduceAdd, Nat.reduceLeDiff, Nat.reduceLT, Nat.reduceSub, Nat.reduceMul, reduceCtorEq, Int.reduceNeg, Int.reduceSub, Int.reduceAdd, Int.reduceLE, Int.reduceLT, Int.reduceMul, Int.reduceToNat, Int.reduceEq, Int.reduceBEq, Int.reduceBNe, Nat.reduceEqDiff, rawV]
    refine vk_callR rfl ⟨[rawV t' rs'], .inl rfl, fix t' rs' ht' hrs'⟩ ?_
    simp only [wrap64, EV0, e_condB, Nat.reduceBEq, reduceIte, Nat.reduceAdd, Nat.reduceLeDiff, Nat.reduceLT, Nat.reduceSub, Nat.reduceMul, reduceCtorEq, Int.reduceNeg, Int.reduceSub, Int.reduceAdd, Int.reduceLE, Int.reduceLT, Int.reduceMul, Int.reduceToNat, Int.reduceEq, Int.reduceBEq, Int.reduceBNe, Nat.reduceEqDiff, rawV]
    refine vk_callR rfl ⟨_, .inl rfl, eq_runs (rle (orig t.length rs)) (rle (orig t'.length rs')) (by omega) (by omega)⟩ ?_
    simp only [wrap64, EV0, e_condB, Nat.reduceBEq, reduceIte, Nat.reduceAdd, Nat.reduceLeDiff, Nat.reduceLT, Nat.reduceSub, Nat.reduceMul, reduceCtorEq, Int.reduceNeg, Int.reduceSub, Int.reduceAdd, Int.reduceLE, Int.reduceLT, Int.reduceMul, Int.reduceToNat, Int.reduceEq, Int.reduceBEq, Int.reduceBNe, Nat.reduceEqDiff]
    have hf : sameB t rs t' rs' = decide (rle (orig t.length rs) = rle (orig t'.length rs')) := by
      unfold sameB
      rw [decide_eq_decide, lab_eq]
      simp [he]
    rw [hf]
    exact ⟨_, _, rfl, rfl, .refl _⟩
  · have b1 : (t == t') = false := by simp [he]
    simp only [vc31, rs31, rawV, wrap64, EV0, e_condB, Nat.reduceBEq, reduceIte, Nat.reduceAdd, Nat.reduceLeDiff, Nat.reduceLT, Nat.reduceSub, Nat.reduceMul, reduceCtorEq, Int.reduceNeg, Int.reduceSub, Int.reduceAdd, Int.reduceLE, Int.reduceLT, Int.reduceMul, Int.reduceToNat, Int.reduceEq, Int.reduceBEq, Int.reduceBNe, Nat.reduceEqDiff, b1]
    have hf : sameB t rs t' rs' = false := by
      unfold sameB
      rw [decide_eq_false_iff_not, lab_eq]
      simp [he]
    rw [hf]
    exact ⟨_, _, rfl, rfl, .refl _⟩

theorem lend2 {ob : List (Option VObj)} {k n : Nat} {q D : LT} (h : ob[k]? = some (some (.arr 48 2 (cRows D)))) (hn : n = D.length) : lendL ob [strV q, .ref k n] = some [strV q, .sl 2 (cRows D)] := by
  have e : lendV ob (.ref k n) = some (.sl 2 (cRows D)) := lend_rows h (by rw [cRows_length]; exact hn)
  have e1 : lendV ob (strV q) = some (strV q) := by simp [strV, rawV, lendV, lendL]
  unfold lendL
  rw [e1]
  unfold lendL
  rw [e]
  rfl

theorem markCuts (t : List UInt8) (rs : Runs) (x y : Int) (t' : List UInt8) (rs' : Runs) (org : Int) (ht : t.length ≤ 100000000) (hrs : rs.length ≤ 100000000) (ht' : t'.length ≤ 100000000) (hrs' : rs'.length ≤ 100000000) :
    VFn Try.prog 6 [rawV t rs, .int .i64 x, .int .i64 y, rawV t' rs', .int .i64 org] (.bool true) := by
  refine VFn.intro ok6 (Nat.le_of_ble_eq_true rfl) (vk_start ?_)
  simp only [vc6, rs6, rawV, wrap64, EV0, e_condB, Nat.reduceBEq, reduceIte, Nat.reduceAdd, Nat.reduceLeDiff, Nat.reduceLT, Nat.reduceSub, Nat.reduceMul, reduceCtorEq, Int.reduceNeg, Int.reduceSub, Int.reduceAdd, Int.reduceLE, Int.reduceLT, Int.reduceMul, Int.reduceToNat, Int.reduceEq, Int.reduceBEq, Int.reduceBNe, Nat.reduceEqDiff]
  refine vk_call rfl (CallR.call ⟨[], .inl rfl, alive01⟩) ?_
  simp only [wrap64, EV0, e_condB, Nat.reduceBEq, reduceIte, Nat.reduceAdd, Nat.reduceLeDiff, Nat.reduceLT, Nat.reduceSub, Nat.reduceMul, reduceCtorEq, Int.reduceNeg, Int.reduceSub, Int.reduceAdd, Int.reduceLE, Int.reduceLT, Int.reduceMul, Int.reduceToNat, Int.reduceEq, Int.reduceBEq, Int.reduceBNe, Nat.reduceEqDiff]
  refine vk_callR rfl ⟨[rawV t rs], .inl rfl, ref_of t rs (by omega) (by omega)⟩ ?_
  simp only [wrap64, EV0, e_condB, Nat.reduceBEq, reduceIte, Nat.reduceAdd, Nat.reduceLeDiff, Nat.reduceLT, Nat.reduceSub, Nat.reduceMul, reduceCtorEq, Int.reduceNeg, Int.reduceSub, Int.reduceAdd, Int.reduceLE, Int.reduceLT, Int.reduceMul, Int.reduceToNat, Int.reduceEq, Int.reduceBEq, Int.reduceBNe, Nat.reduceEqDiff]
  refine vk_callR rfl ⟨[rawV t' rs'], .inl rfl, ref_of t' rs' (by omega) (by omega)⟩ ?_
  have m1 : (if (t.length : Int) < if x < 0 then 0 else x then (t.length : Int) else if x < 0 then 0 else x) = ((clampN x t.length : Nat) : Int) := by unfold clampN; split <;> split at * <;> omega
  have m2 : (if (t.length : Int) < if y < 0 then 0 else y then (t.length : Int) else if y < 0 then 0 else y) = ((clampN y t.length : Nat) : Int) := by unfold clampN; split <;> split at * <;> omega
  simp only [wrap64, EV0, e_condB, Nat.reduceBEq, reduceIte, Nat.reduceAdd, Nat.reduceLeDiff, Nat.reduceLT, Nat.reduceSub, Nat.reduceMul, reduceCtorEq, Int.reduceNeg, Int.reduceSub, Int.reduceAdd, Int.reduceLE, Int.reduceLT, Int.reduceMul, Int.reduceToNat, Int.reduceEq, Int.reduceBEq, Int.reduceBNe, Nat.reduceEqDiff, cRows_length, lab_length, m1, m2]
  have hx : clampN x t.length ≤ t.length := by unfold clampN; omega
  have hy : clampN y t.length ≤ t.length := by unfold clampN; omega
  refine vk_joinR (γ := Unit) (fun _ => { tm := [(1, .int .i64 x), (2, .int .i64 y), (4, .int .i64 org), (5, .ptr 0 0), (8, .ptr 1 0), (11, .sl 2 (cRows (lab t rs))), (12, .sl 2 (cRows (lab t' rs'))), (15, .sl 2 (cRows (((lab t rs).take (clampN y t.length)).drop (clampN x t.length)))), (16, .nils)], ob := [some (.box [.str t, .sl 2 (rowsOf rs)]), some (.box [.str t', .sl 2 (rowsOf rs')])], base := 0 }) (fun _ => True) ?_ ?_
  · intro R hN hE hR
    by_cases hlt : clampN x t.length < clampN y t.length
    · have c1 : ((clampN x t.length : Int) < (clampN y t.length : Int)) = True := by simp; omega
      have c2 : (0 ≤ (clampN y t.length : Int)) = True := by simp
      have c3 : ((clampN y t.length : Int) ≤ (t.length : Int)) = True := by simp; omega
      have c4 : (0 ≤ (clampN x t.length : Int)) = True := by simp
      have c5 : ((clampN x t.length : Int) ≤ (clampN y t.length : Int)) = True := by simp; omega
      have e : ((cRows (lab t rs)).take (clampN y t.length)).drop (clampN x t.length) = cRows (((lab t rs).take (clampN y t.length)).drop (clampN x t.length)) := by simp only [cRows, List.map_take, List.map_drop]
      simp only [wrap64, EV0, e_condB, Nat.reduceBEq, reduceIte, Nat.reduceAdd, Nat.reduceLeDiff, Nat.reduceLT, Nat.reduceSub, Nat.reduceMul, reduceCtorEq, Int.reduceNeg, Int.reduceSub, Int.reduceAdd, Int.reduceLE, Int.reduceLT, Int.reduceMul, Int.reduceToNat, Int.reduceEq, Int.reduceBEq, Int.reduceBNe, Nat.reduceEqDiff, c1, c2, c3, c4, c5, cRows_length, lab_length, e]
      exact hN _ () trivial ⟨[some 0, some 1], rfl, rfl, rfl, rfl, ⟨.same _ rfl, .same _ rfl, .same _ rfl, .ptr rfl, .ptr rfl, .same _ rfl, .same _ rfl, .same _ rfl, .same _ rfl, trivial⟩, ⟨⟨_, rfl, .box (.cons (.same _ rfl) (.cons (.same _ rfl) .nil))⟩, ⟨⟨_, rfl, .box (.cons (.same _ rfl) (.cons (.same _ rfl) .nil))⟩, trivial⟩⟩⟩
    · have c1 : ((clampN x t.length : Int) < (clampN y t.length : Int)) = False := by simp; omega
      simp only [wrap64, EV0, e_condB, Nat.reduceBEq, reduceIte, Nat.reduceAdd, Nat.reduceLeDiff, Nat.reduceLT, Nat.reduceSub, Nat.reduceMul, reduceCtorEq, Int.reduceNeg, Int.reduceSub, Int.reduceAdd, Int.reduceLE, Int.reduceLT, Int.reduceMul, Int.reduceToNat, Int.reduceEq, Int.reduceBEq, Int.reduceBNe, Nat.reduceEqDiff, c1]
      have e : ((lab t rs).take (clampN y t.length)).drop (clampN x t.length) = [] := List.drop_eq_nil_of_le (by simp; omega)
      refine hN _ () trivial ?_
      rw [e]
      exact ⟨[some 0, some 1], rfl, rfl, rfl, rfl, ⟨.same _ rfl, .same _ rfl, .same _ rfl, .ptr rfl, .ptr rfl, .same _ rfl, .same _ rfl, .nil _, .same _ rfl, trivial⟩, ⟨⟨_, rfl, .box (.cons (.same _ rfl) (.cons (.same _ rfl) .nil))⟩, ⟨⟨_, rfl, .box (.cons (.same _ rfl) (.cons (.same _ rfl) .nil))⟩, trivial⟩⟩⟩
  · rintro _ -
    have hL := lab_length t rs
    have hL' := lab_length t' rs'
    have hGn := lab_near t rs
    generalize hl : lab t rs = l at *
    generalize hl' : lab t' rs' = l' at *
    simp only [wrap64, EV0, e_condB, Nat.reduceBEq, reduceIte, Nat.reduceAdd, Nat.reduceLeDiff, Nat.reduceLT, Nat.reduceSub, Nat.reduceMul, reduceCtorEq, Int.reduceNeg, Int.reduceSub, Int.reduceAdd, Int.reduceLE, Int.reduceLT, Int.reduceMul, Int.reduceToNat, Int.reduceEq, Int.reduceBEq, Int.reduceBNe, Nat.reduceEqDiff]
    refine vk_loopR (γ := Nat) (fun i => { tm := [(1, .int .i64 x), (2, .int .i64 y), (4, .int .i64 org), (5, .ptr 0 0), (8, .ptr 1 0), (11, .sl 2 (cRows l)), (12, .sl 2 (cRows l')), (15, .sl 2 (cRows ((l.take (clampN y t.length)).drop (clampN x t.length)))), (16, .ref 2 ((l.take i).map fun c => (c.1, max c.2 (nearI org))).length), (17, .int .i64 i)], ob := [some (.box [.str t, .sl 2 (rowsOf rs)]), some (.box [.str t', .sl 2 (rowsOf rs')]), some (.arr 48 2 (cRows ((l.take i).map fun c => (c.1, max c.2 (nearI org)))))], base := 0 }) (fun i => i ≤ l.length) (fun i => l.length - i) 0 (Nat.zero_le _) ?_ ?_
    · exact ⟨[some 0, some 1, none], rfl, rfl, rfl, rfl, ⟨.same _ rfl, .same _ rfl, .same _ rfl, .ptr rfl, .ptr rfl, .same _ rfl, .same _ rfl, .same _ rfl, .nref rfl, .same _ rfl, trivial⟩, ⟨⟨_, rfl, .box (.cons (.same _ rfl) (.cons (.same _ rfl) .nil))⟩, ⟨⟨_, rfl, .box (.cons (.same _ rfl) (.cons (.same _ rfl) .nil))⟩, ⟨⟨_, _, rfl⟩, trivial⟩⟩⟩⟩
    · intro i hi R hN hE hR
      have c0 : (0 ≤ (i : Int)) = True := by simp
      rcases Nat.lt_or_ge i l.length with hlt | hge
      · have c1 : ((i : Int) < (l.length : Int)) = True := by simp; omega
        obtain ⟨⟨c, o⟩, hr⟩ : ∃ r, l[i]? = some r := ⟨_, List.getElem?_eq_getElem hlt⟩
        have hrow : (cRows l)[i]? = some [.int .u8 c.toNat, .int .i64 o] := by rw [cRows_get, hr]; rfl
        have w1 : IntKind.i64.wrap ((i : Int) + 1) = i + 1 := wrap64 (by omega) (by omega)
        have htk : (l.take (i + 1)).map (fun c => (c.1, max c.2 (nearI org))) = (l.take i).map (fun c => (c.1, max c.2 (nearI org))) ++ [(c, max o (nearI org))] := by rw [List.take_add_one, hr]; simp
        have k1 : (if (65536 : Int) < if org < 0 then 0 else org then 65536 else if org < 0 then 0 else org) = nearI org := by unfold nearI; split <;> split at * <;> omega
        have k2 : (if o < nearI org then nearI org else o) = max o (nearI org) := by split <;> omega
        have hX : ((l.take i).map (fun c => (c.1, max c.2 (nearI org)))).length ≤ l.length := by simp; omega
        generalize (l.take i).map (fun c => (c.1, max c.2 (nearI org))) = X at *
        have d1 : X.length + 1 ≤ 140737488355328 := by omega
        have d2 : (X.length + 1) * 16 ≤ 140737488355328 := by omega
        simp only [wrap64, EV0, e_condB, Nat.reduceBEq, reduceIte, Nat.reduceAdd, Nat.reduceLeDiff, Nat.reduceLT, Nat.reduceSub, Nat.reduceMul, reduceCtorEq, Int.reduceNeg, Int.reduceSub, Int.reduceAdd, Int.reduceLE, Int.reduceLT, Int.reduceMul, Int.reduceToNat, Int.reduceEq, Int.reduceBEq, Int.reduceBNe, Nat.reduceEqDiff, c0, c1, hrow, cRows_length, cRows_take, k1, k2, d1, d2, w1]
        refine hN _ (i + 1) (by omega) (by omega) ?_
        rw [htk, ← cRows_append, List.length_append]
        exact ⟨[some 0, some 1, some 3], rfl, rfl, rfl, rfl, ⟨.same _ rfl, .same _ rfl, .same _ rfl, .ptr rfl, .ptr rfl, .same _ rfl, .same _ rfl, .same _ rfl, .ref rfl, .same _ rfl, trivial⟩, ⟨⟨_, rfl, .box (.cons (.same _ rfl) (.cons (.same _ rfl) .nil))⟩, ⟨⟨_, rfl, .box (.cons (.same _ rfl) (.cons (.same _ rfl) .nil))⟩, ⟨⟨_, rfl, .arr (.refl _)⟩, trivial⟩⟩⟩⟩
      · have c1 : ((i : Int) < (l.length : Int)) = False := by simp; omega
        have htk : l.take i = l := List.take_of_length_le hge
        simp only [wrap64, EV0, e_condB, Nat.reduceBEq, reduceIte, Nat.reduceAdd, Nat.reduceLeDiff, Nat.reduceLT, Nat.reduceSub, Nat.reduceMul, reduceCtorEq, Int.reduceNeg, Int.reduceSub, Int.reduceAdd, Int.reduceLE, Int.reduceLT, Int.reduceMul, Int.reduceToNat, Int.reduceEq, Int.reduceBEq, Int.reduceBNe, Nat.reduceEqDiff, c0, c1, cRows_length]
        refine hE _ _ ?_
        simp only [wrap64, EV0, e_condB, Nat.reduceBEq, reduceIte, Nat.reduceAdd, Nat.reduceLeDiff, Nat.reduceLT, Nat.reduceSub, Nat.reduceMul, reduceCtorEq, Int.reduceNeg, Int.reduceSub, Int.reduceAdd, Int.reduceLE, Int.reduceLT, Int.reduceMul, Int.reduceToNat, Int.reduceEq, Int.reduceBEq, Int.reduceBNe, Nat.reduceEqDiff, htk]
        have hdl : (l.map fun c => (c.1, max c.2 (nearI org))).length = l.length := by simp
        generalize hD : l.map (fun c => (c.1, max c.2 (nearI org))) = D at *
        refine vk_callR rfl ⟨[rawV t rs, .int .i64 0, .int .i64 x], .inl rfl, cut_of hl 0 x (by omega) (by omega)⟩ ?_
        simp only [wrap64, EV0, e_condB, Nat.reduceBEq, reduceIte, Nat.reduceAdd, Nat.reduceLeDiff, Nat.reduceLT, Nat.reduceSub, Nat.reduceMul, reduceCtorEq, Int.reduceNeg, Int.reduceSub, Int.reduceAdd, Int.reduceLE, Int.reduceLT, Int.reduceMul, Int.reduceToNat, Int.reduceEq, Int.reduceBEq, Int.reduceBNe, Nat.reduceEqDiff, strV_raw, rawV]
        refine vk_callR rfl ⟨[rawV t rs, .int .i64 x, .int .i64 t.length], .inl rfl, cut_of hl x t.length (by omega) (by omega)⟩ ?_
        simp only [wrap64, EV0, e_condB, Nat.reduceBEq, reduceIte, Nat.reduceAdd, Nat.reduceLeDiff, Nat.reduceLT, Nat.reduceSub, Nat.reduceMul, reduceCtorEq, Int.reduceNeg, Int.reduceSub, Int.reduceAdd, Int.reduceLE, Int.reduceLT, Int.reduceMul, Int.reduceToNat, Int.reduceEq, Int.reduceBEq, Int.reduceBNe, Nat.reduceEqDiff, strV_raw, rawV]
        have p0 : clampN 0 l.length = 0 := by unfold clampN; omega
        have p1 : clampN t.length l.length = l.length := by unfold clampN; omega
        have hpieces : [(l.take (clampN x l.length)).drop (clampN 0 l.length), (l.take (clampN t.length l.length)).drop (clampN x l.length)].flatten = l := by
          rw [p0, p1]; simp
        have hnp : ∀ q ∈ [(l.take (clampN x l.length)).drop (clampN 0 l.length), (l.take (clampN t.length l.length)).drop (clampN x l.length)], Near q := by
          intro q hq
          simp at hq
          rcases hq with rfl | rfl
          · exact (hGn.take _).drop _
          · exact (hGn.take _).drop _
        have hback := labs_rawOf hnp
        rw [hpieces] at hback
        generalize hA : (l.take (clampN x l.length)).drop (clampN 0 l.length) = A at *
        generalize hB : (l.take (clampN t.length l.length)).drop (clampN x l.length) = B at *
        have lA : A.length ≤ l.length := by rw [← hA]; simp; omega
        have lB : B.length ≤ l.length := by rw [← hB]; simp; omega
        have rA := rawOf_len A
        have rB := rawOf_len B
        refine vk_callR rfl ⟨_, .inl rfl, cat_of (ss := [A, B].map rawOf) hback (by simp) (by intro s hs; simp at hs; rcases hs with rfl | rfl <;> omega) (by simp [catT]; omega)⟩ ?_
        simp only [wrap64, EV0, e_condB, Nat.reduceBEq, reduceIte, Nat.reduceAdd, Nat.reduceLeDiff, Nat.reduceLT, Nat.reduceSub, Nat.reduceMul, reduceCtorEq, Int.reduceNeg, Int.reduceSub, Int.reduceAdd, Int.reduceLE, Int.reduceLT, Int.reduceMul, Int.reduceToNat, Int.reduceEq, Int.reduceBEq, Int.reduceBNe, Nat.reduceEqDiff, strV_raw, rawV]
        refine vk_call rfl (CallR.call ⟨[rawV t rs, .int .i64 x, .int .i64 y], .inl rfl, cut_of hl x y (by omega) (by omega)⟩) ?_
        rw [hL]
        simp only [wrap64, EV0, e_condB, Nat.reduceBEq, reduceIte, Nat.reduceAdd, Nat.reduceLeDiff, Nat.reduceLT, Nat.reduceSub, Nat.reduceMul, reduceCtorEq, Int.reduceNeg, Int.reduceSub, Int.reduceAdd, Int.reduceLE, Int.reduceLT, Int.reduceMul, Int.reduceToNat, Int.reduceEq, Int.reduceBEq, Int.reduceBNe, Nat.reduceEqDiff]
        have hcl : ((l.take (clampN y t.length)).drop (clampN x t.length)).length ≤ l.length := by simp; omega
        generalize (l.take (clampN y t.length)).drop (clampN x t.length) = C at *
        refine vk_call rfl (CallR.call ⟨_, .inl rfl, is_of (l := C) (by omega)⟩) ?_
        simp only [wrap64, EV0, e_condB, Nat.reduceBEq, reduceIte, Nat.reduceAdd, Nat.reduceLeDiff, Nat.reduceLT, Nat.reduceSub, Nat.reduceMul, reduceCtorEq, Int.reduceNeg, Int.reduceSub, Int.reduceAdd, Int.reduceLE, Int.reduceLT, Int.reduceMul, Int.reduceToNat, Int.reduceEq, Int.reduceBEq, Int.reduceBNe, Nat.reduceEqDiff]
        refine vk_call rfl (CallR.call ⟨_, .inl rfl, cat_of (ss := [(t, rs), (t', rs')]) (l := l ++ l') (by simp [labs, hl, hl']) (by simp) (by intro s hs; simp at hs; rcases hs with rfl | rfl <;> simp only <;> omega) (by simp [catT]; omega)⟩) ?_
        simp only [wrap64, EV0, e_condB, Nat.reduceBEq, reduceIte, Nat.reduceAdd, Nat.reduceLeDiff, Nat.reduceLT, Nat.reduceSub, Nat.reduceMul, reduceCtorEq, Int.reduceNeg, Int.reduceSub, Int.reduceAdd, Int.reduceLE, Int.reduceLT, Int.reduceMul, Int.reduceToNat, Int.reduceEq, Int.reduceBEq, Int.reduceBNe, Nat.reduceEqDiff]
        refine vk_call rfl (CallR.call ⟨_, .inl rfl, ref_cat l l' (by omega)⟩) ?_
        simp only [wrap64, EV0, e_condB, Nat.reduceBEq, reduceIte, Nat.reduceAdd, Nat.reduceLeDiff, Nat.reduceLT, Nat.reduceSub, Nat.reduceMul, reduceCtorEq, Int.reduceNeg, Int.reduceSub, Int.reduceAdd, Int.reduceLE, Int.reduceLT, Int.reduceMul, Int.reduceToNat, Int.reduceEq, Int.reduceBEq, Int.reduceBNe, Nat.reduceEqDiff]
        refine vk_call rfl (CallR.call ⟨_, .inl rfl, is_of (l := l ++ l') (by simp; omega)⟩) ?_
        simp only [wrap64, EV0, e_condB, Nat.reduceBEq, reduceIte, Nat.reduceAdd, Nat.reduceLeDiff, Nat.reduceLT, Nat.reduceSub, Nat.reduceMul, reduceCtorEq, Int.reduceNeg, Int.reduceSub, Int.reduceAdd, Int.reduceLE, Int.reduceLT, Int.reduceMul, Int.reduceToNat, Int.reduceEq, Int.reduceBEq, Int.reduceBNe, Nat.reduceEqDiff]
        refine vk_call rfl (CallR.call ⟨[rawV t rs, .int .i64 org], .inl rfl, dye_of hl org (by omega) (by omega)⟩) ?_
        rw [hD]
        simp only [wrap64, EV0, e_condB, Nat.reduceBEq, reduceIte, Nat.reduceAdd, Nat.reduceLeDiff, Nat.reduceLT, Nat.reduceSub, Nat.reduceMul, reduceCtorEq, Int.reduceNeg, Int.reduceSub, Int.reduceAdd, Int.reduceLE, Int.reduceLT, Int.reduceMul, Int.reduceToNat, Int.reduceEq, Int.reduceBEq, Int.reduceBNe, Nat.reduceEqDiff]
        refine vk_call rfl (CallR.call ⟨_, .inr ⟨lend2 (D := D) rfl (by omega), rfl⟩, is_of (l := D) (by omega)⟩) ?_
        simp only [wrap64, EV0, e_condB, Nat.reduceBEq, reduceIte, Nat.reduceAdd, Nat.reduceLeDiff, Nat.reduceLT, Nat.reduceSub, Nat.reduceMul, reduceCtorEq, Int.reduceNeg, Int.reduceSub, Int.reduceAdd, Int.reduceLE, Int.reduceLT, Int.reduceMul, Int.reduceToNat, Int.reduceEq, Int.reduceBEq, Int.reduceBNe, Nat.reduceEqDiff]
        refine vk_call rfl (CallR.call ⟨[strV l, .sl 2 (cRows l)], .inl rfl, is_of (l := l) (by omega)⟩) ?_
        simp only [wrap64, EV0, e_condB, Nat.reduceBEq, reduceIte, Nat.reduceAdd, Nat.reduceLeDiff, Nat.reduceLT, Nat.reduceSub, Nat.reduceMul, reduceCtorEq, Int.reduceNeg, Int.reduceSub, Int.reduceAdd, Int.reduceLE, Int.reduceLT, Int.reduceMul, Int.reduceToNat, Int.reduceEq, Int.reduceBEq, Int.reduceBNe, Nat.reduceEqDiff]
        refine vk_call rfl (CallR.call ⟨[rawV t rs, rawV t' rs'], .inl rfl, mark_same t rs t' rs' (by omega) (by omega) (by omega) (by omega)⟩) ?_
        simp only [wrap64, EV0, e_condB, Nat.reduceBEq, reduceIte, Nat.reduceAdd, Nat.reduceLeDiff, Nat.reduceLT, Nat.reduceSub, Nat.reduceMul, reduceCtorEq, Int.reduceNeg, Int.reduceSub, Int.reduceAdd, Int.reduceLE, Int.reduceLT, Int.reduceMul, Int.reduceToNat, Int.reduceEq, Int.reduceBEq, Int.reduceBNe, Nat.reduceEqDiff]
        refine vk_call rfl (CallR.call ⟨_, .inl rfl, ref_same l l' (by omega) (by omega)⟩) ?_
        simp only [wrap64, EV0, e_condB, Nat.reduceBEq, reduceIte, Nat.reduceAdd, Nat.reduceLeDiff, Nat.reduceLT, Nat.reduceSub, Nat.reduceMul, reduceCtorEq, Int.reduceNeg, Int.reduceSub, Int.reduceAdd, Int.reduceLE, Int.reduceLT, Int.reduceMul, Int.reduceToNat, Int.reduceEq, Int.reduceBEq, Int.reduceBNe, Nat.reduceEqDiff, sameB, hl, hl']
        exact ⟨_, _, rfl, rfl, .refl _⟩
end Go.Proofs.VL

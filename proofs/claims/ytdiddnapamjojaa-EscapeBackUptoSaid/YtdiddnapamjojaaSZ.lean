/- Contracts of functions of the program, for what calls them, and the law that its name tells. -/
import Derived.Test.YtdiddnapamjojaaSY
namespace Go.Proofs.VL
open Go Go.RowKit
set_option maxRecDepth 100000
set_option maxHeartbeats 2000000
set_option linter.unusedSimpArgs false
set_option linter.unusedVariables false
attribute [local irreducible] vwp vk

def numG (b : Int) : List UInt8 → Int → Option Int
  | [], n => some n
  | c :: r, n => if b ≤ digN c.toNat then none else numG b r (min (n * b + digN c.toNat) 2000000)

theorem digN_nn (c : Nat) : 0 ≤ digN c ∧ digN c ≤ 99 := by
  unfold digN; (repeat' split) <;> omega

theorem num_same {b : Int} (hb : 10 ≤ b ∧ b ≤ 16) : ∀ (r : List UInt8) (m : Int), 0 ≤ m → numF b r (min m 1114112) = (numG b r m).map (min · 1114112)
  | [], m, h0 => rfl
  | c :: r, m, h0 => by
    have hd := digN_nn c.toNat
    unfold numF numG
    by_cases h : b ≤ digN c.toNat
    · have e : digB c.toNat b = -1 := by unfold digB; rw [if_neg (by omega)]
      rw [if_pos h, e, if_pos (by decide)]; rfl
    · have e : digB c.toNat b = digN c.toNat := by unfold digB; rw [if_pos (by omega)]
      rw [if_neg h, e, if_neg (by omega)]
      have hm : 0 ≤ m * b := Int.mul_nonneg h0 (by omega)
      rw [← num_same hb r (min (m * b + digN c.toNat) 2000000) (by omega)]
      congr 1
      generalize digN c.toNat = D at *
      by_cases hm1 : m ≤ 1114112
      · rw [show min m 1114112 = m by omega]; omega
      · rw [show min m 1114112 = 1114112 by omega]
        have h1 : 1114112 * b ≤ m * b := Int.mul_le_mul_of_nonneg_right (by omega) (by omega)
        have h2 : 1114112 * 10 ≤ 1114112 * b := by omega
        generalize m * b = M at *
        omega

theorem rune_same {m : Int} (h0 : 0 ≤ m) : runeB (winN (min m 1114112)) = runeB (winN m) := by
  by_cases h : m ≤ 1114112
  · rw [show min m 1114112 = m by omega]
  · rw [show min m 1114112 = 1114112 by omega]
    have e1 : winN 1114112 = 1114112 := by unfold winN; rw [if_neg (by omega)]
    have e2 : winN m = m := by unfold winN; rw [if_neg (by omega)]
    rw [e1, e2, rune_bad (by omega), rune_bad (by omega)]

theorem numG_nn {b : Int} (hb : 10 ≤ b ∧ b ≤ 16) : ∀ (r : List UInt8) (m n : Int), 0 ≤ m → numG b r m = some n → 0 ≤ n
  | [], m, n, h0, h => by simp only [numG, Option.some.injEq] at h; omega
  | c :: r, m, n, h0, h => by
    unfold numG at h
    split at h
    · cases h
    · have hd := digN_nn c.toNat
      have hm : 0 ≤ m * b := Int.mul_nonneg h0 (by omega)
      exact numG_nn hb r _ n (by omega) h

def codeG (r : List UInt8) (b : Int) : List UInt8 :=
  if r = [] then [] else match numG b r 0 with
  | some n => runeB (winN n)
  | none => []

theorem code_same {b : Int} (hb : 10 ≤ b ∧ b ≤ 16) (r : List UInt8) : codeG r b = codeB r b := by
  unfold codeG codeB
  have h := num_same hb r 0 (by omega)
  rw [show min (0 : Int) 1114112 = 0 by omega] at h
  rw [h]
  by_cases hr : r = []
  · rw [if_pos hr]
    cases numG b r 0 <;> simp [hr]
  · rw [if_neg hr]
    cases hg : numG b r 0 with
    | none => rfl
    | some n => simp only [Option.map_some]; rw [if_neg hr, rune_same (numG_nn hb r 0 n (by omega) hg)]

theorem ref_stands (t : List UInt8) (ht : t.length ≤ 10000000) : VFn Try.prog 108 [.str t] (.str (standsB t)) := by
  refine VFn.intro ok108 (Nat.le_of_ble_eq_true rfl) (vk_start ?_)
  cases t with
  | nil =>
    have e : standsB [] = namedB [] := rfl
    rw [e]
    simp only [vc108, rs108, wrap64, EV0, e_condB, Nat.reduceBEq, reduceIte, Nat.reduceAdd, Nat.reduceLeDiff, Nat.reduceLT, Nat.reduceSub, Nat.reduceMul, reduceCtorEq, Int.reduceNeg, Int.reduceSub, Int.reduceAdd, Int.reduceLE, Int.reduceLT, Int.reduceMul, Int.reduceToNat, Int.reduceEq, Int.reduceBEq, Int.reduceBNe, Nat.reduceEqDiff, beq_self_eq_true]
    refine vk_callR rfl ⟨_, .inl rfl, ref_named []⟩ ?_
    simp only [wrap64, EV0, e_condB, Nat.reduceBEq, reduceIte, Nat.reduceAdd, Nat.reduceLeDiff, Nat.reduceLT, Nat.reduceSub, Nat.reduceMul, reduceCtorEq, Int.reduceNeg, Int.reduceSub, Int.reduceAdd, Int.reduceLE, Int.reduceLT, Int.reduceMul, Int.reduceToNat, Int.reduceEq, Int.reduceBEq, Int.reduceBNe, Nat.reduceEqDiff]
    exact ⟨_, _, rfl, rfl, .refl _⟩
  | cons a t =>
    have b0 : ((a :: t) == []) = false := rfl
    by_cases ha : a = 35
    · subst ha
      have e : standsB (35 :: t) = codeB (baseB t).1 (baseB t).2 := by
        unfold standsB
        rw [if_pos (by simp [hasP])]; rfl
      rw [e]
      have c9 : ((1 : Int) ≤ ((t.length + 1 : Nat) : Int)) = True := eq_true (by omega)
      have k5 : (((35 : UInt8).toNat : Int) != 35) = false := rfl
      have hl0 : (35 :: t).length = t.length + 1 := rfl
      simp only [vc108, rs108, wrap64, EV0, e_condB, Nat.reduceBEq, reduceIte, Nat.reduceAdd, Nat.reduceLeDiff, Nat.reduceLT, Nat.reduceSub, Nat.reduceMul, reduceCtorEq, Int.reduceNeg, Int.reduceSub, Int.reduceAdd, Int.reduceLE, Int.reduceLT, Int.reduceMul, Int.reduceToNat, Int.reduceEq, Int.reduceBEq, Int.reduceBNe, Nat.reduceEqDiff, b0, byteV, k5, c9, List.take_length]
      cases t with
      | nil =>
        refine vk_pass ?_
        simp only [wrap64, EV0, e_condB, Nat.reduceBEq, reduceIte, Nat.reduceAdd, Nat.reduceLeDiff, Nat.reduceLT, Nat.reduceSub, Nat.reduceMul, reduceCtorEq, Int.reduceNeg, Int.reduceSub, Int.reduceAdd, Int.reduceLE, Int.reduceLT, Int.reduceMul, Int.reduceToNat, Int.reduceEq, Int.reduceBEq, Int.reduceBNe, Nat.reduceEqDiff]
        exact ⟨_, _, rfl, rfl, .refl _⟩
      | cons c r =>
        have hlr : (c :: r).length = r.length + 1 := rfl
        have b0 : ((c :: r) == []) = false := rfl
        have c8 : ((1 : Int) ≤ ((r.length + 1 : Nat) : Int)) = True := eq_true (by omega)
        by_cases hx : c = 120
        · subst hx
          have eb : baseB (120 :: r) = (r, 16) := rfl
          have k0 : (((120 : UInt8).toNat : Int) == 120) = true := rfl
          rw [eb]
          refine vk_pass ?_
          simp only [wrap64, EV0, e_condB, Nat.reduceBEq, reduceIte, Nat.reduceAdd, Nat.reduceLeDiff, Nat.reduceLT, Nat.reduceSub, Nat.reduceMul, reduceCtorEq, Int.reduceNeg, Int.reduceSub, Int.reduceAdd, Int.reduceLE, Int.reduceLT, Int.reduceMul, Int.reduceToNat, Int.reduceEq, Int.reduceBEq, Int.reduceBNe, Nat.reduceEqDiff, b0, byteV, k0, c8, List.take_length]
          rw [← code_same (by omega)]
          by_cases hne : r = []
          · have hr : (r == []) = true := by simpa using hne
            have e2 : codeG r 16 = [] := by unfold codeG; rw [if_pos hne]
            simp only [wrap64, EV0, e_condB, Nat.reduceBEq, reduceIte, Nat.reduceAdd, Nat.reduceLeDiff, Nat.reduceLT, Nat.reduceSub, Nat.reduceMul, reduceCtorEq, Int.reduceNeg, Int.reduceSub, Int.reduceAdd, Int.reduceLE, Int.reduceLT, Int.reduceMul, Int.reduceToNat, Int.reduceEq, Int.reduceBEq, Int.reduceBNe, Nat.reduceEqDiff, hr, e2]
            exact ⟨_, _, rfl, rfl, .refl _⟩
          · have hr : (r == []) = false := by simpa using hne
            simp only [wrap64, EV0, e_condB, Nat.reduceBEq, reduceIte, Nat.reduceAdd, Nat.reduceLeDiff, Nat.reduceLT, Nat.reduceSub, Nat.reduceMul, reduceCtorEq, Int.reduceNeg, Int.reduceSub, Int.reduceAdd, Int.reduceLE, Int.reduceLT, Int.reduceMul, Int.reduceToNat, Int.reduceEq, Int.reduceBEq, Int.reduceBNe, Nat.reduceEqDiff, hr]
            have hlR : r.length ≤ 10000000 := by omega
            refine vk_loopR (γ := Nat × Int) (fun g => { tm := [(0, .str r), (3, .int .i64 16), (4, .int .i64 g.2), (5, .int .i64 g.1)], ob := [], base := 0 })
              (fun g => g.1 ≤ r.length ∧ 0 ≤ g.2 ∧ g.2 ≤ 2000000 ∧ numG 16 r 0 = numG 16 (r.drop g.1) g.2) (fun g => r.length - g.1) (0, 0) ⟨Nat.zero_le _, by decide, by decide, rfl⟩ ?_ ?_
            · exact ⟨[], rfl, rfl, rfl, rfl, ⟨.same _ rfl, .same _ rfl, .same _ rfl, .same _ rfl, trivial⟩, trivial⟩
            · rintro ⟨i, n⟩ ⟨hi, hn0, hn1, hN0⟩ R' hN hE hR'
              simp only at hi hn0 hn1 hN0
              have c0 : (0 ≤ (i : Int)) = True := by simp
              rcases Nat.lt_or_ge i r.length with hlt | hge
              · have c1 : ((i : Int) < (r.length : Int)) = True := by simp; omega
                obtain ⟨x, hx⟩ : ∃ x, r[i]? = some x := ⟨_, List.getElem?_eq_getElem hlt⟩
                have hdr : r.drop i = x :: r.drop (i + 1) := by
                  rw [List.drop_eq_getElem_cons hlt]
                  rw [List.getElem?_eq_getElem hlt] at hx
                  simp only [Option.some.injEq] at hx
                  rw [hx]
                rw [hdr] at hN0
                have w1 : IntKind.i64.wrap ((i : Int) + 1) = i + 1 := wrap64 (by omega) (by omega)
                have hd := digN_nn x.toNat
                simp only [wrap64, EV0, e_condB, Nat.reduceBEq, reduceIte, Nat.reduceAdd, Nat.reduceLeDiff, Nat.reduceLT, Nat.reduceSub, Nat.reduceMul, reduceCtorEq, Int.reduceNeg, Int.reduceSub, Int.reduceAdd, Int.reduceLE, Int.reduceLT, Int.reduceMul, Int.reduceToNat, Int.reduceEq, Int.reduceBEq, Int.reduceBNe, Nat.reduceEqDiff, c0, c1, hx, byteV]
                refine vk_call rfl (CallR.call ⟨_, .inl rfl, ref_value (c := x.toNat) x.toNat_lt⟩) ?_
                by_cases hneg : 16 ≤ digN x.toNat
                · have k : (16 ≤ digN x.toNat) = True := eq_true hneg
                  simp only [numG, if_pos hneg] at hN0
                  have e2 : codeG r 16 = [] := by unfold codeG; rw [if_neg hne, hN0]
                  simp only [wrap64, EV0, e_condB, Nat.reduceBEq, reduceIte, Nat.reduceAdd, Nat.reduceLeDiff, Nat.reduceLT, Nat.reduceSub, Nat.reduceMul, reduceCtorEq, Int.reduceNeg, Int.reduceSub, Int.reduceAdd, Int.reduceLE, Int.reduceLT, Int.reduceMul, Int.reduceToNat, Int.reduceEq, Int.reduceBEq, Int.reduceBNe, Nat.reduceEqDiff, k]
                  refine hR' _ ?_
                  simp only [wrap64, EV0, e_condB, Nat.reduceBEq, reduceIte, Nat.reduceAdd, Nat.reduceLeDiff, Nat.reduceLT, Nat.reduceSub, Nat.reduceMul, reduceCtorEq, Int.reduceNeg, Int.reduceSub, Int.reduceAdd, Int.reduceLE, Int.reduceLT, Int.reduceMul, Int.reduceToNat, Int.reduceEq, Int.reduceBEq, Int.reduceBNe, Nat.reduceEqDiff, e2]
                  exact ⟨_, _, rfl, rfl, .refl _⟩
                · have k : (16 ≤ digN x.toNat) = False := eq_false hneg
                  have w2 : IntKind.i64.wrap (n * 16) = n * 16 := wrap64 (by omega) (by omega)
                  have w3 : IntKind.i64.wrap (n * 16 + digN x.toNat) = n * 16 + digN x.toNat := wrap64 (by omega) (by omega)
                  simp only [numG, if_neg hneg] at hN0
                  simp only [wrap64, EV0, e_condB, Nat.reduceBEq, reduceIte, Nat.reduceAdd, Nat.reduceLeDiff, Nat.reduceLT, Nat.reduceSub, Nat.reduceMul, reduceCtorEq, Int.reduceNeg, Int.reduceSub, Int.reduceAdd, Int.reduceLE, Int.reduceLT, Int.reduceMul, Int.reduceToNat, Int.reduceEq, Int.reduceBEq, Int.reduceBNe, Nat.reduceEqDiff, k, w2, c0, hx, byteV]
                  refine vk_call rfl (CallR.call ⟨_, .inl rfl, ref_value (c := x.toNat) x.toNat_lt⟩) ?_
                  generalize hD : digN x.toNat = D at *
                  have em : min (n * 16 + D) 2000000 = if 2000000 < n * 16 + D then 2000000 else n * 16 + D := by split <;> omega
                  rw [em] at hN0
                  by_cases hbig : 2000000 < n * 16 + D
                  · have k2 : (2000000 < n * 16 + D) = True := eq_true hbig
                    rw [if_pos hbig] at hN0
                    simp only [wrap64, EV0, e_condB, Nat.reduceBEq, reduceIte, Nat.reduceAdd, Nat.reduceLeDiff, Nat.reduceLT, Nat.reduceSub, Nat.reduceMul, reduceCtorEq, Int.reduceNeg, Int.reduceSub, Int.reduceAdd, Int.reduceLE, Int.reduceLT, Int.reduceMul, Int.reduceToNat, Int.reduceEq, Int.reduceBEq, Int.reduceBNe, Nat.reduceEqDiff, w1, w3, k2]
                    refine hN _ (i + 1, 2000000) ⟨hlt, by simp only; omega, by simp only; omega, hN0⟩ (by simp only; omega) ?_
                    exact ⟨[], rfl, rfl, rfl, rfl, ⟨.same _ rfl, .same _ rfl, .same _ rfl, .same _ rfl, trivial⟩, trivial⟩
                  · have k2 : (2000000 < n * 16 + D) = False := eq_false hbig
                    rw [if_neg hbig] at hN0
                    simp only [wrap64, EV0, e_condB, Nat.reduceBEq, reduceIte, Nat.reduceAdd, Nat.reduceLeDiff, Nat.reduceLT, Nat.reduceSub, Nat.reduceMul, reduceCtorEq, Int.reduceNeg, Int.reduceSub, Int.reduceAdd, Int.reduceLE, Int.reduceLT, Int.reduceMul, Int.reduceToNat, Int.reduceEq, Int.reduceBEq, Int.reduceBNe, Nat.reduceEqDiff, w1, w3, k2]
                    refine hN _ (i + 1, n * 16 + D) ⟨hlt, by simp only; omega, by simp only; omega, hN0⟩ (by simp only; omega) ?_
                    exact ⟨[], rfl, rfl, rfl, rfl, ⟨.same _ rfl, .same _ rfl, .same _ rfl, .same _ rfl, trivial⟩, trivial⟩
              · have c1 : ((i : Int) < (r.length : Int)) = False := by simp; omega
                rw [List.drop_eq_nil_of_le hge] at hN0
                simp only [numG] at hN0
                have e2 : codeG r 16 = runeB (winN n) := by unfold codeG; rw [if_neg hne, hN0]
                simp only [wrap64, EV0, e_condB, Nat.reduceBEq, reduceIte, Nat.reduceAdd, Nat.reduceLeDiff, Nat.reduceLT, Nat.reduceSub, Nat.reduceMul, reduceCtorEq, Int.reduceNeg, Int.reduceSub, Int.reduceAdd, Int.reduceLE, Int.reduceLT, Int.reduceMul, Int.reduceToNat, Int.reduceEq, Int.reduceBEq, Int.reduceBNe, Nat.reduceEqDiff, c0, c1]
                refine hE _ _ ?_
                simp only [wrap64, EV0, e_condB, Nat.reduceBEq, reduceIte, Nat.reduceAdd, Nat.reduceLeDiff, Nat.reduceLT, Nat.reduceSub, Nat.reduceMul, reduceCtorEq, Int.reduceNeg, Int.reduceSub, Int.reduceAdd, Int.reduceLE, Int.reduceLT, Int.reduceMul, Int.reduceToNat, Int.reduceEq, Int.reduceBEq, Int.reduceBNe, Nat.reduceEqDiff]
                refine vk_callR rfl ⟨_, .inl rfl, ref_number n⟩ ?_
                simp only [wrap64, EV0, e_condB, Nat.reduceBEq, reduceIte, Nat.reduceAdd, Nat.reduceLeDiff, Nat.reduceLT, Nat.reduceSub, Nat.reduceMul, reduceCtorEq, Int.reduceNeg, Int.reduceSub, Int.reduceAdd, Int.reduceLE, Int.reduceLT, Int.reduceMul, Int.reduceToNat, Int.reduceEq, Int.reduceBEq, Int.reduceBNe, Nat.reduceEqDiff, e2]
                exact ⟨_, _, rfl, rfl, .refl _⟩
        · have k0 : ((c.toNat : Int) == 120) = false := byte_ne (d := 120) rfl hx
          by_cases hX : c = 88
          · subst hX
            have eb : baseB (88 :: r) = (r, 16) := rfl
            have k1 : (((88 : UInt8).toNat : Int) == 88) = true := rfl
            rw [eb]
            refine vk_pass ?_
            simp only [wrap64, EV0, e_condB, Nat.reduceBEq, reduceIte, Nat.reduceAdd, Nat.reduceLeDiff, Nat.reduceLT, Nat.reduceSub, Nat.reduceMul, reduceCtorEq, Int.reduceNeg, Int.reduceSub, Int.reduceAdd, Int.reduceLE, Int.reduceLT, Int.reduceMul, Int.reduceToNat, Int.reduceEq, Int.reduceBEq, Int.reduceBNe, Nat.reduceEqDiff, b0, byteV, k0, k1, c8, List.take_length]
            rw [← code_same (by omega)]
            by_cases hne : r = []
            · have hr : (r == []) = true := by simpa using hne
              have e2 : codeG r 16 = [] := by unfold codeG; rw [if_pos hne]
              simp only [wrap64, EV0, e_condB, Nat.reduceBEq, reduceIte, Nat.reduceAdd, Nat.reduceLeDiff, Nat.reduceLT, Nat.reduceSub, Nat.reduceMul, reduceCtorEq, Int.reduceNeg, Int.reduceSub, Int.reduceAdd, Int.reduceLE, Int.reduceLT, Int.reduceMul, Int.reduceToNat, Int.reduceEq, Int.reduceBEq, Int.reduceBNe, Nat.reduceEqDiff, hr, e2]
              exact ⟨_, _, rfl, rfl, .refl _⟩
            · have hr : (r == []) = false := by simpa using hne
              simp only [wrap64, EV0, e_condB, Nat.reduceBEq, reduceIte, Nat.reduceAdd, Nat.reduceLeDiff, Nat.reduceLT, Nat.reduceSub, Nat.reduceMul, reduceCtorEq, Int.reduceNeg, Int.reduceSub, Int.reduceAdd, Int.reduceLE, Int.reduceLT, Int.reduceMul, Int.reduceToNat, Int.reduceEq, Int.reduceBEq, Int.reduceBNe, Nat.reduceEqDiff, hr]
              have hlR : r.length ≤ 10000000 := by omega
              refine vk_loopR (γ := Nat × Int) (fun g => { tm := [(0, .str r), (3, .int .i64 16), (4, .int .i64 g.2), (5, .int .i64 g.1)], ob := [], base := 0 })
                (fun g => g.1 ≤ r.length ∧ 0 ≤ g.2 ∧ g.2 ≤ 2000000 ∧ numG 16 r 0 = numG 16 (r.drop g.1) g.2) (fun g => r.length - g.1) (0, 0) ⟨Nat.zero_le _, by decide, by decide, rfl⟩ ?_ ?_
              · exact ⟨[], rfl, rfl, rfl, rfl, ⟨.same _ rfl, .same _ rfl, .same _ rfl, .same _ rfl, trivial⟩, trivial⟩
              · rintro ⟨i, n⟩ ⟨hi, hn0, hn1, hN0⟩ R' hN hE hR'
                simp only at hi hn0 hn1 hN0
                have c0 : (0 ≤ (i : Int)) = True := by simp
                rcases Nat.lt_or_ge i r.length with hlt | hge
                · have c1 : ((i : Int) < (r.length : Int)) = True := by simp; omega
                  obtain ⟨x, hx⟩ : ∃ x, r[i]? = some x := ⟨_, List.getElem?_eq_getElem hlt⟩
                  have hdr : r.drop i = x :: r.drop (i + 1) := by
                    rw [List.drop_eq_getElem_cons hlt]
                    rw [List.getElem?_eq_getElem hlt] at hx
                    simp only [Option.some.injEq] at hx
                    rw [hx]
                  rw [hdr] at hN0
                  have w1 : IntKind.i64.wrap ((i : Int) + 1) = i + 1 := wrap64 (by omega) (by omega)
                  have hd := digN_nn x.toNat
                  simp only [wrap64, EV0, e_condB, Nat.reduceBEq, reduceIte, Nat.reduceAdd, Nat.reduceLeDiff, Nat.reduceLT, Nat.reduceSub, Nat.reduceMul, reduceCtorEq, Int.reduceNeg, Int.reduceSub, Int.reduceAdd, Int.reduceLE, Int.reduceLT, Int.reduceMul, Int.reduceToNat, Int.reduceEq, Int.reduceBEq, Int.reduceBNe, Nat.reduceEqDiff, c0, c1, hx, byteV]
                  refine vk_call rfl (CallR.call ⟨_, .inl rfl, ref_value (c := x.toNat) x.toNat_lt⟩) ?_
                  by_cases hneg : 16 ≤ digN x.toNat
                  · have k : (16 ≤ digN x.toNat) = True := eq_true hneg
                    simp only [numG, if_pos hneg] at hN0
                    have e2 : codeG r 16 = [] := by unfold codeG; rw [if_neg hne, hN0]
                    simp only [wrap64, EV0, e_condB, Nat.reduceBEq, reduceIte, Nat.reduceAdd, Nat.reduceLeDiff, Nat.reduceLT, Nat.reduceSub, Nat.reduceMul, reduceCtorEq, Int.reduceNeg, Int.reduceSub, Int.reduceAdd, Int.reduceLE, Int.reduceLT, Int.reduceMul, Int.reduceToNat, Int.reduceEq, Int.reduceBEq, Int.reduceBNe, Nat.reduceEqDiff, k]
                    refine hR' _ ?_
                    simp only [wrap64, EV0, e_condB, Nat.reduceBEq, reduceIte, Nat.reduceAdd, Nat.reduceLeDiff, Nat.reduceLT, Nat.reduceSub, Nat.reduceMul, reduceCtorEq, Int.reduceNeg, Int.reduceSub, Int.reduceAdd, Int.reduceLE, Int.reduceLT, Int.reduceMul, Int.reduceToNat, Int.reduceEq, Int.reduceBEq, Int.reduceBNe, Nat.reduceEqDiff, e2]
                    exact ⟨_, _, rfl, rfl, .refl _⟩
                  · have k : (16 ≤ digN x.toNat) = False := eq_false hneg
                    have w2 : IntKind.i64.wrap (n * 16) = n * 16 := wrap64 (by omega) (by omega)
                    have w3 : IntKind.i64.wrap (n * 16 + digN x.toNat) = n * 16 + digN x.toNat := wrap64 (by omega) (by omega)
                    simp only [numG, if_neg hneg] at hN0
                    simp only [wrap64, EV0, e_condB, Nat.reduceBEq, reduceIte, Nat.reduceAdd, Nat.reduceLeDiff, Nat.reduceLT, Nat.reduceSub, Nat.reduceMul, reduceCtorEq, Int.reduceNeg, Int.reduceSub, Int.reduceAdd, Int.reduceLE, Int.reduceLT, Int.reduceMul, Int.reduceToNat, Int.reduceEq, Int.reduceBEq, Int.reduceBNe, Nat.reduceEqDiff, k, w2, c0, hx, byteV]
                    refine vk_call rfl (CallR.call ⟨_, .inl rfl, ref_value (c := x.toNat) x.toNat_lt⟩) ?_
                    generalize hD : digN x.toNat = D at *
                    have em : min (n * 16 + D) 2000000 = if 2000000 < n * 16 + D then 2000000 else n * 16 + D := by split <;> omega
                    rw [em] at hN0
                    by_cases hbig : 2000000 < n * 16 + D
                    · have k2 : (2000000 < n * 16 + D) = True := eq_true hbig
                      rw [if_pos hbig] at hN0
                      simp only [wrap64, EV0, e_condB, Nat.reduceBEq, reduceIte, Nat.reduceAdd, Nat.reduceLeDiff, Nat.reduceLT, Nat.reduceSub, Nat.reduceMul, reduceCtorEq, Int.reduceNeg, Int.reduceSub, Int.reduceAdd, Int.reduceLE, Int.reduceLT, Int.reduceMul, Int.reduceToNat, Int.reduceEq, Int.reduceBEq, Int.reduceBNe, Nat.reduceEqDiff, w1, w3, k2]
                      refine hN _ (i + 1, 2000000) ⟨hlt, by simp only; omega, by simp only; omega, hN0⟩ (by simp only; omega) ?_
                      exact ⟨[], rfl, rfl, rfl, rfl, ⟨.same _ rfl, .same _ rfl, .same _ rfl, .same _ rfl, trivial⟩, trivial⟩
                    · have k2 : (2000000 < n * 16 + D) = False := eq_false hbig
                      rw [if_neg hbig] at hN0
                      simp only [wrap64, EV0, e_condB, Nat.reduceBEq, reduceIte, Nat.reduceAdd, Nat.reduceLeDiff, Nat.reduceLT, Nat.reduceSub, Nat.reduceMul, reduceCtorEq, Int.reduceNeg, Int.reduceSub, Int.reduceAdd, Int.reduceLE, Int.reduceLT, Int.reduceMul, Int.reduceToNat, Int.reduceEq, Int.reduceBEq, Int.reduceBNe, Nat.reduceEqDiff, w1, w3, k2]
                      refine hN _ (i + 1, n * 16 + D) ⟨hlt, by simp only; omega, by simp only; omega, hN0⟩ (by simp only; omega) ?_
                      exact ⟨[], rfl, rfl, rfl, rfl, ⟨.same _ rfl, .same _ rfl, .same _ rfl, .same _ rfl, trivial⟩, trivial⟩
                · have c1 : ((i : Int) < (r.length : Int)) = False := by simp; omega
                  rw [List.drop_eq_nil_of_le hge] at hN0
                  simp only [numG] at hN0
                  have e2 : codeG r 16 = runeB (winN n) := by unfold codeG; rw [if_neg hne, hN0]
                  simp only [wrap64, EV0, e_condB, Nat.reduceBEq, reduceIte, Nat.reduceAdd, Nat.reduceLeDiff, Nat.reduceLT, Nat.reduceSub, Nat.reduceMul, reduceCtorEq, Int.reduceNeg, Int.reduceSub, Int.reduceAdd, Int.reduceLE, Int.reduceLT, Int.reduceMul, Int.reduceToNat, Int.reduceEq, Int.reduceBEq, Int.reduceBNe, Nat.reduceEqDiff, c0, c1]
                  refine hE _ _ ?_
                  simp only [wrap64, EV0, e_condB, Nat.reduceBEq, reduceIte, Nat.reduceAdd, Nat.reduceLeDiff, Nat.reduceLT, Nat.reduceSub, Nat.reduceMul, reduceCtorEq, Int.reduceNeg, Int.reduceSub, Int.reduceAdd, Int.reduceLE, Int.reduceLT, Int.reduceMul, Int.reduceToNat, Int.reduceEq, Int.reduceBEq, Int.reduceBNe, Nat.reduceEqDiff]
                  refine vk_callR rfl ⟨_, .inl rfl, ref_number n⟩ ?_
                  simp only [wrap64, EV0, e_condB, Nat.reduceBEq, reduceIte, Nat.reduceAdd, Nat.reduceLeDiff, Nat.reduceLT, Nat.reduceSub, Nat.reduceMul, reduceCtorEq, Int.reduceNeg, Int.reduceSub, Int.reduceAdd, Int.reduceLE, Int.reduceLT, Int.reduceMul, Int.reduceToNat, Int.reduceEq, Int.reduceBEq, Int.reduceBNe, Nat.reduceEqDiff, e2]
                  exact ⟨_, _, rfl, rfl, .refl _⟩
          · have k1 : ((c.toNat : Int) == 88) = false := byte_ne (d := 88) rfl hX
            have eb : baseB (c :: r) = (c :: r, 10) := by show (if _ then _ else _) = _; rw [if_neg (by simp [hx, hX])]
            rw [eb]
            refine vk_pass ?_
            simp only [wrap64, EV0, e_condB, Nat.reduceBEq, reduceIte, Nat.reduceAdd, Nat.reduceLeDiff, Nat.reduceLT, Nat.reduceSub, Nat.reduceMul, reduceCtorEq, Int.reduceNeg, Int.reduceSub, Int.reduceAdd, Int.reduceLE, Int.reduceLT, Int.reduceMul, Int.reduceToNat, Int.reduceEq, Int.reduceBEq, Int.reduceBNe, Nat.reduceEqDiff, b0, byteV, k0, k1]
            rw [← code_same (by omega)]
            have hne : ¬ (c :: r) = [] := by simp
            generalize (c :: r) = RR at *
            have hr : (RR == []) = false := by simpa using hne
            try simp only [wrap64, EV0, e_condB, Nat.reduceBEq, reduceIte, Nat.reduceAdd, Nat.reduceLeDiff, Nat.reduceLT, Nat.reduceSub, Nat.reduceMul, reduceCtorEq, Int.reduceNeg, Int.reduceSub, Int.reduceAdd, Int.reduceLE, Int.reduceLT, Int.reduceMul, Int.reduceToNat, Int.reduceEq, Int.reduceBEq, Int.reduceBNe, Nat.reduceEqDiff, hr]
            have hlR : RR.length ≤ 10000000 := by omega
            refine vk_loopR (γ := Nat × Int) (fun g => { tm := [(0, .str RR), (3, .int .i64 10), (4, .int .i64 g.2), (5, .int .i64 g.1)], ob := [], base := 0 })
              (fun g => g.1 ≤ RR.length ∧ 0 ≤ g.2 ∧ g.2 ≤ 2000000 ∧ numG 10 RR 0 = numG 10 (RR.drop g.1) g.2) (fun g => RR.length - g.1) (0, 0) ⟨Nat.zero_le _, by decide, by decide, rfl⟩ ?_ ?_
            · exact ⟨[], rfl, rfl, rfl, rfl, ⟨.same _ rfl, .same _ rfl, .same _ rfl, .same _ rfl, trivial⟩, trivial⟩
            · rintro ⟨i, n⟩ ⟨hi, hn0, hn1, hN0⟩ R' hN hE hR'
              simp only at hi hn0 hn1 hN0
              have c0 : (0 ≤ (i : Int)) = True := by simp
              rcases Nat.lt_or_ge i RR.length with hlt | hge
              · have c1 : ((i : Int) < (RR.length : Int)) = True := by simp; omega
                obtain ⟨x, hx⟩ : ∃ x, RR[i]? = some x := ⟨_, List.getElem?_eq_getElem hlt⟩
                have hdr : RR.drop i = x :: RR.drop (i + 1) := by
                  rw [List.drop_eq_getElem_cons hlt]
                  rw [List.getElem?_eq_getElem hlt] at hx
                  simp only [Option.some.injEq] at hx
                  rw [hx]
                rw [hdr] at hN0
                have w1 : IntKind.i64.wrap ((i : Int) + 1) = i + 1 := wrap64 (by omega) (by omega)
                have hd := digN_nn x.toNat
                simp only [wrap64, EV0, e_condB, Nat.reduceBEq, reduceIte, Nat.reduceAdd, Nat.reduceLeDiff, Nat.reduceLT, Nat.reduceSub, Nat.reduceMul, reduceCtorEq, Int.reduceNeg, Int.reduceSub, Int.reduceAdd, Int.reduceLE, Int.reduceLT, Int.reduceMul, Int.reduceToNat, Int.reduceEq, Int.reduceBEq, Int.reduceBNe, Nat.reduceEqDiff, c0, c1, hx, byteV]
                refine vk_call rfl (CallR.call ⟨_, .inl rfl, ref_value (c := x.toNat) x.toNat_lt⟩) ?_
                by_cases hneg : 10 ≤ digN x.toNat
                · have k : (10 ≤ digN x.toNat) = True := eq_true hneg
                  simp only [numG, if_pos hneg] at hN0
                  have e2 : codeG RR 10 = [] := by unfold codeG; rw [if_neg hne, hN0]
                  simp only [wrap64, EV0, e_condB, Nat.reduceBEq, reduceIte, Nat.reduceAdd, Nat.reduceLeDiff, Nat.reduceLT, Nat.reduceSub, Nat.reduceMul, reduceCtorEq, Int.reduceNeg, Int.reduceSub, Int.reduceAdd, Int.reduceLE, Int.reduceLT, Int.reduceMul, Int.reduceToNat, Int.reduceEq, Int.reduceBEq, Int.reduceBNe, Nat.reduceEqDiff, k]
                  refine hR' _ ?_
                  simp only [wrap64, EV0, e_condB, Nat.reduceBEq, reduceIte, Nat.reduceAdd, Nat.reduceLeDiff, Nat.reduceLT, Nat.reduceSub, Nat.reduceMul, reduceCtorEq, Int.reduceNeg, Int.reduceSub, Int.reduceAdd, Int.reduceLE, Int.reduceLT, Int.reduceMul, Int.reduceToNat, Int.reduceEq, Int.reduceBEq, Int.reduceBNe, Nat.reduceEqDiff, e2]
                  exact ⟨_, _, rfl, rfl, .refl _⟩
                · have k : (10 ≤ digN x.toNat) = False := eq_false hneg
                  have w2 : IntKind.i64.wrap (n * 10) = n * 10 := wrap64 (by omega) (by omega)
                  have w3 : IntKind.i64.wrap (n * 10 + digN x.toNat) = n * 10 + digN x.toNat := wrap64 (by omega) (by omega)
                  simp only [numG, if_neg hneg] at hN0
                  simp only [wrap64, EV0, e_condB, Nat.reduceBEq, reduceIte, Nat.reduceAdd, Nat.reduceLeDiff, Nat.reduceLT, Nat.reduceSub, Nat.reduceMul, reduceCtorEq, Int.reduceNeg, Int.reduceSub, Int.reduceAdd, Int.reduceLE, Int.reduceLT, Int.reduceMul, Int.reduceToNat, Int.reduceEq, Int.reduceBEq, Int.reduceBNe, Nat.reduceEqDiff, k, w2, c0, hx, byteV]
                  refine vk_call rfl (CallR.call ⟨_, .inl rfl, ref_value (c := x.toNat) x.toNat_lt⟩) ?_
                  generalize hD : digN x.toNat = D at *
                  have em : min (n * 10 + D) 2000000 = if 2000000 < n * 10 + D then 2000000 else n * 10 + D := by split <;> omega
                  rw [em] at hN0
                  by_cases hbig : 2000000 < n * 10 + D
                  · have k2 : (2000000 < n * 10 + D) = True := eq_true hbig
                    rw [if_pos hbig] at hN0
                    simp only [wrap64, EV0, e_condB, Nat.reduceBEq, reduceIte, Nat.reduceAdd, Nat.reduceLeDiff, Nat.reduceLT, Nat.reduceSub, Nat.reduceMul, reduceCtorEq, Int.reduceNeg, Int.reduceSub, Int.reduceAdd, Int.reduceLE, Int.reduceLT, Int.reduceMul, Int.reduceToNat, Int.reduceEq, Int.reduceBEq, Int.reduceBNe, Nat.reduceEqDiff, w1, w3, k2]
                    refine hN _ (i + 1, 2000000) ⟨hlt, by simp only; omega, by simp only; omega, hN0⟩ (by simp only; omega) ?_
                    exact ⟨[], rfl, rfl, rfl, rfl, ⟨.same _ rfl, .same _ rfl, .same _ rfl, .same _ rfl, trivial⟩, trivial⟩
                  · have k2 : (2000000 < n * 10 + D) = False := eq_false hbig
                    rw [if_neg hbig] at hN0
                    simp only [wrap64, EV0, e_condB, Nat.reduceBEq, reduceIte, Nat.reduceAdd, Nat.reduceLeDiff, Nat.reduceLT, Nat.reduceSub, Nat.reduceMul, reduceCtorEq, Int.reduceNeg, Int.reduceSub, Int.reduceAdd, Int.reduceLE, Int.reduceLT, Int.reduceMul, Int.reduceToNat, Int.reduceEq, Int.reduceBEq, Int.reduceBNe, Nat.reduceEqDiff, w1, w3, k2]
                    refine hN _ (i + 1, n * 10 + D) ⟨hlt, by simp only; omega, by simp only; omega, hN0⟩ (by simp only; omega) ?_
                    exact ⟨[], rfl, rfl, rfl, rfl, ⟨.same _ rfl, .same _ rfl, .same _ rfl, .same _ rfl, trivial⟩, trivial⟩
              · have c1 : ((i : Int) < (RR.length : Int)) = False := by simp; omega
                rw [List.drop_eq_nil_of_le hge] at hN0
                simp only [numG] at hN0
                have e2 : codeG RR 10 = runeB (winN n) := by unfold codeG; rw [if_neg hne, hN0]
                simp only [wrap64, EV0, e_condB, Nat.reduceBEq, reduceIte, Nat.reduceAdd, Nat.reduceLeDiff, Nat.reduceLT, Nat.reduceSub, Nat.reduceMul, reduceCtorEq, Int.reduceNeg, Int.reduceSub, Int.reduceAdd, Int.reduceLE, Int.reduceLT, Int.reduceMul, Int.reduceToNat, Int.reduceEq, Int.reduceBEq, Int.reduceBNe, Nat.reduceEqDiff, c0, c1]
                refine hE _ _ ?_
                simp only [wrap64, EV0, e_condB, Nat.reduceBEq, reduceIte, Nat.reduceAdd, Nat.reduceLeDiff, Nat.reduceLT, Nat.reduceSub, Nat.reduceMul, reduceCtorEq, Int.reduceNeg, Int.reduceSub, Int.reduceAdd, Int.reduceLE, Int.reduceLT, Int.reduceMul, Int.reduceToNat, Int.reduceEq, Int.reduceBEq, Int.reduceBNe, Nat.reduceEqDiff]
                refine vk_callR rfl ⟨_, .inl rfl, ref_number n⟩ ?_
                simp only [wrap64, EV0, e_condB, Nat.reduceBEq, reduceIte, Nat.reduceAdd, Nat.reduceLeDiff, Nat.reduceLT, Nat.reduceSub, Nat.reduceMul, reduceCtorEq, Int.reduceNeg, Int.reduceSub, Int.reduceAdd, Int.reduceLE, Int.reduceLT, Int.reduceMul, Int.reduceToNat, Int.reduceEq, Int.reduceBEq, Int.reduceBNe, Nat.reduceEqDiff, e2]
                exact ⟨_, _, rfl, rfl, .refl _⟩
    · have k5 : ((a.toNat : Int) != 35) = true := by
        have h2 : ((a.toNat : Int) == 35) = false := byte_ne (d := 35) rfl ha
        show (!((a.toNat : Int) == 35)) = true
        rw [h2]; rfl
      have e : standsB (a :: t) = namedB (a :: t) := by
        unfold standsB
        rw [if_neg (by simp [hasP, ha])]
      rw [e]
      simp only [vc108, rs108, wrap64, EV0, e_condB, Nat.reduceBEq, reduceIte, Nat.reduceAdd, Nat.reduceLeDiff, Nat.reduceLT, Nat.reduceSub, Nat.reduceMul, reduceCtorEq, Int.reduceNeg, Int.reduceSub, Int.reduceAdd, Int.reduceLE, Int.reduceLT, Int.reduceMul, Int.reduceToNat, Int.reduceEq, Int.reduceBEq, Int.reduceBNe, Nat.reduceEqDiff, b0, byteV, k5]
      refine vk_callR rfl ⟨_, .inl rfl, ref_named (a :: t)⟩ ?_
      simp only [wrap64, EV0, e_condB, Nat.reduceBEq, reduceIte, Nat.reduceAdd, Nat.reduceLeDiff, Nat.reduceLT, Nat.reduceSub, Nat.reduceMul, reduceCtorEq, Int.reduceNeg, Int.reduceSub, Int.reduceAdd, Int.reduceLE, Int.reduceLT, Int.reduceMul, Int.reduceToNat, Int.reduceEq, Int.reduceBEq, Int.reduceBNe, Nat.reduceEqDiff]
      exact ⟨_, _, rfl, rfl, .refl _⟩
end Go.Proofs.VL

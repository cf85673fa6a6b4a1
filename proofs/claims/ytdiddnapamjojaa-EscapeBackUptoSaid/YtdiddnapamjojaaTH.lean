/- Contracts of functions of the program, for what calls them, and the law that its name tells. -/
import Derived.Test.YtdiddnapamjojaaTG
namespace Go.Proofs.VL
open Go Go.RowKit
set_option maxRecDepth 100000
set_option maxHeartbeats 2000000
set_option linter.unusedSimpArgs false
set_option linter.unusedVariables false
attribute [local irreducible] vwp vk

theorem near_0 (t : List UInt8) : Near (t.map fun b => (b, (0 : Int))) := Near.map_const (by decide) t
theorem txt_map (t : List UInt8) (o : Int) : txt (t.map fun b => (b, o)) = t := by unfold txt; rw [List.map_map]; exact List.map_id t

/-- Decoded: all of one text that one reference is. -/
theorem decL_one {t b : List UInt8} {o : Int} (ht : t ≠ []) (h : takeB t = (b, t.length)) : txt (decL (t.map fun c => (c, o))) = b := by
  cases t with
  | nil => exact (ht rfl).elim
  | cons c r =>
    have e : takeB (txt ((c, o) :: r.map fun c => (c, o))) = (b, (c :: r).length) := by
      rw [show txt ((c, o) :: r.map fun c => (c, o)) = c :: r from txt_map (c :: r) o]; exact h
    rw [List.map_cons, decL_some e (by simp)]
    rw [List.drop_eq_nil_of_le (by simp), decL_nil, List.append_nil]
    exact txt_map b _

theorem alive08 : VFn Try.prog 56 [] (.bool true) := by
  refine VFn.intro ok56 (Nat.le_of_ble_eq_true rfl) (vk_start ?_)
  obtain ⟨L, hL⟩ : ∃ L : LT, L = [38, 35, 120, 56, 48, 59].map fun b => (b, (0 : Int)) := ⟨_, rfl⟩
  have ho := of_of [38, 35, 120, 56, 48, 59] 0 (by decide) (by decide)
  have hn := near_0 [38, 35, 120, 56, 48, 59]
  have hd := u_decode (lab_rawOf hn) (by decide) (Nat.le_trans (rawOf_len _).2 (by decide))
  have he : (rawOf (decL ([38, 35, 120, 56, 48, 59].map fun b => (b, 0)))).1 = [226, 130, 172] := decL_one (by simp) rfl
  rw [← hL] at ho hn hd he
  clear hL
  simp (disch := omega) only [EW, Nat.reduceBEq, reduceIte, Nat.reduceAdd, Nat.reduceLeDiff, Nat.reduceLT, Nat.reduceSub, Nat.reduceMul, reduceCtorEq, Int.reduceNeg, Int.reduceSub, Int.reduceAdd, Int.reduceLE, Int.reduceLT, Int.reduceMul, Int.reduceToNat, Int.reduceEq, Int.reduceBEq, Int.reduceBNe, Nat.reduceEqDiff, vc56, rs56]
  (refine vk_callR rfl ⟨_, .inl rfl, ho⟩ ?_; simp (disch := omega) only [EW, Nat.reduceBEq, reduceIte, Nat.reduceAdd, Nat.reduceLeDiff, Nat.reduceLT, Nat.reduceSub, Nat.reduceMul, reduceCtorEq, Int.reduceNeg, Int.reduceSub, Int.reduceAdd, Int.reduceLE, Int.reduceLT, Int.reduceMul, Int.reduceToNat, Int.reduceEq, Int.reduceBEq, Int.reduceBNe, Nat.reduceEqDiff, strV_raw, rawV])
  (refine vk_callR rfl ⟨_, .inl rfl, hd⟩ ?_; simp (disch := omega) only [EW, Nat.reduceBEq, reduceIte, Nat.reduceAdd, Nat.reduceLeDiff, Nat.reduceLT, Nat.reduceSub, Nat.reduceMul, reduceCtorEq, Int.reduceNeg, Int.reduceSub, Int.reduceAdd, Int.reduceLE, Int.reduceLT, Int.reduceMul, Int.reduceToNat, Int.reduceEq, Int.reduceBEq, Int.reduceBNe, Nat.reduceEqDiff, strV_raw, rawV, he, Q12])
  exact fin rfl

theorem entityTells (t : List UInt8) (rs : Runs) (nm : List UInt8) (n : Int) (ht : t.length ≤ 1100000) (hrs : rs.length ≤ 1100000) (hnm : nm.length ≤ 1100000) :
    VFn Try.prog 13 [rawV t rs, .str nm, .int .i64 n] (.bool true) := by
  refine VFn.intro ok13 (Nat.le_of_ble_eq_true rfl) (vk_start ?_)
  obtain ⟨l, hl⟩ : ∃ l, lab t rs = l := ⟨_, rfl⟩
  have n1 : Near l := hl ▸ lab_near t rs
  have e1 : l.length = t.length := by rw [← hl, lab_length]
  have htx : txt l = t := by rw [← hl]; exact lab_fst t rs
  have r1 := ref_of t rs (by omega) (by omega)
  rw [hl] at r1
  have hd := decL_len l.length l (Nat.le_refl _)
  have r3 := ref_take l (by omega)
  rw [htx] at r3
  simp (disch := omega) only [EW, Nat.reduceBEq, reduceIte, Nat.reduceAdd, Nat.reduceLeDiff, Nat.reduceLT, Nat.reduceSub, Nat.reduceMul, reduceCtorEq, Int.reduceNeg, Int.reduceSub, Int.reduceAdd, Int.reduceLE, Int.reduceLT, Int.reduceMul, Int.reduceToNat, Int.reduceEq, Int.reduceBEq, Int.reduceBNe, Nat.reduceEqDiff, vc13, rs13, rawV]
  (refine vk_callR rfl ⟨_, .inl rfl, alive08⟩ ?_; simp (disch := omega) only [EW, Nat.reduceBEq, reduceIte, Nat.reduceAdd, Nat.reduceLeDiff, Nat.reduceLT, Nat.reduceSub, Nat.reduceMul, reduceCtorEq, Int.reduceNeg, Int.reduceSub, Int.reduceAdd, Int.reduceLE, Int.reduceLT, Int.reduceMul, Int.reduceToNat, Int.reduceEq, Int.reduceBEq, Int.reduceBNe, Nat.reduceEqDiff])
  (refine vk_callR rfl ⟨_, .inl rfl, r1⟩ ?_; simp (disch := omega) only [EW, Nat.reduceBEq, reduceIte, Nat.reduceAdd, Nat.reduceLeDiff, Nat.reduceLT, Nat.reduceSub, Nat.reduceMul, reduceCtorEq, Int.reduceNeg, Int.reduceSub, Int.reduceAdd, Int.reduceLE, Int.reduceLT, Int.reduceMul, Int.reduceToNat, Int.reduceEq, Int.reduceBEq, Int.reduceBNe, Nat.reduceEqDiff])
  (refine vk_callR rfl ⟨_, .inl rfl, u_take t (by omega)⟩ ?_; simp (disch := omega) only [EW, Nat.reduceBEq, reduceIte, Nat.reduceAdd, Nat.reduceLeDiff, Nat.reduceLT, Nat.reduceSub, Nat.reduceMul, reduceCtorEq, Int.reduceNeg, Int.reduceSub, Int.reduceAdd, Int.reduceLE, Int.reduceLT, Int.reduceMul, Int.reduceToNat, Int.reduceEq, Int.reduceBEq, Int.reduceBNe, Nat.reduceEqDiff])
  (refine vk_callR rfl ⟨_, .inl rfl, r3⟩ ?_; simp (disch := omega) only [EW, Nat.reduceBEq, reduceIte, Nat.reduceAdd, Nat.reduceLeDiff, Nat.reduceLT, Nat.reduceSub, Nat.reduceMul, reduceCtorEq, Int.reduceNeg, Int.reduceSub, Int.reduceAdd, Int.reduceLE, Int.reduceLT, Int.reduceMul, Int.reduceToNat, Int.reduceEq, Int.reduceBEq, Int.reduceBNe, Nat.reduceEqDiff])
  (refine vk_callR rfl ⟨_, .inl rfl, u_decode hl (by omega) (by omega)⟩ ?_; simp (disch := omega) only [EW, Nat.reduceBEq, reduceIte, Nat.reduceAdd, Nat.reduceLeDiff, Nat.reduceLT, Nat.reduceSub, Nat.reduceMul, reduceCtorEq, Int.reduceNeg, Int.reduceSub, Int.reduceAdd, Int.reduceLE, Int.reduceLT, Int.reduceMul, Int.reduceToNat, Int.reduceEq, Int.reduceBEq, Int.reduceBNe, Nat.reduceEqDiff])
  (refine vk_callR rfl ⟨_, .inl rfl, ref_decode l (by omega) n1⟩ ?_; simp (disch := omega) only [EW, Nat.reduceBEq, reduceIte, Nat.reduceAdd, Nat.reduceLeDiff, Nat.reduceLT, Nat.reduceSub, Nat.reduceMul, reduceCtorEq, Int.reduceNeg, Int.reduceSub, Int.reduceAdd, Int.reduceLE, Int.reduceLT, Int.reduceMul, Int.reduceToNat, Int.reduceEq, Int.reduceBEq, Int.reduceBNe, Nat.reduceEqDiff])
  (refine vk_callR rfl ⟨_, .inl rfl, is_of (l := decL l) (by omega)⟩ ?_; simp (disch := omega) only [EW, Nat.reduceBEq, reduceIte, Nat.reduceAdd, Nat.reduceLeDiff, Nat.reduceLT, Nat.reduceSub, Nat.reduceMul, reduceCtorEq, Int.reduceNeg, Int.reduceSub, Int.reduceAdd, Int.reduceLE, Int.reduceLT, Int.reduceMul, Int.reduceToNat, Int.reduceEq, Int.reduceBEq, Int.reduceBNe, Nat.reduceEqDiff])
  (refine vk_callR rfl ⟨_, .inl rfl, u_named nm⟩ ?_; simp (disch := omega) only [EW, Nat.reduceBEq, reduceIte, Nat.reduceAdd, Nat.reduceLeDiff, Nat.reduceLT, Nat.reduceSub, Nat.reduceMul, reduceCtorEq, Int.reduceNeg, Int.reduceSub, Int.reduceAdd, Int.reduceLE, Int.reduceLT, Int.reduceMul, Int.reduceToNat, Int.reduceEq, Int.reduceBEq, Int.reduceBNe, Nat.reduceEqDiff])
  (refine vk_callR rfl ⟨_, .inl rfl, ref_named nm⟩ ?_; simp (disch := omega) only [EW, Nat.reduceBEq, reduceIte, Nat.reduceAdd, Nat.reduceLeDiff, Nat.reduceLT, Nat.reduceSub, Nat.reduceMul, reduceCtorEq, Int.reduceNeg, Int.reduceSub, Int.reduceAdd, Int.reduceLE, Int.reduceLT, Int.reduceMul, Int.reduceToNat, Int.reduceEq, Int.reduceBEq, Int.reduceBNe, Nat.reduceEqDiff])
  (refine vk_callR rfl ⟨_, .inl rfl, u_number n⟩ ?_; simp (disch := omega) only [EW, Nat.reduceBEq, reduceIte, Nat.reduceAdd, Nat.reduceLeDiff, Nat.reduceLT, Nat.reduceSub, Nat.reduceMul, reduceCtorEq, Int.reduceNeg, Int.reduceSub, Int.reduceAdd, Int.reduceLE, Int.reduceLT, Int.reduceMul, Int.reduceToNat, Int.reduceEq, Int.reduceBEq, Int.reduceBNe, Nat.reduceEqDiff])
  (refine vk_callR rfl ⟨_, .inl rfl, ref_number n⟩ ?_; simp (disch := omega) only [EW, Nat.reduceBEq, reduceIte, Nat.reduceAdd, Nat.reduceLeDiff, Nat.reduceLT, Nat.reduceSub, Nat.reduceMul, reduceCtorEq, Int.reduceNeg, Int.reduceSub, Int.reduceAdd, Int.reduceLE, Int.reduceLT, Int.reduceMul, Int.reduceToNat, Int.reduceEq, Int.reduceBEq, Int.reduceBNe, Nat.reduceEqDiff])
  exact fin rfl

theorem decL_plain : ∀ (n : Nat) (l : LT), n ≤ l.length → (∀ c ∈ l.take n, c.1 ≠ 38) → decL l = l.take n ++ decL (l.drop n)
  | 0, l, _, _ => by simp
  | n + 1, [], h, _ => by simp at h
  | n + 1, c :: r, h, hp => by
    have h1 : c.1 ≠ 38 := hp c (by simp)
    have h2 : (takeB (txt (c :: r))).2 = 0 := by
      show (if c.1 = 38 then _ else (([], 0) : List UInt8 × Nat)).2 = 0
      rw [if_neg h1]
    rw [decL_none h2, decL_plain n r (by simpa using h) (fun d hd => hp d (by simp [hd]))]
    simp

theorem entityPlain (t : List UInt8) (rs : Runs) (ht : t.length ≤ 1100000) (hrs : rs.length ≤ 1100000) :
    VFn Try.prog 15 [rawV t rs] (.bool true) := by
  refine VFn.intro ok15 (Nat.le_of_ble_eq_true rfl) (vk_start ?_)
  obtain ⟨l, hl⟩ : ∃ l, lab t rs = l := ⟨_, rfl⟩
  have n1 : Near l := hl ▸ lab_near t rs
  have e1 : l.length = t.length := by rw [← hl, lab_length]
  have htx : txt l = t := by rw [← hl]; exact lab_fst t rs
  have hdl := decL_len l.length l (Nat.le_refl _)
  have nd := decL_near l.length l (Nat.le_refl _) n1
  have hud := u_decode hl (by omega) (by omega)
  simp (disch := omega) only [EW, Nat.reduceBEq, reduceIte, Nat.reduceAdd, Nat.reduceLeDiff, Nat.reduceLT, Nat.reduceSub, Nat.reduceMul, reduceCtorEq, Int.reduceNeg, Int.reduceSub, Int.reduceAdd, Int.reduceLE, Int.reduceLT, Int.reduceMul, Int.reduceToNat, Int.reduceEq, Int.reduceBEq, Int.reduceBNe, Nat.reduceEqDiff, vc15, rs15, rawV]
  (refine vk_callR rfl ⟨_, .inl rfl, alive08⟩ ?_; simp (disch := omega) only [EW, Nat.reduceBEq, reduceIte, Nat.reduceAdd, Nat.reduceLeDiff, Nat.reduceLT, Nat.reduceSub, Nat.reduceMul, reduceCtorEq, Int.reduceNeg, Int.reduceSub, Int.reduceAdd, Int.reduceLE, Int.reduceLT, Int.reduceMul, Int.reduceToNat, Int.reduceEq, Int.reduceBEq, Int.reduceBNe, Nat.reduceEqDiff])
  refine vk_loopR (γ := Nat) (fun i => { tm := [(1, .ptr 0 0), (3, .int .i64 i)], ob := [some (.box [.str t, .sl 2 (rowsOf rs)])], base := 0 })
    (fun i => i ≤ t.length ∧ ∀ c ∈ l.take i, c.1 ≠ 38) (fun i => t.length - i) 0 ⟨Nat.zero_le _, by simp⟩ ?_ ?_
  · exact ⟨[some 0], rfl, rfl, rfl, rfl, ⟨.ptr rfl, .same _ rfl, trivial⟩, ⟨⟨_, rfl, .box (.cons (.same _ rfl) (.cons (.same _ rfl) .nil))⟩, trivial⟩⟩
  · rintro i ⟨hi, hp⟩ R hN hE hR
    have hout : ∀ i ≤ t.length, (∀ c ∈ l.take i, c.1 ≠ 38) → (i < t.length → decL l = l.take i ++ decL (l.drop i)) → (i = t.length → decL l = l) → decL l = l.take i ++ decL (l.drop i) := fun i _ _ _ _ => by
      exact decL_plain i l (by omega) (by assumption)
    have hend : decL l = l.take i ++ decL (l.drop i) := decL_plain i l (by omega) hp
    have hlen : (l.take i).length = i := by simp; omega
    have htk : (decL l).take i = l.take i := by rw [hend, List.take_append_of_le_length (by omega), List.take_of_length_le (by omega)]
    have hge2 : i ≤ (decL l).length := by rw [hend, List.length_append]; omega
    have p0 : clampN 0 l.length = 0 := by unfold clampN; omega
    have p1 : clampN (i : Int) l.length = i := by unfold clampN; omega
    have p2 : clampN 0 (decL l).length = 0 := by unfold clampN; omega
    have p3 : clampN (i : Int) (decL l).length = i := by unfold clampN; omega
    have hq : ∀ z : Bool, z = true → decide (decL l = decL l) = z := by intro z hz; simp [hz]
    have hro := rawOf_len (decL l)
    have hcd := cut_of (lab_rawOf nd) 0 i (by omega) (by omega)
    have hcs := cut_of hl 0 i (by omega) (by omega)
    rw [p2, p3, htk] at hcd
    rw [p0, p1] at hcs
    rw [show (l.take i).drop 0 = l.take i from rfl] at hcd hcs
    have hsame := same_str (n1.take i) (n1.take i) (by omega) (by omega)
    rw [show decide (l.take i = l.take i) = true by simp] at hsame
    rcases Nat.lt_or_ge i t.length with hlt | hge
    · obtain ⟨⟨c, o⟩, hr⟩ : ∃ r, l[i]? = some r := ⟨_, List.getElem?_eq_getElem (by omega)⟩
      have hrt : t[i]? = some c := by rw [← htx]; unfold txt; rw [List.getElem?_map, hr]; rfl
      have hc := c.toNat_lt
      by_cases h38 : c = 38
      · subst h38
        have hb : (((38 : UInt8).toNat : Int) != 38) = false := rfl
        simp (disch := omega) only [EW, Nat.reduceBEq, reduceIte, Nat.reduceAdd, Nat.reduceLeDiff, Nat.reduceLT, Nat.reduceSub, Nat.reduceMul, reduceCtorEq, Int.reduceNeg, Int.reduceSub, Int.reduceAdd, Int.reduceLE, Int.reduceLT, Int.reduceMul, Int.reduceToNat, Int.reduceEq, Int.reduceBEq, Int.reduceBNe, Nat.reduceEqDiff, hrt, hb]
        refine hE _ _ ?_
        simp (disch := omega) only [EW, Nat.reduceBEq, reduceIte, Nat.reduceAdd, Nat.reduceLeDiff, Nat.reduceLT, Nat.reduceSub, Nat.reduceMul, reduceCtorEq, Int.reduceNeg, Int.reduceSub, Int.reduceAdd, Int.reduceLE, Int.reduceLT, Int.reduceMul, Int.reduceToNat, Int.reduceEq, Int.reduceBEq, Int.reduceBNe, Nat.reduceEqDiff]
        (refine vk_callR rfl ⟨_, .inl rfl, hud⟩ ?_; simp (disch := omega) only [EW, Nat.reduceBEq, reduceIte, Nat.reduceAdd, Nat.reduceLeDiff, Nat.reduceLT, Nat.reduceSub, Nat.reduceMul, reduceCtorEq, Int.reduceNeg, Int.reduceSub, Int.reduceAdd, Int.reduceLE, Int.reduceLT, Int.reduceMul, Int.reduceToNat, Int.reduceEq, Int.reduceBEq, Int.reduceBNe, Nat.reduceEqDiff, strV_raw, rawV])
        (refine vk_callR rfl ⟨_, .inl rfl, hcd⟩ ?_; simp (disch := omega) only [EW, Nat.reduceBEq, reduceIte, Nat.reduceAdd, Nat.reduceLeDiff, Nat.reduceLT, Nat.reduceSub, Nat.reduceMul, reduceCtorEq, Int.reduceNeg, Int.reduceSub, Int.reduceAdd, Int.reduceLE, Int.reduceLT, Int.reduceMul, Int.reduceToNat, Int.reduceEq, Int.reduceBEq, Int.reduceBNe, Nat.reduceEqDiff, strV_raw, rawV])
        (refine vk_callR rfl ⟨_, .inl rfl, hcs⟩ ?_; simp (disch := omega) only [EW, Nat.reduceBEq, reduceIte, Nat.reduceAdd, Nat.reduceLeDiff, Nat.reduceLT, Nat.reduceSub, Nat.reduceMul, reduceCtorEq, Int.reduceNeg, Int.reduceSub, Int.reduceAdd, Int.reduceLE, Int.reduceLT, Int.reduceMul, Int.reduceToNat, Int.reduceEq, Int.reduceBEq, Int.reduceBNe, Nat.reduceEqDiff, strV_raw, rawV])
        (refine vk_callR rfl ⟨_, .inl rfl, hsame⟩ ?_; simp (disch := omega) only [EW, Nat.reduceBEq, reduceIte, Nat.reduceAdd, Nat.reduceLeDiff, Nat.reduceLT, Nat.reduceSub, Nat.reduceMul, reduceCtorEq, Int.reduceNeg, Int.reduceSub, Int.reduceAdd, Int.reduceLE, Int.reduceLT, Int.reduceMul, Int.reduceToNat, Int.reduceEq, Int.reduceBEq, Int.reduceBNe, Nat.reduceEqDiff])
        exact fin rfl
      · have hb : ((c.toNat : Int) != 38) = true := by
          have h2 : ((c.toNat : Int) == 38) = false := byte_ne (d := 38) rfl h38
          show (!((c.toNat : Int) == 38)) = true
          rw [h2]; rfl
        simp (disch := omega) only [EW, Nat.reduceBEq, reduceIte, Nat.reduceAdd, Nat.reduceLeDiff, Nat.reduceLT, Nat.reduceSub, Nat.reduceMul, reduceCtorEq, Int.reduceNeg, Int.reduceSub, Int.reduceAdd, Int.reduceLE, Int.reduceLT, Int.reduceMul, Int.reduceToNat, Int.reduceEq, Int.reduceBEq, Int.reduceBNe, Nat.reduceEqDiff, hrt, hb]
        refine hN _ (i + 1) ⟨hlt, ?_⟩ (by omega) ?_
        · intro d hd
          rw [List.take_add_one, hr] at hd
          simp only [List.mem_append, Option.toList_some, List.mem_singleton] at hd
          rcases hd with hd | rfl
          · exact hp d hd
          · exact h38
        · exact ⟨[some 0], rfl, rfl, rfl, rfl, ⟨.ptr rfl, .same _ rfl, trivial⟩, ⟨⟨_, rfl, .box (.cons (.same _ rfl) (.cons (.same _ rfl) .nil))⟩, trivial⟩⟩
    · have hdn : decL l = l := by
        rw [hend, List.drop_eq_nil_of_le (by omega), decL_nil, List.append_nil]; exact List.take_of_length_le (by omega)
      have hs2 := same_of (lab_rawOf nd) hl (by omega) (by omega) (by omega) (by omega)
      rw [show decide (decL l = l) = true by simp [hdn]] at hs2
      simp (disch := omega) only [EW, Nat.reduceBEq, reduceIte, Nat.reduceAdd, Nat.reduceLeDiff, Nat.reduceLT, Nat.reduceSub, Nat.reduceMul, reduceCtorEq, Int.reduceNeg, Int.reduceSub, Int.reduceAdd, Int.reduceLE, Int.reduceLT, Int.reduceMul, Int.reduceToNat, Int.reduceEq, Int.reduceBEq, Int.reduceBNe, Nat.reduceEqDiff]
      refine hE _ _ ?_
      simp (disch := omega) only [EW, Nat.reduceBEq, reduceIte, Nat.reduceAdd, Nat.reduceLeDiff, Nat.reduceLT, Nat.reduceSub, Nat.reduceMul, reduceCtorEq, Int.reduceNeg, Int.reduceSub, Int.reduceAdd, Int.reduceLE, Int.reduceLT, Int.reduceMul, Int.reduceToNat, Int.reduceEq, Int.reduceBEq, Int.reduceBNe, Nat.reduceEqDiff]
      (refine vk_callR rfl ⟨_, .inl rfl, hud⟩ ?_; simp (disch := omega) only [EW, Nat.reduceBEq, reduceIte, Nat.reduceAdd, Nat.reduceLeDiff, Nat.reduceLT, Nat.reduceSub, Nat.reduceMul, reduceCtorEq, Int.reduceNeg, Int.reduceSub, Int.reduceAdd, Int.reduceLE, Int.reduceLT, Int.reduceMul, Int.reduceToNat, Int.reduceEq, Int.reduceBEq, Int.reduceBNe, Nat.reduceEqDiff, strV_raw, rawV])
      (refine vk_callR rfl ⟨_, .inl rfl, hcd⟩ ?_; simp (disch := omega) only [EW, Nat.reduceBEq, reduceIte, Nat.reduceAdd, Nat.reduceLeDiff, Nat.reduceLT, Nat.reduceSub, Nat.reduceMul, reduceCtorEq, Int.reduceNeg, Int.reduceSub, Int.reduceAdd, Int.reduceLE, Int.reduceLT, Int.reduceMul, Int.reduceToNat, Int.reduceEq, Int.reduceBEq, Int.reduceBNe, Nat.reduceEqDiff, strV_raw, rawV])
      (refine vk_callR rfl ⟨_, .inl rfl, hcs⟩ ?_; simp (disch := omega) only [EW, Nat.reduceBEq, reduceIte, Nat.reduceAdd, Nat.reduceLeDiff, Nat.reduceLT, Nat.reduceSub, Nat.reduceMul, reduceCtorEq, Int.reduceNeg, Int.reduceSub, Int.reduceAdd, Int.reduceLE, Int.reduceLT, Int.reduceMul, Int.reduceToNat, Int.reduceEq, Int.reduceBEq, Int.reduceBNe, Nat.reduceEqDiff, strV_raw, rawV])
      (refine vk_callR rfl ⟨_, .inl rfl, hsame⟩ ?_; simp (disch := omega) only [EW, Nat.reduceBEq, reduceIte, Nat.reduceAdd, Nat.reduceLeDiff, Nat.reduceLT, Nat.reduceSub, Nat.reduceMul, reduceCtorEq, Int.reduceNeg, Int.reduceSub, Int.reduceAdd, Int.reduceLE, Int.reduceLT, Int.reduceMul, Int.reduceToNat, Int.reduceEq, Int.reduceBEq, Int.reduceBNe, Nat.reduceEqDiff, strV_raw, rawV])
      (refine vk_callR rfl ⟨_, .inl rfl, hs2⟩ ?_; simp (disch := omega) only [EW, Nat.reduceBEq, reduceIte, Nat.reduceAdd, Nat.reduceLeDiff, Nat.reduceLT, Nat.reduceSub, Nat.reduceMul, reduceCtorEq, Int.reduceNeg, Int.reduceSub, Int.reduceAdd, Int.reduceLE, Int.reduceLT, Int.reduceMul, Int.reduceToNat, Int.reduceEq, Int.reduceBEq, Int.reduceBNe, Nat.reduceEqDiff])
      exact fin rfl
end Go.Proofs.VL

/- Contracts of functions of the program, for what calls them, and the law that its name tells. -/
import Derived.Test.YtdiddnapamjojaaTH
namespace Go.Proofs.VL
open Go Go.RowKit
set_option maxRecDepth 100000
set_option maxHeartbeats 2000000
set_option linter.unusedSimpArgs false
set_option linter.unusedVariables false
attribute [local irreducible] vwp vk

def Dig (c : UInt8) : Prop := (48 ≤ c.toNat ∧ c.toNat ≤ 57) ∨ (97 ≤ c.toNat ∧ c.toNat ≤ 102)
def dch (d : Nat) : UInt8 := UInt8.ofNat (if d < 10 then 48 + d else 87 + d)
theorem dch_nat {d : Nat} (h : d < 16) : (dch d).toNat = if d < 10 then 48 + d else 87 + d := by
  unfold dch; split <;> (rw [UInt8.toNat_ofNat']; omega)
theorem dch_dig {d : Nat} (h : d < 16) : Dig (dch d) := by unfold Dig; rw [dch_nat h]; split <;> omega
theorem dch_val {d : Nat} {b : Int} (h : d < 16) (hb : d < b) : digB (dch d).toNat b = d := by
  have e : digN (if d < 10 then 48 + d else 87 + d) = d := by
    unfold digN
    by_cases h1 : d < 10
    · rw [if_pos h1, if_pos (by omega)]; omega
    · rw [if_neg h1, if_neg (by omega), if_pos (by omega)]; omega
  rw [dch_nat h]; unfold digB
  rw [e, if_pos hb]

def NInv (b n k : Nat) (s : List UInt8) : Prop :=
  numF b s ((min k 1114112 : Nat) : Int) = some ((min n 1114112 : Nat) : Int) ∧ (∀ c ∈ s, Dig c) ∧ k * 2 ^ s.length ≤ n ∧ s.length ≤ 22

theorem ninv_zero (b n : Nat) : NInv b n n [] := ⟨rfl, fun c h => by simp at h, by simp, by simp⟩
theorem ninv_step {b n k : Nat} {s : List UInt8} (h : NInv b n k s) (hb : b = 10 ∨ b = 16) (hn : n < 2 ^ 21) (hk : 0 < k ∨ s = []) : NInv b n (k / b) (dch (k % b) :: s) := by
  obtain ⟨h1, h2, h3, h4⟩ := h
  have hm : k % b < b := Nat.mod_lt _ (by omega)
  have hv := dch_val (d := k % b) (b := (b : Int)) (by omega) (by omega)
  refine ⟨?_, ?_, ?_, ?_⟩
  · simp only [numF]
    rw [hv, if_neg (by omega), ← h1]
    congr 1
    rcases hb with rfl | rfl <;> omega
  · intro c hc
    rcases List.mem_cons.1 hc with rfl | hc
    · exact dch_dig (by omega)
    · exact h2 c hc
  · have h5 : k / b * 2 ≤ k := by rcases hb with rfl | rfl <;> omega
    simp only [List.length_cons, Nat.pow_succ]
    calc k / b * (2 ^ s.length * 2) = (k / b * 2) * 2 ^ s.length := by rw [Nat.mul_assoc, Nat.mul_comm (2 ^ s.length) 2]
      _ ≤ k * 2 ^ s.length := Nat.mul_le_mul_right _ h5
      _ ≤ n := h3
  · simp only [List.length_cons]
    rcases hk with hk | rfl
    · have h6 : 2 ^ s.length < 2 ^ 21 := by
        calc 2 ^ s.length = 1 * 2 ^ s.length := by simp
          _ ≤ k * 2 ^ s.length := Nat.mul_le_mul_right _ hk
          _ ≤ n := h3
          _ < 2 ^ 21 := hn
      have := (Nat.pow_lt_pow_iff_right (by decide : 1 < 2)).1 h6
      omega
    · simp

theorem index_app : ∀ (a r : List UInt8), (∀ c ∈ a, c ≠ 59) → Lib.indexByte (a ++ 59 :: r) 59 = a.length
  | [], r, _ => by show (if (59 == 59 : Bool) = true then (0 : Int) else _) = 0; rfl
  | c :: a, r, h => by
    have ih := index_app a r (fun d hd => h d (by simp [hd]))
    have hc : c ≠ 59 := h c (by simp)
    show (if (c == 59) = true then (0 : Int) else if (Lib.indexByte (a ++ 59 :: r) 59 == -1) = true then -1 else Lib.indexByte (a ++ 59 :: r) 59 + 1) = _
    rw [ih, if_neg (by simpa using hc), if_neg (by simp)]
    simp

theorem rune_ne (n : Int) : runeB n ≠ [] := by
  unfold runeB
  split
  · simp
  · simp only; (repeat' split) <;> simp

theorem rune_win_min (n : Nat) : runeB (winN ((min n 1114112 : Nat) : Int)) = runeB (winN n) := by
  by_cases h : n ≤ 1114112
  · rw [Nat.min_eq_left h]
  · have e : min n 1114112 = 1114112 := by omega
    rw [e]
    have h1 : winN ((1114112 : Nat) : Int) = 1114112 := rfl
    have h2 : winN (n : Int) = n := by unfold winN; rw [if_neg (by omega)]
    rw [h1, h2, rune_bad (by omega), rune_bad (by omega)]

theorem dig_ne {c : UInt8} (h : Dig c) : c ≠ 59 ∧ c ≠ 120 ∧ c ≠ 88 := by
  refine ⟨?_, ?_, ?_⟩ <;> (rintro rfl; revert h; unfold Dig; decide)

theorem take_ref {u : List UInt8} {o : List UInt8} (h : ∀ c ∈ u, c ≠ 59) (ho : standsB u = o) (hne : o ≠ []) : takeB (38 :: (u ++ [59])) = (o, (38 :: (u ++ [59])).length) := by
  have hi := index_app (38 :: u) [] (by intro c hc; rcases List.mem_cons.1 hc with rfl | hc; · decide
                                        · exact h c hc)
  have e : takeB (38 :: (u ++ [59])) = _ := takeB_cons (t := 38 :: (u ++ [59])) rfl (e := u.length + 1) (by simpa using hi)
  rw [e]
  have e2 : ((38 :: (u ++ [59])).take (u.length + 1)).drop 1 = u := by simp
  rw [e2, ho, if_neg hne]
  simp

theorem ninv_take10 {n : Nat} {s : List UInt8} (h : NInv 10 n 0 s) (hs : s ≠ []) : takeB (38 :: 35 :: (s ++ [59])) = (runeB (winN n), (38 :: 35 :: (s ++ [59])).length) := by
  obtain ⟨h1, h2, h3, h4⟩ := h
  refine take_ref (u := 35 :: s) ?_ ?_ (rune_ne _)
  · intro c hc
    rcases List.mem_cons.1 hc with rfl | hc
    · decide
    · exact (dig_ne (h2 c hc)).1
  · have e1 : standsB (35 :: s) = codeB (baseB s).1 (baseB s).2 := if_pos rfl
    have e2 : baseB s = (s, 10) := by
      cases s with
      | nil => exact (hs rfl).elim
      | cons c r =>
        have := dig_ne (h2 c (by simp))
        exact if_neg (by simp [this])
    rw [e1, e2]
    unfold codeB
    have h1' : numF 10 s 0 = some ((min n 1114112 : Nat) : Int) := h1
    simp only [h1', if_neg hs]
    exact rune_win_min n

theorem ninv_take16 {n : Nat} {s : List UInt8} (h : NInv 16 n 0 s) (hs : s ≠ []) : takeB (38 :: 35 :: 120 :: (s ++ [59])) = (runeB (winN n), (38 :: 35 :: 120 :: (s ++ [59])).length) := by
  obtain ⟨h1, h2, h3, h4⟩ := h
  refine take_ref (u := 35 :: 120 :: s) ?_ ?_ (rune_ne _)
  · intro c hc
    rcases List.mem_cons.1 hc with rfl | hc
    · decide
    rcases List.mem_cons.1 hc with rfl | hc
    · decide
    · exact (dig_ne (h2 c hc)).1
  · have e1 : standsB (35 :: 120 :: s) = codeB s 16 := if_pos rfl
    rw [e1]
    unfold codeB
    have h1' : numF 16 s 0 = some ((min n 1114112 : Nat) : Int) := h1
    simp only [h1', if_neg hs]
    exact rune_win_min n

theorem of_near (t : List UInt8) (o : Int) (ht : t.length ≤ 1000000000) : VFn Try.prog 65 [.str t, .int .i64 o] (strV (t.map fun b => (b, nearI o))) := by
  have e : strV (t.map fun b => (b, nearI o)) = rawV t (rle (List.replicate t.length (nearI o))) := by
    unfold strV
    have e1 : (t.map fun b => (b, nearI o)).map (·.1) = t := by rw [List.map_map]; exact List.map_id t
    have e2 : (t.map fun b => (b, nearI o)).map (·.2) = List.replicate t.length (nearI o) := by rw [List.map_map]; exact List.map_const'
    rw [e1, e2]
  rw [e]
  exact mark_of t o ht

/-- Decoded text of one reference. -/
theorem decode_one {t b : List UInt8} {o : Int} (h : takeB t = (b, t.length)) (hne : t ≠ []) (ht : t.length ≤ 1000000) :
    VFn Try.prog 59 [strV (t.map fun c => (c, nearI o))] (strV (decL (t.map fun c => (c, nearI o)))) ∧ (rawOf (decL (t.map fun c => (c, nearI o)))).1 = b := by
  refine ⟨?_, decL_one hne h⟩
  have hn : Near (t.map fun c => (c, nearI o)) := Near.map_const (nearI_idem o) t
  have hr := rawOf_len (t.map fun c => (c, nearI o))
  rw [List.length_map] at hr
  have h1 : (rawOf (t.map fun c => (c, nearI o))).1.length ≤ 10000000 := by omega
  have h2 : (rawOf (t.map fun c => (c, nearI o))).2.length ≤ 100000000 := by omega
  exact u_decode (lab_rawOf hn) h1 h2

theorem tmod_nat (a b : Nat) : ((a : Int)).tmod (b : Int) = ((a % b : Nat) : Int) := rfl
theorem tdiv_nat (a b : Nat) : ((a : Int)).tdiv (b : Int) = ((a / b : Nat) : Int) := rfl
theorem hex_at {d : Nat} (h : d < 16) : (([48, 49, 50, 51, 52, 53, 54, 55, 56, 57, 97, 98, 99, 100, 101, 102] : List UInt8).take (d + 1)).drop d = [dch d] := by
  have : ∀ d : Fin 16, (([48, 49, 50, 51, 52, 53, 54, 55, 56, 57, 97, 98, 99, 100, 101, 102] : List UInt8).take (d.val + 1)).drop d.val = [dch d.val] := by decide
  exact this ⟨d, h⟩

theorem entityNumbers (n0 o : Int) : VFn Try.prog 14 [.int .i64 n0, .int .i64 o] (.bool true) := by
  refine VFn.intro ok14 (Nat.le_of_ble_eq_true rfl) (vk_start ?_)
  have hr := Int.tmod_lt_of_pos n0 (by decide : (0 : Int) < 1179648)
  have hr2 := Int.lt_tmod_of_pos n0 (by decide : (0 : Int) < 1179648)
  have hs := Int.tmod_lt_of_pos (n0.tmod 1179648 + 1179648) (by decide : (0 : Int) < 1179648)
  have hs2 := Int.tmod_nonneg (a := n0.tmod 1179648 + 1179648) 1179648 (by omega)
  obtain ⟨n, hn⟩ : ∃ n : Nat, (n0.tmod 1179648 + 1179648).tmod 1179648 = (n : Int) := ⟨((n0.tmod 1179648 + 1179648).tmod 1179648).toNat, by omega⟩
  have hn2 : n < 2 ^ 21 := by rw [hn] at hs; omega
  clear hs hs2
  simp (disch := omega) only [EW, Nat.reduceBEq, reduceIte, Nat.reduceAdd, Nat.reduceLeDiff, Nat.reduceLT, Nat.reduceSub, Nat.reduceMul, reduceCtorEq, Int.reduceNeg, Int.reduceSub, Int.reduceAdd, Int.reduceLE, Int.reduceLT, Int.reduceMul, Int.reduceToNat, Int.reduceEq, Int.reduceBEq, Int.reduceBNe, Nat.reduceEqDiff, vc14, rs14]
  (refine vk_callR rfl ⟨_, .inl rfl, alive08⟩ ?_; simp (disch := omega) only [EW, Nat.reduceBEq, reduceIte, Nat.reduceAdd, Nat.reduceLeDiff, Nat.reduceLT, Nat.reduceSub, Nat.reduceMul, reduceCtorEq, Int.reduceNeg, Int.reduceSub, Int.reduceAdd, Int.reduceLE, Int.reduceLT, Int.reduceMul, Int.reduceToNat, Int.reduceEq, Int.reduceBEq, Int.reduceBNe, Nat.reduceEqDiff, hn])
  refine vk_loopR (γ := Nat × List UInt8) (fun g => { tm := [(0, .int .i64 n), (1, .int .i64 o), (5, .str g.2), (6, .str []), (7, .int .i64 g.1)], ob := [], base := 0 })
    (fun g => NInv 10 n g.1 g.2) (fun g => 2 * g.1 + (if g.2 = [] then 1 else 0)) (n, []) (ninv_zero 10 n) ?_ ?_
  · exact ⟨[], rfl, rfl, rfl, rfl, ⟨.same _ rfl, .same _ rfl, .same _ rfl, .same _ rfl, .same _ rfl, trivial⟩, trivial⟩
  · rintro ⟨k, s⟩ hI R hN hE hR
    simp only at hI
    have hk21 : k < 2 ^ 21 := Nat.lt_of_le_of_lt (Nat.le_trans (Nat.le_mul_of_pos_right k (Nat.two_pow_pos s.length)) hI.2.2.1) hn2
    have hsl := hI.2.2.2
    have t10 : ((k : Int)).tmod 10 = ((k % 10 : Nat) : Int) := rfl
    have d10 : ((k : Int)).tdiv 10 = ((k / 10 : Nat) : Int) := rfl
    have hch : (48 : Int) + ((k % 10 : Nat) : Int) = ((dch (k % 10)).toNat : Int) := by rw [dch_nat (by omega), if_pos (by omega)]; omega
    have hcl := (dch (k % 10)).toNat_lt
    have hb : rowsBytes [[V.int .u8 ((dch (k % 10)).toNat : Int)]] = some [dch (k % 10)] := rowsBytes_bRows [dch (k % 10)]
    by_cases h0 : 0 < k ∨ s = []
    · have hst := ninv_step hI (.inl rfl) hn2 h0
      have hgo : (∀ s', s'.fg { tm := [(0, .int .i64 n), (1, .int .i64 o), (5, .str (dch (k % 10) :: s)), (6, .str []), (7, .int .i64 (k / 10 : Nat))], ob := [], base := 0 } → R .normal s') := by
        intro s' hs'
        refine hN s' (k / 10, dch (k % 10) :: s) hst ?_ hs'
        simp only [if_neg (List.cons_ne_nil _ _)]
        rcases h0 with h0 | h0
        · split <;> omega
        · rw [if_pos h0]; omega
      by_cases hk : 0 < k
      · simp (disch := omega) only [EW, Nat.reduceBEq, reduceIte, Nat.reduceAdd, Nat.reduceLeDiff, Nat.reduceLT, Nat.reduceSub, Nat.reduceMul, reduceCtorEq, Int.reduceNeg, Int.reduceSub, Int.reduceAdd, Int.reduceLE, Int.reduceLT, Int.reduceMul, Int.reduceToNat, Int.reduceEq, Int.reduceBEq, Int.reduceBNe, Nat.reduceEqDiff, t10, d10, hch, hb]
        refine hgo _ ?_
        exact ⟨[], rfl, rfl, rfl, rfl, ⟨.same _ rfl, .same _ rfl, .same _ rfl, .same _ rfl, .same _ rfl, trivial⟩, trivial⟩
      · have hs0 : s = [] := h0.resolve_left hk
        subst hs0
        simp (disch := omega) only [EW, Nat.reduceBEq, reduceIte, Nat.reduceAdd, Nat.reduceLeDiff, Nat.reduceLT, Nat.reduceSub, Nat.reduceMul, reduceCtorEq, Int.reduceNeg, Int.reduceSub, Int.reduceAdd, Int.reduceLE, Int.reduceLT, Int.reduceMul, Int.reduceToNat, Int.reduceEq, Int.reduceBEq, Int.reduceBNe, Nat.reduceEqDiff, t10, d10, hch, hb, Q12]
        refine hgo _ ?_
        exact ⟨[], rfl, rfl, rfl, rfl, ⟨.same _ rfl, .same _ rfl, .same _ rfl, .same _ rfl, .same _ rfl, trivial⟩, trivial⟩
    · have hk : k = 0 := by omega
      have hs0 : s ≠ [] := fun e => h0 (.inr e)
      subst hk
      have hse : (s == []) = false := by simpa using hs0
      simp (disch := omega) only [EW, Nat.reduceBEq, reduceIte, Nat.reduceAdd, Nat.reduceLeDiff, Nat.reduceLT, Nat.reduceSub, Nat.reduceMul, reduceCtorEq, Int.reduceNeg, Int.reduceSub, Int.reduceAdd, Int.reduceLE, Int.reduceLT, Int.reduceMul, Int.reduceToNat, Int.reduceEq, Int.reduceBEq, Int.reduceBNe, Nat.reduceEqDiff, hse]
      refine hE _ _ ?_
      have hI1 := hI
      have hsl1 := hsl
      clear hse hb hcl hch d10 t10 hsl hk21 hN hE hR hI h0
      simp (disch := omega) only [EW, Nat.reduceBEq, reduceIte, Nat.reduceAdd, Nat.reduceLeDiff, Nat.reduceLT, Nat.reduceSub, Nat.reduceMul, reduceCtorEq, Int.reduceNeg, Int.reduceSub, Int.reduceAdd, Int.reduceLE, Int.reduceLT, Int.reduceMul, Int.reduceToNat, Int.reduceEq, Int.reduceBEq, Int.reduceBNe, Nat.reduceEqDiff]
      refine vk_loopR (γ := Nat × List UInt8) (fun g => { tm := [(0, .int .i64 n), (1, .int .i64 o), (5, .str s), (6, .str g.2), (8, .int .i64 g.1)], ob := [], base := 0 })
        (fun g => NInv 16 n g.1 g.2) (fun g => 2 * g.1 + (if g.2 = [] then 1 else 0)) (n, []) (ninv_zero 16 n) ?_ ?_
      · exact ⟨[], rfl, rfl, rfl, rfl, ⟨.same _ rfl, .same _ rfl, .same _ rfl, .same _ rfl, .same _ rfl, trivial⟩, trivial⟩
      · rintro ⟨k, h⟩ hI R hN hE hR
        simp only at hI
        have hk21 : k < 2 ^ 21 := Nat.lt_of_le_of_lt (Nat.le_trans (Nat.le_mul_of_pos_right k (Nat.two_pow_pos h.length)) hI.2.2.1) hn2
        have hsl := hI.2.2.2
        have t16 : ((k : Int)).tmod 16 = ((k % 16 : Nat) : Int) := rfl
        have d16 : ((k : Int)).tdiv 16 = ((k / 16 : Nat) : Int) := rfl
        have hx : List.drop (k % 16) (48 :: List.take (k % 16) [49, 50, 51, 52, 53, 54, 55, 56, 57, 97, 98, 99, 100, 101, 102]) = [dch (k % 16)] := hex_at (d := k % 16) (by omega)
        have hx1 : (((k % 16 : Nat) : Int) + 1).toNat = k % 16 + 1 := by omega
        by_cases h0 : 0 < k ∨ h = []
        · have hst := ninv_step hI (.inr rfl) hn2 h0
          have hgo : (∀ s', s'.fg { tm := [(0, .int .i64 n), (1, .int .i64 o), (5, .str s), (6, .str (dch (k % 16) :: h)), (8, .int .i64 (k / 16 : Nat))], ob := [], base := 0 } → R .normal s') := by
            intro s' hs'
            refine hN s' (k / 16, dch (k % 16) :: h) hst ?_ hs'
            simp only [if_neg (List.cons_ne_nil _ _)]
            rcases h0 with h0 | h0
            · split <;> omega
            · rw [if_pos h0]; omega
          by_cases hk : 0 < k
          · simp (disch := omega) only [EW, Nat.reduceBEq, reduceIte, Nat.reduceAdd, Nat.reduceLeDiff, Nat.reduceLT, Nat.reduceSub, Nat.reduceMul, reduceCtorEq, Int.reduceNeg, Int.reduceSub, Int.reduceAdd, Int.reduceLE, Int.reduceLT, Int.reduceMul, Int.reduceToNat, Int.reduceEq, Int.reduceBEq, Int.reduceBNe, Nat.reduceEqDiff, t16, d16, hx1, hx]
            refine hgo _ ?_
            exact ⟨[], rfl, rfl, rfl, rfl, ⟨.same _ rfl, .same _ rfl, .same _ rfl, .same _ rfl, .same _ rfl, trivial⟩, trivial⟩
          · have hs0' : h = [] := h0.resolve_left hk
            subst hs0'
            simp (disch := omega) only [EW, Nat.reduceBEq, reduceIte, Nat.reduceAdd, Nat.reduceLeDiff, Nat.reduceLT, Nat.reduceSub, Nat.reduceMul, reduceCtorEq, Int.reduceNeg, Int.reduceSub, Int.reduceAdd, Int.reduceLE, Int.reduceLT, Int.reduceMul, Int.reduceToNat, Int.reduceEq, Int.reduceBEq, Int.reduceBNe, Nat.reduceEqDiff, t16, d16, hx1, hx, Q12]
            refine hgo _ ?_
            exact ⟨[], rfl, rfl, rfl, rfl, ⟨.same _ rfl, .same _ rfl, .same _ rfl, .same _ rfl, .same _ rfl, trivial⟩, trivial⟩
        · have hk : k = 0 := by omega
          have hh0 : h ≠ [] := fun e => h0 (.inr e)
          subst hk
          have hse : (h == []) = false := by simpa using hh0
          have T1 := ninv_take10 hI1 hs0
          have T2 := ninv_take16 hI hh0
          simp (disch := omega) only [EW, Nat.reduceBEq, reduceIte, Nat.reduceAdd, Nat.reduceLeDiff, Nat.reduceLT, Nat.reduceSub, Nat.reduceMul, reduceCtorEq, Int.reduceNeg, Int.reduceSub, Int.reduceAdd, Int.reduceLE, Int.reduceLT, Int.reduceMul, Int.reduceToNat, Int.reduceEq, Int.reduceBEq, Int.reduceBNe, Nat.reduceEqDiff, hse]
          refine hE _ _ ?_
          have q1 := decode_one (o := o) T1 (by simp) (by simp; omega)
          have q2 := decode_one (o := o) T2 (by simp) (by simp; omega)
          have f1 := of_near (38 :: 35 :: (s ++ [59])) o (by simp; omega)
          have f2 := of_near (38 :: 35 :: 120 :: (h ++ [59])) o (by simp; omega)
          generalize ((38 :: 35 :: (s ++ [59])).map fun c => (c, nearI o)) = L1 at *
          generalize ((38 :: 35 :: 120 :: (h ++ [59])).map fun c => (c, nearI o)) = L2 at *
          simp (disch := omega) only [EW, Nat.reduceBEq, reduceIte, Nat.reduceAdd, Nat.reduceLeDiff, Nat.reduceLT, Nat.reduceSub, Nat.reduceMul, reduceCtorEq, Int.reduceNeg, Int.reduceSub, Int.reduceAdd, Int.reduceLE, Int.reduceLT, Int.reduceMul, Int.reduceToNat, Int.reduceEq, Int.reduceBEq, Int.reduceBNe, Nat.reduceEqDiff]
          (refine vk_callR rfl ⟨_, .inl rfl, ref_number n⟩ ?_; simp (disch := omega) only [EW, Nat.reduceBEq, reduceIte, Nat.reduceAdd, Nat.reduceLeDiff, Nat.reduceLT, Nat.reduceSub, Nat.reduceMul, reduceCtorEq, Int.reduceNeg, Int.reduceSub, Int.reduceAdd, Int.reduceLE, Int.reduceLT, Int.reduceMul, Int.reduceToNat, Int.reduceEq, Int.reduceBEq, Int.reduceBNe, Nat.reduceEqDiff])
          (refine vk_callR rfl ⟨_, .inl rfl, f1⟩ ?_; simp (disch := omega) only [EW, Nat.reduceBEq, reduceIte, Nat.reduceAdd, Nat.reduceLeDiff, Nat.reduceLT, Nat.reduceSub, Nat.reduceMul, reduceCtorEq, Int.reduceNeg, Int.reduceSub, Int.reduceAdd, Int.reduceLE, Int.reduceLT, Int.reduceMul, Int.reduceToNat, Int.reduceEq, Int.reduceBEq, Int.reduceBNe, Nat.reduceEqDiff, strV_raw, rawV])
          (refine vk_callR rfl ⟨_, .inl rfl, q1.1⟩ ?_; simp (disch := omega) only [EW, Nat.reduceBEq, reduceIte, Nat.reduceAdd, Nat.reduceLeDiff, Nat.reduceLT, Nat.reduceSub, Nat.reduceMul, reduceCtorEq, Int.reduceNeg, Int.reduceSub, Int.reduceAdd, Int.reduceLE, Int.reduceLT, Int.reduceMul, Int.reduceToNat, Int.reduceEq, Int.reduceBEq, Int.reduceBNe, Nat.reduceEqDiff, strV_raw, rawV, q1.2, Q12])
          (refine vk_callR rfl ⟨_, .inl rfl, f2⟩ ?_; simp (disch := omega) only [EW, Nat.reduceBEq, reduceIte, Nat.reduceAdd, Nat.reduceLeDiff, Nat.reduceLT, Nat.reduceSub, Nat.reduceMul, reduceCtorEq, Int.reduceNeg, Int.reduceSub, Int.reduceAdd, Int.reduceLE, Int.reduceLT, Int.reduceMul, Int.reduceToNat, Int.reduceEq, Int.reduceBEq, Int.reduceBNe, Nat.reduceEqDiff, strV_raw, rawV])
          (refine vk_callR rfl ⟨_, .inl rfl, q2.1⟩ ?_; simp (disch := omega) only [EW, Nat.reduceBEq, reduceIte, Nat.reduceAdd, Nat.reduceLeDiff, Nat.reduceLT, Nat.reduceSub, Nat.reduceMul, reduceCtorEq, Int.reduceNeg, Int.reduceSub, Int.reduceAdd, Int.reduceLE, Int.reduceLT, Int.reduceMul, Int.reduceToNat, Int.reduceEq, Int.reduceBEq, Int.reduceBNe, Nat.reduceEqDiff, strV_raw, rawV, q2.2, Q12])
          exact fin rfl
end Go.Proofs.VL

/- Contracts of functions of the program, for what calls them, and the law that its name tells. -/
import Derived.Test.YtdiddnapamjojaaTP
import Derived.Test.YtdiddnapamjojaaSM
namespace Go.Proofs.VL
open Go Go.RowKit
set_option maxRecDepth 100000
set_option maxHeartbeats 2000000
set_option linter.unusedSimpArgs false
set_option linter.unusedVariables false
attribute [local irreducible] vwp vk

/-- A writer's call, wherever the writer lies. -/
theorem w_at {f : FuncId} {args : List V} {b b' : List UInt8} {odd odd' : Bool} (h : VCall Try.prog f (.ptr 0 0 :: args) (wOb b odd) (.tup []) (wOb2 b' odd')) (ha : wfL 0 args = true) {B : List (Option VObj)} {k0 k1 : Nat}
    (h0 : B[k0]? = some (some (.box [.ref k1 b.length, .bool odd]))) (h1 : B[k1]? = some (some (.arr 5 1 (bRows b)))) (hne : k0 ≠ k1) :
    VCall Try.prog f (.ptr k0 0 :: args) B (.tup []) ((B.set k0 (some (.box [.ref B.length b'.length, .bool odd']))).set k1 none ++ [some (.arr 5 1 (bRows b'))]) := by
  have hr : renL (nameOf [k0, k1] B.length) args = args := renL_id (n := 0) (fun k hk => by omega) args ha
  have hf := VCall.frame h [k0, k1] B ⟨rfl, by simp [hne], fun i j hj => by
    match i, hj with
    | 0, hj => simp at hj; subst hj; exact ⟨getElem?_lt h0, fun o' ho => by simp [wOb] at ho; subst ho; exact h0⟩
    | 1, hj => simp at hj; subst hj; exact ⟨getElem?_lt h1, fun o' ho => by simp [wOb] at ho; subst ho; exact h1⟩
    | i + 2, hj => simp at hj⟩ (by simp only [wfL, wfV, Bool.and_eq_true]; exact ⟨rfl, wfL_mono (Nat.zero_le _) args ha⟩) rfl rfl rfl (by simp [wOb, wOb2])
  simp only [renL, renV, hr] at hf
  exact hf

theorem w_numA (b : List UInt8) (odd : Bool) (n : Int) (hb : b.length ≤ 100000000000) {B : List (Option VObj)} {k0 k1 : Nat}
    (h0 : B[k0]? = some (some (.box [.ref k1 b.length, .bool odd]))) (h1 : B[k1]? = some (some (.arr 5 1 (bRows b)))) (hne : k0 ≠ k1) :
    VCall Try.prog 125 [.ptr k0 0, .int .i64 n] B (.tup []) ((B.set k0 (some (.box [.ref B.length (b ++ oct4 n).length, .bool (odd || oddI n)]))).set k1 none ++ [some (.arr 5 1 (bRows (b ++ oct4 n)))]) :=
  w_at (w_num b odd n hb) rfl h0 h1 hne

def textO (t : List UInt8) : List UInt8 := oct4 t.length ++ t
theorem odd_len {n : Nat} (h : n ≤ 4294967295) : oddI n = false := by unfold oddI; exact decide_eq_false (by omega)

theorem w_text (b : List UInt8) (odd : Bool) (t : List UInt8) (hb : b.length ≤ 10000000000) (ht : t.length ≤ 1000000000) : VCall Try.prog 126 [.ptr 0 0, .str t] (wOb b odd) (.tup []) (wOb2 (b ++ textO t) odd) := by
  refine VCall.intro ok126 (Nat.le_of_ble_eq_true rfl) (vk_start ?_)
  have hn := w_numA (k0 := 0) (k1 := 1) (B := wOb b odd) b odd t.length (by omega) rfl rfl (by decide)
  rw [odd_len (by omega), Bool.or_false] at hn
  have hl2 : (b ++ oct4 t.length).length = b.length + 4 := by rw [List.length_append]; rfl
  have e : b ++ textO t = (b ++ oct4 t.length) ++ t := by unfold textO; simp
  rw [e]
  generalize b ++ oct4 t.length = c at *
  have htk : List.take c.length (bRows c) = bRows c := bRows_take _
  have hbl := bRows_length c
  simp (maxSteps := 4000000) (disch := omega) only [EW, Nat.reduceBEq, reduceIte, Nat.reduceAdd, Nat.reduceLeDiff, Nat.reduceLT, Nat.reduceSub, Nat.reduceMul, reduceCtorEq, Int.reduceNeg, Int.reduceSub, Int.reduceAdd, Int.reduceLE, Int.reduceLT, Int.reduceMul, Int.reduceToNat, Int.reduceEq, Int.reduceBEq, Int.reduceBNe, Nat.reduceEqDiff, vc126, rs126, wOb, wOb2]
  refine vk_call rfl hn ?_
  simp (maxSteps := 4000000) (disch := omega) only [EW, Nat.reduceBEq, reduceIte, Nat.reduceAdd, Nat.reduceLeDiff, Nat.reduceLT, Nat.reduceSub, Nat.reduceMul, reduceCtorEq, Int.reduceNeg, Int.reduceSub, Int.reduceAdd, Int.reduceLE, Int.reduceLT, Int.reduceMul, Int.reduceToNat, Int.reduceEq, Int.reduceBEq, Int.reduceBNe, Nat.reduceEqDiff, wOb, htk, bRows_append]
  exact ⟨_, rfl, ⟨[some 0, some 1, some 3], rfl, rfl, rfl, rfl, ⟨.same _ rfl, trivial⟩, ⟨⟨_, rfl, .box (.cons ((.refE rfl (by simp [bRows_length]))) (.cons (.same _ rfl) .nil))⟩, ⟨⟨_, rfl, .arr (.refl _)⟩, trivial⟩⟩⟩⟩

/-- The octets of a labelled text. -/
def runsO (rs : Runs) : List UInt8 := rs.flatMap fun r => oct4 r.1 ++ oct4 r.2
def strO (l : LT) : List UInt8 := textO (txt l) ++ oct4 (rle (l.map (·.2))).length ++ runsO (rle (l.map (·.2)))
theorem oct4_len (n : Int) : (oct4 n).length = 4 := rfl
theorem textO_len (t : List UInt8) : (textO t).length = t.length + 4 := by unfold textO; rw [List.length_append, oct4_len]; omega
theorem runsO_len : ∀ (rs : Runs), (runsO rs).length = 8 * rs.length
  | [] => rfl
  | r :: rs => by
    have ih := runsO_len rs
    unfold runsO at ih ⊢
    rw [List.flatMap_cons, List.length_append, ih, List.length_append, oct4_len, oct4_len, List.length_cons]; omega
theorem runsO_snoc (rs : Runs) (r : Int × Int) : runsO (rs ++ [r]) = runsO rs ++ oct4 r.1 ++ oct4 r.2 := by simp [runsO]

/-- No number is odd. -/
def Even (l : LT) : Prop := ∀ r ∈ rle (l.map (·.2)), oddI r.1 = false ∧ oddI r.2 = false

theorem near_even {l : LT} (h : Near l) (hl : l.length ≤ 1000000000) : Even l := by
  intro r hr
  have h1 := rle_mem hr
  have h2 : r.2 ∈ l.map (·.2) := by
    have h3 := (expand_rle (l.map (·.2))).1
    have h4 : r.2 ∈ expand (rle (l.map (·.2))) := by
      unfold expand
      rw [List.mem_flatMap]
      exact ⟨r, hr, by rw [List.mem_replicate]; exact ⟨by omega, rfl⟩⟩
    rw [h3] at h4; exact h4
  obtain ⟨c, hc, he⟩ := List.mem_map.1 h2
  have h5 := h c hc
  rw [List.length_map] at h1
  unfold nearI at h5
  unfold oddI
  exact ⟨decide_eq_false (by omega), decide_eq_false (by omega)⟩

theorem w_str (b : List UInt8) (odd : Bool) {t : List UInt8} {rs : Runs} {l : LT} (h : lab t rs = l) (hb : b.length ≤ 1000000000) (ht : t.length ≤ 100000000) (hrs : rs.length ≤ 100000000) : VCall Try.prog 103 [.ptr 0 0, rawV t rs] (wOb b odd) (.tup []) (wOb2 (b ++ strO l) odd) := by
  refine VCall.intro ok103 (Nat.le_of_ble_eq_true rfl) (vk_start ?_)
  have hn : Near l := h ▸ lab_near t rs
  have hL : l.length = t.length := by rw [← h, lab_length]
  have hev := near_even hn (by omega)
  have hfix := fix_of h (by omega) (by omega)
  have htx : (rawOf l).1 = txt l := rfl
  have hrl : (rawOf l).2.length ≤ l.length := (rawOf_len l).2
  have htl : (txt l).length = l.length := txt_length l
  obtain ⟨Q, hQ⟩ : ∃ Q, Q = rle (l.map (·.2)) := ⟨_, rfl⟩
  have hQr : (rawOf l).2 = Q := hQ.symm
  rw [hQr] at hrl
  have hev' : ∀ r ∈ Q, oddI r.1 = false ∧ oddI r.2 = false := by rw [hQ]; exact hev
  have e : b ++ strO l = b ++ textO (txt l) ++ oct4 Q.length ++ runsO Q := by unfold strO; rw [← hQ]; simp
  rw [e]
  clear e hev
  have htext := fun B k0 k1 h0 h1 hne => w_at (w_text b odd (txt l) (by omega) (by omega)) rfl (B := B) (k0 := k0) (k1 := k1) h0 h1 hne
  have hc1 : (b ++ textO (txt l)).length = b.length + (l.length + 4) := by rw [List.length_append, textO_len, htl]
  generalize b ++ textO (txt l) = c at *
  have hnum := fun B k0 k1 h0 h1 hne => w_numA (B := B) (k0 := k0) (k1 := k1) c odd Q.length (by omega) h0 h1 hne
  rw [odd_len (by omega), Bool.or_false] at hnum
  have hc2 : (c ++ oct4 Q.length).length = c.length + 4 := by rw [List.length_append]; rfl
  generalize c ++ oct4 Q.length = d at *
  simp (maxSteps := 4000000) (disch := omega) only [EW, Nat.reduceBEq, reduceIte, Nat.reduceAdd, Nat.reduceLeDiff, Nat.reduceLT, Nat.reduceSub, Nat.reduceMul, reduceCtorEq, Int.reduceNeg, Int.reduceSub, Int.reduceAdd, Int.reduceLE, Int.reduceLT, Int.reduceMul, Int.reduceToNat, Int.reduceEq, Int.reduceBEq, Int.reduceBNe, Nat.reduceEqDiff, vc103, rs103, wOb, wOb2, rawV]
  refine vk_callR rfl ⟨[rawV t rs], .inl rfl, hfix⟩ ?_
  simp (maxSteps := 4000000) (disch := omega) only [EW, Nat.reduceBEq, reduceIte, Nat.reduceAdd, Nat.reduceLeDiff, Nat.reduceLT, Nat.reduceSub, Nat.reduceMul, reduceCtorEq, Int.reduceNeg, Int.reduceSub, Int.reduceAdd, Int.reduceLE, Int.reduceLT, Int.reduceMul, Int.reduceToNat, Int.reduceEq, Int.reduceBEq, Int.reduceBNe, Nat.reduceEqDiff, strV_raw, rawV, htx, hQr]
  refine vk_call rfl (htext _ 0 1 rfl rfl (by decide)) ?_
  simp (maxSteps := 4000000) (disch := omega) only [EW, Nat.reduceBEq, reduceIte, Nat.reduceAdd, Nat.reduceLeDiff, Nat.reduceLT, Nat.reduceSub, Nat.reduceMul, reduceCtorEq, Int.reduceNeg, Int.reduceSub, Int.reduceAdd, Int.reduceLE, Int.reduceLT, Int.reduceMul, Int.reduceToNat, Int.reduceEq, Int.reduceBEq, Int.reduceBNe, Nat.reduceEqDiff, rowsOf_length]
  refine vk_call rfl (hnum _ 0 3 rfl rfl (by decide)) ?_
  simp (maxSteps := 4000000) (disch := omega) only [EW, Nat.reduceBEq, reduceIte, Nat.reduceAdd, Nat.reduceLeDiff, Nat.reduceLT, Nat.reduceSub, Nat.reduceMul, reduceCtorEq, Int.reduceNeg, Int.reduceSub, Int.reduceAdd, Int.reduceLE, Int.reduceLT, Int.reduceMul, Int.reduceToNat, Int.reduceEq, Int.reduceBEq, Int.reduceBNe, Nat.reduceEqDiff, rowsOf_length]
  refine vk_loopR (γ := Nat) (fun j => { tm := [(0, .ptr 0 0), (18, .sl 2 (rowsOf Q)), (19, .int .i64 Q.length), (20, .int .i64 j)], ob := [some (.box [.ref 2 (d ++ runsO (Q.take j)).length, .bool odd]), none, some (.arr 5 1 (bRows (d ++ runsO (Q.take j))))], base := 2 })
    (fun j => j ≤ Q.length) (fun j => Q.length - j) 0 (Nat.zero_le _) ?_ ?_
  · rw [List.take_zero, show runsO [] = [] from rfl, List.append_nil]
    exact ⟨[some 0, some 1, some 4], rfl, rfl, rfl, rfl, ⟨.ptr rfl, .same _ rfl, .same _ rfl, .same _ rfl, trivial⟩, ⟨⟨_, rfl, .box (.cons (.ref rfl) (.cons (.same _ rfl) .nil))⟩, ⟨⟨_, rfl, .arr (.refl _)⟩, trivial⟩⟩⟩
  · rintro j hj R hN hE hR
    rcases Nat.lt_or_ge j Q.length with hlt | hge
    · obtain ⟨⟨n, o⟩, hr⟩ : ∃ r, Q[j]? = some r := ⟨_, List.getElem?_eq_getElem hlt⟩
      have hrow : (rowsOf Q)[j]? = some [.int .i64 n, .int .i64 o] := by rw [rowsOf_get, hr]; rfl
      have hq := hev' _ (List.mem_of_getElem? hr)
      have htk : Q.take (j + 1) = Q.take j ++ [(n, o)] := by rw [List.take_add_one, hr]; rfl
      have hlen : (d ++ runsO (Q.take j)).length ≤ 20000000000 := by rw [List.length_append, runsO_len, List.length_take]; omega
      have e1 : d ++ runsO (Q.take (j + 1)) = d ++ runsO (Q.take j) ++ oct4 n ++ oct4 o := by rw [htk, runsO_snoc]; simp
      have n1 := fun B k0 k1 h0 h1 hne => w_numA (B := B) (k0 := k0) (k1 := k1) (d ++ runsO (Q.take j)) odd n (by omega) h0 h1 hne
      have n2 := fun B k0 k1 h0 h1 hne => w_numA (B := B) (k0 := k0) (k1 := k1) (d ++ runsO (Q.take j) ++ oct4 n) odd o (by rw [List.length_append, oct4_len]; omega) h0 h1 hne
      rw [hq.1, Bool.or_false] at n1
      rw [hq.2, Bool.or_false] at n2
      have hfin := fun s' hs => hN s' (j + 1) hlt (by omega) hs
      simp only [e1] at hfin
      generalize d ++ runsO (Q.take j) = f at *
      simp (maxSteps := 4000000) (disch := omega) only [EW, Nat.reduceBEq, reduceIte, Nat.reduceAdd, Nat.reduceLeDiff, Nat.reduceLT, Nat.reduceSub, Nat.reduceMul, reduceCtorEq, Int.reduceNeg, Int.reduceSub, Int.reduceAdd, Int.reduceLE, Int.reduceLT, Int.reduceMul, Int.reduceToNat, Int.reduceEq, Int.reduceBEq, Int.reduceBNe, Nat.reduceEqDiff, hrow]
      refine vk_call rfl (n1 _ 0 2 rfl rfl (by decide)) ?_
      generalize f ++ oct4 n = g at *
      simp (maxSteps := 4000000) (disch := omega) only [EW, Nat.reduceBEq, reduceIte, Nat.reduceAdd, Nat.reduceLeDiff, Nat.reduceLT, Nat.reduceSub, Nat.reduceMul, reduceCtorEq, Int.reduceNeg, Int.reduceSub, Int.reduceAdd, Int.reduceLE, Int.reduceLT, Int.reduceMul, Int.reduceToNat, Int.reduceEq, Int.reduceBEq, Int.reduceBNe, Nat.reduceEqDiff]
      refine vk_call rfl (n2 _ 0 4 rfl rfl (by decide)) ?_
      generalize g ++ oct4 o = k at *
      simp (maxSteps := 4000000) (disch := omega) only [EW, Nat.reduceBEq, reduceIte, Nat.reduceAdd, Nat.reduceLeDiff, Nat.reduceLT, Nat.reduceSub, Nat.reduceMul, reduceCtorEq, Int.reduceNeg, Int.reduceSub, Int.reduceAdd, Int.reduceLE, Int.reduceLT, Int.reduceMul, Int.reduceToNat, Int.reduceEq, Int.reduceBEq, Int.reduceBNe, Nat.reduceEqDiff]
      refine hfin _ ?_
      exact ⟨[some 0, some 1, some 5], rfl, rfl, rfl, rfl, ⟨.ptr rfl, .same _ rfl, .same _ rfl, .same _ rfl, trivial⟩, ⟨⟨_, rfl, .box (.cons (.ref rfl) (.cons (.same _ rfl) .nil))⟩, ⟨⟨_, rfl, .arr (.refl _)⟩, trivial⟩⟩⟩
    · have e : j = Q.length := by omega
      subst e
      rw [List.take_length]
      simp (maxSteps := 4000000) (disch := omega) only [EW, Nat.reduceBEq, reduceIte, Nat.reduceAdd, Nat.reduceLeDiff, Nat.reduceLT, Nat.reduceSub, Nat.reduceMul, reduceCtorEq, Int.reduceNeg, Int.reduceSub, Int.reduceAdd, Int.reduceLE, Int.reduceLT, Int.reduceMul, Int.reduceToNat, Int.reduceEq, Int.reduceBEq, Int.reduceBNe, Nat.reduceEqDiff]
      refine hE _ _ ?_
      simp (maxSteps := 4000000) (disch := omega) only [EW, Nat.reduceBEq, reduceIte, Nat.reduceAdd, Nat.reduceLeDiff, Nat.reduceLT, Nat.reduceSub, Nat.reduceMul, reduceCtorEq, Int.reduceNeg, Int.reduceSub, Int.reduceAdd, Int.reduceLE, Int.reduceLT, Int.reduceMul, Int.reduceToNat, Int.reduceEq, Int.reduceBEq, Int.reduceBNe, Nat.reduceEqDiff]
      exact ⟨_, rfl, ⟨[some 0, some 1, some 2], rfl, rfl, rfl, rfl, ⟨.same _ rfl, trivial⟩, ⟨⟨_, rfl, .box (.cons ((.refE rfl (by simp))) (.cons (.same _ rfl) .nil))⟩, ⟨⟨_, rfl, .arr (.refl _)⟩, trivial⟩⟩⟩⟩
end Go.Proofs.VL

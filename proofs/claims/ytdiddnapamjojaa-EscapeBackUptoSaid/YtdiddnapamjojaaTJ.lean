/- Contracts of functions of the program, for what calls them, and the law that its name tells. -/
import Derived.Test.YtdiddnapamjojaaTI
import Derived.Test.YtdiddnapamjojaaSA5
namespace Go.Proofs
set_option maxHeartbeats 2000000 in
set_option maxRecDepth 100000 in
theorem Try.stringslite_Index_one (s : ByteArray) (c : UInt8) (w : World) :
    Calls Try.prog 136 #[.string s, .string ⟨#[c]⟩] w fun e w' => e = .returned (.int .i64 (Lib.indexByte s.data.toList c)) ∧ w' = w := by
  go_enter Try.func136, Try.ntmps136
  go_wp2_with (go_at_call 131; refine (Try.stringslite_IndexByte _ _ _).mono ?_; rintro e w' ⟨rfl, rfl⟩)
  · have h : ([c] == s.toList) = true := by assumption
    go_ret
    refine ⟨?_, rfl⟩
    have e : s.data.toList = [c] := by rw [← Lib.toList_data]; exact (beq_iff_eq.1 h).symm
    rw [e]
    simp [Lib.indexByte]
  · go_ret
    exact ⟨rfl, rfl⟩
set_option maxHeartbeats 1000000 in
theorem Try.strings_Index_one (s : ByteArray) (c : UInt8) (w : World) :
    Calls Try.prog 114 #[.string s, .string ⟨#[c]⟩] w fun e w' => e = .returned (.int .i64 (Lib.indexByte s.data.toList c)) ∧ w' = w := by
  go_enter Try.func114, Try.ntmps114
  go_wp2_with (go_at_call 136; refine (Try.stringslite_Index_one _ _ _).mono ?_; rintro e w' ⟨rfl, rfl⟩)
  go_ret
  exact ⟨rfl, rfl⟩
end Go.Proofs
namespace Go.Proofs.VL
open Go Go.RowKit
set_option maxRecDepth 100000
set_option maxHeartbeats 2000000
set_option linter.unusedSimpArgs false
set_option linter.unusedVariables false
attribute [local irreducible] vwp vk

theorem str_index1 (t : List UInt8) (c : UInt8) : VFn Try.prog 114 [.str t, .str [c]] (.int .i64 (Lib.indexByte t c)) := by
  refine VFn.ofCalls ⟨_, Try.func114, by kernel_rfl, by kernel_rfl⟩ fun w E vs h => ?_
  obtain ⟨v1, w1, e1, h1, v2, w2, e2, h2, e3⟩ := h
  subst e3; subst e2; subst e1
  · simp only [Rep] at h1 h2
    subst h1; subst h2
    refine ⟨_, rfl, ?_⟩
    exact Try.strings_Index_one ⟨⟨t⟩⟩ c w

theorem seek_index1 (t : List UInt8) (rs : Runs) (c : UInt8) (ht : t.length ≤ 1000000000) : VFn Try.prog 67 [rawV t rs, .str [c], .int .i64 0] (.int .i64 (Lib.indexByte t c)) := by
  refine VFn.intro ok67 (Nat.le_of_ble_eq_true rfl) (vk_start ?_)
  have hi := index_lt t c
  have h1 := str_index1 t c
  by_cases h : Lib.indexByte t c < 0
  · have e : Lib.indexByte t c = -1 := by omega
    rw [e] at h1 ⊢
    simp (disch := omega) only [EW, Nat.reduceBEq, reduceIte, Nat.reduceAdd, Nat.reduceLeDiff, Nat.reduceLT, Nat.reduceSub, Nat.reduceMul, reduceCtorEq, Int.reduceNeg, Int.reduceSub, Int.reduceAdd, Int.reduceLE, Int.reduceLT, Int.reduceMul, Int.reduceToNat, Int.reduceEq, Int.reduceBEq, Int.reduceBNe, Nat.reduceEqDiff, vc67, rs67, rawV, List.take_length]
    (refine vk_callR rfl ⟨_, .inl rfl, h1⟩ ?_; simp (disch := omega) only [EW, Nat.reduceBEq, reduceIte, Nat.reduceAdd, Nat.reduceLeDiff, Nat.reduceLT, Nat.reduceSub, Nat.reduceMul, reduceCtorEq, Int.reduceNeg, Int.reduceSub, Int.reduceAdd, Int.reduceLE, Int.reduceLT, Int.reduceMul, Int.reduceToNat, Int.reduceEq, Int.reduceBEq, Int.reduceBNe, Nat.reduceEqDiff])
    exact fin rfl
  · simp (disch := omega) only [EW, Nat.reduceBEq, reduceIte, Nat.reduceAdd, Nat.reduceLeDiff, Nat.reduceLT, Nat.reduceSub, Nat.reduceMul, reduceCtorEq, Int.reduceNeg, Int.reduceSub, Int.reduceAdd, Int.reduceLE, Int.reduceLT, Int.reduceMul, Int.reduceToNat, Int.reduceEq, Int.reduceBEq, Int.reduceBNe, Nat.reduceEqDiff, vc67, rs67, rawV, List.take_length]
    (refine vk_callR rfl ⟨_, .inl rfl, h1⟩ ?_; simp (disch := omega) only [EW, Nat.reduceBEq, reduceIte, Nat.reduceAdd, Nat.reduceLeDiff, Nat.reduceLT, Nat.reduceSub, Nat.reduceMul, reduceCtorEq, Int.reduceNeg, Int.reduceSub, Int.reduceAdd, Int.reduceLE, Int.reduceLT, Int.reduceMul, Int.reduceToNat, Int.reduceEq, Int.reduceBEq, Int.reduceBNe, Nat.reduceEqDiff, Int.zero_add])
    exact fin rfl

theorem ref01_in (c : UInt8) (t : List UInt8) (ht : t.length ≤ 1000000000) : VFn Try.prog 66 [.int .u8 c.toNat, .str t] (.bool (t.contains c)) := by
  refine VFn.intro ok66 (Nat.le_of_ble_eq_true rfl) (vk_start ?_)
  simp (disch := omega) only [EW, Nat.reduceBEq, reduceIte, Nat.reduceAdd, Nat.reduceLeDiff, Nat.reduceLT, Nat.reduceSub, Nat.reduceMul, reduceCtorEq, Int.reduceNeg, Int.reduceSub, Int.reduceAdd, Int.reduceLE, Int.reduceLT, Int.reduceMul, Int.reduceToNat, Int.reduceEq, Int.reduceBEq, Int.reduceBNe, Nat.reduceEqDiff, vc66, rs66]
  refine vk_loopR (γ := Nat) (fun i => { tm := [(0, .int .u8 c.toNat), (1, .str t), (5, .int .i64 i)], ob := [], base := 0 })
    (fun i => i ≤ t.length ∧ t.contains c = (t.drop i).contains c) (fun i => t.length - i) 0 ⟨Nat.zero_le _, rfl⟩ ?_ ?_
  · exact ⟨[], rfl, rfl, rfl, rfl, ⟨.same _ rfl, .same _ rfl, .same _ rfl, trivial⟩, trivial⟩
  · rintro i ⟨hi, hc⟩ R hN hE hR
    rcases Nat.lt_or_ge i t.length with hlt | hge
    · obtain ⟨x, hx⟩ : ∃ x, t[i]? = some x := ⟨_, List.getElem?_eq_getElem hlt⟩
      have hd := drop_at hx
      rw [hd] at hc
      by_cases h : x = c
      · subst h
        simp (disch := omega) only [EW, Nat.reduceBEq, reduceIte, Nat.reduceAdd, Nat.reduceLeDiff, Nat.reduceLT, Nat.reduceSub, Nat.reduceMul, reduceCtorEq, Int.reduceNeg, Int.reduceSub, Int.reduceAdd, Int.reduceLE, Int.reduceLT, Int.reduceMul, Int.reduceToNat, Int.reduceEq, Int.reduceBEq, Int.reduceBNe, Nat.reduceEqDiff, hx, byteV, Q12]
        refine hR _ ?_
        have e : t.contains x = true := by rw [hc]; simp
        simp (disch := omega) only [EW, Nat.reduceBEq, reduceIte, Nat.reduceAdd, Nat.reduceLeDiff, Nat.reduceLT, Nat.reduceSub, Nat.reduceMul, reduceCtorEq, Int.reduceNeg, Int.reduceSub, Int.reduceAdd, Int.reduceLE, Int.reduceLT, Int.reduceMul, Int.reduceToNat, Int.reduceEq, Int.reduceBEq, Int.reduceBNe, Nat.reduceEqDiff, e]
        exact fin rfl
      · have hb : ((x.toNat : Int) == (c.toNat : Int)) = false := by rw [byte_eq]; simpa using h
        simp (disch := omega) only [EW, Nat.reduceBEq, reduceIte, Nat.reduceAdd, Nat.reduceLeDiff, Nat.reduceLT, Nat.reduceSub, Nat.reduceMul, reduceCtorEq, Int.reduceNeg, Int.reduceSub, Int.reduceAdd, Int.reduceLE, Int.reduceLT, Int.reduceMul, Int.reduceToNat, Int.reduceEq, Int.reduceBEq, Int.reduceBNe, Nat.reduceEqDiff, hx, byteV, hb]
        refine hN _ (i + 1) ⟨hlt, ?_⟩ (by omega) ?_
        · rw [hc, List.contains_cons]; simp only [Bool.or_eq_right_iff_imp]; intro h2; exact (h (eq_of_beq h2).symm).elim
        · exact ⟨[], rfl, rfl, rfl, rfl, ⟨.same _ rfl, .same _ rfl, .same _ rfl, trivial⟩, trivial⟩
    · simp (disch := omega) only [EW, Nat.reduceBEq, reduceIte, Nat.reduceAdd, Nat.reduceLeDiff, Nat.reduceLT, Nat.reduceSub, Nat.reduceMul, reduceCtorEq, Int.reduceNeg, Int.reduceSub, Int.reduceAdd, Int.reduceLE, Int.reduceLT, Int.reduceMul, Int.reduceToNat, Int.reduceEq, Int.reduceBEq, Int.reduceBNe, Nat.reduceEqDiff]
      refine hE _ _ ?_
      have e : t.contains c = false := by rw [hc, List.drop_eq_nil_of_le hge]; rfl
      simp (disch := omega) only [EW, Nat.reduceBEq, reduceIte, Nat.reduceAdd, Nat.reduceLeDiff, Nat.reduceLT, Nat.reduceSub, Nat.reduceMul, reduceCtorEq, Int.reduceNeg, Int.reduceSub, Int.reduceAdd, Int.reduceLE, Int.reduceLT, Int.reduceMul, Int.reduceToNat, Int.reduceEq, Int.reduceBEq, Int.reduceBNe, Nat.reduceEqDiff, e]
      exact fin rfl

theorem take_ref2 {u r : List UInt8} {o : List UInt8} (h : ∀ c ∈ u, c ≠ 59) (ho : standsB u = o) (hne : o ≠ []) : takeB (38 :: (u ++ 59 :: r)) = (o, u.length + 2) := by
  have hi := index_app (38 :: u) r (by intro c hc; rcases List.mem_cons.1 hc with rfl | hc; · decide
                                       · exact h c hc)
  have e : takeB (38 :: (u ++ 59 :: r)) = _ := takeB_cons (t := 38 :: (u ++ 59 :: r)) rfl (e := u.length + 1) (by simpa using hi)
  rw [e]
  have e2 : ((38 :: (u ++ 59 :: r)).take (u.length + 1)).drop 1 = u := by simp
  rw [e2, ho, if_neg hne]

theorem worst_all (t : List UInt8) {o : Int} (ho : nearI o = o) (ht : t ≠ []) : worstO (t.map fun b => (b, o)) = o := by
  have h0 : 0 ≤ o := by unfold nearI at ho; omega
  have : ∀ (t : List UInt8) (m : Int), m = o ∨ (t ≠ [] ∧ m ≤ o) → (t.map fun b => (b, o)).foldl (fun m c => max m c.2) m = o := by
    intro t
    induction t with
    | nil =>
      intro m h
      rcases h with h | h
      · exact h
      · exact (h.1 rfl).elim
    | cons b t ih =>
      intro m h
      simp only [List.map_cons, List.foldl_cons]
      refine ih _ (.inl ?_)
      omega
  exact this t 0 (.inr ⟨ht, h0⟩)

/-- One that is escaped, decoded. -/
theorem dec_esc1 {u : List UInt8} {b : UInt8} {o : Int} (ho : nearI o = o) (h : ∀ c ∈ u, c ≠ 59) (hb : standsB u = [b]) (r : LT) :
    decL (((38 :: (u ++ [59])).map fun b => (b, o)) ++ r) = (b, o) :: decL r := by
  have e1 : ((38 :: (u ++ [59])).map fun b => (b, o)) ++ r = (38, o) :: (((u ++ [59]).map fun b => (b, o)) ++ r) := rfl
  have et : txt (((38 : UInt8), o) :: (((u ++ [59]).map fun b => (b, o)) ++ r)) = 38 :: (u ++ 59 :: txt r) := by
    have := txt_map (u ++ [59]) o
    unfold txt at this ⊢
    rw [List.map_cons, List.map_append, this]; simp
  have hT := take_ref2 (r := txt r) h hb (by simp)
  rw [← et] at hT
  rw [e1, decL_some hT (by simp), ← e1]
  have el : ((38 :: (u ++ [59])).map fun b => (b, o)).length = u.length + 2 := by simp
  rw [List.take_append_of_le_length (by omega), List.take_of_length_le (by omega), ← el, List.drop_left, worst_all _ ho (by simp)]
  rfl

theorem dec_esc {n : Nat} : ∀ {l : LT}, 1 ≤ n → Near l → decL (escL n l) = l
  | [], _, _ => by rw [show escL n [] = [] from rfl, decL_nil]
  | (b, o) :: r, hn, hl => by
    have ih := dec_esc (n := n) (l := r) hn (fun d hd => hl d (by simp [hd]))
    have ho : nearI o = o := hl (b, o) (by simp)
    have e : escL n ((b, o) :: r) = ((escB n b).map fun b => (b, o)) ++ escL n r := rfl
    rw [e]
    unfold escB
    split
    · rename_i h; rw [h.2]; exact (dec_esc1 (u := [97, 109, 112]) (b := 38) ho (by decide) rfl (escL n r)).trans (by rw [ih])
    split
    · rename_i h; rw [h.2]; exact (dec_esc1 (u := [108, 116]) (b := 60) ho (by decide) rfl (escL n r)).trans (by rw [ih])
    split
    · rename_i h; rw [h.2]; exact (dec_esc1 (u := [103, 116]) (b := 62) ho (by decide) rfl (escL n r)).trans (by rw [ih])
    split
    · rename_i h; rw [h.2]; exact (dec_esc1 (u := [35, 49, 51]) (b := 13) ho (by decide) rfl (escL n r)).trans (by rw [ih])
    split
    · rename_i h; rw [h.2]; exact (dec_esc1 (u := [113, 117, 111, 116]) (b := 34) ho (by decide) rfl (escL n r)).trans (by rw [ih])
    · rename_i h1 _ _ _ _
      have hb : b ≠ 38 := fun e => h1 ⟨hn, e⟩
      have h2 : (takeB (txt (((b, o) : UInt8 × Int) :: escL n r))).2 = 0 := by
        show (if b = 38 then _ else (([], 0) : List UInt8 × Nat)).2 = 0
        rw [if_neg hb]
      show decL ((b, o) :: escL n r) = _
      rw [decL_none h2, ih]

theorem esc_free {n : Nat} {l : LT} {c : UInt8} (h : ∀ b, c ∉ escB n b) : c ∉ txt (escL n l) := by
  unfold txt escL
  intro hc
  simp only [List.mem_map, List.mem_flatMap] at hc
  obtain ⟨a, ⟨d, _, b, hb, rfl⟩, rfl⟩ := hc
  exact h _ hb

theorem esc_lt (n : Nat) (hn : 4 ≤ n) (b : UInt8) : (60 : UInt8) ∉ escB n b ∧ (62 : UInt8) ∉ escB n b ∧ (13 : UInt8) ∉ escB n b ∧ (5 ≤ n → (34 : UInt8) ∉ escB n b) := by
  unfold escB
  split; · simp
  split; · simp
  split; · simp
  split; · simp
  split; · simp
  rename_i h1 h2 h3 h4 h5
  simp only [List.mem_singleton]
  refine ⟨?_, ?_, ?_, ?_⟩
  · rintro rfl; exact h2 ⟨by omega, rfl⟩
  · rintro rfl; exact h3 ⟨by omega, rfl⟩
  · rintro rfl; exact h4 ⟨by omega, rfl⟩
  · rintro hn5 rfl; exact h5 ⟨by omega, rfl⟩

theorem index_none : ∀ {t : List UInt8} {c : UInt8}, c ∉ t → Lib.indexByte t c = -1
  | [], c, _ => rfl
  | b :: t, c, h => by
    have ih := index_none (t := t) (c := c) (fun e => h (by simp [e]))
    have hb : b ≠ c := fun e => h (by simp [e])
    show (if (b == c) = true then (0 : Int) else if (Lib.indexByte t c == -1) = true then -1 else Lib.indexByte t c + 1) = _
    rw [if_neg (by simpa using hb), ih]
    rfl
end Go.Proofs.VL

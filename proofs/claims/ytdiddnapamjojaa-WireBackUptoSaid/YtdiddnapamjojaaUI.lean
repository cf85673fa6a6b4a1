/- Contracts of functions of the program, for what calls them, and the law that its name tells. -/
import Derived.Test.YtdiddnapamjojaaUG
namespace Go.Proofs.VL
open Go Go.RowKit
set_option linter.unusedSimpArgs false
set_option linter.unusedVariables false

theorem opO_opB {a : List UInt8} (h : a.length = 1) : opO (opB a) = a := by
  match a, h with
  | [c], _ =>
    have hc := c.toNat_lt
    have e : opB [c] = (c.toNat : Int) := rfl
    rw [e]
    unfold opO
    have : ((c.toNat : Int) % 256).toNat = c.toNat := by omega
    rw [this]; simp

theorem str_norm {s : List UInt8 × Runs} {u v : List UInt8} {b : Bool} (h : strR (u, b) = (s, v, false)) : normB s.1 s.2 = true := by
  unfold strR at h
  simp only at h
  split at h
  · cases h
  · rename_i hc
    simp only [Prod.mk.injEq] at h
    obtain ⟨rfl, _⟩ := h
    simp only
    match hq : normB _ _ with
    | true => rfl
    | false => exact absurd (Or.inr hq) hc

theorem pat_back {q : Pat} {u v : List UInt8} {b : Bool} (h : patR (u, b) = (q, v, false)) : b = false ∧ u = patO q ++ v ∧ kindOk q = true ∧ patOdd q = false ∧ ∀ s ∈ four q, normB s.1 s.2 = true := by
  unfold patR at h
  simp only at h
  generalize h0 : tak 1 (u, b) = x at h
  obtain ⟨o, v0, b0⟩ := x
  simp only at h
  generalize h1 : numR (v0, b0) = x at h
  obtain ⟨n1, v1, b1⟩ := x
  simp only at h
  generalize h2 : numR (v1, b1) = x at h
  obtain ⟨n2, v2, b2⟩ := x
  simp only at h
  generalize h3 : numR (v2, b2) = x at h
  obtain ⟨n3, v3, b3⟩ := x
  simp only at h
  generalize h4 : numR (v3, b3) = x at h
  obtain ⟨n4, v4, b4⟩ := x
  simp only at h
  generalize h5 : numR (v4, b4) = x at h
  obtain ⟨n5, v5, b5⟩ := x
  simp only at h
  generalize h6 : textR (v5, b5) = x at h
  obtain ⟨k, v6, b6⟩ := x
  simp only at h
  generalize h7 : strR (v6, b6) = x at h
  obtain ⟨s1, v7, b7⟩ := x
  simp only at h
  generalize h8 : strR (v7, b7) = x at h
  obtain ⟨s2, v8, b8⟩ := x
  simp only at h
  generalize h9 : strR (v8, b8) = x at h
  obtain ⟨s3, v9, b9⟩ := x
  simp only at h
  generalize h10 : strR (v9, b9) = x at h
  obtain ⟨s4, v10, b10⟩ := x
  simp only at h
  generalize h11 : numR (v10, b10) = x at h
  obtain ⟨n, v11, b11⟩ := x
  simp only at h
  generalize h12 : hooksR n (v11, b11) = x at h
  obtain ⟨hs, v12, b12⟩ := x
  simp only [Prod.mk.injEq, Bool.or_eq_false_iff, decide_eq_false_iff_not] at h
  obtain ⟨rfl, rfl, ⟨rfl, ho1⟩, ho2⟩ := h
  obtain ⟨rfl, q12, l12, o12⟩ := hooks_back n h12
  obtain ⟨rfl, q11, o11⟩ := num_back h11
  have n10 := str_norm h10
  obtain ⟨rfl, q10⟩ := str_back h10
  have n9 := str_norm h9
  obtain ⟨rfl, q9⟩ := str_back h9
  have n8 := str_norm h8
  obtain ⟨rfl, q8⟩ := str_back h8
  have n7 := str_norm h7
  obtain ⟨rfl, q7⟩ := str_back h7
  obtain ⟨rfl, q6⟩ := text_back h6
  obtain ⟨rfl, q5, o5⟩ := num_back h5
  obtain ⟨rfl, q4, o4⟩ := num_back h4
  obtain ⟨rfl, q3, o3⟩ := num_back h3
  obtain ⟨rfl, q2, o2⟩ := num_back h2
  obtain ⟨rfl, q1, o1⟩ := num_back h1
  obtain ⟨rfl, q0, l0⟩ := tak_back h0
  refine ⟨rfl, ?_, ?_, ?_, ?_⟩
  · unfold patO
    simp only [opO_opB l0, l12]
    rw [q0, q1, q2, q3, q4, q5, q6, q7, q8, q9, q10, q11, q12]
    simp [numsO, five, strsO, four]
  · unfold kindOk; simp only [decide_eq_true_eq]; omega
  · unfold patOdd
    rw [o12]
    simp only [five, List.any_cons, List.any_nil, o1, o2, o3, o4, o5, Bool.or_false]
  · intro s hs
    simp only [four, List.mem_cons, List.not_mem_nil, or_false] at hs
    rcases hs with rfl | rfl | rfl | rfl
    · exact n7
    · exact n8
    · exact n9
    · exact n10

theorem pats_back : ∀ (n : Nat) {ps : List Pat} {u v : List UInt8} {b : Bool}, u.length ≤ n → patsR n (u, b) = (ps, v, false) → b = false ∧ u = patsO ps ∧ ∀ p ∈ ps, kindOk p = true ∧ patOdd p = false ∧ ∀ s ∈ four p, normB s.1 s.2 = true
  | 0, ps, u, v, b, hn, h => by
    unfold patsR at h
    simp only [Prod.mk.injEq] at h
    obtain ⟨rfl, rfl, rfl⟩ := h
    have : u = [] := List.length_eq_zero_iff.1 (by omega)
    subst this
    exact ⟨rfl, rfl, by simp⟩
  | n + 1, ps, u, v, b, hn, h => by
    unfold patsR at h
    by_cases hc : u = [] ∨ b = true
    · rw [if_pos hc] at h
      simp only [Prod.mk.injEq] at h
      obtain ⟨rfl, rfl, rfl⟩ := h
      rcases hc with hc | hc
      · subst hc; exact ⟨rfl, rfl, by simp⟩
      · cases hc
    · rw [if_neg hc] at h
      generalize h1 : patR (u, b) = x at h
      obtain ⟨q, v1, b1⟩ := x
      simp only at h
      cases b1 with
      | true =>
        rw [patsR_end (.inr rfl)] at h
        simp at h
      | false =>
        obtain ⟨rfl, e1, k1, o1⟩ := pat_back h1
        have hpos := patO_pos q
        have hl := congrArg List.length e1
        rw [List.length_append] at hl
        generalize h2 : patsR n (v1, false) = y at h
        obtain ⟨qs, v2, b2⟩ := y
        simp only [Prod.mk.injEq] at h
        obtain ⟨rfl, rfl, rfl⟩ := h
        obtain ⟨_, e2, k2⟩ := pats_back n (by omega) h2
        refine ⟨rfl, by rw [e1, e2]; simp [patsO], ?_⟩
        intro p hp
        rcases List.mem_cons.1 hp with rfl | hp
        · exact ⟨k1, o1⟩
        · exact k2 p hp

/-- What is read well, put, is what was read. -/
theorem put_read {b : List UInt8} (h : (readB b).2 = 0) : putB (readB b).1 = (b, 0) := by
  unfold readB at h ⊢
  by_cases hl : 65536 < b.length
  · rw [if_pos hl] at h; cases h
  · rw [if_neg hl] at h ⊢
    by_cases hb : (patsR b.length (b, false)).2.2 = true
    · rw [if_pos hb] at h; cases h
    · rw [if_neg hb]
      generalize hx : patsR b.length (b, false) = x at hb ⊢
      obtain ⟨ps, v, c⟩ := x
      have hc : c = false := by simpa using hb
      subst hc
      obtain ⟨_, e, k⟩ := pats_back b.length (Nat.le_refl _) hx
      simp only
      unfold putB
      rw [if_pos (List.all_eq_true.2 fun p hp => (k p hp).1), if_neg (by
        intro ha
        obtain ⟨p, hp, ho⟩ := List.any_eq_true.1 ha
        rw [(k p hp).2.1] at ho; cases ho), ← e, if_neg hl]
theorem read_err (b : List UInt8) : (readB b).2 = 0 ∨ (readB b).1 = [] ∧ ((readB b).2 = 16 ∨ (readB b).2 = 5) := by
  unfold readB
  split
  · right; exact ⟨rfl, .inr rfl⟩
  · split
    · right; exact ⟨rfl, .inl rfl⟩
    · left; rfl
theorem strO_ge (l : LT) : l.length ≤ (strO l).length := by
  unfold strO textO
  simp only [List.length_append, txt_length]
  omega
theorem patO_ge (q : Pat) : q.key.length ≤ (patO q).length ∧ q.hooks.length ≤ (patO q).length ∧ ∀ s ∈ four q, s.1.length ≤ (patO q).length := by
  have hk : q.hooks.length ≤ (hooksO q.hooks).length := by rw [hooksO_len]; omega
  have ht : q.key.length ≤ (textO q.key).length := by rw [textO_len]; omega
  have hf : ∀ s ∈ four q, s.1.length ≤ (strsO (four q)).length := by
    intro s hs
    have h1 := strO_ge (labR q.tag)
    have h2 := strO_ge (labR q.name)
    have h3 := strO_ge (labR q.value)
    have h4 := strO_ge (labR q.text)
    have l1 : (labR q.tag).length = q.tag.1.length := lab_length _ _
    have l2 : (labR q.name).length = q.name.1.length := lab_length _ _
    have l3 : (labR q.value).length = q.value.1.length := lab_length _ _
    have l4 : (labR q.text).length = q.text.1.length := lab_length _ _
    have e : strsO (four q) = strO (labR q.tag) ++ (strO (labR q.name) ++ (strO (labR q.value) ++ (strO (labR q.text) ++ []))) := rfl
    rw [e]
    simp only [List.length_append, List.length_nil]
    simp only [four, List.mem_cons, List.not_mem_nil, or_false] at hs
    rcases hs with rfl | rfl | rfl | rfl <;> omega
  unfold patO
  simp only [List.length_append]
  refine ⟨by omega, by omega, fun s hs => ?_⟩
  have := hf s hs
  omega
theorem patsO_mem : ∀ (ps : List Pat) (p : Pat), p ∈ ps → (patO p).length ≤ (patsO ps).length
  | q :: ps, p, h => by
    have e : patsO (q :: ps) = patO q ++ patsO ps := rfl
    rw [e, List.length_append]
    rcases List.mem_cons.1 h with rfl | h
    · omega
    · have := patsO_mem ps p h; omega
theorem patsO_few : ∀ (ps : List Pat), ps.length ≤ (patsO ps).length
  | [] => Nat.le_refl _
  | q :: ps => by
    have e : patsO (q :: ps) = patO q ++ patsO ps := rfl
    have := patsO_few ps
    have := patO_pos q
    rw [e, List.length_append, List.length_cons]; omega

theorem readB_tiny (b : List UInt8) : ∀ p ∈ (readB b).1, PTiny p := by
  intro p hp
  unfold readB at hp
  by_cases hl : 65536 < b.length
  · rw [if_pos hl] at hp; simp at hp
  · rw [if_neg hl] at hp
    by_cases hb : (patsR b.length (b, false)).2.2 = true
    · rw [if_pos hb] at hp; simp at hp
    · rw [if_neg hb] at hp
      generalize hx : patsR b.length (b, false) = x at hb hp
      obtain ⟨ps, v, c⟩ := x
      have hc : c = false := by simpa using hb
      subst hc
      obtain ⟨_, e, k⟩ := pats_back b.length (Nat.le_refl _) hx
      have h1 := patsO_mem ps p hp
      rw [← e] at h1
      have h2 := patO_ge p
      refine ⟨by omega, fun s hs => ?_, by omega⟩
      have h3 := h2.2.2 s hs
      have h4 := (k p hp).2.2 s hs
      unfold normB at h4
      simp only [decide_eq_true_eq] at h4
      have h5 := rle_len (orig s.1.length s.2)
      rw [h4, orig_length] at h5
      omega
theorem readB_few (b : List UInt8) (h : (readB b).2 = 0) : (readB b).1.length ≤ 65536 := by
  have h1 := put_read h
  have h2 := putB_ok (ps := (readB b).1) (by rw [h1])
  have := patsO_few (readB b).1
  omega
end Go.Proofs.VL

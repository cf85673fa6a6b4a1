/- Contracts of functions of the program, for what calls them, and the law that its name tells. -/
import Derived.Test.YtdiddnapamjojaaUE
namespace Go.Proofs.VL
open Go Go.RowKit
set_option linter.unusedSimpArgs false
set_option linter.unusedVariables false

/-! ### putting what was read -/
theorem oct_beN (l : List UInt8) (h : l.length = 4) : oct4 (beN l) = l := by
  match l, h with
  | [a, b, c, d], _ =>
    have ha := a.toNat_lt
    have hb := b.toNat_lt
    have hc := c.toNat_lt
    have hd := d.toNat_lt
    have e : beN [a, b, c, d] = ((a.toNat * 256 + b.toNat) * 256 + c.toNat) * 256 + d.toNat := by simp [beN]
    have back : ∀ (x : UInt8) (m : Int), m = x.toNat → UInt8.ofNat m.toNat = x := by
      intro x m h; rw [h]; simp
    rw [e]
    unfold oct4
    rw [back a _ (by omega), back b _ (by omega), back c _ (by omega), back d _ (by omega)]
theorem tak_back {n : Nat} {u a v : List UInt8} {b : Bool} (h : tak n (u, b) = (a, v, false)) : b = false ∧ u = a ++ v ∧ a.length = n := by
  unfold tak at h
  split at h
  · cases h
  · rename_i hc
    have hb : b = false := by cases b with | false => rfl | true => exact absurd (Or.inl rfl) hc
    have hn : n ≤ u.length := by have := fun q => hc (Or.inr q); exact Nat.le_of_not_lt this
    simp only [Prod.mk.injEq] at h
    obtain ⟨rfl, rfl, _⟩ := h
    exact ⟨hb, (List.take_append_drop n u).symm, by rw [List.length_take]; omega⟩
theorem num_back {n : Nat} {u v : List UInt8} {b : Bool} (h : numR (u, b) = (n, v, false)) : b = false ∧ u = oct4 n ++ v ∧ oddI n = false := by
  unfold numR at h
  generalize ht : tak 4 (u, b) = x at h
  obtain ⟨a, v', c⟩ := x
  simp only [Prod.mk.injEq] at h
  obtain ⟨rfl, rfl, rfl⟩ := h
  obtain ⟨h1, h2, h3⟩ := tak_back ht
  have hl := beN_lt a
  rw [h3] at hl
  exact ⟨h1, by rw [oct_beN a h3]; exact h2, oddI_F (by omega)⟩
theorem text_back {t u v : List UInt8} {b : Bool} (h : textR (u, b) = (t, v, false)) : b = false ∧ u = textO t ++ v := by
  unfold textR at h
  generalize hn : numR (u, b) = x at h
  obtain ⟨n, v', c⟩ := x
  simp only at h
  obtain ⟨rfl, h2, h3⟩ := tak_back h
  obtain ⟨h4, h5, h6⟩ := num_back hn
  refine ⟨h4, ?_⟩
  unfold textO
  rw [h5, h2, h3]; simp
theorem hook_back {q : Int × Bool × Int} {u v : List UInt8} {b : Bool} (h : hookR (u, b) = (q, v, false)) : b = false ∧ u = numsO (hookNs q) ++ v ∧ oddI q.1 = false ∧ oddI q.2.2 = false := by
  unfold hookR at h
  simp only at h
  generalize h1 : numR (u, b) = x at h
  obtain ⟨n1, v1, b1⟩ := x
  simp only at h
  generalize h2 : numR (v1, b1) = x at h
  obtain ⟨n2, v2, b2⟩ := x
  simp only at h
  generalize h3 : numR (v2, b2) = x at h
  obtain ⟨n3, v3, b3⟩ := x
  simp only [Prod.mk.injEq, Bool.or_eq_false_iff, decide_eq_false_iff_not] at h
  obtain ⟨rfl, rfl, rfl, h5⟩ := h
  obtain ⟨rfl, q3, o3⟩ := num_back h3
  obtain ⟨rfl, q2, o2⟩ := num_back h2
  obtain ⟨rfl, q1, o1⟩ := num_back h1
  refine ⟨rfl, ?_, o1, o3⟩
  have hc : capI (decide ((n2 : Int) = 1)) = n2 := by
    unfold capI
    by_cases h : (n2 : Int) = 1
    · simp [h]
    · rw [if_neg (by simpa using h)]; omega
  simp only [numsO, hookNs, List.flatMap_cons, List.flatMap_nil, List.append_nil]
  rw [hc, q1, q2, q3]; simp
theorem runs_back : ∀ (n : Nat) {rs : Runs} {u v : List UInt8} {b : Bool}, runsR n (u, b) = (rs, v, false) → b = false ∧ u = runsO rs ++ v ∧ rs.length = n
  | 0, rs, u, v, b, h => by
    unfold runsR at h
    simp only [Prod.mk.injEq] at h
    obtain ⟨rfl, rfl, rfl⟩ := h
    exact ⟨rfl, rfl, rfl⟩
  | n + 1, rs, u, v, b, h => by
    unfold runsR at h
    by_cases hb : b = true
    · rw [if_pos hb] at h
      simp only [Prod.mk.injEq] at h
      rw [hb] at h; exact absurd h.2.2 (by simp)
    · rw [if_neg hb] at h
      generalize h1 : numR (u, b) = x at h
      obtain ⟨n1, v1, b1⟩ := x
      simp only at h
      generalize h2 : numR (v1, b1) = x at h
      obtain ⟨n2, v2, b2⟩ := x
      simp only at h
      generalize h3 : runsR n (v2, b2) = x at h
      obtain ⟨r, v3, b3⟩ := x
      simp only [Prod.mk.injEq] at h
      obtain ⟨rfl, rfl, rfl⟩ := h
      obtain ⟨rfl, q3, o3⟩ := runs_back n h3
      obtain ⟨rfl, q2, o2⟩ := num_back h2
      obtain ⟨rfl, q1, o1⟩ := num_back h1
      refine ⟨rfl, ?_, by simp [o3]⟩
      rw [q1, q2, q3]; simp [runsO]
theorem hooks_back : ∀ (n : Nat) {hs : List (Int × Bool × Int)} {u v : List UInt8} {b : Bool}, hooksR n (u, b) = (hs, v, false) → b = false ∧ u = hooksO hs ++ v ∧ hs.length = n ∧ (hs.any fun h => oddI h.1 || oddI h.2.2) = false
  | 0, rs, u, v, b, h => by
    unfold hooksR at h
    simp only [Prod.mk.injEq] at h
    obtain ⟨rfl, rfl, rfl⟩ := h
    exact ⟨rfl, rfl, rfl, rfl⟩
  | n + 1, rs, u, v, b, h => by
    unfold hooksR at h
    by_cases hb : b = true
    · rw [if_pos hb] at h
      simp only [Prod.mk.injEq] at h
      rw [hb] at h; exact absurd h.2.2 (by simp)
    · rw [if_neg hb] at h
      generalize h1 : hookR (u, b) = x at h
      obtain ⟨q, v1, b1⟩ := x
      simp only at h
      generalize h3 : hooksR n (v1, b1) = x at h
      obtain ⟨r, v3, b3⟩ := x
      simp only [Prod.mk.injEq] at h
      obtain ⟨rfl, rfl, rfl⟩ := h
      obtain ⟨rfl, q3, o3, p3⟩ := hooks_back n h3
      obtain ⟨rfl, q1, o1, p1⟩ := hook_back h1
      refine ⟨rfl, ?_, by simp [o3], by rw [List.any_cons, p3, o1, p1]; rfl⟩
      rw [q1, q3]; simp [hooksO]
theorem str_back {s : List UInt8 × Runs} {u v : List UInt8} {b : Bool} (h : strR (u, b) = (s, v, false)) : b = false ∧ u = strO (labR s) ++ v := by
  unfold strR at h
  simp only at h
  generalize h1 : textR (u, b) = x at h
  obtain ⟨t, v1, b1⟩ := x
  simp only at h
  generalize h2 : numR (v1, b1) = x at h
  obtain ⟨n, v2, b2⟩ := x
  simp only at h
  generalize h3 : runsR n (v2, b2) = x at h
  obtain ⟨r, v3, b3⟩ := x
  simp only at h
  split at h
  · cases h
  · rename_i hc
    simp only [Prod.mk.injEq] at h
    obtain ⟨rfl, rfl, rfl⟩ := h
    obtain ⟨rfl, q3, o3⟩ := runs_back n h3
    obtain ⟨rfl, q2, o2⟩ := num_back h2
    obtain ⟨rfl, q1⟩ := text_back h1
    refine ⟨rfl, ?_⟩
    have hn : rle (orig t.length r) = r := by
      have : normB t r = true := by
        cases hq : normB t r with
        | true => rfl
        | false => exact absurd (Or.inr hq) hc
      unfold normB at this
      simpa using this
    have e1 : (labR (t, r)).map (·.2) = orig t.length r := lab_snd t r
    have e2 : txt (labR (t, r)) = t := lab_fst t r
    unfold strO
    rw [e1, e2, hn, q1, q2, q3, o3]; simp
end Go.Proofs.VL

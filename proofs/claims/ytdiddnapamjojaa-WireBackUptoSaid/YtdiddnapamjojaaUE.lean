/- Contracts of functions of the program, for what calls them, and the law that its name tells. -/
import Derived.Test.YtdiddnapamjojaaUD
import Derived.Test.YtdiddnapamjojaaTS
namespace Go.Proofs.VL
open Go Go.RowKit
set_option linter.unusedSimpArgs false
set_option linter.unusedVariables false

theorem patO_pos (p : Pat) : 0 < (patO p).length := by
  have : (patO p).length = (opO p.op).length + ((patO p).length - 1) := by
    unfold patO
    simp only [List.length_append, opO, List.length_cons, List.length_nil]; omega
  have h1 : (opO p.op).length = 1 := rfl
  omega

theorem pats_put : ∀ (ps : List Pat) (n : Nat), (patsO ps).length ≤ n → (∀ p ∈ ps, PTiny p ∧ kindOk p = true ∧ patOdd p = false) → patsR n (patsO ps, false) = (ps.map normP, [], false)
  | [], n, _, _ => patsR_end (.inl rfl)
  | p :: ps, n, hn, h => by
    have hp := h p (by simp)
    have e : patsO (p :: ps) = patO p ++ patsO ps := rfl
    have h0 := patO_pos p
    rw [e, List.length_append] at hn
    rw [e]
    match n, hn with
    | 0, hn => omega
    | n + 1, hn =>
      unfold patsR
      rw [if_neg (by
        intro hc
        rcases hc with hc | hc
        · have := congrArg List.length hc; simp only [List.length_append, List.length_nil] at this; omega
        · cases hc)]
      rw [pat_put hp.1 hp.2.1 hp.2.2]
      simp only
      rw [pats_put ps n (by omega) (fun q hq => h q (by simp [hq]))]
      rfl

theorem putB_ok {ps : List Pat} (h : (putB ps).2 = 0) : (putB ps).1 = patsO ps ∧ (∀ p ∈ ps, kindOk p = true ∧ patOdd p = false) ∧ (patsO ps).length ≤ 65536 := by
  unfold putB at h ⊢
  by_cases hk : ps.all kindOk = true
  · rw [if_pos hk] at h ⊢
    by_cases ho : ps.any patOdd = true
    · rw [if_pos ho] at h; cases h
    · rw [if_neg ho] at h ⊢
      by_cases hl : 65536 < (patsO ps).length
      · rw [if_pos hl] at h; cases h
      · rw [if_neg hl]
        refine ⟨rfl, fun p hp => ⟨List.all_eq_true.1 hk p hp, ?_⟩, by omega⟩
        cases hq : patOdd p with
        | false => rfl
        | true => exact absurd (List.any_eq_true.2 ⟨p, hp, hq⟩) ho
  · rw [if_neg hk] at h; cases h

theorem read_put {ps : List Pat} (hs : ∀ p ∈ ps, PTiny p) (h : (putB ps).2 = 0) : readB (putB ps).1 = (ps.map normP, 0) := by
  obtain ⟨h1, h2, h3⟩ := putB_ok h
  rw [h1]
  unfold readB
  rw [if_neg (by omega), pats_put ps _ (Nat.le_refl _) (fun p hp => ⟨hs p hp, h2 p hp⟩)]
  rfl

/-- A cut within a patch is seen. -/
theorem read_cut {p : Pat} (hp : PTiny p) (h : (putB [p]).2 = 0) {k : Nat} (hk : k < (putB [p]).1.length) : (readB ((putB [p]).1.take k)).2 = 0 ↔ k = 0 := by
  obtain ⟨h1, h2, h3⟩ := putB_ok h
  have h2 := h2 p (by simp)
  have e : patsO [p] = patO p := by simp [patsO]
  rw [e] at h1 h3
  rw [h1] at hk ⊢
  constructor
  · intro hr
    rcases Nat.eq_zero_or_pos k with h0 | h0
    · exact h0
    · exfalso
      have hul : ((patO p).take k).length = k := by rw [List.length_take]; omega
      have hsp : (patO p).take k ++ (patO p).drop k = patO p := List.take_append_drop k _
      have hdl : ((patO p).drop k).length = (patO p).length - k := List.length_drop
      generalize (patO p).take k = u at *
      generalize (patO p).drop k = w at *
      unfold readB at hr
      rw [if_neg (by omega), hul] at hr
      obtain ⟨m, rfl⟩ : ∃ m, k = m + 1 := ⟨k - 1, by omega⟩
      have hnb : (patsR (m + 1) (u, false)).2.2 = false := by
        cases hb : (patsR (m + 1) (u, false)).2.2 with
        | false => rfl
        | true => rw [if_pos hb] at hr; cases hr
      have hun : ¬ (u = [] ∨ false = true) := by
        intro hc
        rcases hc with hc | hc
        · rw [hc] at hul; simp at hul
        · cases hc
      have hpr : patsR (m + 1) (u, false) = ((patR (u, false)).1 :: (patsR m (patR (u, false)).2).1, (patsR m (patR (u, false)).2).2) := by rw [patsR, if_neg hun]
      rw [hpr] at hnb
      clear hpr hr
      have hg := grow_pat u w false
      have hpp := pat_put hp h2.1 h2.2 []
      rw [List.append_nil, ← hsp] at hpp
      generalize hx : patR (u, false) = x at *
      obtain ⟨q, v, b⟩ := x
      cases b with
      | true =>
        simp only at hnb
        rw [patsR_end (.inr rfl)] at hnb
        cases hnb
      | false =>
        have h5 := (hg rfl).2
        rw [hpp] at h5
        injection h5 with _ h6
        injection h6 with h6 _
        have := congrArg List.length h6
        simp only [List.length_append, List.length_nil] at this
        omega
  · rintro rfl
    rfl
end Go.Proofs.VL

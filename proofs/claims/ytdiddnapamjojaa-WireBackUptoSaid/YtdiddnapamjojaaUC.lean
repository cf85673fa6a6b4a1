/- Contracts of functions of the program, for what calls them, and the law that its name tells. -/
import Derived.Test.YtdiddnapamjojaaTZ
namespace Go.Proofs.VL
open Go Go.RowKit
set_option linter.unusedSimpArgs false
set_option linter.unusedVariables false

/-! ### reading, with no program in sight: more octets behind change nothing -/
def bindR {α β : Type} (f : RS → α × RS) (g : α → RS → β × RS) (s : RS) : β × RS := g (f s).1 (f s).2

/-- What is read well is read so whatever lies behind, and a bad state stays bad. -/
def Grow {α : Type} (f : RS → α × RS) : Prop := ∀ (u w : List UInt8) (b : Bool), (f (u, b)).2.2 = false → b = false ∧ f (u ++ w, b) = ((f (u, b)).1, (f (u, b)).2.1 ++ w, false)

theorem Grow.bind {α β : Type} {f : RS → α × RS} {g : α → RS → β × RS} (hf : Grow f) (hg : ∀ a, Grow (g a)) : Grow (bindR f g) := by
  intro u w b h
  unfold bindR at h ⊢
  have h1 := hf u w b
  generalize f (u, b) = x at *
  obtain ⟨a, v, c⟩ := x
  simp only at h h1 ⊢
  obtain ⟨rfl, h2⟩ := hg a v w c h
  obtain ⟨rfl, h3⟩ := h1 rfl
  exact ⟨rfl, by rw [h3]; exact h2⟩

theorem grow_tak (n : Nat) : Grow (tak n) := by
  intro u w b h
  unfold tak at h ⊢
  by_cases hc : b = true ∨ u.length < n
  · rw [if_pos hc] at h; cases h
  · rw [if_neg hc] at h ⊢
    have hb : b = false := by cases b with | false => rfl | true => exact absurd (Or.inl rfl) hc
    have hn : n ≤ u.length := by have := fun q => hc (Or.inr q); omega
    refine ⟨hb, ?_⟩
    rw [if_neg (by simp [hb]; omega)]
    simp only [List.take_append_of_le_length hn, List.drop_append_of_le_length hn]

theorem grow_ret {α : Type} (a : α) (d : Bool) : Grow (fun s => (a, s.1, s.2 || d)) := by
  intro u w b h
  simp only [Bool.or_eq_false_iff] at h ⊢
  obtain ⟨rfl, rfl⟩ := h
  exact ⟨rfl, rfl⟩
theorem grow_id {α : Type} (a : α) : Grow (fun s => (a, s)) := by
  intro u w b h
  have hb : b = false := h
  subst hb
  exact ⟨rfl, rfl⟩

theorem grow_num : Grow numR := by
  have : Grow (bindR (tak 4) fun x s => (beN x, s)) := Grow.bind (grow_tak 4) fun x => grow_id _
  exact this
theorem grow_text : Grow textR := by
  have : Grow (bindR numR fun n => tak n) := Grow.bind grow_num fun n => grow_tak n
  exact this
theorem grow_hook : Grow hookR := by
  have : Grow (bindR numR fun a => bindR numR fun b => bindR numR fun c s => (((a : Int), decide ((b : Int) = 1), (c : Int)), s.1, s.2 || decide (1 < b))) :=
    Grow.bind grow_num fun a => Grow.bind grow_num fun b => Grow.bind grow_num fun c => grow_ret _ _
  exact this

theorem grow_runs : ∀ n : Nat, Grow (runsR n)
  | 0 => grow_id _
  | n + 1 => by
    intro u w b h
    cases b with
    | true => unfold runsR at h; rw [if_pos rfl] at h; cases h
    | false =>
      have hg : Grow (bindR numR fun a => bindR numR fun o => bindR (runsR n) fun x s => (((a : Int), (o : Int)) :: x, s)) :=
        Grow.bind grow_num fun a => Grow.bind grow_num fun o => Grow.bind (grow_runs n) fun x => grow_id _
      have e : ∀ u : List UInt8, runsR (n + 1) (u, false) = bindR numR (fun a => bindR numR fun o => bindR (runsR n) fun x s => (((a : Int), (o : Int)) :: x, s)) (u, false) := by
        intro u; rw [runsR]; rfl
      rw [e] at h ⊢
      rw [e]
      exact hg u w false h
theorem grow_hooks : ∀ n : Nat, Grow (hooksR n)
  | 0 => grow_id _
  | n + 1 => by
    intro u w b h
    cases b with
    | true => unfold hooksR at h; rw [if_pos rfl] at h; cases h
    | false =>
      have hg : Grow (bindR hookR fun a => bindR (hooksR n) fun x s => (a :: x, s)) :=
        Grow.bind grow_hook fun a => Grow.bind (grow_hooks n) fun x => grow_id _
      have e : ∀ u : List UInt8, hooksR (n + 1) (u, false) = bindR hookR (fun a => bindR (hooksR n) fun x s => (a :: x, s)) (u, false) := by
        intro u; rw [hooksR]; rfl
      rw [e] at h ⊢
      rw [e]
      exact hg u w false h

theorem grow_str : Grow strR := by
  have hc : ∀ (t : List UInt8) (rs : Runs), Grow (fun s : RS => if s.2 = true ∨ normB t rs = false then ((([] : List UInt8), ([] : Runs)), ([], true)) else ((t, rs), s)) := by
    intro t rs u w b h
    by_cases hb : b = true ∨ normB t rs = false
    · simp only [if_pos hb] at h; cases h
    · simp only [if_neg hb] at h ⊢
      have hb' : b = false := h
      subst hb'
      exact ⟨rfl, rfl⟩
  have : Grow (bindR textR fun t => bindR numR fun n => bindR (runsR n) fun rs s => if s.2 = true ∨ normB t rs = false then ((([] : List UInt8), ([] : Runs)), ([], true)) else ((t, rs), s)) :=
    Grow.bind grow_text fun t => Grow.bind grow_num fun n => Grow.bind (grow_runs n) fun rs => hc t rs
  exact this

theorem grow_pat : Grow patR := by
  have hr : ∀ (a : Pat) (d e : Bool), Grow (fun s => (a, s.1, s.2 || d || e)) := by
    intro a d e u w b h
    simp only [Bool.or_eq_false_iff] at h ⊢
    obtain ⟨⟨rfl, rfl⟩, rfl⟩ := h
    exact ⟨rfl, rfl⟩
  have : Grow (bindR (tak 1) fun o => bindR numR fun n1 => bindR numR fun n2 => bindR numR fun n3 => bindR numR fun n4 => bindR numR fun n5 => bindR textR fun k => bindR strR fun s1 => bindR strR fun s2 => bindR strR fun s3 => bindR strR fun s4 => bindR numR fun c => bindR (hooksR c) fun h s =>
      (({ op := opB o, node := n1, parent := n2, at_ := n3, kind := n4, tag := s1, key := k, slot := n5, name := s2, value := s3, hooks := h, text := s4 } : Pat), s.1, s.2 || decide (opB o < 1) || decide (7 < opB o))) :=
    Grow.bind (grow_tak 1) fun o => Grow.bind grow_num fun n1 => Grow.bind grow_num fun n2 => Grow.bind grow_num fun n3 => Grow.bind grow_num fun n4 => Grow.bind grow_num fun n5 => Grow.bind grow_text fun k => Grow.bind grow_str fun s1 => Grow.bind grow_str fun s2 => Grow.bind grow_str fun s3 => Grow.bind grow_str fun s4 => Grow.bind grow_num fun c => Grow.bind (grow_hooks c) fun h => hr _ _ _
  exact this
end Go.Proofs.VL

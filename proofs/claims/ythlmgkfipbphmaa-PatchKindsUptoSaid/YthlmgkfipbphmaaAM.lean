/- Contracts of functions of the program, for what calls them, and the law that its name tells. -/
import Derived.Test.YthlmgkfipbphmaaAJ
import Derived.Test.YthlmgkfipbphmaaAL
namespace Go.Proofs.VL
open Go Go.RowKit
set_option maxRecDepth 100000
set_option maxHeartbeats 8000000
set_option linter.unusedSimpArgs false
set_option linter.unusedVariables false
attribute [local irreducible] vwp vk

theorem fixR_ok {b : Nat} {s : List UInt8 × Runs} (h : rawOk b s) : rawOk b (fixR s) := by
  have h1 := h.1
  have e := lab_length s.1 s.2
  have h2 := rle_len ((lab s.1 s.2).map (·.2))
  rw [List.length_map, e] at h2
  refine ⟨?_, ?_⟩
  · show ((lab s.1 s.2).map (·.1)).length ≤ b
    rw [List.length_map, e]; exact h1
  · show (rle ((lab s.1 s.2).map (·.2))).length ≤ b
    omega
theorem ownN_ok {b : Nat} {n : Nd} (h : n.ok b) : (ownN n).ok b :=
  ⟨fixR_ok h.tag, fixR_ok h.text, h.hooks, h.kids, by show (n.attrs.map fixA).length ≤ b; rw [List.length_map]; exact h.attrs, by
    intro a ha
    obtain ⟨x, hx, rfl⟩ := List.mem_map.mp ha
    exact ⟨fixR_ok (h.each x hx).1, fixR_ok (h.each x hx).2⟩⟩
def n0 (k : Nat) (tx : List UInt8) (rs : Runs) (sl : Int) : Nd := newN (k * 1048576 + 1) k 1 (fixR (tx, rs)) tx sl
def a1 (k : Nat) (tx : List UInt8) (rs : Runs) (sl : Int) : Ar := addA newA k (n0 k tx rs sl)
/-- The node that the law sets. -/
def n4 (k : Nat) (tx : List UInt8) (rs : Runs) (sl : Int) : Nd := { ownN (ownN (n0 k tx rs sl)) with kids := [7], attrs := [(([120], [(1, 0)]), ([], []))] }
theorem n0_ok {k b : Nat} {tx : List UInt8} {rs : Runs} {sl : Int} (h : rawOk b (tx, rs)) : (n0 k tx rs sl).ok b :=
  ⟨fixR_ok h, ⟨Nat.zero_le _, Nat.zero_le _⟩, Nat.zero_le _, Nat.zero_le _, Nat.zero_le _, by intro a ha; cases ha⟩
theorem apart_facts (k : Nat) (hk : k < 4) (tx : List UInt8) (rs : Runs) (sl : Int) :
    mkA newA k 1 (tx, rs) tx sl = (a1 k tx rs sl, (k : Int) * 1048576 + 1, 0) ∧ (if 0 ≤ (k : Int) ∧ (k : Int) < 4 then (if fullB newA (k : Int).toNat = true then 0 else nextI newA (k : Int).toNat) else 0) = (k : Int) * 1048576 + 1 ∧ getN newA.es (nextI newA (k : Int).toNat) = none ∧ gotN (cloneA (a1 k tx rs sl)) ((k : Int) * 1048576 + 1) = (ownN (ownN (n0 k tx rs sl)), true) ∧ gotN (a1 k tx rs sl) ((k : Int) * 1048576 + 1) = (ownN (n0 k tx rs sl), true)
    ∧ getN (cloneA (a1 k tx rs sl)).es ((k : Int) * 1048576 + 1) = some (ownN (n0 k tx rs sl)) ∧ getN (a1 k tx rs sl).es ((k : Int) * 1048576 + 1) = some (n0 k tx rs sl)
    ∧ (gotN (setA (cloneA (a1 k tx rs sl)) (n4 k tx rs sl)).1 ((k : Int) * 1048576 + 1)).1.kids = [7] ∧ (∀ f, freeF (f + 1) (a1 k tx rs sl) 99 = (a1 k tx rs sl, 0)) ∧ (∀ f A, freeF (f + 1) A 0 = (A, 0)) := by
  match k, hk with
  | 0, _ => exact ⟨rfl, rfl, rfl, rfl, rfl, rfl, rfl, rfl, fun _ => rfl, fun _ _ => rfl⟩
  | 1, _ => exact ⟨rfl, rfl, rfl, rfl, rfl, rfl, rfl, rfl, fun _ => rfl, fun _ _ => rfl⟩
  | 2, _ => exact ⟨rfl, rfl, rfl, rfl, rfl, rfl, rfl, rfl, fun _ => rfl, fun _ _ => rfl⟩
  | 3, _ => exact ⟨rfl, rfl, rfl, rfl, rfl, rfl, rfl, rfl, fun _ => rfl, fun _ _ => rfl⟩
theorem owner4 (o : Int) : ∃ k : Nat, k < 4 ∧ Int.tmod (Int.tmod o 4 + 4) 4 = k ∧ -4 < Int.tmod o 4 ∧ Int.tmod o 4 < 4 := by
  have h1 : -4 < Int.tmod o 4 ∧ Int.tmod o 4 < 4 := ⟨Int.lt_tmod_of_pos o (by decide), Int.tmod_lt_of_pos o (by decide)⟩
  have h2 : 0 ≤ Int.tmod (Int.tmod o 4 + 4) 4 := Int.tmod_nonneg 4 (by omega)
  have h3 : Int.tmod (Int.tmod o 4 + 4) 4 < 4 := Int.tmod_lt_of_pos _ (by decide)
  exact ⟨(Int.tmod (Int.tmod o 4 + 4) 4).toNat, by omega, by omega, h1⟩
theorem cok_a1 {k b : Nat} (hk : k < 4) {tx : List UInt8} {rs : Runs} {sl : Int} (hb : 1000 ≤ b) (h : rawOk b (tx, rs)) : COk b (a1 k tx rs sl) :=
  ⟨by intro e he; simp [a1, addA, newA] at he ⊢; rcases he with rfl | rfl <;> simp, by simp [a1, addA, newA], by simp [a1, addA, newA, n0, newN, rootN]; omega, by
    intro e he; simp [a1, addA, newA] at he; rcases he with rfl | rfl
    · exact ⟨⟨by simp [rootN]; omega, by simp [rootN]; omega⟩, ⟨Nat.zero_le _, Nat.zero_le _⟩, Nat.zero_le _, Nat.zero_le _, Nat.zero_le _, by intro a ha; cases ha⟩
    · exact n0_ok h⟩
theorem n4_ok {k b : Nat} {tx : List UInt8} {rs : Runs} {sl : Int} (hb : 1000 ≤ b) (h : rawOk b (tx, rs)) : (n4 k tx rs sl).ok b :=
  ⟨(ownN_ok (ownN_ok (n0_ok h))).tag, (ownN_ok (ownN_ok (n0_ok h))).text, Nat.zero_le _, by show 1 ≤ b; omega, by show 1 ≤ b; omega, by
    intro a ha
    have e : a = (([120], [(1, 0)]), ([], [])) := by simpa [n4] using ha
    subst e
    exact ⟨⟨by show 1 ≤ b; omega, by show 1 ≤ b; omega⟩, ⟨Nat.zero_le _, Nat.zero_le _⟩⟩⟩
end Go.Proofs.VL

/- Contracts of functions of the program, for what calls them, and the law that its name tells. -/
import Derived.Test.YtdhfnmbbdcpnbaaV3
import Derived.Sort.OwnSortedInts
import Derived.Shelf.Sort.Plain
import Derived.Shelf.Slices.In.SortNone
import Derived.Shelf.Slices.CompactI
namespace Go.Proofs.VL
open Go Go.RowKit Go.Proofs Go.Sort
set_option linter.unusedSimpArgs false
set_option linter.unusedVariables false

/-! ### slices.Sort and slices.Compact on own arrays of numbers -/
def irows (zs : List Int) : List (List V) := zs.map fun z => [.int .i64 z]

theorem irows_length (zs : List Int) : (irows zs).length = zs.length := by simp [irows]

theorem irows_flat {w : World} {E : Env} : ∀ {zs : List Int} {vs : List Value}, RepFlat w E 1 (irows zs) vs → vs = zs.map (Value.int .i64)
  | [], vs, h => by simp only [irows, List.map_nil, RepFlat] at h; subst h; rfl
  | z :: zs, vs, h => by
    simp only [irows, List.map_cons, RepFlat] at h
    obtain ⟨a, b, rfl, ha, hr, hb⟩ := h
    simp only [RepL, Rep] at hr
    obtain ⟨v, vs', rfl, rfl, rfl⟩ := hr
    rw [irows_flat (zs := zs) hb]
    rfl
theorem flat_irows {w : World} {E : Env} : ∀ (zs : List Int), RepFlat w E 1 (irows zs) (zs.map (Value.int .i64))
  | [] => by simp [irows, RepFlat]
  | z :: zs => by
    show RepFlat w E 1 ([V.int .i64 z] :: irows zs) _
    simp only [RepFlat, List.map_cons]
    exact ⟨[.int .i64 z], _, rfl, rfl, by simp [RepL, Rep], flat_irows zs⟩
theorem ones_ints (zs : List Int) : Ones (zs.map (Value.int .i64)) := by
  intro v hv
  obtain ⟨z, _, rfl⟩ := List.mem_map.1 hv
  rfl

/-- The own array's block holds other numbers: all else is as it was. -/
theorem sorted_res {w w' : World} {E : Env} {e g n : Nat} {os : Array Obj} {cur : Array Value} {zs ts : List Int} {r : V} {val : Value}
    (hdom : ∀ k, E.dom k ↔ k < ([some (VObj.arr e 1 (irows zs))] : List (Option VObj)).length) (hf : ∀ b, w.heap.size ≤ b → E.lab b = .imm)
    (hnl : E.nil 0 = false) (hg : g = E.blk 0) (hlab : E.lab (E.blk 0) = .obj 0)
    (hb : w.heap[g]? = some (.cells cur e (0, 0))) (hl : ts.length = zs.length) (h1 : zs.length ≤ E.cap 0) (h2 : E.cap 0 ≤ maxLen) (h3 : cur.size = E.cap 0 * 1)
    (hw' : w' = grow (putRow (Value.int .i64) (Sort.ahead w n) g 0 ts.toArray) os) (hr : Rep w' E r val) :
    WRes E w r [some (.arr e 1 (irows ts))] val w' E := by
  subst hw'
  have hgb := grownBy_sortedI (w := w) (g := g) (n := n) (os := os) ts.toArray
  have hx : Ext w E (grow (putRow (Value.int .i64) (Sort.ahead w n) g 0 ts.toArray) os) E := by
    refine ⟨hgb.os, hgb.tape, hgb.output, hgb.size, ?_, ?_, fun _ h => h, fun _ _ => rfl, fun _ _ => rfl, fun _ _ => rfl⟩
    · intro b hbl hlb
      refine ⟨hlb, hgb.block b hbl ?_⟩
      intro h; injection h with h; subst h; subst hg; rw [hlab] at hlb; cases hlb
    · intro b hbl hlb
      refine ⟨hlb, hgb.block b hbl ?_⟩
      intro h; injection h with h; subst h; subst hg; rw [hlab] at hlb; cases hlb
  refine ⟨hx, fun k => by rw [hdom]; simp, hr, ?_, fun b hb' => hf b (Nat.le_trans hgb.size hb')⟩
  intro k o hk
  match k, hk with
  | 0, hk =>
    simp only [List.getElem?_cons_zero, Option.some.injEq] at hk
    subst hk
    simp only [ObjRep, irows_length]
    refine ⟨fun h => by (rw [hnl] at h; cases h), by omega, fun _ => hlab, ts.map (Value.int .i64), ?_, flat_irows ts, ones_ints ts⟩
    have := ownsRow_sortedI (n := n) (os := os) (base := 0) hl (Nat.zero_le g) hb h1 h2 h3
    rw [hl]
    simpa [aval, hnl, hg] using this
  | k + 1, hk => simp at hk

theorem own_ints {w : World} {E : Env} {e : Nat} {zs : List Int} (h0 : ObjRep w E 0 (.arr e 1 (irows zs))) (hz : zs ≠ []) :
    ∃ cur, E.nil 0 = false ∧ E.lab (E.blk 0) = .obj 0 ∧ w.heap[E.blk 0]? = some (.cells cur e (0, 0)) ∧ zs.length ≤ E.cap 0 ∧ E.cap 0 ≤ maxLen ∧ cur.size = E.cap 0 * 1 ∧ cur.toList.take zs.length = zs.map (Value.int .i64) := by
  simp only [ObjRep, irows_length] at h0
  obtain ⟨a1, a2, a3, vs, a4, a5, a6⟩ := h0
  have hvs := irows_flat a5
  subst hvs
  have hnl : E.nil 0 = false := by
    cases h : E.nil 0 with
    | false => rfl
    | true => exact absurd (List.eq_nil_of_length_eq_zero (by have := a1 h; omega)) hz
  rcases a4.2 with ⟨hv, hn0⟩ | ⟨g, cap, cur, hv, _, hg, hnc, hcm, hcs, htk⟩
  · exact absurd (List.eq_nil_of_length_eq_zero hn0) hz
  · simp [aval, hnl] at hv
    obtain ⟨rfl, rfl⟩ := hv
    exact ⟨cur, hnl, a3 hnl, hg, hnc, hcm, hcs, by simpa using htk⟩

theorem sort_call {P : Program} {ρ : Go.Shelf.Ren} (L : Lays.n189 P ρ) (hE : Enter P (ρ.f 189)) (e : Nat) (zs : List Int) (hsz : zs.length ≤ 4000000000) :
    VCall P (ρ.f 189) [.ref 0 zs.length] [some (.arr e 1 (irows zs))] (.tup []) [some (.arr e 1 (irows (zs.mergeSort fun x y => decide (x ≤ y))))] := by
  refine ⟨hE, fun w E vals hdom hob hf hr => ?_⟩
  simp only [RepL, Rep] at hr
  obtain ⟨v0, vs0, rfl, ⟨hd0, _, _, rfl⟩, rfl⟩ := hr
  have h0 := hob 0 _ rfl
  by_cases hz : zs = []
  · subst hz
    have e0 : aval E 0 ([] : List Int).length = .slice (if E.nil 0 then none else some ⟨E.blk 0, 0, none⟩) 0 (E.cap 0) := rfl
    rw [e0]
    refine (Any.slices_Sort_int_none L _ _ w).mono ?_
    rintro e' w' ⟨rfl, rfl⟩
    refine ⟨_, E, rfl, .refl _ _, hdom, ?_, ?_, hf⟩
    · simp only [Rep]; exact ⟨[], rfl, by simp [RepL]⟩
    · intro k o hk
      refine hob k o ?_
      simpa using hk
  · obtain ⟨cur, hnl, hlab, hg, hnc, hcm, hcs, htk⟩ := own_ints h0 hz
    have e0 : aval E 0 zs.length = .slice (some ⟨E.blk 0, 0, none⟩) zs.length (E.cap 0) := by simp [aval, hnl]
    rw [e0]
    refine (Any.slices_Sort_int L (E.blk 0) 0 (E.cap 0) zs w (holds_of_blockI hg htk) (block_lt hg) (by omega)).mono ?_
    rintro e' w' ⟨rfl, n, os, hw'⟩
    refine ⟨_, E, rfl, sorted_res (zs := zs) hdom hf hnl rfl hlab hg (by simp) hnc hcm hcs hw' ?_⟩
    simp only [Rep]; exact ⟨[], rfl, by simp [RepL]⟩

theorem compact_len (zs : List Int) : (Lib.compact zs).length ≤ zs.length := by
  unfold Lib.compact Lib.compactUpTo
  rw [List.length_map]
  exact Nat.le_trans (List.length_filter_le _ _) (by simp)

theorem compact_call {P : Program} {ρ : Go.Shelf.Ren} (L : Lays2.n20 P ρ) (hE : Enter P (ρ.f 20)) (e : Nat) (zs : List Int) (hsz : zs.length ≤ 4000000000) :
    VCall P (ρ.f 20) [.ref 0 zs.length] [some (.arr e 1 (irows zs))] (.ref 0 (Lib.compact zs).length) [some (.arr e 1 (irows (Lib.compact zs ++ List.replicate (zs.length - (Lib.compact zs).length) 0)))] := by
  refine ⟨hE, fun w E vals hdom hob hf hr => ?_⟩
  simp only [RepL, Rep] at hr
  obtain ⟨v0, vs0, rfl, ⟨hd0, hcap0, hcn0, rfl⟩, rfl⟩ := hr
  have h0 := hob 0 _ rfl
  have hcl := compact_len zs
  by_cases hz : zs = []
  · subst hz
    have e0 : aval E 0 ([] : List Int).length = .slice (if E.nil 0 then none else some ⟨E.blk 0, 0, none⟩) 0 (E.cap 0) := rfl
    rw [e0]
    refine (Any.slices_Compact_int_empty L _ _ w).mono ?_
    rintro e' w' ⟨rfl, rfl⟩
    refine ⟨_, E, rfl, .refl _ _, hdom, ?_, ?_, hf⟩
    · simp only [Rep]; exact ⟨hd0, by omega, hcn0, e0.symm⟩
    · intro k o hk
      refine hob k o ?_
      have e9 : Lib.compact ([] : List Int) = [] := rfl
      simpa [e9] using hk
  · obtain ⟨cur, hnl, hlab, hg, hnc, hcm, hcs, htk⟩ := own_ints h0 hz
    have e0 : aval E 0 zs.length = .slice (some ⟨E.blk 0, 0, none⟩) zs.length (E.cap 0) := by simp [aval, hnl]
    rw [e0]
    refine (Any.slices_Compact_int L (E.blk 0) 0 (E.cap 0) zs w (holds_of_blockI hg htk) (by omega) hnc).mono ?_
    rintro e' w' ⟨rfl, n, hw'⟩
    have hw2 : w' = grow (putRow (Value.int .i64) (Sort.ahead w n) (E.blk 0) 0 (Lib.compact zs ++ List.replicate (zs.length - (Lib.compact zs).length) 0).toArray) #[] := by rw [grow_empty]; exact hw'
    refine ⟨_, E, rfl, sorted_res (zs := zs) hdom hf hnl rfl hlab hg (by simp; omega) hnc hcm hcs hw2 ?_⟩
    simp only [Rep]
    exact ⟨hd0, by omega, hcn0, by simp [aval, hnl]⟩
end Go.Proofs.VL

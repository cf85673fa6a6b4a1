/- Contracts of functions of the program, for what calls them, and the law that its name tells. -/
import Derived.Test.YthlmgkfipbphmaaV3
import Derived.Shelf.Spec.SlicesInsert
import Derived.Shelf.Spec.SlicesInsertGrow
namespace Go.Proofs.VL
open Go Go.RowKit Go.Proofs
set_option linter.unusedSimpArgs false
set_option linter.unusedVariables false

/-! ### slices.Insert on own arrays -/
/-- An own array, written anew or in a new block. -/
theorem rewrote_sound {w w' : World} {E : Env} {ob : List (Option VObj)} {e sz n : Nat} {v : Value} {old : Option Nat} {rows' : List (List V)} {vs' : List Value} {g cap : Nat} {cur : Array Value}
    (hk0 : ¬ E.dom ob.length) (hob : ∀ k o, E.dom k → ob[k]? = some (some o) → ObjRep w E k o) (hf : ∀ b, w.heap.size ≤ b → E.lab b = .imm)
    (hold : OldOk E ob v n old) (hos : w'.os = w.os) (htape : w'.tape = w.tape) (hout : w'.output = w.output) (hsize : w.heap.size ≤ w'.heap.size)
    (hblk : ∀ b, b < w.heap.size → b ≠ g → w'.heap[b]? = w.heap[b]?)
    (hgo : w.heap.size ≤ g ∨ ∃ k, old = some k ∧ E.nil k = false ∧ g = E.blk k)
    (hh : w'.heap[g]? = some (.cells cur e (0, 0))) (hcap : rows'.length ≤ cap) (hcm : cap ≤ maxLen) (hcs : cur.size = cap * sz) (htk : cur.toList.take (rows'.length * sz) = vs')
    (hflat : RepFlat w E.pure sz rows' vs') (hone : Ones vs') :
    WResG E w ob (.ref ob.length rows'.length) (dropOb ob old ++ [some (.arr e sz rows')]) (.slice (some ⟨g, 0, none⟩) rows'.length cap) w' (E.new ob.length g (.obj ob.length) cap false) := by
  have hne : ∀ b, b < w.heap.size → (E.lab b = .imm ∨ E.lab b = .ext) → b ≠ g := by
    rintro b hb hl rfl
    rcases hgo with h | ⟨k, rfl, hnk, rfl⟩
    · omega
    · have := hold.2.2.1 hnk
      rw [this] at hl
      rcases hl with hl | hl <;> cases hl
  have hx : Ext w E w' (E.new ob.length g (.obj ob.length) cap false) := by
    refine ⟨hos, htape, hout, hsize, ?_, ?_, fun _ h => .inl h, ?_, ?_, ?_⟩
    · intro b hb hl
      have := hne b hb (.inl hl)
      exact ⟨by simp [Env.new, this, hl], hblk b hb this⟩
    · intro b hb hl
      have := hne b hb (.inr hl)
      exact ⟨by simp [Env.new, this, hl], hblk b hb this⟩
    all_goals (intro j hj; simp only [Env.new]; rw [if_neg]; rintro rfl; exact hk0 hj)
  have hdom' : ∀ k, (E.dom k ∨ k = ob.length) ↔ E.dom k ∨ (ob.length ≤ k ∧ k < (dropOb ob old ++ [some (VObj.arr e sz rows')]).length) := by
    intro k; simp [dropOb_length]; constructor
    · rintro (h | h)
      · exact .inl h
      · exact .inr (by omega)
    · rintro (h | h)
      · exact .inl h
      · exact .inr (by omega)
  have keep : ∀ j o, E.dom j → (dropOb ob old)[j]? = some (some o) → ObjRep w' (E.new ob.length g (.obj ob.length) cap false) j o := by
    intro j o hjd hj
    have hj' : ob[j]? = some (some o) ∧ old ≠ some j := by
      cases old with
      | none => exact ⟨hj, by simp⟩
      | some k =>
        simp only [dropOb] at hj
        rw [List.getElem?_set] at hj
        split at hj
        · split at hj <;> simp at hj
        · rename_i hne; exact ⟨hj, by simpa using hne⟩
    refine (hob j o hjd hj'.1).move hx hjd ?_
    intro hl hlt
    have hg : E.blk j ≠ g := by
      intro he
      rcases hgo with h | ⟨k, rfl, hnk, hgk⟩
      · omega
      · have hlk := hold.2.2.1 hnk
        rw [← hgk, ← he] at hlk
        rcases hl with hl | hl
        · rw [hl] at hlk; injection hlk with hlk; exact hj'.2 (by rw [hlk])
        · rw [hl] at hlk; cases hlk
    exact ⟨hblk _ hlt hg, by simp [Env.new, hg]⟩
  refine ⟨hx, hdom', ?_, ?_, ?_⟩
  · simp only [Rep, Env.new, aval, if_true, or_true, true_and, Bool.false_eq_true, if_false, and_true, false_implies]
    exact hcap
  · intro k o hkd hk
    rcases Nat.lt_or_ge k ob.length with h' | h'
    · rw [List.getElem?_append_left (by rw [dropOb_length]; exact h')] at hk
      rcases hkd with hkd | hkd
      · exact keep k o hkd hk
      · omega
    · rw [List.getElem?_append_right (by rw [dropOb_length]; exact h'), dropOb_length] at hk
      cases hkk : k - ob.length with
      | zero =>
        rw [hkk] at hk
        simp at hk
        have : k = ob.length := by omega
        subst this
        rw [← hk]
        simp only [ObjRep]
        refine ⟨by simp [Env.new], by simp only [Env.new, if_true]; exact hcap, by simp [Env.new], vs', ?_, RepFlat.ext hx.pure _ _ _ hflat, hone⟩
        refine ⟨hflat.length, .inr ⟨g, cap, cur, by simp [aval, Env.new], Nat.zero_le _, hh, hcap, hcm, hcs, htk⟩⟩
      | succ q => rw [hkk] at hk; simp at hk
  · intro b hb
    have hgl : g < w'.heap.size := block_lt hh
    simp only [Env.new]
    rw [if_neg (by omega)]; exact hf b (by omega)

theorem setCells_heap (b : Nat) : ∀ (vs : List Value) (o : Nat) (w : World) (cur : Array Value) (e : TypeId) (f : Nat × Nat), w.heap[b]? = some (.cells cur e f) → o + vs.length ≤ cur.size → (w.setCells b o vs).heap[b]? = some (.cells (cur.toList.take o ++ vs ++ cur.toList.drop (o + vs.length)).toArray e f)
  | [], o, w, cur, e, f, h, hl => by
    simp only [World.setCells, List.append_nil, List.length_nil, Nat.add_zero, List.take_append_drop]
    exact h
  | v :: r, o, w, cur, e, f, h, hl => by
    simp only [List.length_cons] at hl
    rw [World.setCells]
    have h1 : (w.setCell ⟨b, o, none⟩ v).heap[b]? = some (.cells (cur.setIfInBounds o v) e f) := by
      simp only [World.setCell, Array.getElem?_modify, if_true, h, Option.map_some]
      rfl
    rw [setCells_heap b r (o + 1) _ _ e f h1 (by simp; omega)]
    congr 3
    have hlen : cur.toList.length = cur.size := Array.length_toList
    have hA : (cur.toList.take o).length = o := by rw [List.length_take]; omega
    have hs : (cur.setIfInBounds o v).toList = cur.toList.take o ++ v :: cur.toList.drop (o + 1) := by
      rw [Array.toList_setIfInBounds, List.set_eq_take_append_cons_drop, if_pos (by omega)]
    have ht : List.take (o + 1) (cur.toList.take o ++ v :: cur.toList.drop (o + 1)) = cur.toList.take o ++ [v] := by
      rw [List.take_append, hA, List.take_of_length_le (by omega)]
      simp
    have hd : List.drop (o + 1 + r.length) (cur.toList.take o ++ v :: cur.toList.drop (o + 1)) = cur.toList.drop (o + (r.length + 1)) := by
      rw [List.drop_append, hA, List.drop_eq_nil_of_le (by omega), List.nil_append]
      have e1 : o + 1 + r.length - o = r.length + 1 := by omega
      rw [e1, List.drop_succ_cons, List.drop_drop]
      congr 1; omega
    rw [hs, ht, hd]
    simp
theorem setCells_other (b : Nat) {i : Nat} (hne : i ≠ b) : ∀ (vs : List Value) (o : Nat) (w : World), (w.setCells b o vs).heap[i]? = w.heap[i]?
  | [], o, w => rfl
  | v :: r, o, w => by
    rw [World.setCells, setCells_other b hne r]
    simp only [World.setCell, Array.getElem?_modify]
    rw [if_neg (fun h => hne h.symm)]
theorem setCells_rest (b : Nat) : ∀ (vs : List Value) (o : Nat) (w : World), (w.setCells b o vs).os = w.os ∧ (w.setCells b o vs).tape = w.tape ∧ (w.setCells b o vs).output = w.output ∧ (w.setCells b o vs).heap.size = w.heap.size
  | [], o, w => ⟨rfl, rfl, rfl, rfl⟩
  | v :: r, o, w => by
    have := setCells_rest b r (o + 1) (w.setCell ⟨b, o, none⟩ v)
    rw [World.setCells]
    obtain ⟨h1, h2, h3, h4⟩ := this
    exact ⟨h1, h2, h3, by rw [h4]; simp [World.setCell]⟩

theorem flat_split {w : World} {E : Env} {rows : List (List V)} {vs : List Value} (h : RepFlat w E 1 rows vs) (i : Nat) : RepFlat w E 1 (rows.take i) (vs.take i) ∧ RepFlat w E 1 (rows.drop i) (vs.drop i) := by
  induction rows generalizing vs i with
  | nil => simp only [RepFlat] at h; subst h; simp [RepFlat]
  | cons r rows ih =>
    simp only [RepFlat] at h
    obtain ⟨a, b, rfl, ha, hr, hb⟩ := h
    match a, ha with
    | [x], _ =>
      cases i with
      | zero => exact ⟨by simp [RepFlat], ⟨[x], b, rfl, rfl, hr, hb⟩⟩
      | succ i =>
        obtain ⟨h1, h2⟩ := ih hb i
        exact ⟨⟨[x], b.take i, rfl, rfl, hr, h1⟩, h2⟩

theorem insert_call {P : Program} {ρ : Go.Shelf.Ren} (L : Lays2.n21 P ρ) (hE : Enter P (ρ.f 21)) (rows : List (List V)) (e2 i : Nat) (x : V) (hi : i ≤ rows.length) (hb : (rows.length + 1) * 8 ≤ 140737488355328) :
    VCall P (ρ.f 21) [.ref 0 rows.length, .int .i64 i, .ref 1 1] [some (.arr (ρ.t 3) 1 rows), some (.arr e2 1 [[x]])] (.ref 2 (rows.take i ++ [x] :: rows.drop i).length) [none, some (.arr e2 1 [[x]]), some (.arr (ρ.t 3) 1 (rows.take i ++ [x] :: rows.drop i))] := by
  refine ⟨hE, fun w E vals hdom hob hf hr => ?_⟩
  simp only [RepL, Rep] at hr
  obtain ⟨v0, vs0, rfl, ⟨hd0, _, _, rfl⟩, v1, vs1, rfl, rfl, v2, vs2, rfl, ⟨hd1, _, _, rfl⟩, rfl⟩ := hr
  have h0 := hob 0 _ rfl
  have h1 := hob 1 _ rfl
  simp only [ObjRep] at h0 h1
  obtain ⟨a1, a2, a3, vs, a4, a5, a6⟩ := h0
  obtain ⟨b1, b2, b3, us, b4, b5, b6⟩ := h1
  have hnl1 : E.nil 1 = false := by
    cases h : E.nil 1 with
    | false => rfl
    | true => have := b1 h; simp at b2; omega
  have hul : us.length = 1 := by have := b5.length; simpa using this
  have hvl : vs.length = rows.length := by have := a5.length; simpa using this
  have hlen : (rows.take i ++ [x] :: rows.drop i).length = rows.length + 1 := by simp; omega
  have e1 : aval E 1 1 = .slice (some ⟨E.blk 1, 0, none⟩) 1 (E.cap 1) := by simp [aval, hnl1]
  obtain ⟨u, rfl⟩ : ∃ u, us = [u] := by match us, hul with | [u], _ => exact ⟨u, rfl⟩
  have hus : ∀ j v, [u][j]? = some v → w.cell? ⟨E.blk 1, 0 + j, none⟩ = some v := by
    intro j v hj
    have := b4.cells (g := E.blk 1) (by simp [aval, hnl1, Value.ownBlock]) j v hj
    rwa [add_off] at this
  obtain ⟨cur1, c1⟩ : ∃ cur1, w.heap[E.blk 1]? = some (.cells cur1 e2 (0, 0)) := by
    rcases b4.2 with ⟨h, _⟩ | ⟨g, cap, cur, h, _, hg, _⟩
    · simp [aval, hnl1] at h
    · simp [aval, hnl1] at h
      exact ⟨cur, by rw [h.1]; exact hg⟩
  have hflat2 : RepFlat w E.pure 1 (rows.take i ++ [x] :: rows.drop i) (vs.take i ++ [u] ++ vs.drop i) := by
    obtain ⟨q1, q2⟩ := flat_split a5 i
    rw [List.append_assoc]
    refine q1.append ?_
    have : RepFlat w E.pure 1 ([[x]] ++ rows.drop i) ([u] ++ vs.drop i) := RepFlat.append b5 q2
    exact this
  have hone : Ones (vs.take i ++ [u] ++ vs.drop i) := by
    intro y hy
    rw [List.append_assoc, List.mem_append, List.mem_append] at hy
    rcases hy with hy | hy | hy
    · exact a6 y (List.mem_of_mem_take hy)
    · exact b6 y hy
    · exact a6 y (List.mem_of_mem_drop hy)
  have hk0 : ¬ E.dom 2 := by rw [hdom]; simp
  have hob' : ∀ k o, E.dom k → ([some (VObj.arr (ρ.t 3) 1 rows), some (.arr e2 1 [[x]])] : List (Option VObj))[k]? = some (some o) → ObjRep w E k o := fun k o _ h => hob k o h
  have fin : ∀ {w' : World} {v : Value} {n g cap : Nat} {cur : Array Value}, OldOk E [some (VObj.arr (ρ.t 3) 1 rows), some (.arr e2 1 [[x]])] v n (some 0) → w'.os = w.os → w'.tape = w.tape → w'.output = w.output → w.heap.size ≤ w'.heap.size →
      (∀ b, b < w.heap.size → b ≠ g → w'.heap[b]? = w.heap[b]?) → (w.heap.size ≤ g ∨ ∃ k, some 0 = some k ∧ E.nil k = false ∧ g = E.blk k) → w'.heap[g]? = some (.cells cur (ρ.t 3) (0, 0)) → rows.length + 1 ≤ cap → cap ≤ maxLen → cur.size = cap → cur.toList.take (rows.length + 1) = vs.take i ++ [u] ++ vs.drop i →
      ∃ v E', Ending.returned (.slice (some ⟨g, 0, none⟩) (rows.length + 1) cap) = .returned v ∧ WRes E w (.ref 2 (rows.take i ++ [x] :: rows.drop i).length) [none, some (.arr e2 1 [[x]]), some (.arr (ρ.t 3) 1 (rows.take i ++ [x] :: rows.drop i))] v w' E' := by
    intro w' v n g cap cur hold hos ht ho hs hblk hgo hh hcap hcm hcs htk
    have := rewrote_sound (e := ρ.t 3) (sz := 1) (rows' := rows.take i ++ [x] :: rows.drop i) hk0 hob' hf hold hos ht ho hs hblk hgo hh (by rw [hlen]; exact hcap) hcm (by rw [hcs]; simp) (by rw [hlen, Nat.mul_one]; exact htk) hflat2 hone
    have h2 := this.exact hdom (by simp [dropOb])
    rw [hlen] at h2 ⊢
    exact ⟨_, _, rfl, h2⟩
  rcases a4.2 with ⟨hv, hn0⟩ | ⟨g, cap, cur, hv, _, hg, hnc, hcm, hcs, htk⟩
  · -- nil
    have hr0 : rows = [] := List.eq_nil_of_length_eq_zero hn0
    subst hr0
    have hv0 : vs = [] := List.eq_nil_of_length_eq_zero (by simpa using hvl)
    subst hv0
    have hi0 : i = 0 := by simpa using hi
    subst hi0
    rw [hv, e1]
    have hc := Any2.slices_Insert_int_end_grow L none 0 0 (E.blk 1) 0 1 (E.cap 1) [] [u] w (by omega) (Nat.le_refl _) (by omega) (by decide) rfl rfl (fun _ => rfl) (fun a h => by cases h) hus (fun v hv => b6 v hv)
    refine hc.mono ?_
    rintro e w' ⟨rfl, rfl⟩
    have hgc := grownCap_ge w (0 + 1) 0 (ρ.t 3)
    have hgm := grownCap_le_maxLen w (0 + 1) 0 (ρ.t 3) (by decide)
    generalize grownCap w (0 + 1) 0 (ρ.t 3) = G at hgc hgm ⊢
    have hpn := push_get w.drew (.cells (([] ++ [u] : List Value).toArray ++ Builtin.zeroCells (Value.int .i64 0).cells (G - (0 + 1))) (ρ.t 3))
    refine fin (n := 0) (v := aval E 0 0) ?_ rfl rfl rfl (by simp) (fun b hb _ => Below.heap_alloc w.drew _ b hb) (.inl (Nat.le_refl _)) hpn hgc hgm ?_ ?_
    · exact ⟨by simp, rfl, a3, a1⟩
    · simp only [Array.size_append, List.size_toArray, size_zeroCells]
      try simp [Value.cells]
      omega
    · simp
  · have hnl0 : E.nil 0 = false := by
      cases h : E.nil 0 with
      | false => rfl
      | true => simp [aval, h] at hv
    simp [aval, hnl0] at hv
    obtain ⟨rfl, rfl⟩ := hv
    have e0 : aval E 0 rows.length = .slice (some ⟨E.blk 0, 0, none⟩) rows.length (E.cap 0) := by simp [aval, hnl0]
    have hvs : ∀ j v, vs[j]? = some v → w.cell? ⟨E.blk 0, 0 + j, none⟩ = some v := by
      intro j v hj
      have := a4.cells (g := E.blk 0) (by simp [aval, hnl0, Value.ownBlock]) j v hj
      rwa [add_off] at this
    have hold : OldOk E [some (VObj.arr (ρ.t 3) 1 rows), some (.arr e2 1 [[x]])] (aval E 0 rows.length) rows.length (some 0) := ⟨by simp, rfl, a3, a1⟩
    have hsp : ∀ j, j < E.cap 0 → (w.cell? ⟨E.blk 0, j, none⟩).isSome = true := by
      intro j hj
      simp only [World.cell?, hg]
      simp
      omega
    have hfz : ∀ j, w.frozen? ⟨E.blk 0, j, none⟩ = false := by
      intro j
      simp [World.frozen?, hg]
    have hfz1 : ∀ j, w.frozen? ⟨E.blk 1, j, none⟩ = false := by
      intro j
      simp [World.frozen?, c1]
    have hcap63 : E.cap 0 ≤ 9223372036854775807 := by simp only [maxLen] at hcm; omega
    have hgl : E.blk 0 < w.heap.size := block_lt hg
    have hb01 : E.blk 1 ≠ E.blk 0 := by
      intro h
      have q1 := a3 hnl0
      have q2 := b3 hnl1
      rw [h, q1] at q2
      injection q2 with q2
      cases q2
    have hcl : cur.toList.length = E.cap 0 := by rw [Array.length_toList, hcs]; simp
    have htk' : cur.toList.take rows.length = vs := by simpa using htk
    rw [e0, e1]
    by_cases hroom : rows.length + 1 ≤ E.cap 0
    · by_cases hin : i < rows.length
      · -- in place
        have hc := Any2.slices_Insert_int_shift L (E.blk 0) 0 rows.length (E.cap 0) i (E.blk 1) 0 1 (E.cap 1) vs [u] w hin (by omega) hroom hcap63 hb01 hvl rfl hvs (fun j hj => by rw [Nat.zero_add]; exact hsp j (by omega)) (fun j _ => hfz _) hus a6 b6 e2 (ρ.t 3) cur1.size cur.size (by simp [World.shape?, c1]) (by simp [World.shape?, hg]) (by rw [hcs]; omega) (hfz1 _) (hfz1 _)
        refine hc.mono ?_
        rintro e w' ⟨rfl, rfl⟩
        have g1 : (w.drew.setCells (E.blk 0) (0 + (i + 1)) (vs.drop i)).heap[E.blk 0]? = some (.cells (cur.toList.take (0 + (i + 1)) ++ vs.drop i ++ cur.toList.drop (0 + (i + 1) + (vs.drop i).length)).toArray (ρ.t 3) (0, 0)) := setCells_heap _ _ _ _ cur _ _ hg (by rw [List.length_drop, hvl]; simp at hcs; omega)
        have hl1 : (cur.toList.take (0 + (i + 1)) ++ vs.drop i ++ cur.toList.drop (0 + (i + 1) + (vs.drop i).length)).length = E.cap 0 := by
          simp only [List.length_append, List.length_take, List.length_drop, hvl, hcl]; omega
        have g2 := setCells_heap (E.blk 0) [u] (0 + i) _ _ _ _ g1 (by rw [List.size_toArray, hl1]; simp; omega)
        obtain ⟨r1, r2, r3, r4⟩ := setCells_rest (E.blk 0) (vs.drop i) (0 + (i + 1)) w.drew
        obtain ⟨q1, q2, q3, q4⟩ := setCells_rest (E.blk 0) [u] (0 + i) (w.drew.setCells (E.blk 0) (0 + (i + 1)) (vs.drop i))
        refine fin hold (q1.trans r1) (q2.trans r2) (q3.trans r3) (by rw [q4, r4]; exact Nat.le_refl _) (fun b _ hne => by rw [setCells_other _ hne, setCells_other _ hne]; rfl) (.inr ⟨0, rfl, hnl0, rfl⟩) g2 hroom hcm ?_ ?_
        · simp only [List.size_toArray, List.length_append, List.length_take, List.length_drop, List.length_singleton, hl1]
          omega
        · simp only [List.toList_toArray, Nat.zero_add]
          have A : (cur.toList.take (i + 1)).take i = vs.take i := by
            rw [List.take_take, ← htk', List.take_take]
            congr 1; omega
          have hla : (cur.toList.take (i + 1)).length = i + 1 := by rw [List.length_take]; omega
          have B : List.take i (cur.toList.take (i + 1) ++ vs.drop i ++ cur.toList.drop (i + 1 + (vs.drop i).length)) = vs.take i := by
            rw [List.append_assoc, List.take_append_of_le_length (by omega)]; exact A
          have C : List.drop (i + [u].length) (cur.toList.take (i + 1) ++ vs.drop i ++ cur.toList.drop (i + 1 + (vs.drop i).length)) = vs.drop i ++ cur.toList.drop (i + 1 + (vs.drop i).length) := by
            rw [List.append_assoc, List.drop_append, hla, List.drop_eq_nil_of_le (by rw [hla]; simp), List.nil_append]
            simp
          rw [B, C]
          have hl2 : (vs.take i ++ [u] ++ vs.drop i).length = rows.length + 1 := by
            simp only [List.length_append, List.length_take, List.length_drop, List.length_singleton, hvl]; omega
          rw [← List.append_assoc, List.take_append_of_le_length (by omega), List.take_of_length_le (by omega)]
      · have hin' : i = rows.length := by omega
        subst hin'
        have hc := Any2.slices_Insert_int_end_room L (E.blk 0) 0 rows.length (E.cap 0) (E.blk 1) 0 1 (E.cap 1) [u] w (by omega) hroom hcap63 rfl (fun j hj => hsp _ (by omega)) (fun j _ => hfz _) hus b6
        refine hc.mono ?_
        rintro e w' ⟨rfl, rfl⟩
        have g1 := setCells_heap (E.blk 0) [u] (0 + rows.length) w cur _ _ hg (by simp at hcs ⊢; omega)
        obtain ⟨r1, r2, r3, r4⟩ := setCells_rest (E.blk 0) [u] (0 + rows.length) w
        refine fin hold r1 r2 r3 (by rw [r4]; exact Nat.le_refl _) (fun b _ hne => setCells_other _ hne _ _ _) (.inr ⟨0, rfl, hnl0, rfl⟩) g1 hroom hcm ?_ ?_
        · simp only [List.size_toArray, List.length_append, List.length_take, List.length_drop, List.length_singleton, hcl]
          omega
        · simp only [List.toList_toArray, Nat.zero_add, htk']
          have hd : vs.drop rows.length = [] := List.drop_eq_nil_of_le (by omega)
          have ht : vs.take rows.length = vs := List.take_of_length_le (by omega)
          rw [hd, ht, List.append_nil, List.take_append_of_le_length (by simp; omega), List.take_of_length_le (by simp; omega)]
    · by_cases hin : i < rows.length
      · have hc := Any2.slices_Insert_int_grow L (E.blk 0) 0 rows.length (E.cap 0) i (E.blk 1) 0 1 (E.cap 1) vs [u] w hin (by omega) hnc (by omega) hb hvl rfl hvs hus a6 b6
        refine hc.mono ?_
        rintro e w' ⟨rfl, rfl⟩
        have hgc := grownCap_ge w (rows.length + 1) (E.cap 0) (ρ.t 3)
        have hgm := grownCap_le_maxLen w (rows.length + 1) (E.cap 0) (ρ.t 3) (by simp only [maxLen]; omega)
        generalize hG : grownCap w (rows.length + 1) (E.cap 0) (ρ.t 3) = G at hgc hgm ⊢
        have hpn := push_get w (.cells ((vs.take i).toArray ++ Builtin.zeroCells (Value.int .i64 0).cells (rows.length + 1 - i) ++ Builtin.zeroCells (Value.int .i64 0).cells (G - (rows.length + 1))) (ρ.t 3))
        generalize hcu : ((vs.take i).toArray ++ Builtin.zeroCells (Value.int .i64 0).cells (rows.length + 1 - i) ++ Builtin.zeroCells (Value.int .i64 0).cells (G - (rows.length + 1))) = cu at hpn ⊢
        have hcul : cu.size = G := by
          rw [← hcu]
          simp only [Array.size_append, List.size_toArray, size_zeroCells, List.length_take, hvl]
          try simp [Value.cells]
          omega
        have hcut : cu.toList.take i = vs.take i := by
          rw [← hcu]
          simp only [Array.toList_append, List.append_assoc]
          rw [List.take_append_of_le_length (by simp; omega)]
          show List.take i (List.take i vs) = _
          rw [List.take_take, Nat.min_self]
        have hcll : cu.toList.length = G := by rw [Array.length_toList]; exact hcul
        have g1 := setCells_heap w.heap.size [u] i (w.alloc (.cells cu (ρ.t 3))).drew cu _ _ hpn (by simp; omega)
        have hl1 : (cu.toList.take i ++ [u] ++ cu.toList.drop (i + [u].length)).length = G := by
          simp only [List.length_append, List.length_take, List.length_drop, List.length_singleton, hcll]; omega
        have g2 := setCells_heap w.heap.size (vs.drop i) (i + 1) ((w.alloc (.cells cu (ρ.t 3))).drew.setCells w.heap.size i [u]).drew _ _ _ g1 (by rw [List.size_toArray, hl1, List.length_drop, hvl]; omega)
        obtain ⟨r1, r2, r3, r4⟩ := setCells_rest w.heap.size [u] i (w.alloc (.cells cu (ρ.t 3))).drew
        obtain ⟨q1, q2, q3, q4⟩ := setCells_rest w.heap.size (vs.drop i) (i + 1) ((w.alloc (.cells cu (ρ.t 3))).drew.setCells w.heap.size i [u]).drew
        refine fin hold (q1.trans r1) (q2.trans r2) (q3.trans r3) (by rw [q4]; show w.heap.size ≤ (World.setCells _ _ _ _).heap.size; rw [r4]; simp) (fun b hb hne => ?_) (.inl (Nat.le_refl _)) g2 hgc hgm ?_ ?_
        · rw [setCells_other _ hne]
          show (World.setCells _ _ _ _).heap[b]? = _
          rw [setCells_other _ hne]
          exact Below.heap_alloc w _ b hb
        · simp only [List.size_toArray, List.length_append, List.length_take, List.length_drop, List.length_singleton, hl1, hvl]
          omega
        · simp only [List.toList_toArray]
          have A : List.take (i + 1) (cu.toList.take i ++ [u] ++ cu.toList.drop (i + [u].length)) = vs.take i ++ [u] := by
            rw [List.take_append_of_le_length (by simp; omega), List.take_of_length_le (by simp; omega), hcut]
          rw [A]
          have hl2 : (vs.take i ++ [u] ++ vs.drop i).length = rows.length + 1 := by
            simp only [List.length_append, List.length_take, List.length_drop, List.length_singleton, hvl]; omega
          rw [List.take_append_of_le_length (by omega), List.take_of_length_le (by omega)]
      · have hin' : i = rows.length := by omega
        subst hin'
        have hc := Any2.slices_Insert_int_end_grow L (some ⟨E.blk 0, 0, none⟩) rows.length (E.cap 0) (E.blk 1) 0 1 (E.cap 1) vs [u] w (by omega) hnc (by omega) hb hvl rfl (fun h => by cases h) (fun a h j v hj => by cases h; rw [add_off]; exact hvs j v hj) hus b6
        refine hc.mono ?_
        rintro e w' ⟨rfl, rfl⟩
        have hgc := grownCap_ge w (rows.length + 1) (E.cap 0) (ρ.t 3)
        have hgm := grownCap_le_maxLen w (rows.length + 1) (E.cap 0) (ρ.t 3) (by simp only [maxLen]; omega)
        generalize grownCap w (rows.length + 1) (E.cap 0) (ρ.t 3) = G at hgc hgm ⊢
        have hpn := push_get w.drew (.cells ((vs ++ [u]).toArray ++ Builtin.zeroCells (Value.int .i64 0).cells (G - (rows.length + 1))) (ρ.t 3))
        refine fin hold rfl rfl rfl (by simp) (fun b hb _ => Below.heap_alloc w.drew _ b hb) (.inl (Nat.le_refl _)) hpn hgc hgm ?_ ?_
        · simp only [Array.size_append, List.size_toArray, size_zeroCells, List.length_append, List.length_singleton, hvl]
          try simp [Value.cells]
          omega
        · have hd : vs.drop rows.length = [] := List.drop_eq_nil_of_le (by omega)
          have ht : vs.take rows.length = vs := List.take_of_length_le (by omega)
          rw [hd, ht, List.append_nil, Array.toList_append, List.toList_toArray, List.take_append_of_le_length (by simp; omega), List.take_of_length_le (by simp; omega)]
end Go.Proofs.VL

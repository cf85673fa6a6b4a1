/- A logic of values over the model, part 2: symbolic states, their soundness, rules for calls and loops. No law is stated here. -/
import Derived.Test.YtdhfnmbbdcpnbaaV0
import Derived.Maps.RangeRun
import Derived.Deep.LoopGhost
namespace Go.Proofs.VL
open Go Go.RowKit Go.MapKept
set_option linter.unusedSimpArgs false
set_option linter.unusedVariables false

/-- The value of an operation that writes, and what the objects are then. -/
def VO.evW (o : VO) (ρ : X → V) (ob : List (Option VObj)) : Option (V × List (Option VObj)) :=
  match o with
  | .app e sz bytes x y => match appRows ob e sz (ρ x), srcRows ob sz (ρ y) with
    | some (old, rows), some rows2 => if rows.length + rows2.length ≤ 140737488355328 ∧ (rows.length + rows2.length) * bytes ≤ 140737488355328 then some (.ref ob.length (rows ++ rows2).length, dropOb ob old ++ [some (.arr e sz (rows ++ rows2))]) else none
    | _, _ => none
  | .apps e x y => match appRows ob e 1 (ρ x), ρ y with
    | some (old, rows), .str l => if rows.length + l.length ≤ 140737488355328 then some (.ref ob.length (rows ++ bRows l).length, dropOb ob old ++ [some (.arr e 1 (rows ++ bRows l))]) else none
    | _, _ => none
  | .store sz a x => if (ρ x).ok = true ∧ (ρ x).cells.length = sz ∧ (ρ x).cells.all isCell = true then (match ρ a with
    | .ptr k off => match ob[k]? with
      | some (some (.box cs)) => if off + sz ≤ cs.length then some (.junk, ob.set k (some (.box (putCells cs off (ρ x).cells)))) else none
      | _ => none
    | .eptr k i s off => match ob[k]? with
      | some (some (.arr e s' rows)) => if s = s' ∧ (ρ x).cells.all idFree = true then (match rows[i]? with
        | some row => if off + sz ≤ row.length ∧ row.length = s then some (.junk, ob.set k (some (.arr e s (rows.set i (putCells row off (ρ x).cells))))) else none
        | none => none) else none
      | _ => none
    | _ => none) else none
  | .upd kd m k x => if isKey kd (ρ k) = true ∧ elemFree (ρ x) = true then (match ρ m with
    | .mapr b => match ob[b]? with
      | some (some (.map es clock)) => match mfind kd (ρ k) es with
        | some (some _) => some (.junk, ob.set b (some (.map (mset kd (ρ k) (ρ x) es) clock)))
        | some none => some (.junk, ob.set b (some (.map (es ++ [(clock, ρ k, ρ x)]) (clock + 1))))
        | none => none
      | _ => none
    | _ => none) else none
  | .del kd m k => if isKey kd (ρ k) = true then (match ρ m with
    | .mapr b => match ob[b]? with
      | some (some (.map es clock)) => match mfind kd (ρ k) es with
        | some (some _) => some (.junk, ob.set b (some (.map (mdel kd (ρ k) es) clock)))
        | some none => some (.junk, ob.set b (some (.map es clock)))
        | none => none
      | _ => none
    | _ => none) else none
  | .clr sz z x => match ρ x with
    | .nils => some (.junk, ob)
    | .ref k n => match ob[k]? with
      | some (some (.arr e s rows)) => if s = sz ∧ n ≤ rows.length ∧ z.all idFree = true then some (.junk, ob.set k (some (.arr e s (List.replicate n z ++ rows.drop n)))) else none
      | _ => none
    | .refs k s1 off n => match ob[k]? with
      | some (some (.arr e s rows)) => if s = sz ∧ s1 = sz ∧ off + n ≤ rows.length ∧ z.all idFree = true then some (.junk, ob.set k (some (.arr e s (rows.take off ++ List.replicate n z ++ rows.drop (off + n))))) else none
      | _ => none
    | _ => none
  | _ => none
  where
  isCell : V → Bool
    | .agg _ | .tup _ | .junk => false
    | _ => true

theorem isCell_one {w : World} {E : Env} {x : V} {v : Value} (hx : VO.evW.isCell x = true) (h : Rep w E x v) : v.oneCell' = true := by
  cases x <;> simp [VO.evW.isCell] at hx <;> simp only [Rep] at h
  case sl => obtain ⟨_, _, _, rfl, _⟩ := h; rfl
  case iptr => obtain ⟨_, _, _, rfl, _⟩ := h; rfl
  case ref => obtain ⟨_, _, _, rfl⟩ := h; rfl
  case ptr => obtain ⟨_, rfl⟩ := h; rfl
  case eptr => obtain ⟨_, _, rfl⟩ := h; rfl
  case fn => obtain ⟨_, _, rfl, _⟩ := h; rfl
  case mapr => obtain ⟨_, rfl⟩ := h; rfl
  case refs => obtain ⟨_, _, _, _, rfl, _⟩ := h; rfl
  all_goals (subst h; rfl)

theorem isCells_one {w : World} {E : Env} : ∀ {xs : List V} {vs : List Value}, xs.all VO.evW.isCell = true → RepL w E xs vs → Ones vs
  | [], vs, _, h => by simp only [RepL] at h; subst h; exact Ones.nil
  | x :: xs, vs, hx, h => by
    simp only [List.all_cons, Bool.and_eq_true] at hx
    simp only [RepL] at h
    obtain ⟨v, vs', rfl, h1, h2⟩ := h
    intro u hu
    rcases List.mem_cons.1 hu with rfl | hu
    · exact isCell_one hx.1 h1
    · exact isCells_one hx.2 h2 u hu

theorem putCells_eq : ∀ (xs : List V) (cs : List V) (off : Nat), off + xs.length ≤ cs.length → putCells cs off xs = cs.take off ++ xs ++ cs.drop (off + xs.length)
  | [], cs, off, h => by simp [putCells]
  | x :: xs, cs, off, h => by
    simp only [putCells]
    rw [putCells_eq xs (cs.set off x) (off + 1) (by simp at h ⊢; omega)]
    have hl : off < cs.length := by simp at h; omega
    rw [List.take_succ_eq_append_getElem (by simpa using hl)]
    rw [List.take_set_of_le (Nat.le_refl _), List.drop_set_of_lt (by omega)]
    simp [List.getElem_set_self, Nat.add_comm, Nat.add_left_comm]

theorem putCells_rep {w : World} {E : Env} {xs cs : List V} {us vs : List Value} {off : Nat} (h : RepL w E cs vs) (g : RepL w E xs us) (hl : off + xs.length ≤ cs.length) : RepL w E (putCells cs off xs) (vs.take off ++ us ++ vs.drop (off + us.length)) := by
  rw [putCells_eq xs cs off hl, g.length]
  exact ((h.take off).append g).append (h.drop _)

theorem run_storeCells_fr {P : Program} (g o : Nat) (t : TypeId) (fr : Nat × Nat) : ∀ (vs : List Value) (i : Nat) (cur : Array Value) (w : World), w.heap[g]? = some (.cells cur t fr) → (fr = (0, 0) ∨ cur.size ≤ fr.1) → o + i + vs.length ≤ cur.size → Ones vs →
    (storeCells ⟨g, o, none⟩ vs i).run P w = .ok () (w.setRow g (cur.toList.take (o + i) ++ vs ++ cur.toList.drop (o + i + vs.length)).toArray)
  | [], i, cur, w, hg, _, _, _ => by
    simp only [storeCells, List.append_nil, List.length_nil, Nat.add_zero, List.take_append_drop, Array.toArray_toList]
    rw [setRow_self w g cur t fr hg]
    rfl
  | v :: rest, i, cur, w, hg, hfr, hl, h1 => by
    have hi : o + i < cur.size := by simp at hl; omega
    have hadd : (⟨g, o, none⟩ : Addr).add i = ⟨g, o + i, none⟩ := by unfold Addr.add; split <;> simp_all
    have hcell : w.cell? ⟨g, o + i, none⟩ = some cur[o + i] := by simp [World.cell?, hg, hi]
    have hfro : w.frozen? ⟨g, o + i, none⟩ = false := by
      simp only [World.frozen?, hg]
      rcases hfr with rfl | hfr
      · simp
      · simp; omega
    have hst : (store ((⟨g, o, none⟩ : Addr).add i) v).run P w = .ok () (w.setRow g (cur.setIfInBounds (o + i) v)) := by
      rw [hadd, run_store P w _ v _ (h1 v (by simp)), hcell]
      simp [hfro, setCell_eq_setRow w g (o + i) cur t fr v hg]
    have ih := run_storeCells_fr (P := P) g o t fr rest (i + 1) (cur.setIfInBounds (o + i) v) (w.setRow g (cur.setIfInBounds (o + i) v)) (setRow_heap w g cur _ t _ hg) (by simpa using hfr) (by simp at hl ⊢; omega) (fun x hx => h1 x (by simp [hx]))
    simp only [storeCells, Sem.run_bind, hst, Result.andThen_ok, ih, setRow_setRow]
    congr 3
    have e := list_seg_step cur.toList (o + i) v rest (by simp at hl ⊢; omega)
    simpa [Array.toList_setIfInBounds, Nat.add_assoc] using e

theorem okFr.any {e n : Nat} {fr : Nat × Nat} (h : okFr e n fr) : fr = (0, 0) ∨ n ≤ fr.1 := by
  rcases h with h | ⟨_, h⟩
  · exact .inl h
  · exact .inr h

theorem storeCells_run {P : Program} {w : World} {t : TypeId} {s g off e : Nat} {cur : Array Value} {fr : Nat × Nat} (hs : szB P t = some s) (hg : w.heap[g]? = some (.cells cur e fr)) (hfr : fr = (0, 0) ∨ cur.size ≤ fr.1) {v : Value} (hv : v.cells.size = s) (hfit : off + s ≤ cur.size) (h1 : Ones v.cells.toList) :
    (Instr.storeAt t (.pointer (some ⟨g, off, none⟩)) v).run P w = .ok () (w.setRow g (cur.toList.take off ++ v.cells.toList ++ cur.toList.drop (off + v.cells.toList.length)).toArray) := by
  have hst := run_storeCells_fr (P := P) g off e fr v.cells.toList 0 cur w hg hfr (by simp [hv]; omega) h1
  simp only [Nat.add_zero] at hst
  have : (storeVar t ⟨g, off, none⟩ v).run P w = (storeCells ⟨g, off, none⟩ v.cells.toList).run P w := by
    simp [storeVar, run_sizeOf hs, hv]
  simp only [Instr.storeAt, Instr.sureAddr, Sem.run_bind, Sem.run_pure, Result.andThen_ok]
  rw [this]; exact hst

theorem set_objs {w w' : World} {E : Env} {ob : List (Option VObj)} {k : Nat} {o' : VObj} (hob : ∀ k o, E.dom k → ob[k]? = some (some o) → ObjRep w E k o) (hx : Ext w E w' E)
    (hb : ∀ b, b ≠ E.blk k → w'.heap[b]? = w.heap[b]?) (hl : E.lab (E.blk k) = .obj k) (hk : k < ob.length) (ho : ObjRep w' E k o') :
    ∀ j o, E.dom j → (ob.set k (some o'))[j]? = some (some o) → ObjRep w' E j o := by
  intro j o hjd hj
  rw [List.getElem?_set] at hj
  split at hj
  · rename_i hjk
    subst hjk
    first | (rw [if_pos hk] at hj) | skip
    simp only [Option.some.injEq] at hj
    rw [← hj]; exact ho
  · rename_i hne
    refine (hob j o hjd hj).move hx hjd ?_
    intro hlj _
    refine ⟨hb _ ?_, rfl⟩
    intro he
    rw [he, hl] at hlj
    rcases hlj with hlj | hlj
    · injection hlj with hlj; exact hne hlj
    · cases hlj

/-- A block of a map is laid anew. -/
def World.setMap (w : World) (r : Nat) (o : Obj) : World := { w with heap := w.heap.setIfInBounds r o }
theorem setMap_ext {w : World} {E : Env} {k r : Nat} (o : Obj) (hl : E.lab r = .obj k) : Ext w E (World.setMap w r o) E where
  os := rfl
  tape := rfl
  output := rfl
  size := by simp [World.setMap]
  imm := fun b _ hb => ⟨hb, by
    have hne : r ≠ b := by rintro rfl; rw [hl] at hb; cases hb
    simp [World.setMap, Array.getElem?_setIfInBounds_ne hne]⟩
  ext := fun b _ hb => ⟨hb, by
    have hne : r ≠ b := by rintro rfl; rw [hl] at hb; cases hb
    simp [World.setMap, Array.getElem?_setIfInBounds_ne hne]⟩
  dom := fun _ h => h
  blk := fun _ _ => rfl
  cap := fun _ _ => rfl
  nil := fun _ _ => rfl
theorem setMap_other {w : World} {r b : Nat} (o : Obj) (h : b ≠ r) : (World.setMap w r o).heap[b]? = w.heap[b]? := by
  simp [World.setMap, Array.getElem?_setIfInBounds_ne (Ne.symm h)]
theorem setMap_at {w : World} {r : Nat} {o' : Obj} (o : Obj) (h : w.heap[r]? = some o') : (World.setMap w r o).heap[r]? = some o := by
  have := block_lt h
  simp [World.setMap, this]

theorem elem_pure {w : World} {E : Env} {x : V} {v : Value} (hx : elemFree x = true) (h : Rep w E x v) : Rep w E.pure x v := by
  cases x with
  | agg cs =>
    simp only [elemFree] at hx
    simp only [Rep] at h ⊢
    obtain ⟨vs, rfl, h⟩ := h
    exact ⟨vs, rfl, repL_pure hx h⟩
  | _ => exact rep_pure hx h

theorem upd_sound {P : Program} {t k e : TypeId} {d : TypeDesc} {kd : MK} (hu : P.underlying t = some (.map k e)) (hd : P.underlying k = some d) (hdk : keyD d kd) {w : World} {E : Env} {mv kv xv : Value} {key x : V} {b clock : Nat} {es : List (Nat × V × V)} {ob ob' : List (Option VObj)} {r : V}
    (hm : E.dom b ∧ mv = .map (some (E.blk b))) (hk : Rep w E key kv) (hkey : isKey kd key = true) (hx : Rep w E x xv) (hfree : elemFree x = true)
    (hob : ∀ k o, E.dom k → ob[k]? = some (some o) → ObjRep w E k o) (hf : ∀ b, w.heap.size ≤ b → E.lab b = .imm) (hkl : b < ob.length) (ho : ob[b]? = some (some (.map es clock)))
    (hr : (match mfind kd key es with
        | some (some _) => some (V.junk, ob.set b (some (.map (mset kd key x es) clock)))
        | some none => some (.junk, ob.set b (some (.map (es ++ [(clock, key, x)]) (clock + 1))))
        | none => none) = some (r, ob')) :
    ∃ w', (Instr.mapUpdate t mv kv xv).run P w = .ok () w' ∧ WResG E w ob r ob' undef w' E := by
  obtain ⟨hdom, rfl⟩ := hm
  have hor := hob b _ hdom ho
  simp only [ObjRep] at hor
  obtain ⟨hl, ms, hh, hmr⟩ := hor
  obtain ⟨hik, hkall⟩ := isKey_rep hdk hk hkey
  have hck : (Instr.checkKey false 10000 k kv).run P w = .ok () w := run_checkKey hd hik false 9999
  have hxp := elem_pure hfree hx
  have fin : ∀ (es' : List (Nat × V × V)) (clock' : Nat) (ms' : Array MapEntry), MapRep w E.pure es' ms'.toList → WResG E w ob .junk (ob.set b (some (.map es' clock'))) undef (World.setMap w (E.blk b) (.map ms' clock')) E := by
    intro es' clock' ms' hms
    have hx' := setMap_ext (w := w) (E := E) (.map ms' clock') hl
    refine ⟨hx', by intro j; simp; omega, trivial, ?_, fun b' hb' => hf b' (by simpa [World.setMap] using hb')⟩
    refine set_objs hob hx' (fun b' hne => setMap_other _ hne) hl hkl ?_
    simp only [ObjRep]
    exact ⟨hl, ms', setMap_at _ hh, MapRep.iext hx'.pure.i hms⟩
  split at hr <;> try (cases hr; done)
  · rename_i v hfd
    simp only [Option.some.injEq, Prod.mk.injEq] at hr
    obtain ⟨rfl, rfl⟩ := hr
    obtain ⟨j, m, g1, g2, g3, g4, g5, _⟩ := find_some hdk hk 0 hmr hfd
    have hfk := run_findKey (w := w) hd g1
    have hkey2 : ((ms[j]?).map (·.key)).getD kv = kv := by
      rw [← Array.getElem?_toList, g2]; simp [g3]
    have hkt : ∀ w, (Instr.keyThatStays kv kv).run P w = .ok kv w := fun w => run_keyThatStays hik
    refine ⟨_, ?_, fin _ clock (ms.modify j fun e => { e with key := kv, val := xv }) (by rw [Array.toList_modify]; exact g5 x xv hxp)⟩
    simp only [Nat.zero_add] at hfk
    simp only [Instr.mapUpdate, Sem.run_bind, run_underlying hu, Result.andThen_ok, MapKept.run_getObj_map hh, hck, hfk, hkey2, hkt, run_setObj_map _ hh]
    rfl
  · rename_i hfd
    simp only [Option.some.injEq, Prod.mk.injEq] at hr
    obtain ⟨rfl, rfl⟩ := hr
    have hfk := run_findKey (w := w) hd (find_none hdk hk 0 hmr hfd)
    refine ⟨_, ?_, fin _ (clock + 1) (ms.push { key := kv, val := xv, born := clock }) (by rw [Array.toList_push]; exact MapRep.snoc (hkall _ _) hxp hmr)⟩
    simp only [Instr.mapUpdate, Sem.run_bind, run_underlying hu, Result.andThen_ok, MapKept.run_getObj_map hh, hck, hfk, run_setObj_map _ hh]
    rfl

theorem del_sound {P : Program} {k e ty : TypeId} {d : TypeDesc} {kd : MK} {ts : Array TypeId} (ht : (ts[0]?).bind P.underlying = some (.map k e)) (hd : P.underlying k = some d) (hdk : keyD d kd) {w : World} {E : Env} {mv kv : Value} {key : V} {b clock : Nat} {es : List (Nat × V × V)} {ob ob' : List (Option VObj)} {r : V}
    (hm : E.dom b ∧ mv = .map (some (E.blk b))) (hk : Rep w E key kv) (hkey : isKey kd key = true)
    (hob : ∀ k o, E.dom k → ob[k]? = some (some o) → ObjRep w E k o) (hf : ∀ b, w.heap.size ≤ b → E.lab b = .imm) (hkl : b < ob.length) (ho : ob[b]? = some (some (.map es clock)))
    (hr : (match mfind kd key es with
        | some (some _) => some (V.junk, ob.set b (some (.map (mdel kd key es) clock)))
        | some none => some (.junk, ob.set b (some (.map es clock)))
        | none => none) = some (r, ob')) :
    ∃ w', (Builtin.delete_ ts ty #[mv, kv]).run P w = .ok (.tuple #[]) w' ∧ WResG E w ob r ob' (.tuple #[]) w' E := by
  obtain ⟨hdom, rfl⟩ := hm
  obtain ⟨t0, hts, hu⟩ := Option.bind_eq_some_iff.1 ht
  have hor := hob b _ hdom ho
  simp only [ObjRep] at hor
  obtain ⟨hl, ms, hh, hmr⟩ := hor
  obtain ⟨hik, hkall⟩ := isKey_rep hdk hk hkey
  have hck : ∀ q, (Instr.checkKey q 10000 k kv).run P w = .ok () w := fun q => run_checkKey hd hik q 9999
  have fin : ∀ (es' : List (Nat × V × V)) (ms' : Array MapEntry), MapRep w E.pure es' ms'.toList → WResG E w ob .junk (ob.set b (some (.map es' clock))) (.tuple #[]) (World.setMap w (E.blk b) (.map ms' clock)) E := by
    intro es' ms' hms
    have hx' := setMap_ext (w := w) (E := E) (.map ms' clock) hl
    refine ⟨hx', by intro j; simp; omega, trivial, ?_, fun b' hb' => hf b' (by simpa [World.setMap] using hb')⟩
    refine set_objs hob hx' (fun b' hne => setMap_other _ hne) hl hkl ?_
    simp only [ObjRep]
    exact ⟨hl, ms', setMap_at _ hh, MapRep.iext hx'.pure.i hms⟩
  split at hr <;> try (cases hr; done)
  · rename_i v hfd
    simp only [Option.some.injEq, Prod.mk.injEq] at hr
    obtain ⟨rfl, rfl⟩ := hr
    obtain ⟨j, m, g1, g2, g3, g4, g5, g6⟩ := find_some hdk hk 0 hmr hfd
    have hfk := run_findKey (w := w) hd g1
    have hjl : j < ms.size := by
      have := (List.getElem?_eq_some_iff.1 g2).1
      simpa using this
    refine ⟨_, ?_, fin _ (ms.eraseIdxIfInBounds j) (by
      unfold Array.eraseIdxIfInBounds
      rw [dif_pos hjl, Array.toList_eraseIdx]; exact g6)⟩
    simp only [Nat.zero_add] at hfk
    simp only [Builtin.delete_, List.getElem?_toArray, List.getElem?_cons_zero, List.getElem?_cons_succ, hts, Sem.run_bind, run_underlying hu, Result.andThen_ok, MapKept.run_getObj_map hh, hck, hfk, run_setObj_map _ hh]
    rfl
  · rename_i hfd
    simp only [Option.some.injEq, Prod.mk.injEq] at hr
    obtain ⟨rfl, rfl⟩ := hr
    have hfk := run_findKey (w := w) hd (find_none hdk hk 0 hmr hfd)
    refine ⟨_, ?_, fin _ ms hmr⟩
    simp only [Builtin.delete_, List.getElem?_toArray, List.getElem?_cons_zero, List.getElem?_cons_succ, hts, Sem.run_bind, run_underlying hu, Result.andThen_ok, MapKept.run_getObj_map hh, hck, hfk, run_setObj_map _ hh]
    rfl

/-- Rows of an own array are laid with zeros. -/
theorem clr_sound {P : Program} {ty : TypeId} {ts : Array TypeId} {t e0 s bytes : Nat} {z : List V} (hts : ts[0]? = some t) (he : elemB P t = some (e0, s, bytes, z)) (hz : z.length = s) (h0 : 0 < s) (hfree : z.all idFree = true) {w : World} {E : Env} {xv : Value} {k off n e : Nat} {rows : List (List V)} {ob : List (Option VObj)}
    (hk : E.dom k) (hx : ∃ a c, xv = .slice a n c ∧ (n ≠ 0 → a = some ⟨E.blk k, off * s, none⟩)) (hn : off + n ≤ rows.length)
    (hob : ∀ k o, E.dom k → ob[k]? = some (some o) → ObjRep w E k o) (hf : ∀ b, w.heap.size ≤ b → E.lab b = .imm) (ho : ob[k]? = some (some (.arr e s rows))) :
    ∃ w', (Builtin.clear_ ts ty #[xv]).run P w = .ok (.tuple #[]) w' ∧ WResG E w ob .junk (ob.set k (some (.arr e s (rows.take off ++ List.replicate n z ++ rows.drop (off + n))))) (.tuple #[]) w' E := by
  obtain ⟨a, c, rfl, ha⟩ := hx
  obtain ⟨hu, hse, ⟨i, hi, hib⟩, hzb⟩ := elemB_some he
  have hkl : k < ob.length := by
    rcases Nat.lt_or_ge k ob.length with h' | h'
    · exact h'
    · rw [List.getElem?_eq_none h'] at ho; cases ho
  rcases Nat.eq_zero_or_pos n with hn0 | hnp
  · subst hn0
    have hset : ob.set k (some (.arr e s (rows.take off ++ List.replicate 0 z ++ rows.drop (off + 0)))) = ob := by
      simp only [List.replicate_zero, List.append_nil, Nat.add_zero, List.take_append_drop]
      apply List.ext_getElem?
      intro j
      rw [List.getElem?_set]
      split
      · rename_i hj; subst hj; first | rw [if_pos hkl, ho] | rw [ho]
      · rfl
    rw [hset]
    refine ⟨w, ?_, Ext.refl w E, fun j => ⟨.inl, fun h => h.elim id (fun h => by omega)⟩, trivial, hob, hf⟩
    cases a with
    | none => simp [Builtin.clear_, hts, run_underlying hu]
    | some a => simp [Builtin.clear_, hts, run_underlying hu]
  · have ha' := ha (by omega)
    subst ha'
    obtain ⟨i', zv, hi', hzv, rfl⟩ := zeroB_some hzb
    have hor := hob k _ hk ho
    simp only [ObjRep] at hor
    obtain ⟨h1, h2, h3, vs, h4, h5, h6⟩ := hor
    have hnk : E.nil k = false := by
      cases hq : E.nil k with
      | false => rfl
      | true => have := h1 hq; omega
    have hl := h3 hnk
    obtain ⟨h4a, h4b⟩ := h4
    rcases h4b with ⟨h4b, _⟩ | ⟨g, cap, cur, hav, _, hh, hnc, hcm, hcs, htake⟩
    · simp [aval, hnk] at h4b
    · simp [aval, hnk] at hav
      obtain ⟨rfl, rfl⟩ := hav
      have hle : (off + n) * s ≤ rows.length * s := Nat.mul_le_mul_right _ hn
      have hle2 : rows.length * s ≤ E.cap k * s := Nat.mul_le_mul_right _ hnc
      rw [Nat.add_mul] at hle
      have hzc : RepL w E.pure (zv.cells.toList.map ofConst1) zv.cells.toList := repL_const w E.pure _
      have hflat := zeros_flat hzc n (by rw [hz]; exact h0)
      rw [hz] at hflat
      generalize hZ : ((Array.range (n * s)).map fun i => zv.cells[i % zv.cells.size]!).toList = Z at hflat
      have hZl : Z.length = n * s := by rw [← hZ]; simp
      have hzs : zv.cells.size = s := by have := hzc.length; rw [hz] at this; simpa using this
      have hZ1 : Ones Z := flat_one (w := w) (E := E.pure) (rows := List.replicate n (zv.cells.toList.map ofConst1)) (sz := s) (by
        rw [List.all_eq_true]
        intro r hr
        rw [List.eq_of_mem_replicate hr]; exact hfree) hflat
      obtain ⟨te, fr, hh, hok, hte⟩ := hh
      have hst := run_storeCells_fr (P := P) (E.blk k) (off * s) te fr Z 0 cur w hh hok.any (by rw [hZl]; omega) hZ1
      simp only [Nat.add_zero] at hst
      have hx' : Ext w E (w.setRow (E.blk k) (cur.toList.take (off * s) ++ Z ++ cur.toList.drop (off * s + Z.length)).toArray) E := by
        refine ⟨rfl, rfl, rfl, by simp [World.setRow], ?_, ?_, fun _ h => h, fun _ _ => rfl, fun _ _ => rfl, fun _ _ => rfl⟩
        · intro b' _ hlb
          exact ⟨hlb, setRow_other w _ b' _ (by rintro rfl; rw [hl] at hlb; cases hlb)⟩
        · intro b' _ hlb
          exact ⟨hlb, setRow_other w _ b' _ (by rintro rfl; rw [hl] at hlb; cases hlb)⟩
      refine ⟨_, ?_, hx', by intro j; simp; omega, trivial, ?_, fun b' hb' => hf b' (by simpa [World.setRow] using hb')⟩
      · have hzr : (zeroValue e0).run P w = .ok zv w := by simp [zeroValue, typeInfo, hi', hzv]
        have hzz : (Builtin.zeroCells zv.cells n).toList = Z := by
          rw [← hZ]; unfold Builtin.zeroCells; rw [hzs]
        obtain ⟨m, rfl⟩ : ∃ m, n = m + 1 := ⟨n - 1, by omega⟩
        simp [Builtin.clear_, hts, run_underlying hu, hzr, hzz, hst]
      · refine set_objs hob hx' (fun b' hne => setRow_other w _ b' _ hne) hl hkl ?_
        simp only [ObjRep]
        have hvl : vs.length = rows.length * s := h5.length
        have hrl : (rows.take off ++ List.replicate n (zv.cells.toList.map ofConst1) ++ rows.drop (off + n)).length = rows.length := by
          simp only [List.length_append, List.length_take, List.length_replicate, List.length_drop]; omega
        have hnew : RepFlat w E.pure s (rows.take off ++ List.replicate n (zv.cells.toList.map ofConst1) ++ rows.drop (off + n)) (vs.take (off * s) ++ Z ++ vs.drop ((off + n) * s)) :=
          ((h5.take off).append hflat).append (h5.drop _)
        rw [hrl]
        have hcl : rows.length * s ≤ cur.toList.length := by simp; omega
        have e0' : vs = cur.toList.take (rows.length * s) := htake.symm
        refine ⟨h1, h2, h3, _, ?_, RepFlat.ext hx'.pure _ _ _ hnew, (((h6.take _).append hZ1).append (h6.drop _))⟩
        refine ⟨by rw [hnew.length, hrl], .inr ⟨E.blk k, E.cap k, _, by simp [aval, hnk], Nat.zero_le _, ⟨te, fr, setRow_heap w _ _ _ te _ hh, ?_, hte⟩, by simpa using hnc, hcm, ?_, ?_⟩⟩
        · have hsz : (cur.toList.take (off * s) ++ Z ++ cur.toList.drop (off * s + Z.length)).toArray.size = cur.size := by
            simp only [List.size_toArray, List.length_append, List.length_take, List.length_drop, Array.length_toList]
            omega
          rw [hsz]; exact hok
        · simp only [List.size_toArray, List.length_append, List.length_take, List.length_drop, Array.length_toList]
          omega
        · have hA : (cur.toList.take (off * s)).length = off * s := by rw [List.length_take]; omega
          rw [e0', List.take_take, Nat.min_eq_left (by omega), Nat.add_mul, hZl]
          rw [List.append_assoc, List.append_assoc, List.take_append, List.take_of_length_le (l := cur.toList.take (off * s)) (by omega), List.take_append, List.take_of_length_le (l := Z) (by omega), hA, List.drop_take]
          congr 3
          omega

theorem w_soundG {ow : Bool} {P : Program} {o : Oper} {vo : VO} (hc : cop ow P o = some vo) {w : World} {E : Env} {x : X → V} {ρ : Operand → Value} {ob ob' : List (Option VObj)} {r : V} (H : ∀ o X, cX o = some X → Rep w E (x X) (ρ o)) (hr : vo.evW x ob = some (r, ob'))
    (hnew : ob.length < ob'.length → ¬ E.dom ob.length) (hob : ∀ k o, E.dom k → ob[k]? = some (some o) → ObjRep w E k o) (hf : ∀ b, w.heap.size ≤ b → E.lab b = .imm) :
    ∃ nx val w' E', (execOp ρ o).run P w = .ok nx w' ∧ (nx = .value val ∨ (nx = .skip ∧ val = undef)) ∧ WResG E w ob r ob' val w' E' := by
  have lt_of : ∀ {k : Nat} {q : Option VObj}, ob[k]? = some q → k < ob.length := fun {k q} h => by
    rcases Nat.lt_or_ge k ob.length with h' | h'
    · exact h'
    · rw [List.getElem?_eq_none h'] at h; cases h
  obtain ⟨dst, op, ty, pos, after, guard⟩ := o
  have hW : (∃ sz a y, vo = .store sz a y) ∨ (∃ e sz b y z, vo = .app e sz b y z) ∨ (∃ e y z, vo = .apps e y z) ∨ (∃ kd m k x, vo = .upd kd m k x) ∨ (∃ kd m k, vo = .del kd m k) ∨ (∃ s z x, vo = .clr s z x) := by
    cases vo <;> first | (exact .inl ⟨_, _, _, rfl⟩) | (exact .inr (.inl ⟨_, _, _, _, _, rfl⟩)) | (exact .inr (.inr (.inl ⟨_, _, _, rfl⟩))) | (exact .inr (.inr (.inr (.inl ⟨_, _, _, _, rfl⟩)))) | (exact .inr (.inr (.inr (.inr (.inl ⟨_, _, _, rfl⟩))))) | (exact .inr (.inr (.inr (.inr (.inr ⟨_, _, _, rfl⟩))))) | (simp [VO.evW] at hr)
  unfold cop at hc
  cases op <;> simp only [reduceCtorEq] at hc
  case store t a b =>
    split at hc <;> simp only [reduceCtorEq, Option.some.injEq] at hc
    rename_i A s B hA hs hB
    subst hc
    have ha := H a A hA
    have hb := H b B hB
    simp only [VO.evW] at hr
    split at hr <;> try (cases hr; done)
    rename_i hcond
    obtain ⟨c1, c2, c3⟩ := hcond
    have hcells := cells_rep hb (by intro e; rw [e] at c1; simp [V.ok] at c1)
    have hones := isCells_one c3 hcells
    have hvs : (ρ b).cells.size = s := by have := hcells.length; rw [c2] at this; simpa using this
    have hexec : ∀ (g off e : Nat) (fr : Nat × Nat) (cur : Array Value), ρ a = .pointer (some ⟨g, off, none⟩) → w.heap[g]? = some (.cells cur e fr) → (fr = (0, 0) ∨ cur.size ≤ fr.1) → off + s ≤ cur.size →
        (execOp ρ ⟨dst, .store t a b, ty, pos, after, guard⟩).run P w = .ok .skip (w.setRow g (cur.toList.take off ++ (ρ b).cells.toList ++ cur.toList.drop (off + (ρ b).cells.toList.length)).toArray) := by
      intro g off e fr cur h1 h2 hfr h3
      have := storeCells_run (P := P) hs h2 hfr hvs h3 hones
      simp [execOp, h1, this]
    split at hr
    · rename_i k off hx
      rw [hx] at ha; simp only [Rep] at ha
      split at hr <;> try (cases hr; done)
      rename_i cs ho
      split at hr <;> try (cases hr; done)
      rename_i hfit
      simp only [Option.some.injEq, Prod.mk.injEq] at hr
      obtain ⟨rfl, rfl⟩ := hr
      obtain ⟨hk, hva⟩ := ha
      have hkl : k < ob.length := lt_of ho
      have hor := hob k _ hk ho
      simp only [ObjRep] at hor
      obtain ⟨hl, c, e, hh, hrl⟩ := hor
      have hcl := hrl.length
      have hrun := hexec _ _ _ _ _ hva hh (.inl rfl) (by simp; omega)
      have hx' : Ext w E (w.setRow (E.blk k) ((⟨c⟩ : Array Value).toList.take off ++ (ρ b).cells.toList ++ (⟨c⟩ : Array Value).toList.drop (off + (ρ b).cells.toList.length)).toArray) E := by
        refine ⟨rfl, rfl, rfl, by simp [World.setRow], ?_, ?_, fun _ h => h, fun _ _ => rfl, fun _ _ => rfl, fun _ _ => rfl⟩
        · intro b' _ hlb
          exact ⟨hlb, setRow_other w _ b' _ (by rintro rfl; rw [hl] at hlb; cases hlb)⟩
        · intro b' _ hlb
          exact ⟨hlb, setRow_other w _ b' _ (by rintro rfl; rw [hl] at hlb; cases hlb)⟩
      refine ⟨.skip, undef, _, E, hrun, .inr ⟨rfl, rfl⟩, hx', by intro j; simp; omega, trivial, ?_, fun b' hb' => hf b' (by simpa [World.setRow] using hb')⟩
      refine set_objs hob hx' (fun b' hne => setRow_other w _ b' _ hne) hl hkl ?_
      simp only [ObjRep]
      refine ⟨hl, _, e, setRow_heap w _ _ _ e _ hh, RepL.ext hx' _ _ ?_⟩
      exact putCells_rep hrl hcells (by omega)
    · rename_i k i s' off hx
      rw [hx] at ha; simp only [Rep] at ha
      split at hr <;> try (cases hr; done)
      rename_i e s2 rows ho
      split at hr <;> try (cases hr; done)
      rename_i hfree
      split at hr <;> try (cases hr; done)
      rename_i row hrow
      split at hr <;> try (cases hr; done)
      rename_i hfit
      simp only [Option.some.injEq, Prod.mk.injEq] at hr
      obtain ⟨rfl, rfl⟩ := hr
      obtain ⟨rfl, hfree⟩ := hfree
      obtain ⟨hk, hnk, hva⟩ := ha
      have hkl : k < ob.length := lt_of ho
      have hor := hob k _ hk ho
      simp only [ObjRep] at hor
      obtain ⟨h1, h2, h3, vs, h4, h5, h6⟩ := hor
      have hl := h3 hnk
      obtain ⟨h4a, h4b⟩ := h4
      rcases h4b with ⟨h4b, _⟩ | ⟨g, cap, cur, hav, _, hh, hnc, hcm, hcs, htake⟩
      · simp [aval, hnk] at h4b
      · simp [aval, hnk] at hav
        obtain ⟨rfl, rfl⟩ := hav
        have hil : i < rows.length := by
          rcases Nat.lt_or_ge i rows.length with h' | h'
          · exact h'
          · rw [List.getElem?_eq_none h'] at hrow; cases hrow
        have hle : i * s' + s' ≤ rows.length * s' := by
          have := Nat.mul_le_mul_right s' hil
          rw [Nat.succ_mul] at this; exact this
        have hle2 : rows.length * s' ≤ E.cap k * s' := Nat.mul_le_mul_right _ hnc
        obtain ⟨te, fr, hh, hok, hte⟩ := hh
        have hrun := hexec _ _ _ _ _ hva hh hok.any (by omega)
        have hx' : Ext w E (w.setRow (E.blk k) (cur.toList.take (i * s' + off) ++ (ρ b).cells.toList ++ cur.toList.drop (i * s' + off + (ρ b).cells.toList.length)).toArray) E := by
          refine ⟨rfl, rfl, rfl, by simp [World.setRow], ?_, ?_, fun _ h => h, fun _ _ => rfl, fun _ _ => rfl, fun _ _ => rfl⟩
          · intro b' _ hlb
            exact ⟨hlb, setRow_other w _ b' _ (by rintro rfl; rw [hl] at hlb; cases hlb)⟩
          · intro b' _ hlb
            exact ⟨hlb, setRow_other w _ b' _ (by rintro rfl; rw [hl] at hlb; cases hlb)⟩
        refine ⟨.skip, undef, _, E, hrun, .inr ⟨rfl, rfl⟩, hx', by intro j; simp; omega, trivial, ?_, fun b' hb' => hf b' (by simpa [World.setRow] using hb')⟩
        refine set_objs hob hx' (fun b' hne => setRow_other w _ b' _ hne) hl hkl ?_
        obtain ⟨ra, q1, q2, q3⟩ := h5.row hrow
        have hpure := repL_pure hfree hcells
        have hul : (ρ b).cells.toList.length = s := by simpa using hvs
        have hnewrow := putCells_rep q2 hpure (off := off) (by omega)
        have hset := h5.setRow hnewrow (by simp only [List.length_append, List.length_take, List.length_drop, q1, hul]; omega) hil
        simp only [ObjRep]
        have hra : ra = (vs.drop (i * s')).take s' := by
          apply List.ext_getElem?
          intro j
          rcases Nat.lt_or_ge j s' with hj | hj
          · have hjl : j < ra.length := by omega
            have e1 := q3 j _ (List.getElem?_eq_getElem hjl)
            rw [List.getElem?_take, if_pos hj, List.getElem?_drop, e1, List.getElem?_eq_getElem hjl]
          · rw [List.getElem?_eq_none (by omega), List.getElem?_eq_none (by rw [List.length_take]; omega)]
        have hvl : vs.length = rows.length * s' := h5.length
        have hcl : rows.length * s' ≤ cur.toList.length := by simp; omega
        -- the row's new cells
        have hkey : vs.take (i * s') ++ (ra.take off ++ (ρ b).cells.toList ++ ra.drop (off + (ρ b).cells.toList.length)) ++ vs.drop (i * s' + s') =
            (cur.toList.take (i * s' + off) ++ (ρ b).cells.toList ++ cur.toList.drop (i * s' + off + (ρ b).cells.toList.length)).take (rows.length * s') := by
          have e0 : vs = cur.toList.take (rows.length * s') := htake.symm
          have e1 : vs.take (i * s') ++ ra.take off = vs.take (i * s' + off) := by
            rw [hra, List.take_take, List.take_add]
            congr 1
            rw [Nat.min_eq_left (by omega)]
          have e2 : ra.drop (off + (ρ b).cells.toList.length) ++ vs.drop (i * s' + s') = vs.drop (i * s' + off + (ρ b).cells.toList.length) := by
            rw [hra, List.drop_take, List.drop_drop]
            have : vs.drop (i * s' + s') = (vs.drop (i * s' + (off + (ρ b).cells.toList.length))).drop (s' - (off + (ρ b).cells.toList.length)) := by
              rw [List.drop_drop]; congr 1; omega
            rw [this, List.take_append_drop, Nat.add_assoc]
          have hA : (cur.toList.take (i * s' + off)).length = i * s' + off := by rw [List.length_take]; omega
          rw [List.append_assoc, List.append_assoc, List.append_assoc, e2, ← List.append_assoc, e1, e0]
          rw [List.take_take, Nat.min_eq_left (by omega), List.append_assoc, List.take_append, List.take_of_length_le (l := cur.toList.take (i * s' + off)) (by omega), List.take_append, List.take_of_length_le (l := (ρ b).cells.toList) (by omega), hA, List.drop_take]
          congr 3
          omega
        refine ⟨h1, by simpa using h2, h3, _, ?_, RepFlat.ext hx'.pure _ _ _ hset, ?_⟩
        · refine ⟨by rw [hset.length], .inr ⟨E.blk k, E.cap k, _, by simp [aval, hnk], Nat.zero_le _, ⟨te, fr, setRow_heap w _ _ _ te _ hh, ?_, hte⟩, by simpa using hnc, hcm, ?_, ?_⟩⟩
          · have hsz : (cur.toList.take (i * s' + off) ++ (ρ b).cells.toList ++ cur.toList.drop (i * s' + off + (ρ b).cells.toList.length)).toArray.size = cur.size := by
              simp only [List.size_toArray, List.length_append, List.length_take, List.length_drop, Array.length_toList]
              omega
            rw [hsz]; exact hok
          · simp only [List.size_toArray, List.length_append, List.length_take, List.length_drop, Array.length_toList]
            omega
          · rw [List.length_set]
            exact hkey.symm
        · have hro : Ones ra := by rw [hra]; exact (h6.drop _).take _
          exact ((h6.take _).append (((hro.take _).append hones).append (hro.drop _))).append (h6.drop _)
    · cases hr
  case call c =>
    obtain ⟨callee, args, argTypes⟩ := c
    simp only at hc
    have hargs : ∀ {X Y : VL.X}, cXs args.toList = some [X, Y] → ∃ a0 a1, args = #[a0, a1] ∧ cX a0 = some X ∧ cX a1 = some Y := by
      intro X Y hxs
      cases hl : args.toList with
      | nil => simp [hl, cXs] at hxs
      | cons a0 l =>
        rw [hl] at hxs
        simp only [cXs] at hxs
        split at hxs <;> simp at hxs
        rename_i x1 xs1 q1 q2
        obtain ⟨rfl, rfl⟩ := hxs
        cases l with
        | nil => simp [cXs] at q2
        | cons a1 l =>
          simp only [cXs] at q2
          split at q2 <;> simp at q2
          rename_i x2 xs2 q3 q4
          obtain ⟨rfl, rfl⟩ := q2
          have : l = [] := by
            cases l with
            | nil => rfl
            | cons b l => simp only [cXs] at q4; split at q4 <;> simp at q4
          subst this
          exact ⟨a0, a1, by apply Array.ext'; simp [hl], q1, q3⟩
    split at hc
    · obtain ⟨z, hz, rfl⟩ := opt_bind hc; simp at hW
    · split at hc <;> simp at hc <;> subst hc <;> simp at hW
    · simp at hc; subst hc; simp at hW
    · simp at hc; subst hc; simp at hW
    · rename_i X Y hxs
      obtain ⟨a0, a1, rfl, hX, hY⟩ := hargs hxs
      have hx := H a0 X hX
      have hy := H a1 Y hY
      split at hc
      · rename_i kk ee ht
        obtain ⟨kd, hkd, rfl⟩ := opt_bind hc
        obtain ⟨d, hd, hdk⟩ := keyB_some hkd
        simp only [VO.evW] at hr
        split at hr <;> try (cases hr; done)
        rename_i hkey
        split at hr <;> try (cases hr; done)
        rename_i b hxm
        rw [hxm] at hx; simp only [Rep] at hx
        split at hr <;> try (cases hr; done)
        rename_i es clock ho
        obtain ⟨w', g1, g2⟩ := del_sound (ty := ty) ht hd hdk hx hy hkey hob hf (lt_of ho) ho hr
        refine ⟨.value (.tuple #[]), _, w', E, ?_, .inl rfl, g2⟩
        simp [execOp, resolve, invoke, builtin, g1]
      · cases hc
    · rename_i X hxs
      have hargs1 : ∃ a0, args = #[a0] ∧ cX a0 = some X := by
        cases hl : args.toList with
        | nil => simp [hl, cXs] at hxs
        | cons a0 l =>
          rw [hl] at hxs
          simp only [cXs] at hxs
          split at hxs <;> simp at hxs
          rename_i x1 xs1 q1 q2
          obtain ⟨rfl, rfl⟩ := hxs
          have : l = [] := by
            cases l with
            | nil => rfl
            | cons b l => simp only [cXs] at q2; split at q2 <;> simp at q2
          subst this
          exact ⟨a0, by apply Array.ext'; simp [hl], q1⟩
      obtain ⟨a0, rfl, hX⟩ := hargs1
      have hx := H a0 X hX
      split at hc
      · rename_i t hts
        split at hc
        · rename_i e0 s bts z he
          split at hc <;> simp at hc
          rename_i hzs
          subst hc
          obtain ⟨hz, h0⟩ := hzs
          have fin : ∀ {w' : World} {r ob'}, (Builtin.clear_ argTypes ty #[ρ a0]).run P w = .ok (.tuple #[]) w' → WResG E w ob r ob' (.tuple #[]) w' E → ∃ nx val w' E', (execOp ρ ⟨dst, .call ⟨.builtin .clear, #[a0], argTypes⟩, ty, pos, after, guard⟩).run P w = .ok nx w' ∧ (nx = .value val ∨ (nx = .skip ∧ val = undef)) ∧ WResG E w ob r ob' val w' E' := by
            intro w' r ob' g1 g2
            exact ⟨.value (.tuple #[]), _, w', E, by simp [execOp, resolve, invoke, builtin, g1], .inl rfl, g2⟩
          simp only [VO.evW] at hr
          split at hr <;> try (cases hr; done)
          · rename_i hxx
            rw [hxx] at hx; simp only [Rep] at hx
            simp only [Option.some.injEq, Prod.mk.injEq] at hr
            obtain ⟨rfl, rfl⟩ := hr
            obtain ⟨hu, _⟩ := elemB_some he
            refine fin (w' := w) ?_ ⟨Ext.refl w E, fun j => ⟨.inl, fun h => h.elim id (fun h => by omega)⟩, trivial, hob, hf⟩
            simp [Builtin.clear_, hts, hx, run_underlying hu]
          · rename_i k n hxx
            rw [hxx] at hx; simp only [Rep, aval] at hx
            split at hr <;> try (cases hr; done)
            rename_i e s' rows ho
            split at hr <;> try (cases hr; done)
            rename_i hcond
            obtain ⟨rfl, hn, hfree⟩ := hcond
            simp only [Option.some.injEq, Prod.mk.injEq] at hr
            obtain ⟨rfl, rfl⟩ := hr
            obtain ⟨q1, q2, q3, q4⟩ := hx
            obtain ⟨w', g1, g2⟩ := clr_sound (ty := ty) (off := 0) hts he hz h0 hfree q1 ⟨_, _, q4, fun hn0 => by
              have : E.nil k = false := by
                cases hq : E.nil k with
                | false => rfl
                | true => have := q3 hq; omega
              rw [this]; simp⟩ (by omega) hob hf ho
            simp only [List.take_zero, List.nil_append, Nat.zero_add] at g2
            exact fin g1 g2
          · rename_i k s1 off n hxx
            rw [hxx] at hx; simp only [Rep] at hx
            split at hr <;> try (cases hr; done)
            rename_i e s' rows ho
            split at hr <;> try (cases hr; done)
            rename_i hcond
            obtain ⟨rfl, rfl, hn, hfree⟩ := hcond
            simp only [Option.some.injEq, Prod.mk.injEq] at hr
            obtain ⟨rfl, rfl⟩ := hr
            obtain ⟨q1, q2, q3, ad, q4, q5⟩ := hx
            obtain ⟨w', g1, g2⟩ := clr_sound (ty := ty) (off := off) hts he hz h0 hfree q1 ⟨_, _, q4, fun hn0 => by rw [q5 (by omega)]⟩ hn hob hf ho
            exact fin g1 g2
        · cases hc
      · cases hc
    · rename_i X Y hxs
      obtain ⟨a0, a1, rfl, hX, hY⟩ := hargs hxs
      have hx := H a0 X hX
      have hy := H a1 Y hY
      split at hc
      · rename_i t u ht hu
        -- the destination
        have dest : ∀ (e sz : Nat) (old : Option Nat) (rows : List (List V)), e ≠ 0 → appRows ob e sz (x X) = some (old, rows) → ∃ olds, w.ownsRow 0 e sz (ρ a0) rows.length olds ∧ RepFlat w E.pure sz rows olds ∧ Ones olds ∧
            OldOk E ob (ρ a0) rows.length old := by
          intro e sz old rows hne0 h
          unfold appRows at h
          split at h
          · rename_i hxx
            rw [hxx] at hx; simp only [Rep] at hx
            simp only [Option.some.injEq, Prod.mk.injEq] at h
            obtain ⟨rfl, rfl⟩ := h
            exact ⟨[], by rw [hx]; exact World.ownsRow_nil w 0 e sz, by simp [RepFlat], Ones.nil, hx⟩
          · rename_i k n hxx
            rw [hxx] at hx; simp only [Rep] at hx
            split at h <;> try (cases h; done)
            rename_i e' sz' rws ho
            split at h <;> try (cases h; done)
            rename_i hcond
            obtain ⟨rfl, rfl, hn⟩ := hcond
            simp only [Option.some.injEq, Prod.mk.injEq] at h
            obtain ⟨rfl, rfl⟩ := h
            obtain ⟨hk, hnc, hnil, hv⟩ := hx
            have hor := hob k _ hk ho
            simp only [ObjRep] at hor
            obtain ⟨h1, h2, h3, vs, h4, h5, h6⟩ := hor
            have hlen : (rws.take n).length = n := by simp; omega
            refine ⟨vs.take (n * sz'), ?_, h5.take n, h6.take _, ?_⟩
            · rw [hlen, hv]; exact ownsRow_take (ownsV_to h4 hne0) hn
            · exact ⟨lt_of ho, by rw [hlen]; exact hv, h3, h1⟩
          · cases h
        split at hc
        · rename_i e sz by_ z e' he hu'
          split at hc <;> simp only [reduceCtorEq, Option.some.injEq] at hc
          rename_i hcond
          subst hc
          obtain ⟨rfl, rfl, hzl, hszp, hne0⟩ := hcond
          obtain ⟨hut, hs, ⟨i, hi, hib, hisz⟩, hz⟩ := elemB_some he
          obtain ⟨i2, zv, hi2, hzv, hzz⟩ := zeroB_some hz
          rw [hi] at hi2; simp only [Option.some.injEq] at hi2; subst hi2
          have hzs : zv.cells.size = sz := by rw [← hzl, hzz]; simp
          simp only [VO.evW] at hr
          split at hr <;> try (cases hr; done)
          rename_i old rows rows2 hA hS
          split at hr <;> try (cases hr; done)
          rename_i hbound
          simp only [Option.some.injEq, Prod.mk.injEq] at hr
          obtain ⟨rfl, rfl⟩ := hr
          obtain ⟨olds, q1, q2, q3, q4⟩ := dest e sz old rows hne0 hA
          -- the source
          have src : ∃ news, (∀ w : World, (Builtin.lenOf (ρ a1)).run P w = .ok rows2.length w) ∧ (Builtin.firstCells sz rows2.length (ρ a1)).run P w = .ok news.toArray w ∧ (Builtin.firstCells sz rows2.length (ρ a1)).run P w.drew = .ok news.toArray w.drew ∧
              RepFlat w E.pure sz rows2 news ∧ Ones news := by
            have some_ : ∀ (b off len cap : Nat) (news : List Value), ρ a1 = .slice (some ⟨b, off, none⟩) len cap → len = rows2.length → CellsAt w b off news → RepFlat w E.pure sz rows2 news → Ones news →
                ∃ news, (∀ w : World, (Builtin.lenOf (ρ a1)).run P w = .ok rows2.length w) ∧ (Builtin.firstCells sz rows2.length (ρ a1)).run P w = .ok news.toArray w ∧ (Builtin.firstCells sz rows2.length (ρ a1)).run P w.drew = .ok news.toArray w.drew ∧
                RepFlat w E.pure sz rows2 news ∧ Ones news := by
              intro b off len cap news hv hl hc hr ho
              have hn : ∀ j u, news[j]? = some u → w.cell? ((⟨b, off, none⟩ : Addr).add j) = some u := fun j u hj => by rw [add_off]; exact hc j u hj
              refine ⟨news, fun w => by rw [hv, hl]; simp [Builtin.lenOf], ?_, ?_, hr, ho⟩
              · rw [hv]; exact run_firstCells_some (P := P) w sz rows2.length ⟨b, off, none⟩ len cap news hr.length hn
              · rw [hv]; exact run_firstCells_some (P := P) w.drew sz rows2.length ⟨b, off, none⟩ len cap news hr.length (by simpa using hn)
            have none_ : ∀ (a : Option Addr) (cap : Nat), ρ a1 = .slice a 0 cap → rows2 = [] →
                ∃ news, (∀ w : World, (Builtin.lenOf (ρ a1)).run P w = .ok rows2.length w) ∧ (Builtin.firstCells sz rows2.length (ρ a1)).run P w = .ok news.toArray w ∧ (Builtin.firstCells sz rows2.length (ρ a1)).run P w.drew = .ok news.toArray w.drew ∧
                RepFlat w E.pure sz rows2 news ∧ Ones news := by
              intro a cap hv hr
              subst hr
              refine ⟨[], fun w => by rw [hv]; simp [Builtin.lenOf], ?_, ?_, by simp [RepFlat], Ones.nil⟩ <;>
                (rw [hv]; cases a <;> simp [Builtin.firstCells, loadCells, loadCellsFrom])
            unfold srcRows at hS
            split at hS
            · rename_i s rws hyy
              rw [hyy] at hy; simp only [Rep] at hy
              split at hS <;> simp only [reduceCtorEq, Option.some.injEq] at hS
              rename_i hss
              subst hss; subst hS
              obtain ⟨ad, cap, vs, p1, p2, p3, p5, p4⟩ := hy
              rcases p4 with p4 | ⟨b, off, rfl, p6, p7, p8⟩
              · subst p4; exact none_ _ _ p1 rfl
              · exact some_ _ _ _ _ vs p1 rfl p8 p3 p5
            · rename_i k n hyy
              rw [hyy] at hy; simp only [Rep] at hy
              split at hS <;> try (cases hS; done)
              rename_i s rws ho
              split at hS <;> simp only [reduceCtorEq, Option.some.injEq] at hS
              rename_i hss
              obtain ⟨rfl, hn⟩ := hss
              subst hS
              obtain ⟨hk, hnc, hnil, hv⟩ := hy
              obtain ⟨vs, h5, h6, h7⟩ := objRows_rep hob hk ho
              have hlen : (rws.take n).length = n := by simp; omega
              rcases h6 with h6 | ⟨h6, h8⟩
              · subst h6
                simp at hn; subst hn
                exact none_ _ _ hv (by simp)
              · simp only [aval, h6, Bool.false_eq_true, if_false] at hv
                exact some_ _ _ _ _ (vs.take (n * s)) hv hlen.symm (h8.take _) (h5.take n) (h7.take _)
            · rename_i hyy
              rw [hyy] at hy; simp only [Rep] at hy
              simp only [Option.some.injEq] at hS
              exact none_ _ _ hy hS.symm
            · rename_i k s off n hyy
              rw [hyy] at hy; simp only [Rep] at hy
              split at hS <;> try (cases hS; done)
              rename_i s' rws ho
              split at hS <;> simp only [reduceCtorEq, Option.some.injEq] at hS
              rename_i hss
              obtain ⟨rfl, rfl, hn⟩ := hss
              subst hS
              obtain ⟨hk, hnil, hnc, ad, hv, had⟩ := hy
              obtain ⟨vs, h5, h6, h7⟩ := objRows_rep hob hk ho
              have hlen : ((rws.drop off).take n).length = n := by simp; omega
              by_cases hn0 : n = 0
              · subst hn0
                exact none_ _ _ hv (by simp)
              · rcases h6 with h6 | ⟨h6, h8⟩
                · subst h6
                  simp at hn; omega
                · have hao := had (by omega)
                  subst hao
                  refine some_ _ _ _ _ ((vs.drop (off * s')).take (n * s')) hv hlen.symm ?_ ((h5.drop off).take n) (fun v hv => h7 v (List.mem_of_mem_drop (List.mem_of_mem_take hv)))
                  intro j u hj
                  have hj2 : (vs.drop (off * s'))[j]? = some u := by
                    rw [List.getElem?_take] at hj
                    split at hj
                    · exact hj
                    · cases hj
                  rw [List.getElem?_drop] at hj2
                  have := h8 _ _ hj2
                  rwa [Nat.zero_add] at this
            · cases hS
          obtain ⟨news, s1, s2, s3, s4, s5⟩ := src
          have hmx : rows.length + rows2.length ≤ maxLen := by simp only [maxLen]; omega
          obtain ⟨v', w', g1, g2⟩ := append_gen (P := P) w (ty := ty) hut hut (fun k => by simp) hi hzv (v := ρ a0) (n := rows.length) (olds := olds) (by rw [hisz]; exact q1) s1 (by rw [hisz]; exact s2) (by rw [hisz]; exact s3) (by rw [hisz]; exact s4.length) s5 hmx (by rw [hib]; exact hbound.2)
          rw [hisz] at g2
          obtain ⟨E', hres⟩ := appended_sound hszp hzs (hnew (by simp [dropOb_length])) hob hf q4 q1 q2 s4 q3 s5 hmx g2
          have hat : argTypes[0]? = some t ∧ argTypes[1]? = some t := ⟨ht, hu⟩
          refine ⟨.value v', v', w', E', ?_, .inl rfl, hres⟩
          have hat2 : ∀ (v x : Value), (Builtin.append_ argTypes ty #[v, x]) = Builtin.append_ #[t, t] ty #[v, x] := by
            intro v x
            unfold Builtin.append_
            simp [hat.1, hat.2]
          simp [execOp, resolve, invoke, builtin, hat2, g1]
        · rename_i e sz by_ z he hu'
          split at hc <;> try (cases hc; done)
          rename_i heu
          split at hc <;> simp only [reduceCtorEq, Option.some.injEq] at hc
          rename_i hcond
          subst hc
          obtain ⟨rfl, rfl, hzl, hne0⟩ := hcond
          obtain ⟨hut, hs, ⟨i, hi, hib, hisz⟩, hz⟩ := elemB_some he
          obtain ⟨i2, zv, hi2, hzv, hzz⟩ := zeroB_some hz
          rw [hi] at hi2; simp only [Option.some.injEq] at hi2; subst hi2
          have hzs : zv.cells.size = 1 := by rw [← hzl, hzz]; simp
          simp only [VO.evW] at hr
          split at hr <;> try (cases hr; done)
          rename_i old rows l hA hS
          split at hr <;> try (cases hr; done)
          rename_i hbound
          simp only [Option.some.injEq, Prod.mk.injEq] at hr
          obtain ⟨rfl, rfl⟩ := hr
          obtain ⟨olds, q1, q2, q3, q4⟩ := dest e 1 old rows hne0 hA
          rw [hS] at hy; simp only [Rep] at hy
          have hbl : (bRows l).length = l.length := by simp [bRows]
          have hfirst : ∀ w : World, (Builtin.firstCells 1 (bRows l).length (ρ a1)).run P w = .ok (l.map fun c => Value.int .u8 c.toNat).toArray w := by
            intro w
            rw [hy, hbl]
            simp [Builtin.firstCells]
            first | done | (apply Array.ext'; simp [List.extract_eq_take_drop])
          have hmx : rows.length + (bRows l).length ≤ maxLen := by rw [hbl]; simp only [maxLen]; omega
          obtain ⟨v', w', g1, g2⟩ := append_gen (P := P) w (ty := ty) hut hu' (fun k => by simp) hi hzv (v := ρ a0) (n := rows.length) (olds := olds) (x := ρ a1) (m := (bRows l).length) (news := l.map fun c => Value.int .u8 c.toNat) (by rw [hisz]; exact q1)
            (fun w => by rw [hy, hbl]; simp [Builtin.lenOf]; rfl) (by rw [hisz]; exact hfirst w) (by rw [hisz]; exact hfirst w.drew) (by rw [hisz]; simp [hbl]) (by intro u hu; obtain ⟨c, _, rfl⟩ := List.mem_map.1 hu; rfl) hmx (by rw [hib, hbl]; omega)
          rw [hisz] at g2
          obtain ⟨E', hres⟩ := appended_sound (by omega) hzs (hnew (by simp [dropOb_length])) hob hf q4 q1 q2 (bRows_flat w E.pure l) q3 (by intro u hu; obtain ⟨c, _, rfl⟩ := List.mem_map.1 hu; rfl) hmx g2
          refine ⟨.value v', v', w', E', ?_, .inl rfl, hres⟩
          have hat2 : ∀ (v x : Value), (Builtin.append_ argTypes ty #[v, x]) = Builtin.append_ #[t, u] ty #[v, x] := by
            intro v x
            unfold Builtin.append_
            simp [ht, hu]
          simp [execOp, resolve, invoke, builtin, hat2, g1]
        · cases hc
      · cases hc
    · cases hc
  case makeFunc f first caps =>
    cases f <;> try (cases hc; done)
    simp only at hc
    split at hc <;> simp at hc
    subst hc; simp at hW
  case mapUpdate t m i a =>
    split at hc
    · rename_i k e M I A hu hM hI hA
      obtain ⟨kd, hkd, rfl⟩ := opt_bind hc
      obtain ⟨d, hd, hdk⟩ := keyB_some hkd
      simp only [VO.evW] at hr
      split at hr <;> try (cases hr; done)
      rename_i hcond
      have hm := H m M hM
      split at hr <;> try (cases hr; done)
      rename_i b hxm
      rw [hxm] at hm; simp only [Rep] at hm
      split at hr <;> try (cases hr; done)
      rename_i es clock ho
      obtain ⟨w', g1, g2⟩ := upd_sound hu hd hdk hm (H i I hI) hcond.1 (H a A hA) hcond.2 hob hf (lt_of ho) ho hr
      refine ⟨.skip, undef, w', E, ?_, .inr ⟨rfl, rfl⟩, g2⟩
      simp [execOp, g1]
    · cases hc
  case insert t m i a =>
    split at hc
    · rename_i k e M I A hu hM hI hA
      obtain ⟨kd, hkd, rfl⟩ := opt_bind hc
      obtain ⟨d, hd, hdk⟩ := keyB_some hkd
      simp only [VO.evW] at hr
      split at hr <;> try (cases hr; done)
      rename_i hcond
      have hm := H m M hM
      split at hr <;> try (cases hr; done)
      rename_i b hxm
      rw [hxm] at hm; simp only [Rep] at hm
      split at hr <;> try (cases hr; done)
      rename_i es clock ho
      obtain ⟨w', g1, g2⟩ := upd_sound hu hd hdk hm (H i I hI) hcond.1 (H a A hA) hcond.2 hob hf (lt_of ho) ho hr
      refine ⟨.skip, undef, w', E, ?_, .inr ⟨rfl, rfl⟩, g2⟩
      simp [execOp, g1]
    · cases hc
  all_goals
    exfalso
    rcases hW with ⟨_, _, _, rfl⟩ | ⟨_, _, _, _, _, rfl⟩ | ⟨_, _, _, rfl⟩ | ⟨_, _, _, _, rfl⟩ | ⟨_, _, _, rfl⟩ | ⟨_, _, _, rfl⟩ <;>
      (revert hc; (try simp only [copBin, copConv]); repeat' split) <;> (intro hc; simp at hc)

theorem evW_le {o : VO} {ρ : X → V} {ob ob' : List (Option VObj)} {r : V} (h : o.evW ρ ob = some (r, ob')) : ob.length ≤ ob'.length := by
  cases o <;> simp only [VO.evW, reduceCtorEq] at h
  case store =>
    repeat' split at h
    all_goals first | (cases h; done) | (simp only [Option.some.injEq, Prod.mk.injEq] at h; rw [← h.2]; simp)
  all_goals
    repeat' split at h
    all_goals first | (cases h; done) | (simp only [Option.some.injEq, Prod.mk.injEq] at h; rw [← h.2]; simp [dropOb_length])

theorem w_sound {ow : Bool} {P : Program} {o : Oper} {vo : VO} (hc : cop ow P o = some vo) {w : World} {E : Env} {x : X → V} {ρ : Operand → Value} {ob ob' : List (Option VObj)} {r : V} (H : ∀ o X, cX o = some X → Rep w E (x X) (ρ o)) (hr : vo.evW x ob = some (r, ob'))
    (hdom : ∀ k, E.dom k ↔ k < ob.length) (hob : ∀ k o, ob[k]? = some (some o) → ObjRep w E k o) (hf : ∀ b, w.heap.size ≤ b → E.lab b = .imm) :
    ∃ nx val w' E', (execOp ρ o).run P w = .ok nx w' ∧ (nx = .value val ∨ (nx = .skip ∧ val = undef)) ∧ WRes E w r ob' val w' E' := by
  obtain ⟨nx, val, w', E', h1, h2, h3⟩ := w_soundG hc H hr (fun _ => by rw [hdom]; omega) (fun k o _ => hob k o) hf
  exact ⟨nx, val, w', E', h1, h2, h3.exact hdom (evW_le hr)⟩
end Go.Proofs.VL

namespace Go.Proofs.VL
open Go Go.RowKit
set_option linter.unusedSimpArgs false
set_option linter.unusedVariables false

mutual
/-- A value as it is lent: rows of the call's own as rows that are read. -/
def lendV (ob : List (Option VObj)) : V → Option V
  | .ref k n => match objRows ob k with | some (sz, rows) => if n ≤ rows.length then some (.sl sz (rows.take n)) else none | none => none
  | .agg cs => match lendL ob cs with | some l => some (.agg l) | none => none
  | .tup cs => match lendL ob cs with | some l => some (.tup l) | none => none
  | .fn f a b => match lendL ob a, lendL ob b with | some a', some b' => some (.fn f a' b') | _, _ => none
  | .ptr k off => match ob[k]? with | some (some (.box cs)) => if cs.all idFree = true then some (.iptr (cs.drop off)) else none | _ => none
  | .eptr _ _ _ _ => none
  | .mapr _ => none
  | .refs _ _ _ _ => none
  | .junk => none
  | v => some v
def lendL (ob : List (Option VObj)) : List V → Option (List V)
  | [] => some []
  | x :: xs => match lendV ob x, lendL ob xs with | some y, some ys => some (y :: ys) | _, _ => none
end

mutual
def flatV : V → Bool
  | .bool _ | .int _ _ | .str _ | .nils | .nilp | .nilm | .nilf | .nili => true
  | .agg cs => flatL cs
  | .tup cs => flatL cs
  | _ => false
def flatL : List V → Bool
  | [] => true
  | x :: xs => flatV x && flatL xs
end

mutual
theorem flat_rep {w w' : World} {E E' : Env} : (x : V) → (v : Value) → flatV x = true → Rep w E x v → Rep w' E' x v
  | .bool _, _, _, h => h
  | .int _ _, _, _, h => h
  | .str _, _, _, h => h
  | .nils, _, _, h => h
  | .nilp, _, _, h => h
  | .nilm, _, _, h => h
  | .nilf, _, _, h => h
  | .nili, _, _, h => h
  | .agg cs, v, hf, h => by
    simp only [Rep] at h ⊢
    obtain ⟨vs, rfl, hr⟩ := h
    exact ⟨vs, rfl, flatL_rep cs vs (by simpa [flatV] using hf) hr⟩
  | .tup cs, v, hf, h => by
    simp only [Rep] at h ⊢
    obtain ⟨vs, rfl, hr⟩ := h
    exact ⟨vs, rfl, flatL_rep cs vs (by simpa [flatV] using hf) hr⟩
  | .sl _ _, _, hf, _ => by simp [flatV] at hf
  | .ref _ _, _, hf, _ => by simp [flatV] at hf
  | .ptr _ _, _, hf, _ => by simp [flatV] at hf
  | .eptr _ _ _ _, _, hf, _ => by simp [flatV] at hf
  | .iptr _, _, hf, _ => by simp [flatV] at hf
  | .fn _ _ _, _, hf, _ => by simp [flatV] at hf
  | .mapr _, _, hf, _ => by simp [flatV] at hf
  | .refs _ _ _ _, _, hf, _ => by simp [flatV] at hf
  | .junk, _, hf, _ => by simp [flatV] at hf
theorem flatL_rep {w w' : World} {E E' : Env} : (xs : List V) → (vs : List Value) → flatL xs = true → RepL w E xs vs → RepL w' E' xs vs
  | [], _, _, h => h
  | x :: xs, vs, hf, h => by
    simp only [RepL] at h ⊢
    obtain ⟨v, vs', rfl, h1, h2⟩ := h
    simp only [flatL, Bool.and_eq_true] at hf
    exact ⟨v, vs', rfl, flat_rep x v hf.1 h1, flatL_rep xs vs' hf.2 h2⟩
end

def lendable (E : Env) (k : Nat) : VObj → Prop
  | .box cs => cs.all idFree = true
  | .arr _ _ _ => E.nil k = false
  | .fro _ _ => False
  | .map _ _ => False
  | .miter _ _ _ _ => False

theorem lend_lab {w : World} {E : Env} {k : Nat} {o : VObj} (h : ObjRep w E k o) (hl : lendable E k o) : E.lab (E.blk k) = .obj k := by
  cases o with
  | box cs => exact h.1
  | arr e sz rows => exact h.2.2.1 hl
  | fro sz rows => exact hl.elim
  | map es c => exact hl.elim
  | miter m a b c => exact hl.elim

/-- What a callee that is lent rows knows of memory. -/
noncomputable def Env.lend (E : Env) (ob : List (Option VObj)) : Env :=
  { dom := fun _ => False, blk := E.blk, cap := E.cap, nil := E.nil,
    lab := fun b => @ite _ (E.lab b = .imm ∨ ∃ k o, E.dom k ∧ ob[k]? = some (some o) ∧ lendable E k o ∧ E.blk k = b) (Classical.propDecidable _) .imm .ext }

theorem lend_imm {E : Env} {ob : List (Option VObj)} {b : Nat} : (E.lend ob).lab b = .imm ↔ (E.lab b = .imm ∨ ∃ k o, E.dom k ∧ ob[k]? = some (some o) ∧ lendable E k o ∧ E.blk k = b) := by
  unfold Env.lend
  simp only
  split
  · rename_i h; exact ⟨fun _ => h, fun _ => rfl⟩
  · rename_i h; exact ⟨(fun e => by cases e), fun e => absurd e h⟩

theorem lend_or {E : Env} {ob : List (Option VObj)} (b : Nat) : (E.lend ob).lab b = .imm ∨ (E.lend ob).lab b = .ext := by
  unfold Env.lend
  simp only
  split
  · exact .inl rfl
  · exact .inr rfl

theorem iext_lend {w : World} {E : Env} (ob : List (Option VObj)) : IExt w E.pure w (E.lend ob).pure :=
  ⟨Nat.le_refl _, fun b hb h => ⟨lend_imm.2 (.inl h), rfl⟩, fun _ h => h, fun _ h => h.elim, fun _ h => h.elim, fun _ h => h.elim⟩

mutual
theorem lend_rep {w : World} {E : Env} {ob : List (Option VObj)} (hob : ∀ k o, E.dom k → ob[k]? = some (some o) → ObjRep w E k o) : (x : V) → (x' : V) → (v : Value) → lendV ob x = some x' → Rep w E x v → Rep w (E.lend ob) x' v
  | .bool _, x', v, he, h => by simp only [lendV, Option.some.injEq] at he; subst he; exact h
  | .int _ _, x', v, he, h => by simp only [lendV, Option.some.injEq] at he; subst he; exact h
  | .str _, x', v, he, h => by simp only [lendV, Option.some.injEq] at he; subst he; exact h
  | .nils, x', v, he, h => by simp only [lendV, Option.some.injEq] at he; subst he; exact h
  | .nilp, x', v, he, h => by simp only [lendV, Option.some.injEq] at he; subst he; exact h
  | .nilm, x', v, he, h => by simp only [lendV, Option.some.injEq] at he; subst he; exact h
  | .nilf, x', v, he, h => by simp only [lendV, Option.some.injEq] at he; subst he; exact h
  | .nili, x', v, he, h => by simp only [lendV, Option.some.injEq] at he; subst he; exact h
  | .sl sz rows, x', v, he, h => by
    simp only [lendV, Option.some.injEq] at he; subst he
    simp only [Rep] at h ⊢
    obtain ⟨a, cap, vs, h1, h2, h3, h4, h5⟩ := h
    refine ⟨a, cap, vs, h1, h2, RepFlat.iext (iext_lend ob) _ _ _ h3, h4, ?_⟩
    rcases h5 with h5 | ⟨b, off, p1, p2, p3, p4⟩
    · exact .inl h5
    · exact .inr ⟨b, off, p1, lend_imm.2 (.inl p2), p3, p4⟩
  | .iptr cs, x', v, he, h => by
    simp only [lendV, Option.some.injEq] at he; subst he
    simp only [Rep] at h ⊢
    obtain ⟨b, off, vs, h1, h2, h3, h4, h5⟩ := h
    exact ⟨b, off, vs, h1, lend_imm.2 (.inl h2), h3, h4, RepL.iext (iext_lend ob) _ _ h5⟩
  | .ref k n, x', v, he, h => by
    simp only [lendV] at he
    split at he <;> try (cases he; done)
    rename_i sz rows ho
    split at he <;> simp only [reduceCtorEq, Option.some.injEq] at he
    rename_i hn
    subst he
    simp only [Rep] at h ⊢
    obtain ⟨hk, hnc, hnil, rfl⟩ := h
    obtain ⟨vs, q1, q2, q3⟩ := objRows_rep hob hk ho
    have hlen : (rows.take n).length = n := by simp; omega
    refine ⟨_, _, vs.take (n * sz), by rw [aval, hlen], by rw [hlen]; exact hnc, RepFlat.iext (iext_lend ob) _ _ _ (q1.take n), q3.take _, ?_⟩
    rcases q2 with q2 | ⟨q2, q4⟩
    · left; rw [q2]; simp
    · by_cases hz : rows.take n = []
      · exact .inl hz
      · right
        refine ⟨E.blk k, 0, by rw [q2]; rfl, ?_, ?_, q4.take _⟩
        · refine lend_imm.2 ?_
          unfold objRows at ho
          split at ho
          · rename_i e s r hor
            right
            exact ⟨k, _, hk, hor, q2, rfl⟩
          · rename_i s r hor
            simp only [Option.some.injEq, Prod.mk.injEq] at ho
            obtain ⟨rfl, rfl⟩ := ho
            left
            have := hob k _ hk hor
            simp only [ObjRep] at this
            obtain ⟨_, _, vs', _, _, h8⟩ := this
            rcases h8 with h8 | h8
            · rw [h8] at hz; simp at hz
            · exact h8.2.1
          · cases ho
        · have hpos : 0 < n := by
            rcases Nat.eq_zero_or_pos n with h0 | h0
            · subst h0; simp at hz
            · exact h0
          unfold objRows at ho
          split at ho
          · rename_i e s r hor
            have := hob k _ hk hor
            simp only [ObjRep] at this
            obtain ⟨_, _, _, vs', hown, _⟩ := this
            rcases hown.2 with ⟨hav, _⟩ | ⟨g, c, cur, hav, _, ⟨te, fr, hh, _⟩, _⟩
            · simp [aval, q2] at hav
            · simp [aval, q2] at hav
              rw [hav.1]; exact block_lt hh
          · rename_i s r hor
            simp only [Option.some.injEq, Prod.mk.injEq] at ho
            obtain ⟨rfl, rfl⟩ := ho
            have := hob k _ hk hor
            simp only [ObjRep] at this
            obtain ⟨_, _, vs', _, _, h8⟩ := this
            rcases h8 with h8 | h8
            · rw [h8] at hz; simp at hz
            · exact h8.2.2.1
          · cases ho
  | .agg cs, x', v, he, h => by
    simp only [lendV] at he
    split at he <;> simp only [reduceCtorEq, Option.some.injEq] at he
    rename_i l hl
    subst he
    simp only [Rep] at h ⊢
    obtain ⟨vs, rfl, hr⟩ := h
    exact ⟨vs, rfl, lendL_rep hob cs l vs hl hr⟩
  | .tup cs, x', v, he, h => by
    simp only [lendV] at he
    split at he <;> simp only [reduceCtorEq, Option.some.injEq] at he
    rename_i l hl
    subst he
    simp only [Rep] at h ⊢
    obtain ⟨vs, rfl, hr⟩ := h
    exact ⟨vs, rfl, lendL_rep hob cs l vs hl hr⟩
  | .fn f a b, x', v, he, h => by
    simp only [lendV] at he
    split at he <;> simp only [reduceCtorEq, Option.some.injEq] at he
    rename_i a' b' ha hb
    subst he
    simp only [Rep] at h ⊢
    obtain ⟨p, q, rfl, h1, h2⟩ := h
    exact ⟨p, q, rfl, lendL_rep hob a a' p ha h1, lendL_rep hob b b' q hb h2⟩
  | .ptr k off, x', v, he, h => by
    simp only [lendV] at he
    split at he <;> try (cases he; done)
    rename_i cs ho
    split at he <;> simp only [reduceCtorEq, Option.some.injEq] at he
    rename_i hfree
    subst he
    simp only [Rep] at h ⊢
    obtain ⟨hk, rfl⟩ := h
    have hor := hob k _ hk ho
    simp only [ObjRep] at hor
    obtain ⟨hl, c, e, hh, hrl⟩ := hor
    refine ⟨E.blk k, off, c.drop off, rfl, lend_imm.2 (.inr ⟨k, _, hk, ho, hfree, rfl⟩), block_lt hh, ?_, RepL.iext (iext_lend ob) _ _ ((repL_pure hfree hrl).drop off)⟩
    intro j v hj
    rw [List.getElem?_drop] at hj
    have hjl := (List.getElem?_eq_some_iff.1 hj).1
    simp only [World.cell?, hh]
    simpa using hj
  | .eptr _ _ _ _, x', v, he, h => by simp [lendV] at he
  | .mapr _, x', v, he, h => by simp [lendV] at he
  | .refs _ _ _ _, x', v, he, h => by simp [lendV] at he
  | .junk, x', v, he, h => by simp [lendV] at he
theorem lendL_rep {w : World} {E : Env} {ob : List (Option VObj)} (hob : ∀ k o, E.dom k → ob[k]? = some (some o) → ObjRep w E k o) : (xs : List V) → (ys : List V) → (vs : List Value) → lendL ob xs = some ys → RepL w E xs vs → RepL w (E.lend ob) ys vs
  | [], ys, vs, he, h => by simp only [lendL, Option.some.injEq] at he; subst he; exact h
  | x :: xs, ys, vs, he, h => by
    simp only [lendL] at he
    split at he <;> simp only [reduceCtorEq, Option.some.injEq] at he
    rename_i y ys' h1 h2
    subst he
    simp only [RepL] at h ⊢
    obtain ⟨v, vs', rfl, h3, h4⟩ := h
    exact ⟨v, vs', rfl, lend_rep hob x y v h1 h3, lendL_rep hob xs ys' vs' h2 h4⟩
end

def Enter (P : Program) (f : FuncId) : Prop := ∃ fn, P.funcs[f]? = some fn ∧ fn.body.isNone = false ∧ (fn.name == "runtime.NumGoroutine") = false

/-- What a call of a function comes to: values in, objects in; a value, and objects. -/
def VCall (P : Program) (f : FuncId) (args : List V) (ob : List (Option VObj)) (r : V) (ob' : List (Option VObj)) : Prop :=
  Enter P f ∧ ∀ (w : World) (E : Env) (vs : List Value), (∀ k, E.dom k ↔ k < ob.length) → (∀ k o, ob[k]? = some (some o) → ObjRep w E k o) → (∀ b, w.heap.size ≤ b → E.lab b = .imm) → RepL w E args vs →
    Calls P f ⟨vs⟩ w fun e w' => ∃ v E', e = .returned v ∧ WRes E w r ob' v w' E'

/-- A call of values alone. -/
def VFn (P : Program) (f : FuncId) (args : List V) (r : V) : Prop := VCall P f args [] r []

/-- A call in a frame that only reads: rows of the frame's own are lent, or there are none. -/
def CallR (P : Program) (ob : List (Option VObj)) (g : FuncId) (vs : List V) (r : V) : Prop :=
  ∃ as, (lendL [] vs = some as ∨ (lendL ob vs = some as ∧ flatV r = true)) ∧ VFn P g as r

theorem callR_sound {P : Program} {ob : List (Option VObj)} {g : FuncId} {xs : List V} {r : V} (h : CallR P ob g xs r) {w : World} {E : Env} {vs : List Value} (hr : RepL w E xs vs) (hob : ∀ k o, E.dom k → ob[k]? = some (some o) → ObjRep w E k o) (hf : ∀ b, w.heap.size ≤ b → E.lab b = .imm) :
    Calls P g ⟨vs⟩ w fun e w' => ∃ v E', e = .returned v ∧ RRes P E w ob r [] v w' E' := by
  obtain ⟨as, hl, hE, hcall⟩ := h
  have go : ∀ (ob1 : List (Option VObj)), (∀ k o, E.dom k → ob1[k]? = some (some o) → ObjRep w E k o) → lendL ob1 xs = some as → (flatV r = true ∨ ob1 = []) →
      Calls P g ⟨vs⟩ w fun e w' => ∃ v E', e = .returned v ∧ RRes P E w ob r [] v w' E' := by
    intro ob1 hob1 hl1 hfl
    have hrep := lendL_rep hob1 xs as vs hl1 hr
    refine (hcall w (E.lend ob1) vs (fun k => by simp [Env.lend]) (fun k o h => by simp at h) (fun b hb => lend_imm.2 (.inl (hf b hb))) hrep).mono ?_
    rintro e w' ⟨v, E1, rfl, hres⟩
    have hsame : ∀ b, b < w.heap.size → w'.heap[b]? = w.heap[b]? := by
      intro b hb
      rcases lend_or (E := E) (ob := ob1) b with hl | hl
      · exact (hres.ext.imm b hb hl).2
      · exact (hres.ext.ext b hb hl).2
    let E' : Env := { E with lab := fun b => if b < w.heap.size then E.lab b else if E1.lab b = .imm then .imm else .ext }
    have hx : RExt w E w' E' := ⟨hres.ext.os, hres.ext.tape, hres.ext.output, hres.ext.size, hsame, fun b hb => if_pos hb, fun _ h => h, fun _ _ => rfl, fun _ _ => rfl, fun _ _ => rfl⟩
    refine ⟨v, E', rfl, hx, fun k => by show E.dom k ↔ _; simp; omega, ?_, fun j o h => by simp at h, ?_⟩
    · rcases hfl with hfl | hfl
      · exact flat_rep r v hfl hres.rep
      · subst hfl
        refine Rep.iext ⟨Nat.le_refl _, ?_, ?_, ?_, ?_, ?_⟩ r v hres.rep
        · intro b hb hlb
          refine ⟨?_, rfl⟩
          show (if _ then _ else _) = _
          split
          · rename_i hbw
            rcases lend_or (E := E) (ob := []) b with hl | hl
            · rcases lend_imm.1 hl with h | ⟨k, o, _, h, _⟩
              · exact h
              · simp at h
            · have := (hres.ext.ext b hbw hl).1
              rw [this] at hlb; cases hlb
          · first | rfl | rw [if_pos hlb]
        all_goals
          intro k hk
          have := (hres.dom k).1 hk
          simp at this
    · intro b hb
      show (if _ then _ else _) = _
      rw [if_neg (by have := hres.ext.size; omega)]; first | rw [if_pos (hres.fresh b hb)] | (simp [hres.fresh b hb])
  rcases hl with hl | ⟨hl, hfl⟩
  · exact go [] (fun k o _ h => by simp at h) hl (.inr rfl)
  · exact go ob hob hl (.inl hfl)
end Go.Proofs.VL

namespace Go.Proofs.VL
open Go Go.RowKit
set_option linter.unusedSimpArgs false
set_option linter.unusedVariables false

structure VOper where
  dst : Option Nat
  op : VO
  guard : Option (Nat × Bool)

/-- What an iterator may tell next, and the objects then: the entry that is next is drawn. -/
def nxtV (ρ : X → V) (ob : List (Option VObj)) (x : X) : Option (List (V × List (Option VObj))) :=
  match ρ x with
  | .ptr r 0 => match ob[r]? with
    | some (some (.miter none _ _ _)) => some [(.tup [.bool false], ob)]
    | some (some (.miter (some k) since seen last)) => match ob[k]? with
      | some (some (.map es clock)) =>
        if es.all (fun e => decide (e.1 < since)) = true ∧ since ≤ last then
          match es.filter fun e => !seen.contains e.1 with
          | [] => some [(.tup [.bool false], ob)]
          | left => some (left.map fun e => (.tup [.bool true, e.2.1, e.2.2], ob.set r (some (.miter (some k) since (seen ++ [e.1]) clock))))
        else none
      | _ => none
    | _ => none
  | _ => none

/-- What the entry is that an iterator has come to. -/
def entV (ρ : X → V) (ob : List (Option VObj)) (x : X) : Option V :=
  match ρ x with
  | .ptr r 0 => match ob[r]? with
    | some (some (.miter (some k) _ seen last)) => match ob[k]? with
      | some (some (.map es clock)) => if clock = last then
          match seen.getLast? with
          | some b => (es.find? fun e => e.1 == b).map fun e => .tup [e.2.1, e.2.2]
          | none => none
        else none
      | _ => none
    | _ => none
  | _ => none

/-- An operation, carried out: its value, and the objects. -/
def VO.step (P : Program) (o : VO) (ρ : X → V) (ob : List (Option VObj)) (K : V → List (Option VObj) → Prop) : Prop :=
  match o with
  | .call f args => match ρ f with
    | .fn g first caps => ∃ r ob', VCall P g (first ++ args.map ρ ++ caps) ob r ob' ∧ K r ob'
    | _ => False
  | .store sz a x => match VO.evW (.store sz a x) ρ ob with | some (v, ob') => K v ob' | none => False
  | .app e sz b x y => match VO.evW (.app e sz b x y) ρ ob with | some (v, ob') => K v ob' | none => False
  | .apps e x y => match VO.evW (.apps e x y) ρ ob with | some (v, ob') => K v ob' | none => False
  | .upd kd m k x => match VO.evW (.upd kd m k x) ρ ob with | some (v, ob') => K v ob' | none => False
  | .del kd m k => match VO.evW (.del kd m k) ρ ob with | some (v, ob') => K v ob' | none => False
  | .clr s z x => match VO.evW (.clr s z x) ρ ob with | some (v, ob') => K v ob' | none => False
  | .nxt x => match nxtV ρ ob x with | some l => ∀ p ∈ l, K p.1 p.2 | none => False
  | .ent x => match entV ρ ob x with | some v => K v ob | none => False
  | .eqn kd neg x y => match VO.evR (.eqn kd neg x y) ρ ob with | some (v, news) => K v (ob ++ news.map some) | none => (kd = .s ∧ unkS (ρ x) (ρ y) = true) ∧ K (.bool true) ob ∧ K (.bool false) ob
  | o => match o.evR ρ ob with | some (v, news) => K v (ob ++ news.map some) | none => False

def VOper.step (P : Program) (o : VOper) (s : St) (K : St → Prop) : Prop :=
  match o.guard with
  | none => o.op.step P s.x s.ob fun v ob' => K (({ s with ob := ob' } : St).putO o.dst v)
  | some (t, want) => match s.get t with
    | .bool b => if b = want then o.op.step P s.x s.ob fun v ob' => K (({ s with ob := ob' } : St).putO o.dst v) else K (s.putO o.dst (.tup []))
    | .tup [] => K (s.putO o.dst (.tup []))
    | _ => False

def vops (P : Program) : List VOper → St → (St → Prop) → Prop
  | [], s, K => K s
  | o :: os, s, K => o.step P s fun s' => vops P os s' K

/-- The state says so of the frame. -/
def Good (w0 : World) (E0 : Env) (nt : Nat) (K : St → Prop) (a : Act) (w : World) : Prop := ∃ s E, K s ∧ Rel w0 E0 nt s a w E

theorem WRes.rel {w0 w w' : World} {E0 E E' : Env} {nt : Nat} {s : St} {a : Act} {r : V} {ob' : List (Option VObj)} {val : Value} (hr : Rel w0 E0 nt s a w E) (h : WRes E w r ob' val w' E') {d : Option Nat} (hd : ∀ t, d = some t → t < nt) :
    Rel w0 E0 nt (({ s with ob := ob' } : St).putO d r) (a.put d val) w' E' :=
  hr.put h.ext h.dom h.objs h.fresh hd h.rep

theorem RRes.w {P : Program} {E E' : Env} {w w' : World} {ob : List (Option VObj)} {r : V} {news : List VObj} {val : Value} (hdom : ∀ k, E.dom k ↔ k < ob.length) (hob : ∀ k o, ob[k]? = some (some o) → ObjRep w E k o) (h : RRes P E w ob r news val w' E') : WRes E w r (ob ++ news.map some) val w' E' where
  ext := h.ext.ext
  dom := fun k => by rw [h.dom, hdom]; simp; omega
  rep := h.rep
  objs := fun k o hk => by
    rcases Nat.lt_or_ge k ob.length with h' | h'
    · rw [List.getElem?_append_left h'] at hk
      exact (hob k o hk).rext h.ext ((hdom k).2 h')
    · rw [List.getElem?_append_right h'] at hk
      simp only [List.getElem?_map, Option.map_eq_some_iff] at hk
      obtain ⟨o', ho, he⟩ := hk
      injection he with he
      subst he
      have := h.objs _ _ ho
      rwa [show ob.length + (k - ob.length) = k by omega] at this
  fresh := h.fresh

theorem CallR.call {P : Program} {ob : List (Option VObj)} {g : FuncId} {vs : List V} {r : V} (h : CallR P ob g vs r) : VCall P g vs ob r ob := by
  have hE : Enter P g := by obtain ⟨_, _, h, _⟩ := h; exact h
  refine ⟨hE, fun w E vals hdom hob hf hr => (callR_sound h hr (fun k o _ => hob k o) hf).mono ?_⟩
  rintro e w' ⟨v, E', rfl, hres⟩
  have := hres.w hdom hob
  simp only [List.map_nil, List.append_nil] at this
  exact ⟨v, E', rfl, this⟩

theorem exec_call {P : Program} {w : World} {ρ : Operand → Value} {dst : Option Tmp} {f : Operand} {args : Array Operand} {ats : Array TypeId} {ty : TypeId} {pos : String} {after : Array Edge} {guard : Option (Nat × Bool)} {g : FuncId} {a b : List Value}
    (hf : ρ f = .func (.func g) ⟨a⟩ ⟨b⟩) (hE : Enter P g) : (execOp ρ ⟨dst, .call ⟨.value f, args, ats⟩, ty, pos, after, guard⟩).run P w = .ok (.enter g ⟨a ++ args.toList.map ρ ++ b⟩) w := by
  obtain ⟨fn, h1, h2, h3⟩ := hE
  have hargs : (⟨a⟩ : Array Value) ++ args.map ρ ++ ⟨b⟩ = ⟨a ++ args.toList.map ρ ++ b⟩ := by apply Array.ext'; simp
  simp only [execOp, resolve, hf, Deferred.ofValue, pure_bind, invoke, callFunc, Sem.run_bind, run_program, Result.andThen_ok, h1, h3, h2, Bool.false_eq_true, if_false, Sem.run_pure, hargs]

def dstOk (nt : Nat) : Option Nat → Bool
  | some t => decide (t < nt)
  | none => true

/-- Is it appended to, in the same region? -/
def isApp (d : Nat) (o : Oper) : Bool :=
  match o.op with
  | .call c => match c.callee, c.args.toList with
    | .builtin .append, .tmp t :: _ => t == d
    | _, _ => false
  | _ => false

def ownIn (ops : List Oper) : Option Nat → Bool
  | some d => ops.any (isApp d)
  | none => false

/-- Is what an operation makes among those that are to be own? -/
def ownF (fo : List Nat) (ops : List Oper) : Option Nat → Bool
  | some d => fo.contains d || ownIn ops (some d)
  | none => ownIn ops none

def cOper (fo : List Nat) (P : Program) (nt : Nat) (ops : List Oper) (o : Oper) : Option VOper :=
  match cop (ownF fo ops o.dst) P o with
  | some vo =>
    if dstOk nt o.dst = true then
      match o.guard with
      | none => some ⟨o.dst, vo, none⟩
      | some (j, want) => match (ops[j]?).bind (·.dst) with
        | some t => some ⟨o.dst, vo, some (t, want)⟩
        | none => none
    else none
  | none => none

theorem eqn_shape {ow : Bool} {P : Program} {o : Oper} {neg : Bool} {A B : X} (hc : cop ow P o = some (.eqn .s neg A B)) :
    ∃ dst bop t a b yt ty pos after guard, o = ⟨dst, .binOp bop t a b yt, ty, pos, after, guard⟩ ∧ cX a = some A ∧ cX b = some B ∧ bop = (if neg then .neq else .eql) ∧ nkOk P t .s := by
  obtain ⟨dst, op, ty, pos, after, guard⟩ := o
  unfold cop at hc
  cases op <;> simp only [reduceCtorEq] at hc
  case binOp bop t a b yt =>
    split at hc <;> try (cases hc; done)
    rename_i A' B' hA hB
    unfold copBin at hc
    split at hc
    · simp at hc
    · simp at hc
    · split at hc <;> simp at hc
    · rename_i e hu
      split at hc <;> simp only [Option.some.injEq, VO.eqn.injEq, reduceCtorEq] at hc
      · obtain ⟨_, rfl, rfl, rfl⟩ := hc
        exact ⟨_, _, _, _, _, _, _, _, _, _, rfl, hA, hB, rfl, _, hu⟩
      · obtain ⟨_, rfl, rfl, rfl⟩ := hc
        exact ⟨_, _, _, _, _, _, _, _, _, _, rfl, hA, hB, rfl, _, hu⟩
    · split at hc <;> simp at hc
    · split at hc <;> simp at hc
    · split at hc <;> simp at hc
    · split at hc <;> try (cases hc; done)
      split at hc <;> try (cases hc; done)
      split at hc <;> simp at hc
    · cases hc
  all_goals
    exfalso
    revert hc
    (try simp only [copConv])
    repeat' split
    all_goals (intro hc; first | contradiction | (simp at hc; done) | (obtain ⟨_, _, hc⟩ := opt_bind hc; simp at hc; done) | (cases hc; done))

theorem MapRep.mem {w : World} {E : Env} : ∀ {es : List (Nat × V × V)} {ms : List MapEntry}, MapRep w E es ms → ∀ m ∈ ms, ∃ e ∈ es, m.born = e.1 ∧ Rep w E e.2.1 m.key ∧ Rep w E e.2.2 m.val
  | [], ms, h, m, hm => by simp only [MapRep] at h; subst h; simp at hm
  | e :: es, ms, h, m, hm => by
    simp only [MapRep] at h
    obtain ⟨m0, ms', rfl, h1, h2, h3, h4⟩ := h
    rcases List.mem_cons.1 hm with rfl | hm
    · exact ⟨e, by simp, h1, h2, h3⟩
    · obtain ⟨e', q1, q2⟩ := MapRep.mem h4 m hm
      exact ⟨e', by simp [q1], q2⟩
theorem MapRep.filter {w : World} {E : Env} (p : Nat → Bool) : ∀ {es : List (Nat × V × V)} {ms : List MapEntry}, MapRep w E es ms → MapRep w E (es.filter fun e => p e.1) (ms.filter fun m => p m.born)
  | [], ms, h => by simp only [MapRep] at h; subst h; rfl
  | e :: es, ms, h => by
    simp only [MapRep] at h
    obtain ⟨m, ms', rfl, h1, h2, h3, h4⟩ := h
    have := MapRep.filter p h4
    simp only [List.filter_cons, h1]
    cases p e.1 with
    | true => exact ⟨m, _, rfl, h1, h2, h3, this⟩
    | false => exact this

theorem nxt_sound {P : Program} {w : World} {E : Env} {ob : List (Option VObj)} {x : X → V} {X0 : X} {v : Value} {ty : TypeId} {l : List (V × List (Option VObj))} (hv : Rep w E (x X0) v) (hdom : ∀ k, E.dom k ↔ k < ob.length)
    (hob : ∀ k o, ob[k]? = some (some o) → ObjRep w E k o) (hf : ∀ b, w.heap.size ≤ b → E.lab b = .imm) (h : nxtV x ob X0 = some l) :
    ∃ p ∈ l, ∃ val w', (Instr.next v false ty).run P w = .ok val w' ∧ WRes E w p.1 p.2 val w' E := by
  unfold nxtV at h
  split at h <;> try (cases h; done)
  rename_i r hx
  rw [hx] at hv; simp only [Rep] at hv
  obtain ⟨hr, rfl⟩ := hv
  have old : ∀ {w1 : World}, (w1 = w ∨ w1 = w.drew) → ∀ {V0 : V} {val : Value}, Rep w E V0 val → WRes E w V0 ob val w1 E := by
    intro w1 hw V0 val hrep
    have hext : RExt w E w1 E := by rcases hw with rfl | rfl; exact RExt.refl _ _; exact RExt.drew _ _
    refine ⟨hext.ext, hdom, Rep.ext hext.ext _ _ hrep, fun k o hk => (hob k o hk).rext hext ?_, ?_⟩
    · rw [hdom]; exact (List.getElem?_eq_some_iff.1 hk).1
    · rcases hw with rfl | rfl <;> exact hf
  split at h <;> try (cases h; done)
  · rename_i a b c ho
    simp only [Option.some.injEq] at h
    subst h
    have hor := hob r _ ho
    simp only [ObjRep, Option.map_none] at hor
    obtain ⟨hl, _, hh⟩ := hor
    refine ⟨_, List.mem_singleton.2 rfl, .tuple #[.bool false], w, ?_, old (.inl rfl) ⟨_, rfl, _, _, rfl, rfl, rfl⟩⟩
    simp [Instr.next, getObj, Sem.run, hh]
  · rename_i k since seen last ho
    have hor := hob r _ ho
    simp only [ObjRep, Option.map_some] at hor
    obtain ⟨hl, hkd, hh⟩ := hor
    have hk := hkd k rfl
    split at h <;> try (cases h; done)
    rename_i es clock hok
    have horm := hob k _ hok
    simp only [ObjRep] at horm
    obtain ⟨hlm, ms, hhm, hmr⟩ := horm
    split at h <;> try (cases h; done)
    rename_i hcond
    obtain ⟨hc1, hc2⟩ := hcond
    have hold : ∀ m ∈ ms.toList, m.born < since := by
      intro m hm
      obtain ⟨e, he, hb, _⟩ := MapRep.mem hmr m hm
      have := List.all_eq_true.1 hc1 e he
      rw [hb]; simpa using this
    have hleft : MapRep w E.pure (es.filter fun e => !seen.contains e.1) (leftOf ms ⟨seen⟩).toList := by
      have := MapRep.filter (fun n => !seen.contains n) hmr
      unfold leftOf
      rw [Array.toList_filter]
      simpa using this
    rcases run_next_at (P := P) w ty (E.blk r) (E.blk k) since last ⟨seen⟩ ms clock hh hhm hold hc2 with ⟨h0, hrun⟩ | ⟨e, he, w1, hw1, hrun⟩
    · have hnil : (es.filter fun e => !seen.contains e.1) = [] := by
        have := hleft.length
        simp only [Array.length_toList, h0] at this
        exact List.eq_nil_of_length_eq_zero this.symm
      rw [hnil] at h
      simp only [Option.some.injEq] at h
      subst h
      exact ⟨_, List.mem_singleton.2 rfl, _, w, hrun, old (.inl rfl) ⟨_, rfl, _, _, rfl, rfl, rfl⟩⟩
    · obtain ⟨q, hq, q1, q2, q3⟩ := MapRep.mem hleft e he
      have hl' : l = (es.filter fun e => !seen.contains e.1).map fun e => (.tup [.bool true, e.2.1, e.2.2], ob.set r (some (.miter (some k) since (seen ++ [e.1]) clock))) := by
        split at h
        · rename_i hnil; rw [hnil] at hq; simp at hq
        · rename_i left hne hleq
          simp only [Option.some.injEq] at h
          exact h.symm
      rw [hl']
      refine ⟨_, List.mem_map.2 ⟨q, hq, rfl⟩, _, _, hrun, ?_⟩
      have hrl : r < ob.length := (hdom r).1 hr
      have hext : RExt w E w1 E := by rcases hw1 with rfl | rfl; exact RExt.refl _ _; exact RExt.drew _ _
      have hx' : Ext w1 E (World.setMap w1 (E.blk r) (.mapIter (some (E.blk k)) since ((⟨seen⟩ : Array Nat).push e.born) clock)) E := setMap_ext _ hl
      have hh1 : w1.heap[E.blk r]? = some (.mapIter (some (E.blk k)) since ⟨seen⟩ last) := by rcases hw1 with rfl | rfl <;> exact hh
      have hob1 : ∀ k o, E.dom k → ob[k]? = some (some o) → ObjRep w1 E k o := fun k o hk hko => (hob k o hko).rext hext hk
      refine ⟨hext.ext.trans hx', by intro j; rw [hdom]; simp, ?_, ?_, fun b hb => ?_⟩
      · have q2' := Rep.ext (hext.ext.trans hx') _ _ (rep_up q2)
        have q3' := Rep.ext (hext.ext.trans hx') _ _ (rep_up q3)
        exact ⟨_, rfl, _, _, rfl, rfl, _, _, rfl, q2', _, _, rfl, q3', rfl⟩
      · intro j o hj
        refine set_objs hob1 hx' (fun b' hne => setMap_other _ hne) hl hrl ?_ j o ?_ hj
        · simp only [ObjRep]
          refine ⟨hl, hkd, ?_⟩
          rw [setMap_at _ hh1]
          simp [q1]
        · rw [hdom]
          have := (List.getElem?_eq_some_iff.1 hj).1
          simpa using this
      · have hsz : w1.heap.size = w.heap.size := by rcases hw1 with rfl | rfl <;> rfl
        exact hf b (by simpa [World.setMap, ChangeMaps.setBlock, hsz] using hb)

theorem MapRep.find {w : World} {E : Env} (b : Nat) : ∀ {es : List (Nat × V × V)} {ms : List MapEntry}, MapRep w E es ms → ∀ {e}, es.find? (fun e => e.1 == b) = some e → ∃ m, ms.find? (·.born == b) = some m ∧ Rep w E e.2.1 m.key ∧ Rep w E e.2.2 m.val
  | [], ms, h, e, he => by simp at he
  | x :: es, ms, h, e, he => by
    simp only [MapRep] at h
    obtain ⟨m, ms', rfl, h1, h2, h3, h4⟩ := h
    simp only [List.find?_cons] at he ⊢
    rw [h1]
    cases hb : x.1 == b with
    | true =>
      rw [hb] at he
      simp only [Option.some.injEq] at he
      subst he
      exact ⟨m, rfl, h2, h3⟩
    | false =>
      rw [hb] at he
      exact MapRep.find b h4 he

theorem ent_sound {P : Program} {w : World} {E : Env} {ob : List (Option VObj)} {x : X → V} {X0 : X} {v : Value} {r : V} (hv : Rep w E (x X0) v)
    (hob : ∀ k o, ob[k]? = some (some o) → ObjRep w E k o) (h : entV x ob X0 = some r) : ∃ val, (Instr.entry v).run P w = .ok val w ∧ Rep w E r val := by
  unfold entV at h
  split at h <;> try (cases h; done)
  rename_i q hx
  rw [hx] at hv; simp only [Rep] at hv
  obtain ⟨hr, rfl⟩ := hv
  split at h <;> try (cases h; done)
  rename_i k since seen last ho
  have hor := hob q _ ho
  simp only [ObjRep, Option.map_some] at hor
  obtain ⟨hl, hkd, hh⟩ := hor
  split at h <;> try (cases h; done)
  rename_i es clock hok
  have horm := hob k _ hok
  simp only [ObjRep] at horm
  obtain ⟨hlm, ms, hhm, hmr⟩ := horm
  split at h <;> try (cases h; done)
  rename_i hc
  subst hc
  split at h <;> try (cases h; done)
  rename_i b hlast
  obtain ⟨e, he, rfl⟩ := opt_bind h
  obtain ⟨m, h1, h2, h3⟩ := MapRep.find b hmr he
  have hf : ms.find? (·.born == b) = some m := by rw [← Array.find?_toList]; exact h1
  have hback : (⟨seen⟩ : Array Nat).back? = some b := by rw [Array.back?_eq_getElem?]; simpa [List.getLast?_eq_getElem?] using hlast
  refine ⟨.tuple #[m.key, m.val], ?_, _, rfl, _, _, rfl, rep_up h2, _, _, rfl, rep_up h3, rfl⟩
  simp [Instr.entry, getObj, Sem.run, hh, hhm, hback, hf]

theorem vo_sound {ow : Bool} {P : Program} {o : Oper} {vo : VO} (hc : cop ow P o = some vo) {w0 w : World} {E0 E : Env} {nt : Nat} {s : St} {a : Act} {Q : Exit → Act → World → Prop} {K : St → Prop} (hd : ∀ t, o.dst = some t → t < nt) (hr : Rel w0 E0 nt s a w E)
    (h : vo.step P s.x s.ob fun v ob' => K (({ s with ob := ob' } : St).putO o.dst v)) : o.wp P a w (Good w0 E0 nt K) Q := by
  have hH : ∀ op X, cX op = some X → Rep w E (s.x X) (a.eval op) := fun op X hX => hr.x hX
  have hwr : ∀ {v ob'}, vo.evW s.x s.ob = some (v, ob') → K (({ s with ob := ob' } : St).putO o.dst v) → o.wp P a w (Good w0 E0 nt K) Q := by
    intro v ob' he hk
    obtain ⟨nx, val, w', E', h1, h2, h3⟩ := w_sound hc hH he hr.dom hr.objs hr.fresh
    unfold Oper.wp
    rw [h1]
    rcases h2 with rfl | ⟨rfl, rfl⟩
    · exact ⟨_, E', hk, h3.rel hr hd⟩
    · exact ⟨_, E', hk, h3.rel hr hd⟩
  have hrd : ∀ {v news}, vo.evR s.x s.ob = some (v, news) → K (({ s with ob := s.ob ++ news.map some } : St).putO o.dst v) → o.wp P a w (Good w0 E0 nt K) Q := by
    intro v news he hk
    obtain ⟨val, w', E', h1, h2⟩ := r_sound hc hH he (fun k o _ => hr.objs k o) hr.fresh (fun _ => by rw [hr.dom]; omega)
    unfold Oper.wp
    rw [h1]
    exact ⟨_, E', hk, (h2.w hr.dom hr.objs).rel hr hd⟩
  unfold VO.step at h
  split at h
  · rename_i f args
    split at h <;> try (exact h.elim)
    rename_i g first caps hg
    obtain ⟨r, ob', hcall, hk⟩ := h
    obtain ⟨dst, op, ty, pos, after, guard⟩ := o
    unfold cop at hc
    cases op <;> simp only [reduceCtorEq] at hc
    case call c =>
      obtain ⟨callee, as, ats⟩ := c
      simp only at hc
      split at hc
      · rename_i fo xs hxs
        obtain ⟨F, hF, he⟩ := opt_bind hc
        simp only [VO.call.injEq] at he
        obtain ⟨rfl, rfl⟩ := he
        have hf := hH fo F hF
        rw [hg] at hf
        simp only [Rep] at hf
        obtain ⟨p, q, hpq, hp, hq⟩ := hf
        have hargs := RepL.cXs (P := P) hH hxs
        have hall := (hp.append hargs).append hq
        unfold Oper.wp
        rw [exec_call hpq hcall.1]
        refine (hcall.2 w E _ hr.dom hr.objs hr.fresh hall).mono ?_
        rintro e w' ⟨v, E', rfl, hres⟩
        exact ⟨_, E', hk, hres.rel hr hd⟩
      all_goals
        exfalso
        revert hc
        repeat' split
        all_goals (intro hc; first | contradiction | (simp at hc; done) | (obtain ⟨_, _, hc⟩ := opt_bind hc; simp at hc; done) | (cases hc; done))
    case makeFunc f' first' caps' =>
      cases f' <;> try (cases hc; done)
      simp only at hc
      split at hc <;> simp at hc
    all_goals
      exfalso
      revert hc
      (try simp only [copBin, copConv])
      repeat' split
      all_goals (intro hc; simp at hc)
  · split at h <;> try (exact h.elim)
    exact hwr ‹_› h
  · split at h <;> try (exact h.elim)
    exact hwr ‹_› h
  · split at h <;> try (exact h.elim)
    exact hwr ‹_› h
  · split at h <;> try (exact h.elim)
    exact hwr ‹_› h
  · split at h <;> try (exact h.elim)
    exact hwr ‹_› h
  · split at h <;> try (exact h.elim)
    exact hwr ‹_› h
  · rename_i X0
    split at h <;> try (exact h.elim)
    rename_i l hl
    obtain ⟨dst, op, ty, pos, after, guard⟩ := o
    have hop : ∃ a, op = .next a false ∧ cX a = some X0 := by
      unfold cop at hc
      cases op <;> simp only [reduceCtorEq] at hc
      case next a q =>
        split at hc
        · cases hc
        · rename_i hq
          obtain ⟨X, hX, he⟩ := opt_bind hc
          simp only [VO.nxt.injEq] at he
          subst he
          exact ⟨a, by simp at hq; rw [hq], hX⟩
      case call c =>
        obtain ⟨callee, as, ats⟩ := c
        simp only at hc
        repeat' split at hc
        all_goals first | (cases hc; done) | (simp at hc; done) | (obtain ⟨_, _, hc⟩ := opt_bind hc; simp at hc; done)
      all_goals
        exfalso
        revert hc
        (try simp only [copBin, copConv])
        repeat' split
        all_goals (intro hc; first | contradiction | (simp at hc; done) | (obtain ⟨_, _, hc⟩ := opt_bind hc; simp at hc; done) | (cases hc; done))
    obtain ⟨a0, rfl, hX⟩ := hop
    obtain ⟨p, hp, val, w', h1, h2⟩ := nxt_sound (P := P) (ty := ty) (hH _ _ hX) hr.dom hr.objs hr.fresh hl
    have hrun : (execOp a.eval ⟨dst, .next a0 false, ty, pos, after, guard⟩).run P w = .ok (.value val) w' := exec_value2 rfl h1
    unfold Oper.wp
    rw [hrun]
    exact ⟨_, E, h p hp, h2.rel hr hd⟩
  · rename_i X0
    split at h <;> try (exact h.elim)
    rename_i v hl
    obtain ⟨dst, op, ty, pos, after, guard⟩ := o
    have hop : ∃ a, op = .entry a ∧ cX a = some X0 := by
      unfold cop at hc
      cases op <;> simp only [reduceCtorEq] at hc
      case entry a =>
        obtain ⟨X, hX, he⟩ := opt_bind hc
        simp only [VO.ent.injEq] at he
        subst he
        exact ⟨a, rfl, hX⟩
      case call c =>
        obtain ⟨callee, as, ats⟩ := c
        simp only at hc
        repeat' split at hc
        all_goals first | (cases hc; done) | (simp at hc; done) | (obtain ⟨_, _, hc⟩ := opt_bind hc; simp at hc; done)
      all_goals
        exfalso
        revert hc
        (try simp only [copBin, copConv])
        repeat' split
        all_goals (intro hc; first | contradiction | (simp at hc; done) | (obtain ⟨_, _, hc⟩ := opt_bind hc; simp at hc; done) | (cases hc; done))
    obtain ⟨a0, rfl, hX⟩ := hop
    obtain ⟨val, h1, h2⟩ := ent_sound (P := P) (hH _ _ hX) hr.objs hl
    have hrun : (execOp a.eval ⟨dst, .entry a0, ty, pos, after, guard⟩).run P w = .ok (.value val) w := exec_value rfl h1
    have hrr : RRes P E w s.ob v [] val w E := RRes.old (RExt.refl w E) h2 hr.fresh
    have hK : K (({ s with ob := s.ob ++ ([] : List VObj).map some } : St).putO dst v) := by
      simp only [List.map_nil, List.append_nil]
      exact h
    unfold Oper.wp
    rw [hrun]
    exact ⟨_, E, hK, (hrr.w hr.dom hr.objs).rel hr hd⟩
  · rename_i kd neg X Y
    split at h
    · exact hrd ‹_› h
    · obtain ⟨⟨rfl, hu⟩, h1, h2⟩ := h
      obtain ⟨dst, bop, t, oa, ob, yt, ty, pos, after, guard, rfl, hX, hY, hop, hk⟩ := eqn_shape hc
      obtain ⟨q, hq⟩ := ps_eqnU (P := P) (w := w) hk neg oa ob (hH _ _ hX) (hH _ _ hY) hu
      have hrun : (execOp a.eval ⟨dst, .binOp bop t oa ob yt, ty, pos, after, guard⟩).run P w = .ok (.value (.bool q)) w := by
        subst hop
        exact exec_value rfl hq
      unfold Oper.wp
      rw [hrun]
      have hrr : RRes P E w s.ob (.bool q) [] (.bool q) w E := RRes.old (RExt.refl w E) rfl hr.fresh
      have hK : K (({ s with ob := s.ob ++ ([] : List VObj).map some } : St).putO dst (.bool q)) := by
        simp only [List.map_nil, List.append_nil]
        cases q
        · exact h2
        · exact h1
      exact ⟨_, E, hK, (hrr.w hr.dom hr.objs).rel hr hd⟩
  · split at h <;> try (exact h.elim)
    exact hrd ‹_› h
end Go.Proofs.VL

namespace Go.Proofs.VL
open Go Go.RowKit
set_option linter.unusedSimpArgs false
set_option linter.unusedVariables false

theorem cOper_some {fo : List Nat} {P : Program} {nt : Nat} {ops : List Oper} {o : Oper} {vo : VOper} (h : cOper fo P nt ops o = some vo) : cop (ownF fo ops o.dst) P o = some vo.op ∧ vo.dst = o.dst ∧ (∀ t, o.dst = some t → t < nt) ∧
    ((o.guard = none ∧ vo.guard = none) ∨ ∃ j want t, o.guard = some (j, want) ∧ (ops[j]?).bind (·.dst) = some t ∧ vo.guard = some (t, want)) := by
  unfold cOper at h
  split at h <;> try (cases h; done)
  rename_i vo' hc
  split at h <;> try (cases h; done)
  rename_i hlt
  have hlt' : ∀ t, o.dst = some t → t < nt := by
    intro t ht
    rw [ht] at hlt
    simpa [dstOk] using hlt
  split at h
  · rename_i hg
    simp only [Option.some.injEq] at h
    subst h
    exact ⟨hc, rfl, hlt', .inl ⟨hg, rfl⟩⟩
  · rename_i j want hg
    split at h <;> try (cases h; done)
    rename_i t ht
    simp only [Option.some.injEq] at h
    subst h
    exact ⟨hc, rfl, hlt', .inr ⟨j, want, t, hg, ht, rfl⟩⟩

theorem yielded_bool {ops : Array Oper} {a : Act} {j t : Nat} {b : Bool} (h : (ops[j]?).bind (·.dst) = some t) (hb : a.tmps.getD t undef = .bool b) : yielded ops a.tmps j = some b := by
  unfold yielded
  rw [h]
  simp only [Option.bind_some]
  cases ht : a.tmps[t]? with
  | none => simp [Array.getD_eq_getD_getElem?, ht, undef] at hb
  | some v =>
    have : v = .bool b := by simpa [Array.getD_eq_getD_getElem?, ht] using hb
    rw [this]

theorem yielded_ne {ops : Array Oper} {a : Act} {j t : Nat} {b : Bool} (h : (ops[j]?).bind (·.dst) = some t) (hb : a.tmps.getD t undef ≠ .bool b) : (yielded ops a.tmps j == some b) = false := by
  unfold yielded
  rw [h]
  simp only [Option.bind_some]
  split
  · rename_i c hc
    have : a.tmps.getD t undef = .bool c := by simp [Array.getD_eq_getD_getElem?, hc]
    rw [this] at hb
    simp only [beq_eq_false_iff_ne, ne_eq, Option.some.injEq]
    intro e; exact hb (by rw [e])
  · rfl

theorem rep_undef (w : World) (E : Env) : Rep w E (.tup []) undef := ⟨[], rfl, rfl⟩

/-- One operation, with its guard. -/
theorem vop_sound {fo : List Nat} {P : Program} {ops : Array Oper} {o : Oper} {vo : VOper} {nt : Nat} (hc : cOper fo P nt ops.toList o = some vo) {w0 w : World} {E0 E : Env} {s : St} {a : Act} {Q : Exit → Act → World → Prop} {K : St → Prop} (hr : Rel w0 E0 nt s a w E)
    (h : vo.step P s K) : if Region.wanted o (yielded ops a.tmps) then o.wp P a w (Good w0 E0 nt K) Q else Good w0 E0 nt K (a.put o.dst undef) w := by
  obtain ⟨h1, h2, h3, h4⟩ := cOper_some hc
  unfold VOper.step at h
  rcases h4 with ⟨h4, h5⟩ | ⟨j, want, t, h4, h5, h6⟩
  · rw [h5] at h
    simp only at h
    rw [if_pos (by simp [Region.wanted, h4])]
    rw [h2] at h
    exact vo_sound h1 h3 hr h
  · rw [h6] at h
    simp only at h
    split at h <;> try (exact h.elim)
    case h_2 =>
      rename_i hb
      have hv := hr.tmps t
      rw [hb] at hv
      have hy := yielded_ne (ops := ops) (a := a) (j := j) (t := t) (b := want) (by simpa using h5) (by simp only [Rep] at hv; obtain ⟨vs, hv, _⟩ := hv; rw [hv]; simp)
      rw [if_neg (by simp only [Region.wanted, h4, hy]; simp)]
      rw [h2] at h
      exact ⟨_, E, h, hr.put0 h3 (rep_undef w E)⟩
    rename_i b hb
    have hv := hr.tmps t
    rw [hb] at hv
    simp only [Rep] at hv
    have hy := yielded_bool (ops := ops) (a := a) (j := j) (t := t) (b := b) (by simpa using h5) hv
    by_cases hbw : b = want
    · rw [if_pos hbw] at h
      rw [if_pos (by simp [Region.wanted, h4, hy, hbw])]
      rw [h2] at h
      exact vo_sound h1 h3 hr h
    · rw [if_neg hbw] at h
      rw [if_neg (by simp [Region.wanted, h4, hy, hbw])]
      rw [h2] at h
      exact ⟨_, E, h, hr.put0 h3 (rep_undef w E)⟩

def cOpers (fo : List Nat) (P : Program) (nt : Nat) (ops : List Oper) : List Oper → Option (List VOper)
  | [] => some []
  | o :: os => match cOper fo P nt ops o, cOpers fo P nt ops os with | some v, some vs => some (v :: vs) | _, _ => none

theorem vops_sound {fo : List Nat} {P : Program} {ops : Array Oper} {nt : Nat} {w0 : World} {E0 : Env} {Q : Exit → Act → World → Prop} {K : St → Prop} (hQ : ∀ a w, Good w0 E0 nt K a w → Q .normal a w) :
    ∀ (os : List Oper) (vs : List VOper), cOpers fo P nt ops.toList os = some vs → ∀ (s : St) (a : Act) (w : World) (E : Env), Rel w0 E0 nt s a w E → vops P vs s K → wpList P ops Q os a w
  | [], vs, hc, s, a, w, E, hr, h => by
    simp only [cOpers, Option.some.injEq] at hc; subst hc
    exact hQ a w ⟨s, E, h, hr⟩
  | o :: os, vs, hc, s, a, w, E, hr, h => by
    simp only [cOpers] at hc
    split at hc <;> simp only [reduceCtorEq, Option.some.injEq] at hc
    rename_i v vs' h1 h2
    subst hc
    simp only [vops] at h
    refine wpList_step fun K' hK' => ?_
    have := vop_sound (ops := ops) (Q := Q) h1 hr h
    split at this
    · rename_i hw
      rw [if_pos hw]
      exact Oper.wp_mono (fun a w ⟨s', E', hk, hr'⟩ => hK' a w (vops_sound hQ os vs' h2 s' a w E' hr' hk)) this
    · rename_i hw
      rw [if_neg hw]
      obtain ⟨s', E', hk, hr'⟩ := this
      exact hK' _ _ (vops_sound hQ os vs' h2 s' _ w E' hr' hk)
end Go.Proofs.VL

namespace Go.Proofs.VL
open Go Go.RowKit
set_option linter.unusedSimpArgs false
set_option linter.unusedVariables false

/-! ### a value that says less -/
mutual
inductive Sub : V → V → Prop
  | refl (x : V) : Sub x x
  | junk (x : V) : Sub x .junk
  | nil (sz : Nat) : Sub .nils (.sl sz [])
  | agg {a b : List V} : SubL a b → Sub (.agg a) (.agg b)
  | tup {a b : List V} : SubL a b → Sub (.tup a) (.tup b)
  | sl {s : Nat} {a b : List (List V)} : SubR a b → Sub (.sl s a) (.sl s b)
inductive SubL : List V → List V → Prop
  | nil : SubL [] []
  | cons {x y : V} {xs ys : List V} : Sub x y → SubL xs ys → SubL (x :: xs) (y :: ys)
inductive SubR : List (List V) → List (List V) → Prop
  | nil : SubR [] []
  | cons {x y : List V} {xs ys : List (List V)} : SubL x y → SubR xs ys → SubR (x :: xs) (y :: ys)
end

theorem SubL.refl : (xs : List V) → SubL xs xs
  | [] => .nil
  | x :: xs => .cons (.refl x) (SubL.refl xs)
theorem SubR.refl : (xs : List (List V)) → SubR xs xs
  | [] => .nil
  | x :: xs => .cons (SubL.refl x) (SubR.refl xs)

theorem SubR.len : {xs ys : List (List V)} → SubR xs ys → xs.length = ys.length
  | _, _, .nil => rfl
  | _, _, .cons _ h => by simp [SubR.len h]

theorem SubR.append : {a b c d : List (List V)} → SubR a b → SubR c d → SubR (a ++ c) (b ++ d)
  | _, _, _, _, .nil, h => h
  | _, _, _, _, .cons x y, h => .cons x (SubR.append y h)

theorem SubR.map {α : Type} {f g : α → List V} : (l : List α) → (∀ a ∈ l, SubL (f a) (g a)) → SubR (l.map f) (l.map g)
  | [], _ => .nil
  | a :: l, h => .cons (h a (by simp)) (SubR.map l fun b hb => h b (by simp [hb]))

mutual
theorem Rep.sub {w : World} {E : Env} {x y : V} {v : Value} (hs : Sub x y) (h : Rep w E x v) : Rep w E y v := by
  cases hs with
  | refl => exact h
  | junk => trivial
  | nil sz =>
    simp only [Rep] at h ⊢; subst h
    exact ⟨none, 0, [], rfl, Nat.le_refl _, by simp [RepFlat], Ones.nil, by simp⟩
  | agg hs =>
    simp only [Rep] at h ⊢; obtain ⟨vs, rfl, h⟩ := h
    exact ⟨vs, rfl, RepL.sub hs h⟩
  | tup hs =>
    simp only [Rep] at h ⊢; obtain ⟨vs, rfl, h⟩ := h
    exact ⟨vs, rfl, RepL.sub hs h⟩
  | sl hs =>
    rename_i s r r'
    simp only [Rep] at h ⊢
    obtain ⟨a, cap, vs, rfl, h1, h2, h3, h4⟩ := h
    have hl := hs.len
    refine ⟨a, cap, vs, by rw [hl], by rw [← hl]; exact h1, RepFlat.sub hs h2, h3, ?_⟩
    rcases h4 with h4 | h4
    · subst h4; simp at hl; exact .inl (List.eq_nil_of_length_eq_zero hl.symm)
    · exact .inr h4
theorem RepL.sub {w : World} {E : Env} {xs ys : List V} {vs : List Value} (hs : SubL xs ys) (h : RepL w E xs vs) : RepL w E ys vs := by
  cases hs with
  | nil => exact h
  | cons h1 h2 =>
    simp only [RepL] at h ⊢
    obtain ⟨v, vs', rfl, g1, g2⟩ := h
    exact ⟨v, vs', rfl, Rep.sub h1 g1, RepL.sub h2 g2⟩
theorem RepFlat.sub {w : World} {E : Env} {sz : Nat} {xs ys : List (List V)} {vs : List Value} (hs : SubR xs ys) (h : RepFlat w E sz xs vs) : RepFlat w E sz ys vs := by
  cases hs with
  | nil => exact h
  | cons h1 h2 =>
    simp only [RepFlat] at h ⊢
    obtain ⟨a, b, rfl, g1, g2, g3⟩ := h
    exact ⟨a, b, rfl, g1, RepL.sub h1 g2, RepFlat.sub h2 g3⟩
end

theorem SubL.len : {xs ys : List V} → SubL xs ys → xs.length = ys.length
  | _, _, .nil => rfl
  | _, _, .cons _ h => by simp [SubL.len h]

theorem Sub.of_eq {x y : V} (h : x = y) : Sub x y := h ▸ .refl x
theorem SubL.of_eq {x y : List V} (h : x = y) : SubL x y := h ▸ .refl x
theorem SubR.of_eq {x y : List (List V)} (h : x = y) : SubR x y := h ▸ .refl x

inductive ObjSub : VObj → VObj → Prop
  | refl (o : VObj) : ObjSub o o
  | box {a b : List V} : SubL a b → ObjSub (.box a) (.box b)
  | arr {e s : Nat} {a b : List (List V)} : SubR a b → ObjSub (.arr e s a) (.arr e s b)

theorem ObjSub.of_eq {x y : VObj} (h : x = y) : ObjSub x y := h ▸ .refl x

theorem ObjRep.sub {w : World} {E : Env} {k : Nat} {o o' : VObj} (hs : ObjSub o o') (h : ObjRep w E k o) : ObjRep w E k o' := by
  cases hs with
  | refl => exact h
  | box hs =>
    simp only [ObjRep] at h ⊢
    obtain ⟨h1, c, e, h2, h3⟩ := h
    exact ⟨h1, c, e, h2, RepL.sub hs h3⟩
  | arr hs =>
    simp only [ObjRep] at h ⊢
    rw [← hs.len]
    obtain ⟨h1, h2, h3, vs, h4, h5, h6⟩ := h
    exact ⟨h1, h2, h3, vs, h4, RepFlat.sub hs h5, h6⟩
end Go.Proofs.VL

namespace Go.Proofs.VL
open Go Go.RowKit
set_option linter.unusedSimpArgs false
set_option linter.unusedVariables false

/-! ### names of objects, by other names -/
mutual
def renV (m : Nat → Nat) : V → V
  | .ref k n => .ref (m k) n
  | .ptr k off => .ptr (m k) off
  | .eptr k i sz off => .eptr (m k) i sz off
  | .agg cs => .agg (renL m cs)
  | .tup cs => .tup (renL m cs)
  | .fn f a b => .fn f (renL m a) (renL m b)
  | .mapr k => .mapr (m k)
  | .refs k s o n => .refs (m k) s o n
  | v => v
def renL (m : Nat → Nat) : List V → List V
  | [] => []
  | x :: xs => renV m x :: renL m xs
end

mutual
/-- Only names below a number. -/
def wfV (n : Nat) : V → Bool
  | .ref k _ => decide (k < n)
  | .ptr k _ => decide (k < n)
  | .eptr k _ _ _ => decide (k < n)
  | .agg cs => wfL n cs
  | .tup cs => wfL n cs
  | .fn _ a b => wfL n a && wfL n b
  | .mapr k => decide (k < n)
  | .refs k _ _ _ => decide (k < n)
  | _ => true
def wfL (n : Nat) : List V → Bool
  | [] => true
  | x :: xs => wfV n x && wfL n xs
end

/-- Two tellings of one memory. -/
structure Tell (w : World) (n : Nat) (m : Nat → Nat) (E E' : Env) : Prop where
  dom : ∀ k, k < n → (E.dom k ↔ E'.dom (m k))
  blk : ∀ k, k < n → E'.blk (m k) = E.blk k
  cap : ∀ k, k < n → E'.cap (m k) = E.cap k
  nil : ∀ k, k < n → E'.nil (m k) = E.nil k
  imm : ∀ b, b < w.heap.size → (E.lab b = .imm ↔ E'.lab b = .imm)

theorem Tell.aval {w : World} {n : Nat} {m : Nat → Nat} {E E' : Env} (H : Tell w n m E E') {k : Nat} (hk : k < n) (q : Nat) : aval E' (m k) q = aval E k q := by
  simp only [VL.aval, H.blk k hk, H.cap k hk, H.nil k hk]

theorem pure_iext {w : World} {E E' : Env} (h : ∀ b, b < w.heap.size → (E.lab b = .imm → E'.lab b = .imm)) : IExt w E.pure w E'.pure :=
  ⟨Nat.le_refl _, fun b hb hl => ⟨h b hb hl, rfl⟩, fun _ h => h.elim, fun _ h => h.elim, fun _ h => h.elim, fun _ h => h.elim⟩

theorem Tell.flat {w : World} {n : Nat} {m : Nat → Nat} {E E' : Env} (H : Tell w n m E E') {sz : Nat} {rows : List (List V)} {vs : List Value} : RepFlat w E.pure sz rows vs ↔ RepFlat w E'.pure sz rows vs :=
  ⟨RepFlat.iext (pure_iext fun b hb h => (H.imm b hb).1 h) _ _ _, RepFlat.iext (pure_iext fun b hb h => (H.imm b hb).2 h) _ _ _⟩
theorem Tell.list {w : World} {n : Nat} {m : Nat → Nat} {E E' : Env} (H : Tell w n m E E') {xs : List V} {vs : List Value} : RepL w E.pure xs vs ↔ RepL w E'.pure xs vs :=
  ⟨RepL.iext (pure_iext fun b hb h => (H.imm b hb).1 h) _ _, RepL.iext (pure_iext fun b hb h => (H.imm b hb).2 h) _ _⟩

mutual
theorem Rep.ren {w : World} {n : Nat} {m : Nat → Nat} {E E' : Env} (H : Tell w n m E E') : (x : V) → (v : Value) → wfV n x = true → (Rep w E x v ↔ Rep w E' (renV m x) v)
  | .bool _, _, _ => Iff.rfl
  | .int _ _, _, _ => Iff.rfl
  | .str _, _, _ => Iff.rfl
  | .nils, _, _ => Iff.rfl
  | .nilp, _, _ => Iff.rfl
  | .nilm, _, _ => Iff.rfl
  | .nilf, _, _ => Iff.rfl
  | .nili, _, _ => Iff.rfl
  | .junk, _, _ => Iff.rfl
  | .sl sz rows, v, _ => by
    simp only [renV, Rep]
    constructor
    · rintro ⟨a, cap, vs, rfl, h1, h2, h3, h4⟩
      refine ⟨a, cap, vs, rfl, h1, H.flat.1 h2, h3, ?_⟩
      rcases h4 with h4 | ⟨b, off, q1, q2, q3, q4⟩
      · exact .inl h4
      · exact .inr ⟨b, off, q1, (H.imm b q3).1 q2, q3, q4⟩
    · rintro ⟨a, cap, vs, rfl, h1, h2, h3, h4⟩
      refine ⟨a, cap, vs, rfl, h1, H.flat.2 h2, h3, ?_⟩
      rcases h4 with h4 | ⟨b, off, q1, q2, q3, q4⟩
      · exact .inl h4
      · exact .inr ⟨b, off, q1, (H.imm b q3).2 q2, q3, q4⟩
  | .iptr cs, v, _ => by
    simp only [renV, Rep]
    constructor
    · rintro ⟨b, off, vs, rfl, q2, q3, q4, h⟩
      exact ⟨b, off, vs, rfl, (H.imm b q3).1 q2, q3, q4, H.list.1 h⟩
    · rintro ⟨b, off, vs, rfl, q2, q3, q4, h⟩
      exact ⟨b, off, vs, rfl, (H.imm b q3).2 q2, q3, q4, H.list.2 h⟩
  | .ref k q, v, hw => by
    have hk : k < n := by simpa [wfV] using hw
    simp only [renV, Rep, H.dom k hk, H.cap k hk, H.nil k hk, H.aval hk]
  | .ptr k off, v, hw => by
    have hk : k < n := by simpa [wfV] using hw
    simp only [renV, Rep, H.dom k hk, H.blk k hk]
  | .eptr k i sz off, v, hw => by
    have hk : k < n := by simpa [wfV] using hw
    simp only [renV, Rep, H.dom k hk, H.blk k hk, H.nil k hk]
  | .mapr k, v, hw => by
    have hk : k < n := by simpa [wfV] using hw
    simp only [renV, Rep, H.dom k hk, H.blk k hk]
  | .refs k s o q, v, hw => by
    have hk : k < n := by simpa [wfV] using hw
    simp only [renV, Rep, H.dom k hk, H.blk k hk, H.nil k hk, H.cap k hk]
  | .agg cs, v, hw => by
    simp only [wfV] at hw
    simp only [renV, Rep, RepL.ren H cs _ hw]
  | .tup cs, v, hw => by
    simp only [wfV] at hw
    simp only [renV, Rep, RepL.ren H cs _ hw]
  | .fn f a b, v, hw => by
    simp only [wfV, Bool.and_eq_true] at hw
    simp only [renV, Rep, RepL.ren H a _ hw.1, RepL.ren H b _ hw.2]
theorem RepL.ren {w : World} {n : Nat} {m : Nat → Nat} {E E' : Env} (H : Tell w n m E E') : (xs : List V) → (vs : List Value) → wfL n xs = true → (RepL w E xs vs ↔ RepL w E' (renL m xs) vs)
  | [], _, _ => Iff.rfl
  | x :: xs, vs, hw => by
    simp only [wfL, Bool.and_eq_true] at hw
    simp only [renL, RepL, Rep.ren H x _ hw.1, RepL.ren H xs _ hw.2]
end

def renO (m : Nat → Nat) : VObj → VObj
  | .box cs => .box (renL m cs)
  | .miter q a b c => .miter (q.map m) a b c
  | o => o

def wfO (n : Nat) : VObj → Bool
  | .box cs => wfL n cs
  | .miter (some j) _ _ _ => decide (j < n)
  | _ => true

theorem ObjRep.ren {w : World} {n : Nat} {m : Nat → Nat} {E E' : Env} (H : Tell w n m E E') {k : Nat} (hk : k < n) (hl : ∀ b, b < w.heap.size → (E.lab b = .obj k ↔ E'.lab b = .obj (m k))) : (o : VObj) → wfO n o = true → (ObjRep w E k o ↔ ObjRep w E' (m k) (renO m o))
  | .box cs, hw => by
    simp only [wfO] at hw
    simp only [renO, ObjRep, H.blk k hk]
    constructor
    · rintro ⟨h1, c, e, h2, h3⟩
      exact ⟨(hl _ (block_lt h2)).1 h1, c, e, h2, (RepL.ren H cs _ hw).1 h3⟩
    · rintro ⟨h1, c, e, h2, h3⟩
      exact ⟨(hl _ (block_lt h2)).2 h1, c, e, h2, (RepL.ren H cs _ hw).2 h3⟩
  | .arr e sz rows, _ => by
    have hlt : ∀ {vs : List Value}, ownsV w e sz (VL.aval E k rows.length) rows.length vs → E.nil k = false → E.blk k < w.heap.size := by
      intro vs h hn
      rcases h.2 with ⟨h, _⟩ | ⟨g, cap, cur, h, _, ⟨te, fr, hh, _⟩, _⟩
      · simp [VL.aval, hn] at h
      · simp [VL.aval, hn] at h; rw [h.1]; exact block_lt hh
    simp only [renO, ObjRep, H.blk k hk, H.cap k hk, H.nil k hk, H.aval hk]
    constructor
    · rintro ⟨h1, h2, h3, vs, h4, h5, h6⟩
      exact ⟨h1, h2, fun hn => (hl _ (hlt h4 hn)).1 (h3 hn), vs, h4, H.flat.1 h5, h6⟩
    · rintro ⟨h1, h2, h3, vs, h4, h5, h6⟩
      exact ⟨h1, h2, fun hn => (hl _ (hlt h4 hn)).2 (h3 hn), vs, h4, H.flat.2 h5, h6⟩
  | .fro sz rows, _ => by
    simp only [renO, ObjRep, H.blk k hk, H.cap k hk, H.nil k hk]
    constructor
    · rintro ⟨h1, h2, vs, h4, h5, h6⟩
      refine ⟨h1, h2, vs, H.flat.1 h4, h5, ?_⟩
      rcases h6 with h6 | ⟨q1, q2, q3, q4⟩
      · exact .inl h6
      · exact .inr ⟨q1, (H.imm _ q3).1 q2, q3, q4⟩
    · rintro ⟨h1, h2, vs, h4, h5, h6⟩
      refine ⟨h1, h2, vs, H.flat.2 h4, h5, ?_⟩
      rcases h6 with h6 | ⟨q1, q2, q3, q4⟩
      · exact .inl h6
      · exact .inr ⟨q1, (H.imm _ q3).2 q2, q3, q4⟩
  | .map es c, _ => by
    simp only [renO, ObjRep, H.blk k hk]
    have hm : ∀ ms : List MapEntry, MapRep w E.pure es ms ↔ MapRep w E'.pure es ms := fun ms =>
      ⟨fun h => MapRep.iext (pure_iext fun b hb h => (H.imm b hb).1 h) h, fun h => MapRep.iext (pure_iext fun b hb h => (H.imm b hb).2 h) h⟩
    constructor
    · rintro ⟨h1, ms, h2, h3⟩
      exact ⟨(hl _ (block_lt h2)).1 h1, ms, h2, (hm _).1 h3⟩
    · rintro ⟨h1, ms, h2, h3⟩
      exact ⟨(hl _ (block_lt h2)).2 h1, ms, h2, (hm _).2 h3⟩
  | .miter none a b c, _ => by
    simp only [renO, ObjRep, H.blk k hk]
    constructor
    · rintro ⟨h1, h2, h3⟩
      exact ⟨(hl _ (block_lt h3)).1 h1, by simp, h3⟩
    · rintro ⟨h1, h2, h3⟩
      exact ⟨(hl _ (block_lt h3)).2 h1, by simp, h3⟩
  | .miter (some j) a b c, hw => by
    have hj : j < n := by simpa [wfO] using hw
    simp only [renO, ObjRep, H.blk k hk, Option.map_some, H.blk j hj]
    constructor
    · rintro ⟨h1, h2, h3⟩
      exact ⟨(hl _ (block_lt h3)).1 h1, fun q hq => by simp at hq; subst hq; exact (H.dom j hj).1 (h2 j rfl), h3⟩
    · rintro ⟨h1, h2, h3⟩
      exact ⟨(hl _ (block_lt h3)).2 h1, fun q hq => by simp at hq; subst hq; exact (H.dom j hj).2 (h2 _ rfl), h3⟩

mutual
theorem renV_id {m : Nat → Nat} {n : Nat} (h : ∀ k, k < n → m k = k) : (x : V) → wfV n x = true → renV m x = x
  | .bool _, _ | .int _ _, _ | .str _, _ | .nils, _ | .nilp, _ | .nilm, _ | .nilf, _ | .nili, _ | .junk, _ | .sl _ _, _ | .iptr _, _ => rfl
  | .ref k q, hw => by simp only [renV]; rw [h k (by simpa [wfV] using hw)]
  | .ptr k off, hw => by simp only [renV]; rw [h k (by simpa [wfV] using hw)]
  | .eptr k _ _ _, hw => by simp only [renV]; rw [h k (by simpa [wfV] using hw)]
  | .mapr k, hw => by simp only [renV]; rw [h k (by simpa [wfV] using hw)]
  | .refs k _ _ _, hw => by simp only [renV]; rw [h k (by simpa [wfV] using hw)]
  | .agg cs, hw => by simp only [renV]; rw [renL_id h cs (by simpa [wfV] using hw)]
  | .tup cs, hw => by simp only [renV]; rw [renL_id h cs (by simpa [wfV] using hw)]
  | .fn f a b, hw => by
    simp only [wfV, Bool.and_eq_true] at hw
    simp only [renV]; rw [renL_id h a hw.1, renL_id h b hw.2]
theorem renL_id {m : Nat → Nat} {n : Nat} (h : ∀ k, k < n → m k = k) : (xs : List V) → wfL n xs = true → renL m xs = xs
  | [], _ => rfl
  | x :: xs, hw => by
    simp only [wfL, Bool.and_eq_true] at hw
    simp only [renL]; rw [renV_id h x hw.1, renL_id h xs hw.2]
end

theorem renO_id {m : Nat → Nat} {n : Nat} (h : ∀ k, k < n → m k = k) (o : VObj) (hw : wfO n o = true) : renO m o = o := by
  cases o with
  | box cs => simp only [wfO] at hw; simp only [renO]; rw [renL_id h cs hw]
  | arr e sz rows => rfl
  | fro sz rows => rfl
  | map es c => rfl
  | miter q a b c =>
    cases q with
    | none => rfl
    | some j => simp only [renO, Option.map_some]; rw [h j (by simpa [wfO] using hw)]

def wfOb (n : Nat) (ob : List (Option VObj)) : Bool := ob.all fun o => match o with | some o => wfO n o | none => true

theorem getElem?_lt {α : Type} {l : List α} {i : Nat} {x : α} (h : l[i]? = some x) : i < l.length := by
  rcases Nat.lt_or_ge i l.length with h' | h'
  · exact h'
  · rw [List.getElem?_eq_none h'] at h; cases h

theorem nodup_inj {ms : List Nat} (h : ms.Nodup) {i j k : Nat} (hi : ms[i]? = some k) (hj : ms[j]? = some k) : i = j := by
  have h1 := getElem?_lt hi
  have h2 := getElem?_lt hj
  rw [List.getElem?_eq_getElem h1] at hi
  rw [List.getElem?_eq_getElem h2] at hj
  injection hi with hi
  injection hj with hj
  exact (List.getElem_inj h).1 (hi.trans hj.symm)

open Classical in
/-- What is known of memory by the small list. -/
noncomputable def Env.small (E : Env) (ms : List Nat) : Env :=
  { dom := fun k => k < ms.length, blk := fun k => E.blk (ms.getD k 0), cap := fun k => E.cap (ms.getD k 0), nil := fun k => E.nil (ms.getD k 0),
    lab := fun b => match E.lab b with
      | .imm => .imm
      | .ext => .ext
      | .obj j => if j ∈ ms then .obj (ms.idxOf j) else .ext }

theorem small_imm {E : Env} {ms : List Nat} {b : Nat} : (E.small ms).lab b = .imm ↔ E.lab b = .imm := by
  unfold Env.small
  simp only
  cases E.lab b with
  | imm => simp
  | ext => simp
  | obj j => simp only; split <;> simp

theorem small_obj {E : Env} {ms : List Nat} (hnd : ms.Nodup) {b i k : Nat} (hi : ms[i]? = some k) : (E.small ms).lab b = .obj i ↔ E.lab b = .obj k := by
  unfold Env.small
  simp only
  cases E.lab b with
  | imm => simp
  | ext => simp
  | obj j =>
    simp only [Lab.obj.injEq]
    have hmk : k ∈ ms := List.mem_of_getElem? hi
    split
    · rename_i hj
      simp only [Lab.obj.injEq]
      have hidx : ms[ms.idxOf j]? = some j := by
        rw [List.getElem?_eq_getElem (List.idxOf_lt_length_of_mem hj)]; simp
      constructor
      · intro e; rw [e, hi] at hidx; injection hidx with hidx; exact hidx.symm
      · rintro rfl; exact nodup_inj hnd hidx hi
    · rename_i hj
      simp only [reduceCtorEq, false_iff]
      rintro rfl; exact hj hmk

theorem small_ext {E : Env} {ms : List Nat} {b : Nat} : (E.small ms).lab b = .ext ↔ E.lab b = .ext ∨ ∃ j, E.lab b = .obj j ∧ j ∉ ms := by
  unfold Env.small
  simp only
  cases E.lab b with
  | imm => simp
  | ext => simp
  | obj j => simp only; split <;> simp_all

end Go.Proofs.VL

namespace Go.Proofs.VL
open Go Go.RowKit
set_option linter.unusedSimpArgs false
set_option linter.unusedVariables false

def nameOf (ms : List Nat) (L : Nat) (k : Nat) : Nat := if k < ms.length then ms.getD k 0 else L + (k - ms.length)

def putObs (m : Nat → Nat) (B : List (Option VObj)) : List Nat → List (Option VObj) → List (Option VObj)
  | [], obs => B ++ obs.map (Option.map (renO m))
  | j :: js, o :: obs => putObs m (B.set j (o.map (renO m))) js obs
  | _ :: _, [] => B

/-- Each object lies in the great list, by its name there. -/
def inObs (m : Nat → Nat) (B : List (Option VObj)) (ms : List Nat) (obs : List (Option VObj)) : Prop :=
  ms.length = obs.length ∧ ms.Nodup ∧ ∀ (i j : Nat), ms[i]? = some j → j < B.length ∧ ∀ o, obs[i]? = some (some o) → B[j]? = some (some (renO m o))

theorem nameOf_lt {ms : List Nat} {L k j : Nat} (h : ms[k]? = some j) : nameOf ms L k = j := by
  have hk : k < ms.length := getElem?_lt h
  unfold nameOf
  rw [if_pos hk, List.getD_eq_getElem?_getD, h]; rfl

theorem putObs_length (m : Nat → Nat) : ∀ (ms : List Nat) (obs : List (Option VObj)) (B : List (Option VObj)), ms.length ≤ obs.length → (putObs m B ms obs).length = B.length + (obs.length - ms.length)
  | [], obs, B, _ => by simp [putObs]
  | j :: js, [], B, h => by simp at h
  | j :: js, o :: obs, B, h => by
    simp only [putObs]
    rw [putObs_length m js obs _ (by simpa using h)]
    simp

theorem putObs_get (m : Nat → Nat) : ∀ (ms : List Nat) (obs : List (Option VObj)) (B : List (Option VObj)), ms.length ≤ obs.length → ms.Nodup → (∀ j ∈ ms, j < B.length) → ∀ (k : Nat),
    (k < B.length → k ∉ ms → (putObs m B ms obs)[k]? = B[k]?) ∧ (∀ i : Nat, ms[i]? = some k → (putObs m B ms obs)[k]? = (obs[i]?).map (Option.map (renO m))) ∧
    (B.length ≤ k → (putObs m B ms obs)[k]? = (obs[ms.length + (k - B.length)]?).map (Option.map (renO m)))
  | [], obs, B, _, _, _, k => by
    simp only [putObs]
    refine ⟨fun hk _ => List.getElem?_append_left hk, fun i hi => by simp at hi, fun hk => ?_⟩
    rw [List.getElem?_append_right hk]; simp
  | j :: js, [], B, h, _, _, _ => by simp at h
  | j :: js, o :: obs, B, h, hnd, hlt, k => by
    simp only [putObs]
    rw [List.nodup_cons] at hnd
    obtain ⟨g1, g2, g3⟩ := putObs_get m js obs (B.set j (o.map (renO m))) (by simpa using h) hnd.2 (fun q hq => by simpa using hlt q (by simp [hq])) k
    have hjB := hlt j (by simp)
    refine ⟨fun hk hn => ?_, fun i hi => ?_, fun hk => ?_⟩
    · simp only [List.mem_cons, not_or] at hn
      rw [g1 (by simpa using hk) hn.2, List.getElem?_set_ne (fun e => hn.1 e.symm)]
    · cases i with
      | zero =>
        simp at hi
        subst hi
        rw [g1 (by simpa using hjB) hnd.1, List.getElem?_set_self (by simpa using hjB)]; rfl
      | succ i => rw [g2 i (by simpa using hi)]; simp
    · rw [g3 (by simpa using hk)]
      simp only [List.length_set, List.length_cons]
      rw [show js.length + 1 + (k - B.length) = (js.length + (k - B.length)) + 1 by omega, List.getElem?_cons_succ]

/-- A block's label behind the call, in the great list's words. -/
def labAfter (ms : List Nat) (L : Nat) (old : Bool) (l : Lab) : Lab → Lab
  | .imm => .imm
  | .obj j => .obj (nameOf ms L j)
  | .ext => if old then (match l with | .obj j => if j ∈ ms ∨ L ≤ j then .ext else .obj j | _ => .ext) else .ext

theorem labAfter_imm {ms : List Nat} {L : Nat} {old : Bool} {l l1 : Lab} : l1 = .imm ↔ labAfter ms L old l l1 = .imm := by
  cases l1 with
  | imm => simp [labAfter]
  | obj j => simp [labAfter]
  | ext =>
    simp only [labAfter, reduceCtorEq, false_iff]
    split
    · split
      · split <;> simp
      · simp
    · simp

theorem labAfter_old {ms : List Nat} {L : Nat} {old : Bool} {l : Lab} {q : Nat} (h : labAfter ms L old l .ext = .obj q) : l = .obj q ∧ q ∉ ms ∧ q < L := by
  simp only [labAfter] at h
  split at h
  · split at h
    · split at h
      · cases h
      · rename_i hn
        injection h with h
        subst h
        simp only [not_or, Nat.not_le] at hn
        exact ⟨rfl, hn.1, hn.2⟩
    · cases h
  · cases h


def labAfterG (ms : List Nat) (L N : Nat) (old : Bool) (l : Lab) : Lab → Lab
  | .imm => .imm
  | .obj j => .obj (nameOf ms L j)
  | .ext => if old then (match l with | .obj j => if j ∈ ms ∨ (L ≤ j ∧ j < L + N) then .ext else .obj j | _ => .ext) else .ext

theorem labAfterG_imm {ms : List Nat} {L N : Nat} {old : Bool} {l l1 : Lab} : l1 = .imm ↔ labAfterG ms L N old l l1 = .imm := by
  cases l1 with
  | imm => simp [labAfterG]
  | obj j => simp [labAfterG]
  | ext =>
    simp only [labAfterG, reduceCtorEq, false_iff]
    split
    · split
      · split <;> simp
      · simp
    · simp

theorem labAfterG_old {ms : List Nat} {L N : Nat} {old : Bool} {l : Lab} {q : Nat} (h : labAfterG ms L N old l .ext = .obj q) : l = .obj q ∧ q ∉ ms ∧ ¬ (L ≤ q ∧ q < L + N) := by
  simp only [labAfterG] at h
  split at h
  · split at h
    · split at h
      · cases h
      · rename_i hn
        injection h with h
        subst h
        exact ⟨rfl, fun q => hn (.inl q), fun q => hn (.inr q)⟩
    · cases h
  · cases h

/-- A contract over a few objects, in a memory with whatever others. -/
theorem VCall.frameG {P : Program} {f : FuncId} {args : List V} {obs obs' : List (Option VObj)} {r : V} (h : VCall P f args obs r obs') (ms : List Nat) (L : Nat) (hlen : ms.length = obs.length) (hnd : ms.Nodup) (hmL : ∀ j ∈ ms, j < L)
    (hwa : wfL obs.length args = true) (hwo : wfOb obs.length obs = true) (hwr : wfV obs'.length r = true) (hwo' : wfOb obs'.length obs' = true) (hle : obs.length ≤ obs'.length)
    {w : World} {E : Env} {vs : List Value} (hdm : ∀ j ∈ ms, E.dom j) (hnew : ∀ k, L ≤ k → k < L + (obs'.length - obs.length) → ¬ E.dom k)
    (hob : ∀ (i j : Nat) o, ms[i]? = some j → obs[i]? = some (some o) → ObjRep w E j (renO (nameOf ms L) o)) (hf : ∀ b, w.heap.size ≤ b → E.lab b = .imm) (hv : RepL w E (renL (nameOf ms L) args) vs) :
    Calls P f ⟨vs⟩ w fun e w' => ∃ v E', e = .returned v ∧ Ext w E w' E' ∧ (∀ k, E'.dom k ↔ E.dom k ∨ (L ≤ k ∧ k < L + (obs'.length - obs.length))) ∧ Rep w' E' (renV (nameOf ms L) r) v ∧
      (∀ (i : Nat) o, obs'[i]? = some (some o) → ObjRep w' E' (nameOf ms L i) (renO (nameOf ms L) o)) ∧ (∀ k o, E.dom k → k ∉ ms → ObjRep w E k o → ObjRep w' E' k o) ∧ (∀ b, w'.heap.size ≤ b → E'.lab b = .imm) := by
  classical
  have hms : ∀ k, k < obs.length → ∃ j, ms[k]? = some j ∧ nameOf ms L k = j ∧ ms.getD k 0 = j ∧ j < L := by
    intro k hk
    have hk' : k < ms.length := by omega
    refine ⟨ms[k], List.getElem?_eq_getElem hk', nameOf_lt (List.getElem?_eq_getElem hk'), ?_, hmL _ (List.getElem_mem hk')⟩
    rw [List.getD_eq_getElem?_getD, List.getElem?_eq_getElem hk']; rfl
  -- what the callee knows
  have T : Tell w obs.length (nameOf ms L) (E.small ms) E := by
    refine ⟨?_, ?_, ?_, ?_, fun b _ => small_imm⟩
    · intro k hk
      obtain ⟨j, h1, h2, h3, h4⟩ := hms k hk
      rw [h2]
      exact ⟨fun _ => hdm j (List.mem_of_getElem? h1), fun _ => by show k < ms.length; omega⟩
    all_goals
      intro k hk
      obtain ⟨j, h1, h2, h3, h4⟩ := hms k hk
      rw [h2]; simp only [Env.small, h3]
  have hvs := (RepL.ren T args vs hwa).2 hv
  have hobs : ∀ k o, obs[k]? = some (some o) → ObjRep w (E.small ms) k o := by
    intro k o hk
    have hkl : k < obs.length := getElem?_lt hk
    obtain ⟨j, h1, h2, h3, h4⟩ := hms k hkl
    have hwo1 : wfO obs.length o = true := by
      have := List.all_eq_true.1 hwo _ (List.mem_of_getElem? hk)
      simpa using this
    refine (ObjRep.ren T hkl (fun b _ => ?_) o hwo1).2 ?_
    · rw [h2]; exact small_obj hnd h1
    · rw [h2]; exact hob k j o h1 hk
  refine (h.2 w (E.small ms) vs (fun k => by show k < ms.length ↔ _; omega) hobs (fun b hb => small_imm.2 (hf b hb)) hvs).mono ?_
  rintro e w' ⟨v, E1, rfl, hres⟩
  have hx := hres.ext
  have hms' : ∀ k, k < ms.length → ∃ j, ms[k]? = some j ∧ nameOf ms L k = j ∧ ms.getD k 0 = j ∧ j < L := fun k hk => hms k (by omega)
  -- what is known then
  let E' : Env :=
    { dom := fun k => E.dom k ∨ (L ≤ k ∧ k < L + (obs'.length - obs.length)),
      blk := fun k => if E.dom k then E.blk k else E1.blk (ms.length + (k - L)),
      cap := fun k => if E.dom k then E.cap k else E1.cap (ms.length + (k - L)),
      nil := fun k => if E.dom k then E.nil k else E1.nil (ms.length + (k - L)),
      lab := fun b => labAfterG ms L (obs'.length - obs.length) (decide (b < w.heap.size)) (E.lab b) (E1.lab b) }
  have himm : ∀ b, E1.lab b = .imm ↔ E'.lab b = .imm := fun b => labAfterG_imm
  have hninj : ∀ i j, i < obs'.length → j < obs'.length → nameOf ms L i = nameOf ms L j → i = j := by
    intro i j hi hj he
    by_cases h1 : i < ms.length
    · obtain ⟨a, a1, a2, a3, a4⟩ := hms' i h1
      by_cases h2 : j < ms.length
      · obtain ⟨b, b1, b2, b3, b4⟩ := hms' j h2
        rw [a2, b2] at he; subst he; exact nodup_inj hnd a1 b1
      · rw [a2] at he; simp only [nameOf, if_neg h2] at he; omega
    · by_cases h2 : j < ms.length
      · obtain ⟨b, b1, b2, b3, b4⟩ := hms' j h2
        rw [b2] at he; simp only [nameOf, if_neg h1] at he; omega
      · simp only [nameOf, if_neg h1, if_neg h2] at he; omega
  have hlab1 : ∀ b j, E1.lab b = .obj j → E'.lab b = .obj (nameOf ms L j) := by
    intro b j hb
    show labAfterG _ _ _ _ _ _ = _
    rw [hb]; rfl
  have hlab2 : ∀ b, b < w.heap.size → (E.small ms).lab b = .ext → (E.lab b = .ext ∨ ∃ j, E.lab b = .obj j ∧ ¬ (L ≤ j ∧ j < L + (obs'.length - obs.length))) → E'.lab b = E.lab b ∧ w'.heap[b]? = w.heap[b]? := by
    intro b hb hs hj
    obtain ⟨q1, q2⟩ := hx.ext b hb hs
    refine ⟨?_, q2⟩
    show labAfterG _ _ _ _ _ _ = _
    rw [q1]
    simp only [labAfterG, hb, decide_true, if_true]
    rcases hj with hj | ⟨j, hj, hjB⟩
    · rw [hj]
    · rw [hj]
      simp only
      rw [if_neg]
      rintro (h | h)
      · rcases small_ext.1 hs with h1 | ⟨j', h1, h2⟩
        · rw [hj] at h1; cases h1
        · rw [hj] at h1; injection h1 with h1; subst h1; exact h2 h
      · exact hjB h
  have hd1 : ∀ k, E1.dom k ↔ k < obs'.length := hres.dom
  have T' : Tell w' obs'.length (nameOf ms L) E1 E' := by
    refine ⟨?_, ?_, ?_, ?_, fun b _ => himm b⟩
    · intro k hk
      rw [hd1]
      refine ⟨fun _ => ?_, fun _ => hk⟩
      show E.dom (nameOf ms L k) ∨ _
      by_cases h1 : k < ms.length
      · obtain ⟨a, a1, a2, a3, a4⟩ := hms' k h1; left; rw [a2]; exact hdm a (List.mem_of_getElem? a1)
      · right; simp only [nameOf, if_neg h1]; omega
    · intro k hk
      show (if _ then _ else _) = _
      by_cases h1 : k < ms.length
      · obtain ⟨a, a1, a2, a3, a4⟩ := hms' k h1
        rw [a2, if_pos (hdm a (List.mem_of_getElem? a1)), hx.blk k h1]; simp only [Env.small, a3]
      · have : nameOf ms L k = L + (k - ms.length) := by simp only [nameOf, if_neg h1]
        rw [this, if_neg (hnew _ (by omega) (by omega))]
        congr 1; omega
    · intro k hk
      show (if _ then _ else _) = _
      by_cases h1 : k < ms.length
      · obtain ⟨a, a1, a2, a3, a4⟩ := hms' k h1
        rw [a2, if_pos (hdm a (List.mem_of_getElem? a1)), hx.cap k h1]; simp only [Env.small, a3]
      · have : nameOf ms L k = L + (k - ms.length) := by simp only [nameOf, if_neg h1]
        rw [this, if_neg (hnew _ (by omega) (by omega))]
        congr 1; omega
    · intro k hk
      show (if _ then _ else _) = _
      by_cases h1 : k < ms.length
      · obtain ⟨a, a1, a2, a3, a4⟩ := hms' k h1
        rw [a2, if_pos (hdm a (List.mem_of_getElem? a1)), hx.nil k h1]; simp only [Env.small, a3]
      · have : nameOf ms L k = L + (k - ms.length) := by simp only [nameOf, if_neg h1]
        rw [this, if_neg (hnew _ (by omega) (by omega))]
        congr 1; omega
  have hX : Ext w E w' E' := by
    refine ⟨hx.os, hx.tape, hx.output, hx.size, fun b hb hl => ?_, fun b hb hl => ?_, fun k hk => ?_, fun k hk => ?_, fun k hk => ?_, fun k hk => ?_⟩
    · obtain ⟨q1, q2⟩ := hx.imm b hb (small_imm.2 hl)
      exact ⟨(himm b).1 q1, q2⟩
    · obtain ⟨q1, q2⟩ := hlab2 b hb (small_ext.2 (.inl hl)) (.inl hl)
      exact ⟨q1.trans hl, q2⟩
    · exact .inl hk
    · show (if _ then _ else _) = _
      rw [if_pos hk]
    · show (if _ then _ else _) = _
      rw [if_pos hk]
    · show (if _ then _ else _) = _
      rw [if_pos hk]
  refine ⟨v, E', rfl, hX, fun k => Iff.rfl, (Rep.ren T' r v hwr).1 hres.rep, ?_, ?_, fun b hb => (himm b).1 (hres.fresh b hb)⟩
  · have one : ∀ (i : Nat) o, obs'[i]? = some (some o) → ObjRep w' E' (nameOf ms L i) (renO (nameOf ms L) o) := by
      intro i o hi
      have hil := getElem?_lt hi
      have hwo1 : wfO obs'.length o = true := by
        have := List.all_eq_true.1 hwo' _ (List.mem_of_getElem? hi)
        simpa using this
      refine (ObjRep.ren T' hil (fun b _ => ?_) o hwo1).1 (hres.objs i o hi)
      constructor
      · intro hb; exact hlab1 b i hb
      · intro hb
        cases hl : E1.lab b with
        | imm => rw [(himm b).1 hl] at hb; cases hb
        | obj j =>
          rw [hlab1 b j hl] at hb
          injection hb with hb
          by_cases hj : j < obs'.length
          · rw [hninj j i hj hil hb]
          · exfalso
            have h1 : ¬ j < ms.length := by omega
            simp only [nameOf, if_neg h1] at hb
            by_cases h2 : i < ms.length
            · obtain ⟨a, a1, a2, a3, a4⟩ := hms' i h2
              simp only [nameOf, if_pos h2, a3] at hb; omega
            · simp only [if_neg h2] at hb; omega
        | ext =>
          exfalso
          have hE' : E'.lab b = labAfterG ms L (obs'.length - obs.length) (decide (b < w.heap.size)) (E.lab b) .ext := by
            show labAfterG _ _ _ _ _ _ = _
            rw [hl]
          rw [hE'] at hb
          obtain ⟨q1, q2, q3⟩ := labAfterG_old hb
          by_cases h2 : i < ms.length
          · obtain ⟨a, a1, a2, a3, a4⟩ := hms' i h2
            rw [a2] at q2; exact q2 (List.mem_of_getElem? a1)
          · simp only [nameOf, if_neg h2] at q3
            exact q3 (by omega)
    exact one
  · intro k o hk hkm ho
    refine ho.move hX hk ?_
    rintro (hl | hl) hb
    · obtain ⟨q1, q2⟩ := hlab2 _ hb (small_ext.2 (.inr ⟨k, hl, hkm⟩)) (.inr ⟨k, hl, fun hk2 => hnew k hk2.1 hk2.2 hk⟩)
      exact ⟨q2, q1⟩
    · obtain ⟨q1, q2⟩ := hX.imm _ hb hl
      exact ⟨q2, q1.trans hl.symm⟩
end Go.Proofs.VL

namespace Go.Proofs.VL
open Go Go.RowKit
set_option linter.unusedSimpArgs false
set_option linter.unusedVariables false

def optX : Option X → List X
  | some x => [x]
  | none => []

/-- What an operation reads. -/
def VO.xs : VO → List X
  | .mv x | .un _ x | .cint _ x | .cstr x | .nilck x | .fadr _ x | .fld _ _ _ x | .ext x _ | .ln _ x | .box x | .boxI x | .load _ _ x | .b2s x | .s2b _ x => [x]
  | .pick c a b => [c, a, b]
  | .mkmap l => l
  | .rng x | .nxt x | .ent x | .clr _ _ x => [x]
  | .upd _ m k x => [m, k, x]
  | .look _ _ _ x y | .del _ x y | .bin _ x y | .eqb _ x y | .eqn _ _ x y | .eqa _ _ x y | .iadr _ _ x y | .idxs x y | .idxa _ _ _ x y | .msl _ _ _ _ x y | .store _ x y | .app _ _ _ x y | .apps _ x y => [x, y]
  | .build _ parts => parts.map fun p => p.2.2
  | .slcs x lo hi => x :: (optX lo ++ optX hi)
  | .slc _ x lo hi mx => x :: (optX lo ++ optX hi ++ optX mx)
  | .fn _ a b => a ++ b
  | .mm _ l => l
  | .alloc _ => []
  | .bsl _ _ _ _ _ parts => parts.map fun p => p.2
  | .call f args => f :: args

theorem fillV_congr {x y : X → V} : ∀ (ps : List (Nat × Nat × X)) (cs : List V), (∀ X ∈ ps.map (fun p => p.2.2), x X = y X) → fillV x cs ps = fillV y cs ps
  | [], cs, h => rfl
  | (o, s, X) :: ps, cs, h => by
    simp only [List.map_cons, List.mem_cons, forall_eq_or_imp] at h
    simp only [fillV, h.1]
    split
    · exact fillV_congr ps _ h.2
    · rfl

theorem fillRows_congr {x y : X → V} {sz : Nat} : ∀ (ps : List (Nat × X)) (rows : List (List V)), (∀ X ∈ ps.map (fun p => p.2), x X = y X) → fillRows x sz rows ps = fillRows y sz rows ps
  | [], rows, h => rfl
  | (i, X) :: ps, rows, h => by
    simp only [List.map_cons, List.mem_cons, forall_eq_or_imp] at h
    simp only [fillRows, h.1]
    split
    · exact fillRows_congr ps _ h.2
    · rfl

theorem optX_congr {x y : X → V} {o : Option X} (h : ∀ X ∈ optX o, x X = y X) : o.map x = o.map y := by
  cases o with
  | none => rfl
  | some X => simp [h X (by simp [optX])]

theorem evP_congr {o : VO} {x y : X → V} (h : ∀ X ∈ o.xs, x X = y X) : o.evP x = o.evP y := by
  cases o <;> simp only [VO.xs] at h
  case build z ps => simp only [VO.evP, fillV_congr ps z h]
  case slcs a lo hi =>
    simp only [VO.evP]
    rw [h a (by simp), optX_congr (fun X hX => h X (by simp [hX])), optX_congr (o := hi) (fun X hX => h X (by simp [hX]))]
  case slc s a lo hi mx =>
    simp only [VO.evP]
    rw [h a (by simp), optX_congr (fun X hX => h X (by simp [hX])), optX_congr (o := hi) (fun X hX => h X (by simp [hX])), optX_congr (o := mx) (fun X hX => h X (by simp [hX]))]
  case fn f a b =>
    simp only [VO.evP]
    rw [List.map_congr_left (fun X hX => h X (by simp [hX])), List.map_congr_left (l := b) (fun X hX => h X (by simp [hX]))]
  case mm b l => simp only [VO.evP]; rw [List.map_congr_left h]
  case iadr ar s a b => cases ar <;> simp only [VO.evP] <;> simp [h a (by simp), h b (by simp)]
  case ln st a => cases st <;> simp only [VO.evP] <;> simp [h a (by simp)]
  all_goals (first | rfl | (simp only [VO.evP]; simp_all))

theorem evR_congr {o : VO} {x y : X → V} (h : ∀ X ∈ o.xs, x X = y X) (ob : List (Option VObj)) : o.evR x ob = o.evR y ob := by
  cases hR : o.isR with
  | false => rw [evR_P hR, evR_P hR, evP_congr h]
  | true =>
    cases o <;> simp [VO.isR] at hR <;> simp only [VO.xs] at h
    case bsl own e sz len z ps => simp only [VO.evR, fillRows_congr ps _ h]
    all_goals (simp only [VO.evR] <;> first | rfl | simp_all)

theorem evW_congr {o : VO} {x y : X → V} (h : ∀ X ∈ o.xs, x X = y X) (ob : List (Option VObj)) : o.evW x ob = o.evW y ob := by
  cases o <;> first | rfl | (simp only [VO.xs] at h; simp only [VO.evW]; simp_all)

/-! ### a region that draws its order -/
def Oper.dirs (o : Oper) : List Nat := (o.after.toList.filter fun e => Region.binds .any e).map (·.on)

/-- For each operation those that must have run. -/
def mkPre (ops : List Oper) : List (List Nat) :=
  ops.foldl (fun acc o => acc ++ [(Oper.dirs o).foldl (fun s j => (j :: acc.getD j []).foldl (fun s k => if s.contains k then s else k :: s) s) []]) []

def VO.isW (wc : Bool) : VO → Bool
  | .store _ _ _ | .app _ _ _ _ _ | .apps _ _ _ | .upd _ _ _ _ | .del _ _ _ | .clr _ _ _ => true
  | .call _ _ => wc
  | _ => false

def VO.isP : VO → Bool
  | .store _ _ _ | .app _ _ _ _ _ | .apps _ _ _ | .upd _ _ _ _ | .del _ _ _ | .clr _ _ _ | .call _ _ => false
  | o => !o.isR

def VOper.reads (v : VOper) : List Nat :=
  (v.op.xs.filterMap fun | .t n => some n | .c _ => none) ++ (match v.guard with | some (t, _) => [t] | none => [])

def ordered (pre : List (List Nat)) (i j : Nat) : Bool := (pre.getD i []).contains j || (pre.getD j []).contains i

/-! names of objects in a value; what an operation may write, what it looks at -/
mutual
def V.names : V → List Nat
  | .ref k _ => [k]
  | .ptr k _ => [k]
  | .eptr k _ _ _ => [k]
  | .mapr k => [k]
  | .refs k _ _ _ => [k]
  | .agg cs => namesL cs
  | .tup cs => namesL cs
  | .fn _ a b => namesL a ++ namesL b
  | _ => []
def namesL : List V → List Nat
  | [] => []
  | x :: xs => x.names ++ namesL xs
end

def VO.wx : VO → List X
  | .store _ a _ => [a]
  | .app _ _ _ x _ => [x]
  | .apps _ x _ => [x]
  | .upd _ m _ _ => [m]
  | .del _ m _ => [m]
  | .clr _ _ x => [x]
  | .call f as => f :: as
  | _ => []
def VO.isC : VO → Bool
  | .call _ _ => true
  | _ => false
def VO.isS : VO → Bool
  | .store _ _ _ | .upd _ _ _ _ | .del _ _ _ | .clr _ _ _ => true
  | _ => false
def VO.tx (o : VO) : List X := if o.isP then [] else o.xs
def dstX (v : VOper) : List X := match v.dst with | some t => [.t t] | none => []
def slotsX (xs : List X) : List Nat := xs.filterMap fun | .t n => some n | .c _ => none

def mkSp (vs : List VOper) (ips : List (Nat × Nat)) : List (List X × List X) :=
  ips.filterMap fun p => match vs[p.1]?, vs[p.2]? with | some v, some u => some (v.op.wx, u.op.tx ++ dstX u) | _, _ => none

/-- Are what some write and what others look at apart? -/
def chkS (sp : List (List X × List X)) (s : St) : Bool :=
  sp.all fun p => (namesL (p.1.map s.x)).all fun k => !(namesL (p.2.map s.x)).contains k

structure DOk (ops : List Oper) (vs : List VOper) (wc : List Bool) (pre : List (List Nat)) (ips : List (Nat × Nat)) : Prop where
  lenv : vs.length = ops.length
  dirs : ∀ (i : Nat) o, ops[i]? = some o → ∀ j ∈ Oper.dirs o, j < i
  clo : ∀ (i : Nat) o, ops[i]? = some o → ∀ j ∈ pre.getD i [], j < i ∧ (j ∈ Oper.dirs o ∨ ∃ e ∈ Oper.dirs o, j ∈ pre.getD e [])
  dst : ∀ (i j : Nat) v u t, vs[i]? = some v → vs[j]? = some u → v.dst = some t → u.dst = some t → i = j
  reads : ∀ (i j : Nat) v u t, vs[i]? = some v → vs[j]? = some u → t ∈ v.reads → u.dst = some t → i = j ∨ j ∈ pre.getD i [] ∨ i ∈ pre.getD j []
  writes : ∀ (i j : Nat) v u, vs[i]? = some v → vs[j]? = some u → v.op.isW (wc.getD i false) = true → u.op.isP = false → i = j ∨ (j ∈ pre.getD i [] ∨ i ∈ pre.getD j []) ∨
    ((i, j) ∈ ips ∧ (u.dst = none → u.op.isS = true) ∧
      ∀ (q : Nat) x t, vs[q]? = some x → x.dst = some t → (t ∈ slotsX v.op.wx → q < i) ∧ (t ∈ slotsX u.op.tx → q < j))

def allIdx (n : Nat) (p : Nat → Bool) : Bool := (List.range n).all p

theorem allIdx_spec {n : Nat} {p : Nat → Bool} (h : allIdx n p = true) (i : Nat) (hi : i < n) : p i = true := by
  simp only [allIdx, List.all_eq_true, List.mem_range] at h
  exact h i hi

def pairOk (vs : List VOper) (wc : List Bool) (ips : List (Nat × Nat)) (i j : Nat) (v u : VOper) : Bool :=
  ips.contains (i, j) && (u.dst.isSome || u.op.isS) &&
    allIdx vs.length (fun q => match vs[q]? with
      | some x => (match x.dst with | some t => (!(slotsX v.op.wx).contains t || decide (q < i)) && (!(slotsX u.op.tx).contains t || decide (q < j)) | none => true)
      | none => true)

def dOkB (ops : List Oper) (vs : List VOper) (wc : List Bool) (pre : List (List Nat)) (ips : List (Nat × Nat)) : Bool :=
  let n := ops.length
  vs.length == n &&
  allIdx n (fun i => match ops[i]? with
    | some o => (Oper.dirs o).all (fun j => decide (j < i)) && (pre.getD i []).all (fun j => decide (j < i) && ((Oper.dirs o).contains j || (Oper.dirs o).any fun e => (pre.getD e []).contains j))
    | none => true) &&
  allIdx n (fun i => allIdx n fun j => i == j || (match vs[i]?, vs[j]? with
    | some v, some u =>
      (match u.dst with
       | some t => (v.dst != some t) && (!v.reads.contains t || ordered pre i j)
       | none => true) && (!(v.op.isW (wc.getD i false)) || u.op.isP || ordered pre i j || pairOk vs wc ips i j v u)
    | _, _ => true))

/-- Pairs of a writer and another one whose order is open. -/
def mkIps (vs : List VOper) (wc : List Bool) (pre : List (List Nat)) : List (Nat × Nat) :=
  ((List.range vs.length).flatMap fun i => (List.range vs.length).map fun j => (i, j)).filter fun p =>
    match vs[p.1]?, vs[p.2]? with
    | some v, some u => p.1 != p.2 && v.op.isW (wc.getD p.1 false) && !u.op.isP && !ordered pre p.1 p.2
    | _, _ => false

theorem dOk_of {ops : List Oper} {vs : List VOper} {wc : List Bool} {pre : List (List Nat)} {ips : List (Nat × Nat)} (h : dOkB ops vs wc pre ips = true) : DOk ops vs wc pre ips := by
  unfold dOkB at h
  simp only [Bool.and_eq_true, beq_iff_eq] at h
  obtain ⟨⟨h1, h2⟩, h3⟩ := h
  have h3' : ∀ i j v u, vs[i]? = some v → vs[j]? = some u → i = j ∨ ((match u.dst with
       | some t => (v.dst != some t) && (!v.reads.contains t || ordered pre i j)
       | none => true) && (!(v.op.isW (wc.getD i false)) || u.op.isP || ordered pre i j || pairOk vs wc ips i j v u)) = true := by
    intro i j v u hv hu
    have := allIdx_spec (allIdx_spec h3 i (by rw [← h1]; exact getElem?_lt hv)) j (by rw [← h1]; exact getElem?_lt hu)
    rw [hv, hu] at this
    simpa using this
  have hord : ∀ i j, ordered pre i j = true → j ∈ pre.getD i [] ∨ i ∈ pre.getD j [] := by
    intro i j h
    simpa [ordered] using h
  refine ⟨h1, ?_, ?_, ?_, ?_, ?_⟩
  · intro i o ho j hj
    have := allIdx_spec h2 i (getElem?_lt ho)
    rw [ho] at this
    simp only [Bool.and_eq_true, List.all_eq_true, decide_eq_true_eq] at this
    exact this.1 j hj
  · intro i o ho j hj
    have := allIdx_spec h2 i (getElem?_lt ho)
    rw [ho] at this
    simp only [Bool.and_eq_true, List.all_eq_true, decide_eq_true_eq, Bool.or_eq_true, List.contains_iff_mem, List.any_eq_true] at this
    obtain ⟨q1, q2⟩ := this.2 j hj
    refine ⟨q1, ?_⟩
    rcases q2 with q2 | ⟨e, q3, q4⟩
    · exact .inl q2
    · exact .inr ⟨e, q3, by simpa using q4⟩
  · intro i j v u t hv hu hvt hut
    rcases h3' i j v u hv hu with h | h
    · exact h
    · rw [hut] at h
      simp [hvt] at h
  · intro i j v u t hv hu hvt hut
    rcases h3' i j v u hv hu with h | h
    · exact .inl h
    · rw [hut] at h
      simp only [Bool.and_eq_true, Bool.or_eq_true, Bool.not_eq_true', List.contains_eq_mem, decide_eq_false_iff_not] at h
      rcases h.1.2 with h | h
      · exact absurd hvt h
      · exact .inr (hord i j h)
  · intro i j v u hv hu hw hp
    rcases h3' i j v u hv hu with h | h
    · exact .inl h
    · simp only [Bool.and_eq_true, Bool.or_eq_true, Bool.not_eq_true', hw, hp, Bool.true_eq_false, Bool.false_eq_true, false_or] at h
      rcases h.2 with h | h
      · exact .inr (.inl (hord i j h))
      · unfold pairOk at h
        simp only [Bool.and_eq_true, Bool.not_eq_true', List.contains_eq_mem, decide_eq_true_eq] at h
        obtain ⟨⟨q1, q4⟩, q5⟩ := h
        refine .inr (.inr ⟨q1, ?_, ?_⟩)
        · intro hd
          rw [hd] at q4
          simpa using q4
        · intro q x t hx ht
          have := allIdx_spec q5 q (getElem?_lt hx)
          rw [hx] at this
          simp only [ht] at this
          simp only [Bool.and_eq_true, Bool.or_eq_true, Bool.not_eq_true', decide_eq_false_iff_not, decide_eq_true_eq] at this
          exact ⟨fun hm => this.1.resolve_left (fun h => h hm), fun hm => this.2.resolve_left (fun h => h hm)⟩
end Go.Proofs.VL

namespace Go.Proofs.VL
open Go Go.RowKit
set_option linter.unusedSimpArgs false
set_option linter.unusedVariables false

/-- A callee that knows but a few of the objects, all of them named by what it is handed. -/
structure FCall (P : Program) (ob : List (Option VObj)) (g : FuncId) (xs : List V) (r : V) (ob' : List (Option VObj)) (ms : List Nat) (args : List V) (obs obs' : List (Option VObj)) (r0 : V) : Prop where
  call : VCall P g args obs r0 obs'
  len : ms.length = obs.length
  nodup : ms.Nodup
  at_ : ∀ (i j : Nat), ms[i]? = some j → j < ob.length ∧ j ∈ namesL xs ∧ ∀ o, obs[i]? = some (some o) → ob[j]? = some (some (renO (nameOf ms ob.length) o))
  wfa : wfL obs.length args = true
  wfo : wfOb obs.length obs = true
  wfr : wfV obs'.length r0 = true
  wfo' : wfOb obs'.length obs' = true
  le : obs.length ≤ obs'.length
  args : xs = renL (nameOf ms ob.length) args
  res : r = renV (nameOf ms ob.length) r0
  obj : ob' = putObs (nameOf ms ob.length) ob ms obs'
  news : ∀ k, ob.length ≤ k → k < ob'.length → k ∈ r.names

/-- One operation, from a state to the next one. -/
inductive Step1 (P : Program) (fl wc : Bool) (v : VOper) (s : St) : St → Prop
  | skip (t : Nat) (want : Bool) : v.guard = some (t, want) → (∀ (w : World) (E : Env) (val : Value), Rep w E (s.get t) val → val ≠ .bool want) → Step1 P fl wc v s (s.putO v.dst (.tup []))
  | read (r : V) (news : List VObj) : (v.guard = none ∨ ∃ t want, v.guard = some (t, want) ∧ s.get t = .bool want) → v.op.isW wc = false → v.op.evR s.x s.ob = some (r, news) → (∀ f as, v.op ≠ .call f as) →
      Step1 P fl wc v s (({ s with ob := s.ob ++ news.map some } : St).putO v.dst r)
  | callR (f : X) (as : List X) (g : FuncId) (first caps : List V) (r : V) : (v.guard = none ∨ ∃ t want, v.guard = some (t, want) ∧ s.get t = .bool want) → v.op = .call f as → s.x f = .fn g first caps → CallR P s.ob g (first ++ as.map s.x ++ caps) r →
      Step1 P fl wc v s (s.putO v.dst r)
  | write (r : V) (ob' : List (Option VObj)) : (v.guard = none ∨ ∃ t want, v.guard = some (t, want) ∧ s.get t = .bool want) → v.op.isW wc = true → v.op.evW s.x s.ob = some (r, ob') → s.ob.length ≤ ob'.length →
      Step1 P fl wc v s (({ s with ob := ob' } : St).putO v.dst r)
  | callW (f : X) (as : List X) (g : FuncId) (first caps : List V) (r : V) (ob' : List (Option VObj)) : (v.guard = none ∨ ∃ t want, v.guard = some (t, want) ∧ s.get t = .bool want) → (fl = true ∧ wc = true) → v.op = .call f as → s.x f = .fn g first caps → VCall P g (first ++ as.map s.x ++ caps) s.ob r ob' → s.ob.length ≤ ob'.length →
      Step1 P fl wc v s (({ s with ob := ob' } : St).putO v.dst r)
  | callF (f : X) (as : List X) (g : FuncId) (first caps : List V) (r : V) (ob' : List (Option VObj)) (ms : List Nat) (args : List V) (obs obs' : List (Option VObj)) (r0 : V) : (v.guard = none ∨ ∃ t want, v.guard = some (t, want) ∧ s.get t = .bool want) → wc = true → v.op = .call f as → s.x f = .fn g first caps → FCall P s.ob g (first ++ as.map s.x ++ caps) r ob' ms args obs obs' r0 →
      Step1 P fl wc v s (({ s with ob := ob' } : St).putO v.dst r)

theorem putObs_len' {m : Nat → Nat} {ms : List Nat} {B obs : List (Option VObj)} (h : ms.length ≤ obs.length) : B.length ≤ (putObs m B ms obs).length := by
  rw [putObs_length m ms obs B h]; omega

theorem FCall.le' {P : Program} {ob : List (Option VObj)} {g : FuncId} {xs : List V} {r : V} {ob' : List (Option VObj)} {ms : List Nat} {args : List V} {obs obs' : List (Option VObj)} {r0 : V} (h : FCall P ob g xs r ob' ms args obs obs' r0) : ob.length ≤ ob'.length := by
  rw [h.obj]; exact putObs_len' (by have := h.len; have := h.le; omega)

theorem FCall.same {P : Program} {ob : List (Option VObj)} {g : FuncId} {xs : List V} {r : V} {ob' : List (Option VObj)} {ms : List Nat} {args : List V} {obs obs' : List (Option VObj)} {r0 : V} (h : FCall P ob g xs r ob' ms args obs obs' r0) {k : Nat} (hk : k < ob.length) (hm : k ∉ ms) : ob'[k]? = ob[k]? := by
  rw [h.obj]
  refine (putObs_get _ ms obs' ob (by have := h.len; have := h.le; omega) h.nodup (fun j hj => ?_) k).1 hk hm
  obtain ⟨i, hi⟩ := List.getElem?_of_mem hj
  exact (h.at_ i j hi).1

theorem Step1.len {P : Program} {fl wc : Bool} {v : VOper} {s s' : St} (h : Step1 P fl wc v s s') : s.ob.length ≤ s'.ob.length := by
  cases h with
  | skip => rw [putO_ob]; exact Nat.le_refl _
  | read => rw [putO_ob]; simp
  | callR => rw [putO_ob]; exact Nat.le_refl _
  | write r ob' _ _ _ h => rw [putO_ob]; exact h
  | callW f as g first caps r ob' _ _ _ _ _ h => rw [putO_ob]; exact h
  | callF f as g first caps r ob' ms args obs obs' r0 _ _ _ _ h => rw [putO_ob]; exact h.le'

theorem putO_get (s : St) (d : Option Nat) (v : V) (t : Nat) : (s.putO d v).get t = if d = some t then v else s.get t := by
  cases d with
  | none => simp [St.putO]
  | some d =>
    simp only [St.putO, get_put]
    by_cases h : t = d
    · simp [h]
    · rw [if_neg h, if_neg (fun e => h (Option.some.inj e).symm)]

theorem Step1.base {P : Program} {fl wc : Bool} {v : VOper} {s s' : St} (h : Step1 P fl wc v s s') : s'.base = s.base := by
  cases h <;> rw [putO_base]

theorem Step1.get {P : Program} {fl wc : Bool} {v : VOper} {s s' : St} (h : Step1 P fl wc v s s') (t : Nat) (ht : v.dst ≠ some t) : s'.get t = s.get t := by
  cases h <;> simp [putO_get, ht] <;> rfl

/-- A step that does not write leaves the old objects as they were. -/
theorem Step1.ob {P : Program} {fl wc : Bool} {v : VOper} {s s' : St} (h : Step1 P fl wc v s s') (hw : v.op.isW wc = false) {k : Nat} (hk : k < s.ob.length) : s'.ob[k]? = s.ob[k]? := by
  cases h with
  | skip => rw [putO_ob]
  | read r news _ _ _ => rw [putO_ob]; simp [List.getElem?_append_left hk]
  | callR => rw [putO_ob]
  | write r ob' _ h1 => rw [hw] at h1; cases h1
  | callW f as g first caps r ob' _ h1 h2 => rw [h2, h1.2] at hw; simp [VO.isW] at hw
  | callF f as g first caps r ob' ms args obs obs' r0 _ h1 h2 => rw [h2, h1] at hw; simp [VO.isW] at hw

/-- A step without memory leaves the objects. -/
theorem Step1.obP {P : Program} {fl wc : Bool} {v : VOper} {s s' : St} (h : Step1 P fl wc v s s') (hp : v.op.isP = true) : s'.ob = s.ob := by
  have hR : v.op.isR = false := by
    cases hv : v.op <;> rw [hv] at hp <;> simp [VO.isP, VO.isR] at hp ⊢
  cases h with
  | skip => rw [putO_ob]
  | read r news _ _ h2 _ =>
    rw [putO_ob]
    rw [evR_P hR] at h2
    obtain ⟨q, _, he⟩ := opt_bind h2
    simp only [Prod.mk.injEq] at he
    rw [← he.2]; simp
  | callR => rw [putO_ob]
  | write r ob' _ h1 => cases hv : v.op <;> rw [hv] at hp h1 <;> simp [VO.isP, VO.isW] at hp h1
  | callW f as g first caps r ob' _ h1 h2 => rw [h2] at hp; simp [VO.isP] at hp
  | callF f as g first caps r ob' ms args obs obs' r0 _ h1 h2 => rw [h2] at hp; simp [VO.isP] at hp


theorem namesL_app : ∀ (a b : List V), namesL (a ++ b) = namesL a ++ namesL b
  | [], b => rfl
  | x :: a, b => by simp [namesL, namesL_app a b]

def isWC (fl wc : Bool) (v : VOper) : Bool := v.op.isC && wc && fl

/-- What a step writes, its operands name. -/
theorem Step1.wnames {P : Program} {fl wc : Bool} {v : VOper} {s s' : St} (h : Step1 P fl wc v s s') (hc : isWC fl wc v = false) {k : Nat} (hk : k < s.ob.length) (hne : s'.ob[k]? ≠ s.ob[k]?) : v.op.isW wc = true ∧ k ∈ namesL (v.op.wx.map s.x) := by
  have hw : v.op.isW wc = true := by
    cases hw : v.op.isW wc with
    | true => rfl
    | false => exact absurd (h.ob hw hk) hne
  cases h with
  | skip => rw [putO_ob] at hne; exact absurd rfl hne
  | read r news _ h1 => rw [hw] at h1; cases h1
  | callR => rw [putO_ob] at hne; exact absurd rfl hne
  | callW f as g first caps r ob' _ h1 h2 => simp [isWC, h2, h1.1, h1.2, VO.isC] at hc
  | callF f as g first caps r ob' ms args obs obs' r0 _ h1 h2 hf h3 =>
    refine ⟨hw, ?_⟩
    rw [putO_ob] at hne
    have hm : k ∈ ms := Classical.byContradiction fun hn => hne (h3.same hk hn)
    obtain ⟨i, hi⟩ := List.getElem?_of_mem hm
    have hx := (h3.at_ i k hi).2.1
    rw [h2]
    simp only [VO.wx, List.map_cons, namesL, hf, V.names]
    rw [namesL_app, namesL_app] at hx
    simp only [List.mem_append] at hx ⊢
    rcases hx with (hx | hx) | hx
    · exact .inl (.inl hx)
    · exact .inr hx
    · exact .inl (.inr hx)
  | write r ob' _ h1 h2 =>
    rw [putO_ob] at hne
    cases hop : v.op <;> rw [hop] at h2 <;> simp only [VO.evW, reduceCtorEq] at h2
    case store sz a x =>
      refine ⟨hop ▸ hw, ?_⟩
      split at h2 <;> try (cases h2; done)
      split at h2 <;> try (cases h2; done)
      · rename_i k' off hx
        split at h2 <;> try (cases h2; done)
        split at h2 <;> try (cases h2; done)
        simp only [Option.some.injEq, Prod.mk.injEq] at h2
        rw [← h2.2] at hne
        have : k' = k := by
          by_cases he : k' = k
          · exact he
          · exact absurd (List.getElem?_set_ne he) hne
        simp [VO.wx, namesL, hx, V.names, this]
      · rename_i k' i s2 off hx
        split at h2 <;> try (cases h2; done)
        split at h2 <;> try (cases h2; done)
        split at h2 <;> try (cases h2; done)
        split at h2 <;> try (cases h2; done)
        simp only [Option.some.injEq, Prod.mk.injEq] at h2
        rw [← h2.2] at hne
        have : k' = k := by
          by_cases he : k' = k
          · exact he
          · exact absurd (List.getElem?_set_ne he) hne
        simp [VO.wx, namesL, hx, V.names, this]
    case upd kd m kx x =>
      refine ⟨hop ▸ hw, ?_⟩
      split at h2 <;> try (cases h2; done)
      split at h2 <;> try (cases h2; done)
      rename_i k' hx
      split at h2 <;> try (cases h2; done)
      split at h2 <;> try (cases h2; done)
      all_goals
        simp only [Option.some.injEq, Prod.mk.injEq] at h2
        rw [← h2.2] at hne
        have : k' = k := by
          by_cases he : k' = k
          · exact he
          · exact absurd (List.getElem?_set_ne he) hne
        simp [VO.wx, namesL, hx, V.names, this]
    case del kd m kx =>
      refine ⟨hop ▸ hw, ?_⟩
      split at h2 <;> try (cases h2; done)
      split at h2 <;> try (cases h2; done)
      rename_i k' hx
      split at h2 <;> try (cases h2; done)
      split at h2 <;> try (cases h2; done)
      all_goals
        simp only [Option.some.injEq, Prod.mk.injEq] at h2
        rw [← h2.2] at hne
        have : k' = k := by
          by_cases he : k' = k
          · exact he
          · exact absurd (List.getElem?_set_ne he) hne
        simp [VO.wx, namesL, hx, V.names, this]
    case clr sz z x =>
      refine ⟨hop ▸ hw, ?_⟩
      split at h2 <;> try (cases h2; done)
      · simp only [Option.some.injEq, Prod.mk.injEq] at h2
        rw [← h2.2] at hne
        exact absurd rfl hne
      · rename_i k' n hx
        split at h2 <;> try (cases h2; done)
        split at h2 <;> try (cases h2; done)
        simp only [Option.some.injEq, Prod.mk.injEq] at h2
        rw [← h2.2] at hne
        have : k' = k := by
          by_cases he : k' = k
          · exact he
          · exact absurd (List.getElem?_set_ne he) hne
        simp [VO.wx, namesL, hx, V.names, this]
      · rename_i k' s1 off n hx
        split at h2 <;> try (cases h2; done)
        split at h2 <;> try (cases h2; done)
        simp only [Option.some.injEq, Prod.mk.injEq] at h2
        rw [← h2.2] at hne
        have : k' = k := by
          by_cases he : k' = k
          · exact he
          · exact absurd (List.getElem?_set_ne he) hne
        simp [VO.wx, namesL, hx, V.names, this]
    case app e sz b x y =>
      refine ⟨hop ▸ hw, ?_⟩
      split at h2 <;> try (cases h2; done)
      rename_i old rows rows2 hA hS
      split at h2 <;> try (cases h2; done)
      simp only [Option.some.injEq, Prod.mk.injEq] at h2
      rw [← h2.2, List.getElem?_append_left (by rw [dropOb_length]; exact hk)] at hne
      unfold appRows at hA
      split at hA
      · simp only [Option.some.injEq, Prod.mk.injEq] at hA
        rw [← hA.1] at hne
        exact absurd rfl hne
      · rename_i k' n hx
        split at hA <;> try (cases hA; done)
        split at hA <;> try (cases hA; done)
        simp only [Option.some.injEq, Prod.mk.injEq] at hA
        rw [← hA.1] at hne
        have : k' = k := by
          by_cases he : k' = k
          · exact he
          · exact absurd (List.getElem?_set_ne he) hne
        simp [VO.wx, namesL, hx, V.names, this]
      · cases hA
    case apps e x y =>
      refine ⟨hop ▸ hw, ?_⟩
      split at h2 <;> try (cases h2; done)
      rename_i old rows l hA hS
      split at h2 <;> try (cases h2; done)
      simp only [Option.some.injEq, Prod.mk.injEq] at h2
      rw [← h2.2, List.getElem?_append_left (by rw [dropOb_length]; exact hk)] at hne
      unfold appRows at hA
      split at hA
      · simp only [Option.some.injEq, Prod.mk.injEq] at hA
        rw [← hA.1] at hne
        exact absurd rfl hne
      · rename_i k' n hx
        split at hA <;> try (cases hA; done)
        split at hA <;> try (cases hA; done)
        simp only [Option.some.injEq, Prod.mk.injEq] at hA
        rw [← hA.1] at hne
        have : k' = k := by
          by_cases he : k' = k
          · exact he
          · exact absurd (List.getElem?_set_ne he) hne
        simp [VO.wx, namesL, hx, V.names, this]
      · cases hA

theorem evR_news {o : VO} {ρ : X → V} {ob : List (Option VObj)} {r : V} {news : List VObj} (h : o.evR ρ ob = some (r, news)) : news = [] ∨ (news.length = 1 ∧ ob.length ∈ r.names) := by
  cases hR : o.isR with
  | false =>
    rw [evR_P hR] at h
    obtain ⟨q, _, he⟩ := opt_bind h
    simp only [Prod.mk.injEq] at he
    exact .inl he.2.symm
  | true =>
    cases o <;> simp [VO.isR] at hR <;> simp only [VO.evR] at h
    case alloc z => simp only [Option.some.injEq, Prod.mk.injEq] at h; rw [← h.1, ← h.2]; exact .inr ⟨rfl, by simp [V.names]⟩
    case box x => split at h <;> simp only [reduceCtorEq, Option.some.injEq, Prod.mk.injEq] at h; rw [← h.1, ← h.2]; exact .inr ⟨rfl, by simp [V.names]⟩
    case boxI x => split at h <;> simp only [reduceCtorEq, Option.some.injEq, Prod.mk.injEq] at h; exact .inl h.2.symm
    case load agg sz a => obtain ⟨q, _, he⟩ := opt_bind h; simp only [Prod.mk.injEq] at he; exact .inl he.2.symm
    case bsl own e sz len z ps =>
      cases hf : fillRows ρ sz (List.replicate len z) ps with
      | none => rw [hf] at h; cases h
      | some rows =>
        rw [hf] at h
        simp only [Option.bind_some] at h
        split at h <;> try (cases h; done)
        cases own
        · simp only [Bool.false_eq_true, if_false, Option.some.injEq, Prod.mk.injEq] at h; exact .inl h.2.symm
        · simp only [if_true, Option.some.injEq, Prod.mk.injEq] at h; rw [← h.1, ← h.2]; exact .inr ⟨rfl, by simp [V.names]⟩
    case msl e sz b z l c =>
      split at h <;> try (cases h; done)
      split at h <;> try (cases h; done)
      simp only [Option.some.injEq, Prod.mk.injEq] at h; rw [← h.1, ← h.2]; exact .inr ⟨rfl, by simp [V.names]⟩
    case b2s x =>
      split at h <;> try (cases h; done)
      · obtain ⟨q, _, he⟩ := opt_bind h; simp only [Prod.mk.injEq] at he; exact .inl he.2.symm
      · simp only [Option.some.injEq, Prod.mk.injEq] at h; exact .inl h.2.symm
      · split at h <;> try (cases h; done)
        split at h <;> try (cases h; done)
        obtain ⟨q, _, he⟩ := opt_bind h; simp only [Prod.mk.injEq] at he; exact .inl he.2.symm
    case s2b e x =>
      split at h <;> try (cases h; done)
      split at h
      · split at h <;> try (cases h; done)
        simp only [Option.some.injEq, Prod.mk.injEq] at h; rw [← h.1, ← h.2]; exact .inr ⟨rfl, by simp [V.names]⟩
      · simp only [Option.some.injEq, Prod.mk.injEq] at h; exact .inl h.2.symm
    case mkmap l => split at h <;> simp only [reduceCtorEq, Option.some.injEq, Prod.mk.injEq] at h; rw [← h.1, ← h.2]; exact .inr ⟨rfl, by simp [V.names]⟩
    case look ck kd z x i =>
      split at h <;> try (cases h; done)
      split at h <;> try (cases h; done)
      · simp only [Option.some.injEq, Prod.mk.injEq] at h; exact .inl h.2.symm
      · split at h <;> try (cases h; done)
        split at h <;> try (cases h; done)
        all_goals (simp only [Option.some.injEq, Prod.mk.injEq] at h; exact .inl h.2.symm)
    case rng x =>
      split at h <;> try (cases h; done)
      · simp only [Option.some.injEq, Prod.mk.injEq] at h; rw [← h.1, ← h.2]; exact .inr ⟨rfl, by simp [V.names]⟩
      · split at h <;> try (cases h; done)
        simp only [Option.some.injEq, Prod.mk.injEq] at h; rw [← h.1, ← h.2]; exact .inr ⟨rfl, by simp [V.names]⟩
    case nxt x => cases h
    case ent x => cases h

/-- What a step makes, its value names. -/
theorem Step1.nnames {P : Program} {fl wc : Bool} {v : VOper} {s s' : St} (h : Step1 P fl wc v s s') (hc : isWC fl wc v = false) (hd : v.dst = none → v.op.isS = true) {k : Nat} (h1 : s.ob.length ≤ k) (h2 : k < s'.ob.length) : k ∈ namesL ((dstX v).map s'.x) := by
  have fin : ∀ (s0 : St) (r : V), s' = s0.putO v.dst r → v.op.isS = false → k ∈ r.names → k ∈ namesL ((dstX v).map s'.x) := by
    intro s0 r he hs hk
    cases hdd : v.dst with
    | none => have q := hd hdd; rw [hs] at q; cases q
    | some t =>
      rw [he, hdd]
      simp only [dstX, hdd, List.map_cons, List.map_nil, namesL, St.x, St.putO, get_put, if_true, List.append_nil]
      exact hk
  cases h with
  | skip => rw [putO_ob] at h2; omega
  | callR => rw [putO_ob] at h2; omega
  | read r news _ hw he hnc =>
    rw [putO_ob] at h2
    simp only [List.length_append, List.length_map] at h2
    rcases evR_news he with q | ⟨q1, q2⟩
    · rw [q] at h2; simp at h2; omega
    · have hk : k = s.ob.length := by omega
      subst hk
      refine fin _ r rfl ?_ q2
      cases hop : v.op <;> first | rfl | (rw [hop] at hw; simp [VO.isW] at hw)
  | callW f as g first caps r ob' _ q1 q2 => simp [isWC, q2, q1.1, q1.2, VO.isC] at hc
  | callF f as g first caps r ob' ms args obs obs' r0 _ q1 q2 hf q3 =>
    rw [putO_ob] at h2
    exact fin _ r rfl (by rw [q2]; rfl) (q3.news k h1 h2)
  | write r ob' _ q1 q2 =>
    rw [putO_ob] at h2
    cases hop : v.op <;> rw [hop] at q2 <;> simp only [VO.evW, reduceCtorEq] at q2
    case store sz a x =>
      exfalso
      split at q2 <;> try (cases q2; done)
      split at q2 <;> try (cases q2; done)
      · split at q2 <;> try (cases q2; done)
        split at q2 <;> try (cases q2; done)
        simp only [Option.some.injEq, Prod.mk.injEq] at q2
        rw [← q2.2] at h2
        simp at h2; omega
      · split at q2 <;> try (cases q2; done)
        split at q2 <;> try (cases q2; done)
        split at q2 <;> try (cases q2; done)
        split at q2 <;> try (cases q2; done)
        simp only [Option.some.injEq, Prod.mk.injEq] at q2
        rw [← q2.2] at h2
        simp at h2; omega
    case upd kd m kx x =>
      exfalso
      split at q2 <;> try (cases q2; done)
      split at q2 <;> try (cases q2; done)
      split at q2 <;> try (cases q2; done)
      split at q2 <;> try (cases q2; done)
      all_goals
        simp only [Option.some.injEq, Prod.mk.injEq] at q2
        rw [← q2.2] at h2
        simp at h2; omega
    case del kd m kx =>
      exfalso
      split at q2 <;> try (cases q2; done)
      split at q2 <;> try (cases q2; done)
      split at q2 <;> try (cases q2; done)
      split at q2 <;> try (cases q2; done)
      all_goals
        simp only [Option.some.injEq, Prod.mk.injEq] at q2
        rw [← q2.2] at h2
        simp at h2; omega
    case clr sz z x =>
      exfalso
      split at q2 <;> try (cases q2; done)
      · simp only [Option.some.injEq, Prod.mk.injEq] at q2
        rw [← q2.2] at h2
        simp only at h2
        omega
      · split at q2 <;> try (cases q2; done)
        split at q2 <;> try (cases q2; done)
        simp only [Option.some.injEq, Prod.mk.injEq] at q2
        rw [← q2.2] at h2
        simp at h2; omega
      · split at q2 <;> try (cases q2; done)
        split at q2 <;> try (cases q2; done)
        simp only [Option.some.injEq, Prod.mk.injEq] at q2
        rw [← q2.2] at h2
        simp at h2; omega
    case app e sz b x y =>
      split at q2 <;> try (cases q2; done)
      split at q2 <;> try (cases q2; done)
      simp only [Option.some.injEq, Prod.mk.injEq] at q2
      rw [← q2.2] at h2
      simp only [List.length_append, dropOb_length, List.length_cons, List.length_nil] at h2
      have hk : k = s.ob.length := by omega
      subst hk
      refine fin _ r rfl (by rw [hop]; rfl) ?_
      rw [← q2.1]; simp [V.names]
    case apps e x y =>
      split at q2 <;> try (cases q2; done)
      split at q2 <;> try (cases q2; done)
      simp only [Option.some.injEq, Prod.mk.injEq] at q2
      rw [← q2.2] at h2
      simp only [List.length_append, dropOb_length, List.length_cons, List.length_nil] at h2
      have hk : k = s.ob.length := by omega
      subst hk
      refine fin _ r rfl (by rw [hop]; rfl) ?_
      rw [← q2.1]; simp [V.names]

/-- A step turns an object that was there. -/
def chg (S : Nat → St) (j k : Nat) : Prop := k < (S j).ob.length ∧ (S (j + 1)).ob[k]? ≠ (S j).ob[k]?

section
variable {fl : Bool} {P : Program} {ops : Array Oper} {vs : List VOper} {wc : List Bool} {pre : List (List Nat)} {nt : Nat} {w0 : World} {E0 : Env} {S : Nat → St}

/-- What is known in the middle of a region. -/
structure DInv (ops : Array Oper) (vs : List VOper) (wc : List Bool) (pre : List (List Nat)) (nt : Nat) (w0 : World) (E0 : Env) (S : Nat → St) (L : Nat → Prop) (a : Act) (w : World) (E : Env) : Prop where
  closed : ∀ i, L i → i < vs.length ∧ ∀ j ∈ pre.getD i [], L j
  defers : a.defers = E0.dfr
  size : a.tmps.size = nt
  done : ∀ j v t, L j → vs[j]? = some v → v.dst = some t → Rep w E ((S (j + 1)).get t) (a.tmps.getD t undef)
  rest : ∀ t, (∀ j v, L j → vs[j]? = some v → v.dst ≠ some t) → Rep w E ((S 0).get t) (a.tmps.getD t undef)
  dom : ∀ k, E.dom k ↔ (k < (S 0).ob.length ∨ ∃ j, L j ∧ (S j).ob.length ≤ k ∧ k < (S (j + 1)).ob.length)
  objs : ∀ m, m ≤ vs.length → ∀ k o, (∀ j, j < vs.length → chg S j k → (j < m ↔ L j)) → E.dom k → k < (S m).ob.length → (S m).ob[k]? = some (some o) → ObjRep w E k o
  fresh : ∀ b, w.heap.size ≤ b → E.lab b = .imm
  ext : Ext w0 E0 w E
  base : ∀ k, E0.dom k → k < (S 0).base

theorem lens (hst : ∀ i v, vs[i]? = some v → Step1 P fl (wc.getD i false) v (S i) (S (i + 1))) {i j : Nat} (hij : i ≤ j) (hj : j ≤ vs.length) : (S i).ob.length ≤ (S j).ob.length := by
  induction j with
  | zero => have : i = 0 := by omega
            subst this; exact Nat.le_refl _
  | succ j ih =>
    rcases Nat.lt_or_ge i (j + 1) with h | h
    · have h1 := ih (by omega) (by omega)
      have hv : vs[j]? = some vs[j] := List.getElem?_eq_getElem (by omega)
      exact Nat.le_trans h1 (hst j _ hv).len
    · have : i = j + 1 := by omega
      subst this; exact Nat.le_refl _

theorem same_ob (hst : ∀ i v, vs[i]? = some v → Step1 P fl (wc.getD i false) v (S i) (S (i + 1))) {k : Nat} {i j : Nat} (hij : i ≤ j) (hj : j ≤ vs.length) (hw : ∀ q, i ≤ q → q < j → ¬ chg S q k) (hk : k < (S i).ob.length) : (S j).ob[k]? = (S i).ob[k]? := by
  induction j with
  | zero => have : i = 0 := by omega
            subst this; rfl
  | succ j ih =>
    rcases Nat.lt_or_ge i (j + 1) with h | h
    · have h1 := ih (by omega) (by omega) (fun q h1 h2 => hw q h1 (by omega))
      have hlen := lens hst (i := i) (j := j) (by omega) (by omega)
      have h2 : (S (j + 1)).ob[k]? = (S j).ob[k]? := Classical.byContradiction fun hne => hw j (by omega) (by omega) ⟨by omega, hne⟩
      rw [h2, h1]
    · have : i = j + 1 := by omega
      subst this; rfl

theorem same_base (hst : ∀ i v, vs[i]? = some v → Step1 P fl (wc.getD i false) v (S i) (S (i + 1))) : ∀ {j : Nat}, j ≤ vs.length → (S j).base = (S 0).base
  | 0, _ => rfl
  | j + 1, hj => by
    have hv : vs[j]? = some vs[j] := List.getElem?_eq_getElem (by omega)
    rw [(hst j _ hv).base, same_base hst (by omega)]

/-- A slot that nothing in between writes. -/
theorem same_get (hst : ∀ i v, vs[i]? = some v → Step1 P fl (wc.getD i false) v (S i) (S (i + 1))) {i j t : Nat} (hij : i ≤ j) (hj : j ≤ vs.length) (ht : ∀ q v, vs[q]? = some v → i ≤ q → q < j → v.dst ≠ some t) : (S j).get t = (S i).get t := by
  induction j with
  | zero => have : i = 0 := by omega
            subst this; rfl
  | succ j ih =>
    rcases Nat.lt_or_ge i (j + 1) with h | h
    · have h1 := ih (by omega) (by omega) (fun q v hq h1 h2 => ht q v hq h1 (by omega))
      have hv : vs[j]? = some vs[j] := List.getElem?_eq_getElem (by omega)
      rw [(hst j _ hv).get t (ht j _ hv (by omega) (by omega)), h1]
    · have : i = j + 1 := by omega
      subst this; rfl

/-- What an operation that is ready reads, is what it read in the text's order. -/
theorem DInv.operand {ips : List (Nat × Nat)} (hd : DOk ops.toList vs wc pre ips) (hst : ∀ i v, vs[i]? = some v → Step1 P fl (wc.getD i false) v (S i) (S (i + 1))) {L : Nat → Prop} {a : Act} {w : World} {E : Env} (h : DInv ops vs wc pre nt w0 E0 S L a w E)
    {i : Nat} {v : VOper} (hv : vs[i]? = some v) (hi : ¬ L i) (hpre : ∀ j ∈ pre.getD i [], L j) {t : Nat} (ht : t ∈ v.reads) : Rep w E ((S i).get t) (a.tmps.getD t undef) := by
  have hil := getElem?_lt hv
  by_cases hw : ∃ (j : Nat) (u : VOper), vs[j]? = some u ∧ u.dst = some t
  · obtain ⟨j, u, hu, hut⟩ := hw
    have huniq : ∀ (q : Nat) (x : VOper), vs[q]? = some x → x.dst = some t → q = j := fun q x hq hx => hd.dst q j x u t hq hu hx hut
    rcases hd.reads i j v u t hv hu ht hut with rfl | hj | hj
    · -- it writes what it reads
      have h1 := h.rest t (fun q x hL hq hx => hi (huniq q x hq hx ▸ hL))
      rw [same_get hst (i := 0) (j := i) (Nat.zero_le _) (by omega) (fun q x hq _ hlt hx => by have := huniq q x hq hx; omega)]
      exact h1
    · have hL := hpre j hj
      have hji : j < i := by
        have ho : ops.toList[i]? = some (ops.toList[i]'(by rw [← hd.lenv]; exact hil)) := List.getElem?_eq_getElem _
        exact (hd.clo i _ ho j hj).1
      have h1 := h.done j u t hL hu hut
      rw [same_get hst (i := j + 1) (j := i) (by omega) (by omega) (fun q x hq h1 h2 hx => by have := huniq q x hq hx; omega)]
      exact h1
    · have hnL : ¬ L j := fun hL => hi ((h.closed j hL).2 i hj)
      have hij : i < j := by
        have hjl := getElem?_lt hu
        have ho : ops.toList[j]? = some (ops.toList[j]'(by rw [← hd.lenv]; exact hjl)) := List.getElem?_eq_getElem _
        exact (hd.clo j _ ho i hj).1
      have h1 := h.rest t (fun q x hL hq hx => hnL (huniq q x hq hx ▸ hL))
      rw [same_get hst (i := 0) (j := i) (Nat.zero_le _) (by omega) (fun q x hq _ hlt hx => by have := huniq q x hq hx; omega)]
      exact h1
  · have hno : ∀ (q : Nat) (x : VOper), vs[q]? = some x → x.dst ≠ some t := fun q x hq hx => hw ⟨q, x, hq, hx⟩
    have h1 := h.rest t (fun q x _ hq => hno q x hq)
    rw [same_get hst (i := 0) (j := i) (Nat.zero_le _) (by omega) (fun q x hq _ _ => hno q x hq)]
    exact h1

/-- A slot is written: what was known of the others stays. -/
theorem DInv.tmps {ips : List (Nat × Nat)} (hd : DOk ops.toList vs wc pre ips) {L : Nat → Prop} {a : Act} {w w' : World} {E E' : Env} (h : DInv ops vs wc pre nt w0 E0 S L a w E) {i : Nat} {v : VOper} (hv : vs[i]? = some v) (hx : Ext w E w' E') (hnt : ∀ t, v.dst = some t → t < nt) {val : Value} (hr : ∀ t, v.dst = some t → Rep w' E' ((S (i + 1)).get t) val) :
    (∀ j u t, (L j ∨ j = i) → vs[j]? = some u → u.dst = some t → Rep w' E' ((S (j + 1)).get t) ((a.put v.dst val).tmps.getD t undef)) ∧
    (∀ t, (∀ j u, (L j ∨ j = i) → vs[j]? = some u → u.dst ≠ some t) → Rep w' E' ((S 0).get t) ((a.put v.dst val).tmps.getD t undef)) := by
  constructor
  · intro j u t hL hu hut
    rw [tmps_put]
    by_cases hji : j = i
    · subst hji
      rw [hv] at hu
      simp only [Option.some.injEq] at hu
      subst hu
      rw [hut]
      simp only [true_and]
      rw [if_pos (by rw [h.size]; exact hnt t hut)]
      exact hr t hut
    · have hLj := hL.resolve_right hji
      have hold := Rep.ext hx _ _ (h.done j u t hLj hu hut)
      cases hvd : v.dst with
      | none => exact hold
      | some d =>
        simp only
        rw [if_neg]
        · exact hold
        · rintro ⟨rfl, _⟩
          exact hji (hd.dst j i u v _ hu hv hut hvd)
  · intro t ht
    rw [tmps_put]
    have hold := Rep.ext hx _ _ (h.rest t (fun j u hL hu => ht j u (.inl hL) hu))
    cases hvd : v.dst with
    | none => exact hold
    | some d =>
      simp only
      rw [if_neg]
      · exact hold
      · rintro ⟨rfl, _⟩
        exact ht i v (.inr rfl) hv hvd

/-- Who writes, and who else looks there: in order, or apart. -/
structure Conf (fl : Bool) (vs : List VOper) (wc : List Bool) (pre : List (List Nat)) (S : Nat → St) : Prop where
  call : ∀ i j v u, vs[i]? = some v → vs[j]? = some u → isWC fl (wc.getD i false) v = true → u.op.isP = false → i ≠ j → j ∈ pre.getD i [] ∨ i ∈ pre.getD j []
  open' : ∀ i j v u k, vs[i]? = some v → vs[j]? = some u → i ≠ j → chg S i k → u.op.isP = false → (j ∈ pre.getD i [] ∨ i ∈ pre.getD j []) ∨
    (isWC fl (wc.getD j false) u = false ∧ ¬ chg S j k ∧ k ∉ namesL (u.op.tx.map (S j).x) ∧ ¬ ((S j).ob.length ≤ k ∧ k < (S (j + 1)).ob.length))

theorem slots_same (hst : ∀ i v, vs[i]? = some v → Step1 P fl (wc.getD i false) v (S i) (S (i + 1))) {i j : Nat} (hij : i ≤ j) (hj : j ≤ vs.length) (xs : List X) (h : ∀ (q : Nat) x t, vs[q]? = some x → x.dst = some t → t ∈ slotsX xs → q < i) : xs.map (S j).x = xs.map (S i).x := by
  apply List.map_congr_left
  intro X hX
  cases X with
  | c v => rfl
  | t n =>
    refine same_get hst hij hj ?_
    intro q v hq h1 h2 hd
    have : n ∈ slotsX xs := by
      simp only [slotsX, List.mem_filterMap]
      exact ⟨.t n, hX, rfl⟩
    have := h q v n hq hd this
    omega

theorem wx_tx {o : VO} (h : o.isP = false) : ∀ x ∈ o.wx, x ∈ o.tx := by
  intro x hx
  unfold VO.tx
  rw [h]
  cases o <;> simp [VO.wx] at hx <;> simp [VO.xs, hx]

theorem names_sub {s : St} {xs ys : List X} (h : ∀ x ∈ xs, x ∈ ys) {k : Nat} (hk : k ∈ namesL (xs.map s.x)) : k ∈ namesL (ys.map s.x) := by
  have key : ∀ (zs : List X) (k : Nat), k ∈ namesL (zs.map s.x) ↔ ∃ z ∈ zs, k ∈ (s.x z).names := by
    intro zs
    induction zs with
    | nil => intro k; simp [namesL]
    | cons z zs ih => intro k; simp [namesL, ih]
  rw [key] at hk ⊢
  obtain ⟨z, h1, h2⟩ := hk
  exact ⟨z, h z h1, h2⟩

theorem conf_of {ips : List (Nat × Nat)} (hd : DOk ops.toList vs wc pre ips) (hst : ∀ i v, vs[i]? = some v → Step1 P fl (wc.getD i false) v (S i) (S (i + 1))) (hfl : fl = true → ips = []) (hc : chkS (mkSp vs ips) (S vs.length) = true) : Conf fl vs wc pre S where
  call := by
    intro i j v u hv hu hw hp hne
    simp only [isWC, Bool.and_eq_true] at hw
    have hW : v.op.isW (wc.getD i false) = true := by
      cases hop : v.op <;> rw [hop] at hw <;> simp [VO.isC] at hw
      simp [VO.isW, hw]
    rcases hd.writes i j v u hv hu hW hp with h | h | h
    · exact absurd h hne
    · exact h
    · have := h.1
      rw [hfl hw.2] at this
      cases this
  open' := by
    intro i j v u k hv hu hne hch hp
    have hi := hst i v hv
    have hW : v.op.isW (wc.getD i false) = true := by
      cases hw : v.op.isW (wc.getD i false) with
      | true => rfl
      | false => exact absurd (hi.ob hw hch.1) hch.2
    rcases hd.writes i j v u hv hu hW hp with h | h | ⟨h1, h4, h5⟩
    · exact absurd h hne
    · exact .inl h
    right
    have hf0 : fl = false := by
      cases hfl' : fl with
      | false => rfl
      | true => rw [hfl hfl'] at h1; cases h1
    have hwc1 : isWC fl (wc.getD i false) v = false := by simp [isWC, hf0]
    have hwc2 : isWC fl (wc.getD j false) u = false := by simp [isWC, hf0]
    obtain ⟨_, hkw⟩ := hi.wnames hwc1 hch.1 hch.2
    have hil := getElem?_lt hv
    have hjl := getElem?_lt hu
    have e1 := slots_same hst (Nat.le_of_lt hil) (Nat.le_refl _) v.op.wx (fun q x t hq hx ht => (h5 q x t hq hx).1 ht)
    have e2 := slots_same hst (Nat.le_of_lt hjl) (Nat.le_refl _) u.op.tx (fun q x t hq hx ht => (h5 q x t hq hx).2 ht)
    have e3 : (dstX u).map (S vs.length).x = (dstX u).map (S (j + 1)).x := by
      unfold dstX
      cases hud : u.dst with
      | none => rfl
      | some t =>
        simp only [List.map_cons, List.map_nil, St.x]
        rw [same_get hst (i := j + 1) (j := vs.length) hjl (Nat.le_refl _) (fun q x hq h1 h2 hx => by have := hd.dst q j x u t hq hu hx hud; omega)]
    have hdis : k ∉ namesL ((u.op.tx ++ dstX u).map (S vs.length).x) := by
      have hm : (v.op.wx, u.op.tx ++ dstX u) ∈ mkSp vs ips := by
        simp only [mkSp, List.mem_filterMap]
        exact ⟨(i, j), h1, by simp only [hv, hu]⟩
      have hq := List.all_eq_true.1 hc _ hm
      simp only [List.all_eq_true, Bool.not_eq_true', List.contains_eq_mem, decide_eq_false_iff_not] at hq
      exact hq k (by rw [e1]; exact hkw)
    rw [List.map_append, namesL_app, List.mem_append, e2, e3] at hdis
    have ht : k ∉ namesL (u.op.tx.map (S j).x) := fun h => hdis (.inl h)
    refine ⟨hwc2, ?_, ht, ?_⟩
    · intro hch2
      have := (hst j u hu).wnames hwc2 hch2.1 hch2.2
      exact ht (names_sub (wx_tx hp) this.2)
    · rintro ⟨q1, q2⟩
      exact hdis (.inr ((hst j u hu).nnames hwc2 h4 q1 q2))
end
end Go.Proofs.VL

namespace Go.Proofs.VL
open Go Go.RowKit
set_option linter.unusedSimpArgs false
set_option linter.unusedVariables false

section
variable {fl : Bool} {P : Program} {ops : Array Oper} {vs : List VOper} {wc : List Bool} {pre : List (List Nat)} {ips : List (Nat × Nat)} {nt : Nat} {w0 : World} {E0 : Env} {S : Nat → St}

theorem pre_lt (hd : DOk ops.toList vs wc pre ips) {i j : Nat} {v : VOper} (hv : vs[i]? = some v) (h : j ∈ pre.getD i []) : j < i := by
  have hil := getElem?_lt hv
  have ho : ops.toList[i]? = some (ops.toList[i]'(by rw [← hd.lenv]; exact hil)) := List.getElem?_eq_getElem _
  exact (hd.clo i _ ho j h).1

theorem isW_notP {wc : Bool} {o : VO} (h : o.isW wc = true) : o.isP = false := by
  cases o <;> first | rfl | (simp [VO.isW] at h)

/-- The names in use, after all that stands before. -/
theorem dom_tel (hst : ∀ i v, vs[i]? = some v → Step1 P fl (wc.getD i false) v (S i) (S (i + 1))) {L : Nat → Prop} {a : Act} {w : World} {E : Env} (h : DInv ops vs wc pre nt w0 E0 S L a w E) {m : Nat} (hm : m ≤ vs.length)
    (h1 : ∀ j v, vs[j]? = some v → j < m → v.op.isP = false → L j) (h2 : ∀ j v, vs[j]? = some v → L j → m ≤ j → v.op.isP = true) (k : Nat) : E.dom k ↔ k < (S m).ob.length := by
  rw [h.dom]
  constructor
  · rintro (hk | ⟨j, hL, hk1, hk2⟩)
    · exact Nat.lt_of_lt_of_le hk (lens hst (Nat.zero_le _) hm)
    · have hjl := (h.closed j hL).1
      have hv : vs[j]? = some vs[j] := List.getElem?_eq_getElem hjl
      rcases Nat.lt_or_ge j m with hjm | hjm
      · exact Nat.lt_of_lt_of_le hk2 (lens hst hjm hm)
      · have := (hst j _ hv).obP (h2 j _ hv hL hjm)
        rw [this] at hk2
        omega
  · intro hk
    have key : ∀ n, n ≤ m → k < (S n).ob.length → k < (S 0).ob.length ∨ ∃ j, j < n ∧ (S j).ob.length ≤ k ∧ k < (S (j + 1)).ob.length := by
      intro n
      induction n with
      | zero => intro _ h; exact .inl h
      | succ n ih =>
        intro hn hlt
        rcases Nat.lt_or_ge k (S n).ob.length with h' | h'
        · rcases ih (by omega) h' with h3 | ⟨j, q1, q2⟩
          · exact .inl h3
          · exact .inr ⟨j, by omega, q2⟩
        · exact .inr ⟨n, by omega, h', hlt⟩
    rcases key m (Nat.le_refl _) hk with h3 | ⟨j, q1, q2, q3⟩
    · exact .inl h3
    · refine .inr ⟨j, ?_, q2, q3⟩
      have hv : vs[j]? = some vs[j] := List.getElem?_eq_getElem (by omega)
      refine h1 j _ hv q1 ?_
      cases hp : vs[j].op.isP with
      | false => rfl
      | true =>
        have := (hst j _ hv).obP hp
        rw [this] at q3
        omega

theorem dom_at (hd : DOk ops.toList vs wc pre ips) (hcf : Conf fl vs wc pre S) (hst : ∀ i v, vs[i]? = some v → Step1 P fl (wc.getD i false) v (S i) (S (i + 1))) {L : Nat → Prop} {a : Act} {w : World} {E : Env} (h : DInv ops vs wc pre nt w0 E0 S L a w E) {i : Nat} {v : VOper} (hv : vs[i]? = some v)
    (hw : isWC fl (wc.getD i false) v = true) (hi : ¬ L i) (hpre : ∀ j ∈ pre.getD i [], L j) (k : Nat) : E.dom k ↔ k < (S i).ob.length := by
  refine dom_tel hst h (Nat.le_of_lt (getElem?_lt hv)) ?_ ?_ k
  · intro j u hu hji hp
    rcases hcf.call i j v u hv hu hw hp (by omega) with q | q
    · exact hpre j q
    · have := pre_lt hd hu q; omega
  · intro j u hu hL hij
    cases hp : u.op.isP with
    | true => rfl
    | false =>
      by_cases he : i = j
      · subst he; exact absurd hL hi
      · rcases hcf.call i j v u hv hu hw hp he with q | q
        · have := pre_lt hd hv q; omega
        · exact absurd ((h.closed j hL).2 i q) hi

theorem step_closed {L : Nat → Prop} (hcl : ∀ i, L i → i < vs.length ∧ ∀ j ∈ pre.getD i [], L j) {i : Nat} {v : VOper} (hv : vs[i]? = some v) (hpre : ∀ j ∈ pre.getD i [], L j) : ∀ q, (L q ∨ q = i) → q < vs.length ∧ ∀ j ∈ pre.getD q [], (L j ∨ j = i) := by
  rintro q (hq | rfl)
  · exact ⟨(hcl q hq).1, fun j hj => .inl ((hcl q hq).2 j hj)⟩
  · exact ⟨getElem?_lt hv, fun j hj => .inl (hpre j hj)⟩

/-- Of an object that this step looks at, what stands before has run, and nothing else. -/
theorem cond_at (hd : DOk ops.toList vs wc pre ips) {L : Nat → Prop} (hcl : ∀ i, L i → i < vs.length ∧ ∀ j ∈ pre.getD i [], L j) {i k : Nat} {v : VOper} (hv : vs[i]? = some v) (hi : ¬ L i) (hpre : ∀ j ∈ pre.getD i [], L j)
    (ho : ∀ j, j < vs.length → j ≠ i → chg S j k → j ∈ pre.getD i [] ∨ i ∈ pre.getD j []) : ∀ j, j < vs.length → chg S j k → (j < i ↔ L j) := by
  intro j hj hch
  by_cases he : j = i
  · subst he
    exact ⟨fun h => absurd h (Nat.lt_irrefl _), fun h => absurd h hi⟩
  · rcases ho j hj he hch with q | q
    · exact ⟨fun _ => hpre j q, fun _ => pre_lt hd hv q⟩
    · have := pre_lt hd (v := vs[j]) (List.getElem?_eq_getElem hj) q
      exact ⟨fun h => by omega, fun h => absurd ((hcl j h).2 i q) hi⟩

/-- An operation is done. T: what it looks at. -/
theorem DInv.step (hd : DOk ops.toList vs wc pre ips) (hcf : Conf fl vs wc pre S) (hst : ∀ i v, vs[i]? = some v → Step1 P fl (wc.getD i false) v (S i) (S (i + 1))) {L : Nat → Prop} {a : Act} {w w' : World} {E E' : Env} (h : DInv ops vs wc pre nt w0 E0 S L a w E)
    {i : Nat} {v : VOper} (hv : vs[i]? = some v) (hi : ¬ L i) (hpre : ∀ j ∈ pre.getD i [], L j) (hnt : ∀ t, v.dst = some t → t < nt) {val : Value} (T : Nat → Prop)
    (hT : ∀ k j, j < vs.length → j ≠ i → T k → chg S j k → j ∈ pre.getD i [] ∨ i ∈ pre.getD j []) (hTc : ∀ k, chg S i k → T k) (hpp : v.op.isP = true → (S (i + 1)).ob = (S i).ob)
    (hx : Ext w E w' E') (hdom : ∀ k, E'.dom k ↔ E.dom k ∨ ((S i).ob.length ≤ k ∧ k < (S (i + 1)).ob.length)) (hr : ∀ t, v.dst = some t → Rep w' E' ((S (i + 1)).get t) val)
    (hobT : ∀ k o, E'.dom k → (T k ∨ (S i).ob.length ≤ k) → k < (S (i + 1)).ob.length → (S (i + 1)).ob[k]? = some (some o) → ObjRep w' E' k o)
    (hobN : ∀ k o, E.dom k → ¬ (T k ∧ k < (S i).ob.length) → ObjRep w E k o → ObjRep w' E' k o)
    (hf : ∀ b, w'.heap.size ≤ b → E'.lab b = .imm) : DInv ops vs wc pre nt w0 E0 S (fun q => L q ∨ q = i) (a.put v.dst val) w' E' := by
  obtain ⟨t1, t2⟩ := h.tmps hd hv hx hnt hr
  have hil := getElem?_lt hv
  have hlenS := lens hst (i := i) (j := i + 1) (by omega) hil
  refine ⟨step_closed h.closed hv hpre, by rw [defers_put]; exact h.defers, by rw [size_put]; exact h.size, t1, t2, ?_, ?_, hf, h.ext.trans hx, h.base⟩
  · intro k
    rw [hdom, h.dom]
    constructor
    · rintro ((h1 | ⟨j, hL, h1⟩) | ⟨h1, h2⟩)
      · exact .inl h1
      · exact .inr ⟨j, .inl hL, h1⟩
      · exact .inr ⟨i, .inr rfl, h1, h2⟩
    · rintro (h1 | ⟨j, hL | rfl, h1, h2⟩)
      · exact .inl (.inl h1)
      · exact .inl (.inr ⟨j, hL, h1, h2⟩)
      · exact .inr ⟨h1, h2⟩
  · intro m hm k o hc hk hkm hko
    -- the object is new, or was turned: then what follows has not run
    have later : (chg S i k ∨ ((S i).ob.length ≤ k ∧ k < (S (i + 1)).ob.length)) → i < m → (S m).ob[k]? = (S (i + 1)).ob[k]? := by
      intro hwh him
      have hk1 : k < (S (i + 1)).ob.length := by
        rcases hwh with q | q
        · exact Nat.lt_of_lt_of_le q.1 hlenS
        · exact q.2
      refine same_ob hst (i := i + 1) (j := m) him hm ?_ hk1
      intro q hq1 hq2 hch
      have hql : q < vs.length := by omega
      have hu : vs[q]? = some vs[q] := List.getElem?_eq_getElem hql
      have hLq : L q := ((hc q hql hch).1 hq2).resolve_right (by omega)
      have hnp : v.op.isP = false := by
        cases hp : v.op.isP with
        | false => rfl
        | true =>
          exfalso
          have := hpp hp
          rcases hwh with q' | q'
          · exact q'.2 (by rw [this])
          · rw [this] at q'; omega
      have hord : i ∈ pre.getD q [] ∨ q ∈ pre.getD i [] := by
        rcases hcf.open' q i _ v k hu hv (by omega) hch hnp with h1 | ⟨_, h2, _, h4⟩
        · exact h1
        · exfalso
          rcases hwh with q' | q'
          · exact h2 q'
          · exact h4 q'
      rcases hord with h1 | h1
      · exact hi ((h.closed q hLq).2 i h1)
      · have := pre_lt hd hv h1; omega
    by_cases hch : chg S i k
    · have him : i < m := (hc i hil hch).2 (.inr rfl)
      rw [later (.inl hch) him] at hko
      exact hobT k o hk (.inl (hTc k hch)) (Nat.lt_of_lt_of_le hch.1 hlenS) hko
    · by_cases hnew : (S i).ob.length ≤ k ∧ k < (S (i + 1)).ob.length
      · have him : i < m := by
          rcases Nat.lt_or_ge i m with q | q
          · exact q
          · have := lens hst q (Nat.le_of_lt hil); omega
        rw [later (.inr hnew) him] at hko
        exact hobT k o hk (.inr hnew.1) hnew.2 hko
      · have hkd : E.dom k := ((hdom k).1 hk).resolve_right hnew
        have hc' : ∀ j, j < vs.length → chg S j k → (j < m ↔ L j) := by
          intro j hj hcj
          rw [hc j hj hcj]
          constructor
          · rintro (q | rfl)
            · exact q
            · exact absurd hcj hch
          · exact .inl
        have hold := h.objs m hm k o hc' hkd hkm hko
        by_cases hTk : T k ∧ k < (S i).ob.length
        · -- the same object as at this step
          have hsame : (S m).ob[k]? = (S i).ob[k]? := by
            rcases Nat.lt_or_ge i m with him | him
            · refine same_ob hst (Nat.le_of_lt him) hm ?_ hTk.2
              intro q hq1 hq2 hcq
              have hql : q < vs.length := by omega
              by_cases he : q = i
              · subst he; exact hch hcq
              · have hLq := (hc' q hql hcq).1 hq2
                rcases hT k q hql he hTk.1 hcq with h1 | h1
                · have := pre_lt hd hv h1; omega
                · exact hi ((h.closed q hLq).2 i h1)
            · refine (same_ob hst him (Nat.le_of_lt hil) ?_ hkm).symm
              intro q hq1 hq2 hcq
              have hql : q < vs.length := by omega
              rcases hT k q hql (by omega) hTk.1 hcq with h1 | h1
              · have := (hc' q hql hcq).2 (hpre q h1); omega
              · have := pre_lt hd (v := vs[q]) (List.getElem?_eq_getElem hql) h1; omega
          have hsame2 : (S (i + 1)).ob[k]? = (S i).ob[k]? := Classical.byContradiction fun hne => hch ⟨hTk.2, hne⟩
          rw [hsame, ← hsame2] at hko
          exact hobT k o hk (.inl hTk.1) (by omega) hko
        · exact hobN k o hkd hTk hold
end
end Go.Proofs.VL

/- Contracts of functions of the program, for what calls them, and the law that its name tells. -/
import Derived.Test.YthlmgkfipbphmaaV3
import Derived.Test.YthlmgkfipbphmaaAR
import Derived.Test.YthlmgkfipbphmaaSG
import Derived.Test.YthlmgkfipbphmaaCarena
import Derived.Test.YthlmgkfipbphmaaCslices
namespace Go.Proofs.VL
open Go Go.RowKit
set_option maxRecDepth 100000
set_option maxHeartbeats 2000000
set_option linter.unusedSimpArgs false
set_option linter.unusedVariables false
attribute [local irreducible] vwp vk

theorem int_cloneO (rows : List (List V)) (hl : rows.length ≤ 10000000000) : VCall Try.prog 67 [.sl 1 rows] [] (.ref 0 rows.length) [some (.arr 3 1 rows)] := by
  refine VCall.intro ok67 (Nat.le_of_ble_eq_true rfl) (vk_start ?_)
  cases rows with
  | nil =>
    simp (maxSteps := 4000000) (disch := omega) only [EW, Nat.reduceBEq, reduceIte, Nat.reduceAdd, Nat.reduceLeDiff, Nat.reduceLT, Nat.reduceSub, Nat.reduceMul, reduceCtorEq, Int.reduceNeg, Int.reduceSub, Int.reduceAdd, Int.reduceLE, Int.reduceLT, Int.reduceMul, Int.reduceToNat, Int.reduceEq, Int.reduceBEq, Int.reduceBNe, Nat.reduceEqDiff, vc67, rs67]
    exact ⟨⟨_, rfl, ⟨[none], rfl, rfl, rfl, rfl, ⟨.nref rfl, trivial⟩, ⟨⟨_, _, rfl⟩, trivial⟩⟩⟩, ⟨_, rfl, ⟨[some 1], rfl, rfl, rfl, rfl, ⟨.ref rfl, trivial⟩, ⟨⟨_, rfl, .arr (.refl _)⟩, trivial⟩⟩⟩⟩
  | cons r rows =>
    have hl2 : (r :: rows).length = rows.length + 1 := rfl
    simp (maxSteps := 4000000) (disch := omega) only [EW, Nat.reduceBEq, reduceIte, Nat.reduceAdd, Nat.reduceLeDiff, Nat.reduceLT, Nat.reduceSub, Nat.reduceMul, reduceCtorEq, Int.reduceNeg, Int.reduceSub, Int.reduceAdd, Int.reduceLE, Int.reduceLT, Int.reduceMul, Int.reduceToNat, Int.reduceEq, Int.reduceBEq, Int.reduceBNe, Nat.reduceEqDiff, vc67, rs67, List.take_length]
    exact ⟨_, rfl, ⟨[some 1], rfl, rfl, rfl, rfl, ⟨.ref rfl, trivial⟩, ⟨⟨_, rfl, .arr (.refl _)⟩, trivial⟩⟩⟩
theorem hook_clone (rows : List (List V)) (hl : rows.length ≤ 10000000000) : VFn Try.prog 66 [.sl 3 rows] (.sl 3 rows) := by
  refine VFn.intro ok66 (Nat.le_of_ble_eq_true rfl) (vk_start ?_)
  cases rows with
  | nil =>
    simp (maxSteps := 4000000) (disch := omega) only [EW, Nat.reduceBEq, reduceIte, Nat.reduceAdd, Nat.reduceLeDiff, Nat.reduceLT, Nat.reduceSub, Nat.reduceMul, reduceCtorEq, Int.reduceNeg, Int.reduceSub, Int.reduceAdd, Int.reduceLE, Int.reduceLT, Int.reduceMul, Int.reduceToNat, Int.reduceEq, Int.reduceBEq, Int.reduceBNe, Nat.reduceEqDiff, vc66, rs66]
    exact ⟨⟨_, _, rfl, rfl, .nil _⟩, fin (lend_rows rfl rfl)⟩
  | cons r rows =>
    have hl2 : (r :: rows).length = rows.length + 1 := rfl
    simp (maxSteps := 4000000) (disch := omega) only [EW, Nat.reduceBEq, reduceIte, Nat.reduceAdd, Nat.reduceLeDiff, Nat.reduceLT, Nat.reduceSub, Nat.reduceMul, reduceCtorEq, Int.reduceNeg, Int.reduceSub, Int.reduceAdd, Int.reduceLE, Int.reduceLT, Int.reduceMul, Int.reduceToNat, Int.reduceEq, Int.reduceBEq, Int.reduceBNe, Nat.reduceEqDiff, vc66, rs66, List.take_length]
    exact fin (lend_rows rfl rfl)

/-- A labelled text as it is taken. -/
def fixR (s : List UInt8 × Runs) : List UInt8 × Runs := rawOf (lab s.1 s.2)
def rawOk (b : Nat) (s : List UInt8 × Runs) : Prop := s.1.length ≤ b ∧ s.2.length ≤ b
theorem fix_raw {b : Nat} {s : List UInt8 × Runs} (h : rawOk b s) (hb : b ≤ 1000000000) : VFn Try.prog 40 [.agg [.str s.1, .sl 2 (rws s.2)]] (.agg [.str (fixR s).1, .sl 2 (rws (fixR s).2)]) :=
  fix_of (t := s.1) (rs := s.2) rfl (Nat.le_trans h.1 hb) (Nat.le_trans h.2 hb)
def fixA (a : (List UInt8 × Runs) × (List UInt8 × Runs)) : (List UInt8 × Runs) × (List UInt8 × Runs) := (fixR a.1, fixR a.2)
/-- A node in memory of its own. -/
def ownN (n : Nd) : Nd := { n with tag := fixR n.tag, text := fixR n.text, attrs := n.attrs.map fixA }
structure Nd.ok (b : Nat) (n : Nd) : Prop where
  tag : rawOk b n.tag
  text : rawOk b n.text
  hooks : n.hooks.length ≤ b
  kids : n.kids.length ≤ b
  attrs : n.attrs.length ≤ b
  each : ∀ a ∈ n.attrs, rawOk b a.1 ∧ rawOk b a.2
/-- A node's cells, the kids in memory of the caller's own. -/
def nCellsK (n : Nd) (kd : V) : List V := [.int .i64 n.id, .int .i64 n.owner, .int .i64 n.parent, .int .i64 n.kind, .str n.tag.1, .sl 2 (rws n.tag.2), .str n.key, .int .i64 n.slot, .sl 4 (aRows n.attrs), .sl 3 (hRows n.hooks), kd, .str n.text.1, .sl 2 (rws n.text.2)]
theorem aRows_length (l : List ((List UInt8 × Runs) × (List UInt8 × Runs))) : (aRows l).length = l.length := by simp [aRows]
theorem hRows_length (l : List (Int × Bool × Int)) : (hRows l).length = l.length := by simp [hRows]
theorem iRows_length (l : List Int) : (iRows l).length = l.length := by simp [iRows]

theorem app_ref {P : Program} {f : FuncId} {args : List V} {n e sz : Nat} {rows : List (List V)} (h : VCall P f args [] (.ref 0 n) [some (.arr e sz rows)]) (B : List (Option VObj)) (hwa : wfL 0 args = true) : VCall P f args B (.ref B.length n) (B ++ [some (.arr e sz rows)]) := by
  have := VCall.app h B hwa rfl rfl
  simpa [renV, renO] using this
theorem attrs_get {l : List ((List UInt8 × Runs) × (List UInt8 × Runs))} {i : Nat} {a} (h : l[i]? = some a) : (aRows l)[i]? = some [.str a.1.1, .sl 2 (rws a.1.2), .str a.2.1, .sl 2 (rws a.2.2)] := by simp [aRows, h]
theorem aRows_snoc (l : List ((List UInt8 × Runs) × (List UInt8 × Runs))) (a) : aRows l ++ [[.str a.1.1, .sl 2 (rws a.1.2), .str a.2.1, .sl 2 (rws a.2.2)]] = aRows (l ++ [a]) := by simp [aRows]

/-- A node that is none. -/
def zN : List V := [.int .i64 0, .int .i64 0, .int .i64 0, .int .i64 0, .str [], .nils, .str [], .int .i64 0, .nils, .nils, .nils, .str [], .nils]
theorem a_own (b : Nat) (n : Nd) (hb : b ≤ 1000000000) (h : n.ok b) : VCall Try.prog 44 [.agg (nCells n)] [] (.agg (nCellsK (ownN n) (.ref 0 n.kids.length))) [some (.arr 3 1 (iRows n.kids))] := by
  refine VCall.intro ok44 (Nat.le_of_ble_eq_true rfl) (vk_start ?_)
  have f1 := fix_raw h.tag hb
  have f2 := fix_raw h.text hb
  have hk := h.hooks
  have kk := h.kids
  have c1 := hook_clone (hRows n.hooks) (by rw [hRows_length]; omega)
  have c2 := int_cloneO (iRows n.kids) (by rw [iRows_length]; omega)
  simp (maxSteps := 4000000) (disch := omega) only [EW, Nat.reduceBEq, reduceIte, Nat.reduceAdd, Nat.reduceLeDiff, Nat.reduceLT, Nat.reduceSub, Nat.reduceMul, reduceCtorEq, Int.reduceNeg, Int.reduceSub, Int.reduceAdd, Int.reduceLE, Int.reduceLT, Int.reduceMul, Int.reduceToNat, Int.reduceEq, Int.reduceBEq, Int.reduceBNe, Nat.reduceEqDiff, vc44, rs44, nCells]
  (refine vk_callR rfl ⟨_, .inl rfl, f1⟩ ?_; simp (maxSteps := 4000000) (disch := omega) only [EW, Nat.reduceBEq, reduceIte, Nat.reduceAdd, Nat.reduceLeDiff, Nat.reduceLT, Nat.reduceSub, Nat.reduceMul, reduceCtorEq, Int.reduceNeg, Int.reduceSub, Int.reduceAdd, Int.reduceLE, Int.reduceLT, Int.reduceMul, Int.reduceToNat, Int.reduceEq, Int.reduceBEq, Int.reduceBNe, Nat.reduceEqDiff])
  (refine vk_callR rfl ⟨_, .inl rfl, f2⟩ ?_; simp (maxSteps := 4000000) (disch := omega) only [EW, Nat.reduceBEq, reduceIte, Nat.reduceAdd, Nat.reduceLeDiff, Nat.reduceLT, Nat.reduceSub, Nat.reduceMul, reduceCtorEq, Int.reduceNeg, Int.reduceSub, Int.reduceAdd, Int.reduceLE, Int.reduceLT, Int.reduceMul, Int.reduceToNat, Int.reduceEq, Int.reduceBEq, Int.reduceBNe, Nat.reduceEqDiff])
  (refine vk_callR rfl ⟨_, .inl rfl, c1⟩ ?_; simp (maxSteps := 4000000) (disch := omega) only [EW, Nat.reduceBEq, reduceIte, Nat.reduceAdd, Nat.reduceLeDiff, Nat.reduceLT, Nat.reduceSub, Nat.reduceMul, reduceCtorEq, Int.reduceNeg, Int.reduceSub, Int.reduceAdd, Int.reduceLE, Int.reduceLT, Int.reduceMul, Int.reduceToNat, Int.reduceEq, Int.reduceBEq, Int.reduceBNe, Nat.reduceEqDiff])
  refine vk_callW rfl (app_ref c2 _ rfl) (by simp) ?_
  have hal := aRows_length n.attrs
  have hba := h.attrs
  simp (maxSteps := 4000000) (disch := omega) only [EW, Nat.reduceBEq, reduceIte, Nat.reduceAdd, Nat.reduceLeDiff, Nat.reduceLT, Nat.reduceSub, Nat.reduceMul, reduceCtorEq, Int.reduceNeg, Int.reduceSub, Int.reduceAdd, Int.reduceLE, Int.reduceLT, Int.reduceMul, Int.reduceToNat, Int.reduceEq, Int.reduceBEq, Int.reduceBNe, Nat.reduceEqDiff, hal]
  rw [iRows_length]
  refine vk_loopR (γ := Nat) (fun i => { tm := [(1, .ptr 0 0), (2, .ptr 1 0), (3, .ref 3 i), (23, .sl 4 (aRows n.attrs)), (24, .int .i64 n.attrs.length), (25, .int .i64 i)], ob := [some (.box [.int .i64 n.id, .int .i64 n.owner, .int .i64 n.parent, .int .i64 n.kind, .str (fixR n.tag).1, .sl 2 (rws (fixR n.tag).2), .str n.key, .int .i64 n.slot, .sl 4 (aRows n.attrs), .sl 3 (hRows n.hooks), .ref 2 n.kids.length, .str (fixR n.text).1, .sl 2 (rws (fixR n.text).2)]), some (.box zN), some (.arr 3 1 (iRows n.kids)), some (.arr 41 4 (aRows ((n.attrs.take i).map fixA)))], base := 0 })
    (fun i => i ≤ n.attrs.length) (fun i => n.attrs.length - i) 0 (Nat.zero_le _) ?_ ?_
  · exact ⟨[some 0, some 1, some 2, none], rfl, rfl, rfl, rfl, ⟨.ptr rfl, .ptr rfl, .nref rfl, .same _ rfl, .same _ rfl, .same _ rfl, trivial⟩, ⟨⟨_, rfl, .box (.cons (.same _ rfl) (.cons (.same _ rfl) (.cons (.same _ rfl) (.cons (.same _ rfl) (.cons (.same _ rfl) (.cons (.same _ rfl) (.cons (.same _ rfl) (.cons (.same _ rfl) (.cons (.same _ rfl) (.cons (.same _ rfl) (.cons (.ref rfl) (.cons (.same _ rfl) (.cons (.same _ rfl) .nil)))))))))))))⟩, ⟨⟨_, rfl, .box (SubML.same _ rfl)⟩, ⟨⟨_, rfl, .arr (.refl _)⟩, ⟨⟨_, _, rfl⟩, trivial⟩⟩⟩⟩⟩
  · rintro i hi R hN hE hR
    rcases Nat.lt_or_ge i n.attrs.length with hlt | hge
    · obtain ⟨a, ha⟩ : ∃ a, n.attrs[i]? = some a := ⟨_, List.getElem?_eq_getElem hlt⟩
      have hrow := attrs_get ha
      have hea := h.each a (List.mem_of_getElem? ha)
      have g1 := fix_raw hea.1 hb
      have g2 := fix_raw hea.2 hb
      have htk : n.attrs.take (i + 1) = n.attrs.take i ++ [a] := by rw [List.take_add_one, ha]; rfl
      have hfin := fun s' hs => hN s' (i + 1) hlt (by omega) hs
      have hacc : (aRows ((n.attrs.take i).map fixA)).length = i := by rw [aRows_length, List.length_map, List.length_take]; omega
      have hat : List.take i (aRows ((n.attrs.take i).map fixA)) = aRows ((n.attrs.take i).map fixA) := List.take_of_length_le (by omega)
      have hsn : aRows ((n.attrs.take i).map fixA) ++ [[.str (fixR a.1).1, .sl 2 (rws (fixR a.1).2), .str (fixR a.2).1, .sl 2 (rws (fixR a.2).2)]] = aRows ((n.attrs.take i).map fixA ++ [fixA a]) := aRows_snoc ((n.attrs.take i).map fixA) (fixA a)
      have hm : (n.attrs.take (i + 1)).map fixA = (n.attrs.take i).map fixA ++ [fixA a] := by rw [htk]; simp
      have hlen2 : (aRows ((n.attrs.take i).map fixA ++ [fixA a])).length = i + 1 := by rw [aRows_length]; simp; omega
      simp only [hm] at hfin
      clear hN
      simp (maxSteps := 4000000) (disch := omega) only [EW, Nat.reduceBEq, reduceIte, Nat.reduceAdd, Nat.reduceLeDiff, Nat.reduceLT, Nat.reduceSub, Nat.reduceMul, reduceCtorEq, Int.reduceNeg, Int.reduceSub, Int.reduceAdd, Int.reduceLE, Int.reduceLT, Int.reduceMul, Int.reduceToNat, Int.reduceEq, Int.reduceBEq, Int.reduceBNe, Nat.reduceEqDiff, hrow, hal]
      (refine vk_callR rfl ⟨_, .inl rfl, g1⟩ ?_; simp (maxSteps := 4000000) (disch := omega) only [EW, Nat.reduceBEq, reduceIte, Nat.reduceAdd, Nat.reduceLeDiff, Nat.reduceLT, Nat.reduceSub, Nat.reduceMul, reduceCtorEq, Int.reduceNeg, Int.reduceSub, Int.reduceAdd, Int.reduceLE, Int.reduceLT, Int.reduceMul, Int.reduceToNat, Int.reduceEq, Int.reduceBEq, Int.reduceBNe, Nat.reduceEqDiff])
      (refine vk_callR rfl ⟨_, .inl rfl, g2⟩ ?_; simp (maxSteps := 4000000) (disch := omega) only [EW, Nat.reduceBEq, reduceIte, Nat.reduceAdd, Nat.reduceLeDiff, Nat.reduceLT, Nat.reduceSub, Nat.reduceMul, reduceCtorEq, Int.reduceNeg, Int.reduceSub, Int.reduceAdd, Int.reduceLE, Int.reduceLT, Int.reduceMul, Int.reduceToNat, Int.reduceEq, Int.reduceBEq, Int.reduceBNe, Nat.reduceEqDiff, hacc, hat, hsn])
      refine hfin _ ?_
      exact ⟨[some 0, some 1, some 2, some 5], rfl, rfl, rfl, rfl, ⟨.ptr rfl, .ptr rfl, (.refE rfl hlen2), .same _ rfl, .same _ rfl, .same _ rfl, trivial⟩, ⟨⟨_, rfl, .box (.cons (.same _ rfl) (.cons (.same _ rfl) (.cons (.same _ rfl) (.cons (.same _ rfl) (.cons (.same _ rfl) (.cons (.same _ rfl) (.cons (.same _ rfl) (.cons (.same _ rfl) (.cons (.same _ rfl) (.cons (.same _ rfl) (.cons (.ref rfl) (.cons (.same _ rfl) (.cons (.same _ rfl) .nil)))))))))))))⟩, ⟨⟨_, rfl, .box (SubML.same _ rfl)⟩, ⟨⟨_, rfl, .arr (.refl _)⟩, ⟨⟨_, rfl, .arr (.refl _)⟩, trivial⟩⟩⟩⟩⟩
    · have e : i = n.attrs.length := by omega
      subst e
      rw [List.take_length]
      have hacc : (aRows (n.attrs.map fixA)).length = n.attrs.length := by rw [aRows_length, List.length_map]
      clear hN
      simp (maxSteps := 4000000) (disch := omega) only [EW, Nat.reduceBEq, reduceIte, Nat.reduceAdd, Nat.reduceLeDiff, Nat.reduceLT, Nat.reduceSub, Nat.reduceMul, reduceCtorEq, Int.reduceNeg, Int.reduceSub, Int.reduceAdd, Int.reduceLE, Int.reduceLT, Int.reduceMul, Int.reduceToNat, Int.reduceEq, Int.reduceBEq, Int.reduceBNe, Nat.reduceEqDiff, hal]
      refine hE _ _ ?_
      clear hE hR
      simp (maxSteps := 4000000) (disch := omega) only [EW, Nat.reduceBEq, reduceIte, Nat.reduceAdd, Nat.reduceLeDiff, Nat.reduceLT, Nat.reduceSub, Nat.reduceMul, reduceCtorEq, Int.reduceNeg, Int.reduceSub, Int.reduceAdd, Int.reduceLE, Int.reduceLT, Int.reduceMul, Int.reduceToNat, Int.reduceEq, Int.reduceBEq, Int.reduceBNe, Nat.reduceEqDiff, zN]
      exact ⟨_, rfl, ⟨[some 2], rfl, rfl, rfl, rfl, ⟨.agg (.cons (.same _ rfl) (.cons (.same _ rfl) (.cons (.same _ rfl) (.cons (.same _ rfl) (.cons (.same _ rfl) (.cons (.same _ rfl) (.cons (.same _ rfl) (.cons (.same _ rfl) (.cons ((.lentA rfl hacc.symm)) (.cons (.same _ rfl) (.cons (.ref rfl) (.cons (.same _ rfl) (.cons (.same _ rfl) .nil))))))))))))), trivial⟩, ⟨⟨_, rfl, .arr (.refl _)⟩, trivial⟩⟩⟩
end Go.Proofs.VL

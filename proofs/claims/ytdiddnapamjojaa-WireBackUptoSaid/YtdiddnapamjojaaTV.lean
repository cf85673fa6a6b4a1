/- Contracts of functions of the program, for what calls them, and the law that its name tells. -/
import Derived.Test.YtdiddnapamjojaaTU
namespace Go.Proofs.VL
open Go Go.RowKit
set_option maxRecDepth 100000
set_option maxHeartbeats 2000000
set_option linter.unusedSimpArgs false
set_option linter.unusedVariables false
attribute [local irreducible] vwp vk

theorem oddI_T {n : Int} (h : n < 0 ∨ 4294967295 < n) : oddI n = true := decide_eq_true h
theorem oddI_F {n : Int} (h : ¬ (n < 0 ∨ 4294967295 < n)) : oddI n = false := decide_eq_false h
def I64 (n : Int) : Prop := -9223372036854775808 ≤ n ∧ n ≤ 9223372036854775807
structure PWide (p : Pat) : Prop where
  five : ∀ n ∈ five p, I64 n
  hooks : ∀ h ∈ p.hooks, I64 h.1 ∧ I64 h.2.2

def numsB (ns : List Int) : List UInt8 := ns.flatMap num4B
def hooksB (hs : List (Int × Bool × Int)) : List UInt8 := hs.flatMap fun h => numsB (hookNs h)
/-- The page's octets of a patch. -/
def patB (p : Pat) : List UInt8 := opO p.op ++ numsB (five p) ++ textO p.key ++ strsO (four p) ++ oct4 p.hooks.length ++ hooksB p.hooks

theorem numsB_eq : ∀ ns : List Int, ns.any oddI = false → numsB ns = numsO ns
  | [], _ => rfl
  | n :: ns, h => by
    rw [List.any_cons, Bool.or_eq_false_iff] at h
    have ih := numsB_eq ns h.2
    unfold numsB numsO at *
    rw [List.flatMap_cons, List.flatMap_cons, ih, num4_oct (oddI_no h.1).1]
theorem hooksB_eq : ∀ hs : List (Int × Bool × Int), (hs.any fun h => oddI h.1 || oddI h.2.2) = false → hooksB hs = hooksO hs
  | [], _ => rfl
  | h :: hs, k => by
    rw [List.any_cons, Bool.or_eq_false_iff] at k
    have ih := hooksB_eq hs k.2
    have k1 := Bool.or_eq_false_iff.1 k.1
    unfold hooksB hooksO at *
    have hcap : oddI (capI h.2.1) = false := by cases h.2.1 <;> rfl
    rw [List.flatMap_cons, List.flatMap_cons, ih, numsB_eq _ (by simp only [hookNs, List.any_cons, List.any_nil, k1.1, k1.2, hcap, Bool.or_false])]
theorem patB_eq {p : Pat} (h : patOdd p = false) : patB p = patO p := by
  unfold patOdd at h
  rw [Bool.or_eq_false_iff] at h
  unfold patB patO
  rw [numsB_eq _ h.1, hooksB_eq _ h.2]
theorem numsB_len : ∀ ns : List Int, (numsB ns).length = 4 * ns.length
  | [] => rfl
  | n :: ns => by have := numsB_len ns; unfold numsB at this ⊢; rw [List.flatMap_cons, List.length_append, this, num4_len, List.length_cons]; omega
theorem hooksB_len : ∀ hs : List (Int × Bool × Int), (hooksB hs).length = 12 * hs.length
  | [] => rfl
  | h :: hs => by have := hooksB_len hs; unfold hooksB at this ⊢; rw [List.flatMap_cons, List.length_append, this, numsB_len, List.length_cons]; simp only [hookNs, List.length_cons, List.length_nil]; omega
theorem hooksO_len : ∀ hs : List (Int × Bool × Int), (hooksO hs).length = 12 * hs.length
  | [] => rfl
  | h :: hs => by have := hooksO_len hs; unfold hooksO at this ⊢; rw [List.flatMap_cons, List.length_append, this, numsO_len, List.length_cons]; simp only [hookNs, List.length_cons, List.length_nil]; omega
theorem patB_len (p : Pat) : (patB p).length = (patO p).length := by
  unfold patB patO
  simp only [List.length_append, numsB_len, numsO_len, hooksB_len, hooksO_len]

theorem ref_octets (p : Pat) (hp : PTiny p) (hw : PWide p) : VFn Try.prog 51 [.agg (pCells p)] (.tup [.sl 1 (bRows (patB p)), .bool (!patOdd p)]) := by
  refine VFn.intro ok51 (Nat.le_of_ble_eq_true rfl) (vk_start ?_)
  have hop := byte_op p.op
  have e1 : [[V.int .u8 (UInt8.ofNat (p.op % 256).toNat).toNat]] = bRows (opO p.op) := rfl
  have hc : (opO p.op).length = 1 := rfl
  have hod2 : (!patOdd p) = !((five p).any oddI || p.hooks.any fun h => oddI h.1 || oddI h.2.2) := rfl
  have e0 : patB p = opO p.op ++ numsB (five p) ++ textO p.key ++ strsO (four p) ++ oct4 p.hooks.length ++ hooksB p.hooks := rfl
  rw [e0, hod2]
  generalize opO p.op = c at *
  simp (maxSteps := 4000000) (disch := omega) only [EW, Nat.reduceBEq, reduceIte, Nat.reduceAdd, Nat.reduceLeDiff, Nat.reduceLT, Nat.reduceSub, Nat.reduceMul, reduceCtorEq, Int.reduceNeg, Int.reduceSub, Int.reduceAdd, Int.reduceLE, Int.reduceLT, Int.reduceMul, Int.reduceToNat, Int.reduceEq, Int.reduceBEq, Int.reduceBNe, Nat.reduceEqDiff, vc51, rs51, hop, PCp]
  refine vk_loopR (γ := Nat) (fun j => { tm := [(1, .ptr 0 0), (4, .ref 1 (c ++ numsB ((five p).take j)).length), (5, .sl 1 ((five p).map fun n => [V.int .i64 n])), (6, .bool (!((five p).take j).any oddI)), (7, .int .i64 j)], ob := [some (.box (pCells p)), some (.arr 5 1 (bRows (c ++ numsB ((five p).take j))))], base := 0 })
    (fun j => j ≤ 5) (fun j => 5 - j) 0 (by decide) ?_ ?_
  · rw [List.take_zero, show numsB [] = [] from rfl, List.append_nil, List.any_nil]
    exact ⟨[some 0, some 1], rfl, rfl, rfl, rfl, ⟨.ptr rfl, (.refE rfl (by simp [hc])), .same _ rfl, .same _ rfl, .same _ rfl, trivial⟩, ⟨⟨_, rfl, .box (SubML.same _ rfl)⟩, ⟨⟨_, rfl, .arr (.of_eq e1)⟩, trivial⟩⟩⟩
  · rintro j hj R hN hE hR
    rcases Nat.lt_or_ge j 5 with hlt | hge
    · obtain ⟨x, hx⟩ : ∃ x, (five p)[j]? = some x := ⟨_, List.getElem?_eq_getElem hlt⟩
      have hg : ((five p).map fun n => [V.int .i64 n])[j]? = some [.int .i64 x] := by rw [List.getElem?_map, hx]; rfl
      have hl5 : ((five p).map fun n => [V.int .i64 n]).length = 5 := by rw [List.length_map]; rfl
      have htk : (five p).take (j + 1) = (five p).take j ++ [x] := by rw [List.take_add_one, hx]; rfl
      have hx6 := hw.five x (List.mem_of_getElem? hx)
      unfold I64 at hx6
      have hn := ref_num4 x hx6
      have hsn : numsB ((five p).take j ++ [x]) = numsB ((five p).take j) ++ num4B x := by simp [numsB]
      have hfin := fun s' hs => hN s' (j + 1) hlt (by omega) hs
      have hlen : (c ++ numsB ((five p).take j)).length ≤ 21 := by rw [List.length_append, numsB_len, List.length_take]; omega
      simp only [htk, hsn, List.any_append, List.any_cons, List.any_nil, Bool.or_false, ← List.append_assoc] at hfin
      have hlx := bRows_length (num4B x)
      have hl4 := num4_len x
      generalize (five p).take j = tk at *
      generalize c ++ numsB tk = d at *
      have hld := bRows_length d
      have hld2 : List.take d.length (bRows d) = bRows d := bRows_take d
      rcases Bool.eq_false_or_eq_true (tk.any oddI) with h | h
      · rw [h] at hfin ⊢
        simp (maxSteps := 4000000) (disch := omega) only [EW, Nat.reduceBEq, reduceIte, Nat.reduceAdd, Nat.reduceLeDiff, Nat.reduceLT, Nat.reduceSub, Nat.reduceMul, reduceCtorEq, Int.reduceNeg, Int.reduceSub, Int.reduceAdd, Int.reduceLE, Int.reduceLT, Int.reduceMul, Int.reduceToNat, Int.reduceEq, Int.reduceBEq, Int.reduceBNe, Nat.reduceEqDiff, hg, hl5, hld2]
        (refine vk_callR rfl ⟨_, .inl rfl, hn⟩ ?_; simp (maxSteps := 4000000) (disch := omega) only [EW, Nat.reduceBEq, reduceIte, Nat.reduceAdd, Nat.reduceLeDiff, Nat.reduceLT, Nat.reduceSub, Nat.reduceMul, reduceCtorEq, Int.reduceNeg, Int.reduceSub, Int.reduceAdd, Int.reduceLE, Int.reduceLT, Int.reduceMul, Int.reduceToNat, Int.reduceEq, Int.reduceBEq, Int.reduceBNe, Nat.reduceEqDiff, hld, hld2, bRows_append])
        refine hfin _ ?_
        exact ⟨[some 0, some 2], rfl, rfl, rfl, rfl, ⟨.ptr rfl, (.refE rfl (by simp [bRows_length])), .same _ rfl, .same _ rfl, .same _ rfl, trivial⟩, ⟨⟨_, rfl, .box (SubML.same _ rfl)⟩, ⟨⟨_, rfl, .arr (.refl _)⟩, trivial⟩⟩⟩
      · rw [h] at hfin ⊢
        rcases (by omega : x < 0 ∨ (0 ≤ x ∧ x < 4294967296) ∨ 4294967296 ≤ x) with h1 | h1 | h1
        all_goals
          first | rw [oddI_T (n := x) (by omega)] at hfin | rw [oddI_F (n := x) (by omega)] at hfin
          simp (maxSteps := 4000000) (disch := omega) only [EW, Nat.reduceBEq, reduceIte, Nat.reduceAdd, Nat.reduceLeDiff, Nat.reduceLT, Nat.reduceSub, Nat.reduceMul, reduceCtorEq, Int.reduceNeg, Int.reduceSub, Int.reduceAdd, Int.reduceLE, Int.reduceLT, Int.reduceMul, Int.reduceToNat, Int.reduceEq, Int.reduceBEq, Int.reduceBNe, Nat.reduceEqDiff, hg, hl5, hld2]
          (refine vk_callR rfl ⟨_, .inl rfl, hn⟩ ?_; simp (maxSteps := 4000000) (disch := omega) only [EW, Nat.reduceBEq, reduceIte, Nat.reduceAdd, Nat.reduceLeDiff, Nat.reduceLT, Nat.reduceSub, Nat.reduceMul, reduceCtorEq, Int.reduceNeg, Int.reduceSub, Int.reduceAdd, Int.reduceLE, Int.reduceLT, Int.reduceMul, Int.reduceToNat, Int.reduceEq, Int.reduceBEq, Int.reduceBNe, Nat.reduceEqDiff, hld, hld2, bRows_append])
          refine hfin _ ?_
          exact ⟨[some 0, some 2], rfl, rfl, rfl, rfl, ⟨.ptr rfl, (.refE rfl (by simp [bRows_length])), .same _ rfl, .of_eq (by first | rfl | (simp; done) | (simp; omega)) rfl, .same _ rfl, trivial⟩, ⟨⟨_, rfl, .box (SubML.same _ rfl)⟩, ⟨⟨_, rfl, .arr (.refl _)⟩, trivial⟩⟩⟩
    · have e : j = 5 := by omega
      subst e
      rw [show (five p).take 5 = five p from rfl]
      clear hN hop e1
      have hc2 : (c ++ numsB (five p)).length = 21 := by rw [List.length_append, numsB_len]; rw [hc]; rfl
      have hk := hp.key
      have hl5 : ((five p).map fun n => [V.int .i64 n]).length = 5 := by rw [List.length_map]; rfl
      generalize (five p).any oddI = od at *
      have hkn := ref_num4 p.key.length (by omega)
      rw [num4_oct (by omega)] at hkn
      have et : textO p.key = oct4 p.key.length ++ p.key := rfl
      have hc3 : (c ++ numsB (five p) ++ oct4 p.key.length).length = 25 := by rw [List.length_append, hc2]; rfl
      have hc4 : (c ++ numsB (five p) ++ textO p.key).length = p.key.length + 25 := by rw [et, List.length_append, hc2, List.length_append, oct4_len]; omega
      have et2 : bRows (c ++ numsB (five p) ++ oct4 p.key.length) ++ bRows p.key = bRows (c ++ numsB (five p) ++ textO p.key) := by rw [bRows_append, et]; simp
      generalize c ++ numsB (five p) ++ textO p.key = d at *
      have hb3 := bRows_length (c ++ numsB (five p))
      have hb4 := bRows_length (oct4 (p.key.length : Int))
      have hb5 := oct4_len (p.key.length : Int)
      have et1 : bRows (c ++ numsB (five p)) ++ bRows (oct4 p.key.length) = bRows (c ++ numsB (five p) ++ oct4 p.key.length) := bRows_append _ _
      generalize c ++ numsB (five p) ++ oct4 p.key.length = c6 at *
      generalize c ++ numsB (five p) = c5 at *
      have hb6 := bRows_length c6
      have hb7 := bRows_length d
      have ht5 := bRows_take c5
      have ht6 : List.take (c5.length + (oct4 (p.key.length : Int)).length) (bRows c6) = bRows c6 := List.take_of_length_le (by omega)
      have ht7 := bRows_take c6
      simp (maxSteps := 4000000) (disch := omega) only [EW, Nat.reduceBEq, reduceIte, Nat.reduceAdd, Nat.reduceLeDiff, Nat.reduceLT, Nat.reduceSub, Nat.reduceMul, reduceCtorEq, Int.reduceNeg, Int.reduceSub, Int.reduceAdd, Int.reduceLE, Int.reduceLT, Int.reduceMul, Int.reduceToNat, Int.reduceEq, Int.reduceBEq, Int.reduceBNe, Nat.reduceEqDiff, hl5]
      refine hE _ _ ?_
      clear hE hR
      simp (maxSteps := 4000000) (disch := omega) only [EW, Nat.reduceBEq, reduceIte, Nat.reduceAdd, Nat.reduceLeDiff, Nat.reduceLT, Nat.reduceSub, Nat.reduceMul, reduceCtorEq, Int.reduceNeg, Int.reduceSub, Int.reduceAdd, Int.reduceLE, Int.reduceLT, Int.reduceMul, Int.reduceToNat, Int.reduceEq, Int.reduceBEq, Int.reduceBNe, Nat.reduceEqDiff, PCp]
      (refine vk_callR rfl ⟨_, .inl rfl, hkn⟩ ?_; simp (maxSteps := 4000000) (disch := omega) only [EW, Nat.reduceBEq, reduceIte, Nat.reduceAdd, Nat.reduceLeDiff, Nat.reduceLT, Nat.reduceSub, Nat.reduceMul, reduceCtorEq, Int.reduceNeg, Int.reduceSub, Int.reduceAdd, Int.reduceLE, Int.reduceLT, Int.reduceMul, Int.reduceToNat, Int.reduceEq, Int.reduceBEq, Int.reduceBNe, Nat.reduceEqDiff, PCp, hb3, hb4, hb6, ht5, ht6, et1, et2, ht7])
      clear e0 hod2
      refine vk_loopR (γ := Nat) (fun j => { tm := [(1, .ptr 0 0), (4, .ref 1 (d ++ strsO ((four p).take j)).length), (6, .bool (!od)), (8, .sl 2 ((four p).map fun s => [V.str s.1, V.sl 2 (rws s.2)])), (9, .int .i64 j)], ob := [some (.box (pCells p)), some (.arr 5 1 (bRows (d ++ strsO ((four p).take j))))], base := 0 })
        (fun j => j ≤ 4) (fun j => 4 - j) 0 (by decide) ?_ ?_
      · rw [List.take_zero, show strsO [] = [] from rfl, List.append_nil]
        exact ⟨[some 0, some 3], rfl, rfl, rfl, rfl, ⟨.ptr rfl, (.refE rfl (by omega)), .same _ rfl, .same _ rfl, .same _ rfl, trivial⟩, ⟨⟨_, rfl, .box (SubML.same _ rfl)⟩, ⟨⟨_, rfl, .arr (.refl _)⟩, trivial⟩⟩⟩
      · rintro j hj R hN hE hR
        have hl4 : ((four p).map fun s => [V.str s.1, V.sl 2 (rws s.2)]).length = 4 := by rw [List.length_map]; rfl
        rcases Nat.lt_or_ge j 4 with hlt | hge
        · obtain ⟨x, hx⟩ : ∃ x, (four p)[j]? = some x := ⟨_, List.getElem?_eq_getElem hlt⟩
          have hxs := hp.str x (List.mem_of_getElem? hx)
          have hg : ((four p).map fun s => [V.str s.1, V.sl 2 (rws s.2)])[j]? = some [V.str x.1, V.sl 2 (rws x.2)] := by rw [List.getElem?_map, hx]; rfl
          have htk : (four p).take (j + 1) = (four p).take j ++ [x] := by rw [List.take_add_one, hx]; rfl
          have hsn : strsO ((four p).take j ++ [x]) = strsO ((four p).take j) ++ strO (labR x) := by simp [strsO]
          have hsl := strsO_take ((four p).take j) (fun s hs => (hp.str s (List.mem_of_mem_take hs)).1)
          have hfl : (d ++ strsO ((four p).take j)).length ≤ 1000000000 := by rw [List.length_append]; rw [List.length_take] at hsl; omega
          have hn : VFn Try.prog 53 [.agg [.str x.1, .sl 2 (rws x.2)]] (.sl 1 (bRows (strO (labR x)))) := ref_wstr (t := x.1) (rs := x.2) rfl (by omega) (by omega)
          have hsl2 := strO_len (labR x)
          have hlab : (labR x).length = x.1.length := lab_length _ _
          have hfin := fun s' hs => hN s' (j + 1) hlt (by omega) hs
          simp only [htk, hsn, ← List.append_assoc] at hfin
          generalize d ++ strsO ((four p).take j) = f at *
          have hbx := bRows_length (strO (labR x))
          have hbf := bRows_length f
          have htf := bRows_take f
          simp (maxSteps := 4000000) (disch := omega) only [EW, Nat.reduceBEq, reduceIte, Nat.reduceAdd, Nat.reduceLeDiff, Nat.reduceLT, Nat.reduceSub, Nat.reduceMul, reduceCtorEq, Int.reduceNeg, Int.reduceSub, Int.reduceAdd, Int.reduceLE, Int.reduceLT, Int.reduceMul, Int.reduceToNat, Int.reduceEq, Int.reduceBEq, Int.reduceBNe, Nat.reduceEqDiff, hg, hl4]
          (refine vk_callR rfl ⟨_, .inl rfl, hn⟩ ?_; simp (maxSteps := 4000000) (disch := omega) only [EW, Nat.reduceBEq, reduceIte, Nat.reduceAdd, Nat.reduceLeDiff, Nat.reduceLT, Nat.reduceSub, Nat.reduceMul, reduceCtorEq, Int.reduceNeg, Int.reduceSub, Int.reduceAdd, Int.reduceLE, Int.reduceLT, Int.reduceMul, Int.reduceToNat, Int.reduceEq, Int.reduceBEq, Int.reduceBNe, Nat.reduceEqDiff, htf, hbf, bRows_append])
          refine hfin _ ?_
          exact ⟨[some 0, some 2], rfl, rfl, rfl, rfl, ⟨.ptr rfl, (.refE rfl (by simp [bRows_length])), .same _ rfl, .same _ rfl, .same _ rfl, trivial⟩, ⟨⟨_, rfl, .box (SubML.same _ rfl)⟩, ⟨⟨_, rfl, .arr (.refl _)⟩, trivial⟩⟩⟩
        · have e : j = 4 := by omega
          subst e
          rw [show (four p).take 4 = four p from rfl]
          have hsl := strsO_take (four p) (fun s hs => (hp.str s hs).1)
          have hf4 : (four p).length = 4 := rfl
          have hh := hp.hooks
          have hhn := ref_num4 p.hooks.length (by omega)
          rw [num4_oct (by omega)] at hhn
          have hb1 := bRows_length (d ++ strsO (four p))
          have hb2 := bRows_length (oct4 (p.hooks.length : Int))
          have hb5 := oct4_len (p.hooks.length : Int)
          have hc8 : (d ++ strsO (four p)).length ≤ 900000000 := by rw [List.length_append]; omega
          have htd := bRows_take (d ++ strsO (four p))
          have hap : bRows (d ++ strsO (four p)) ++ bRows (oct4 p.hooks.length) = bRows (d ++ strsO (four p) ++ oct4 p.hooks.length) := bRows_append _ _
          have hc9 : (d ++ strsO (four p) ++ oct4 p.hooks.length).length = (d ++ strsO (four p)).length + 4 := by rw [List.length_append]; rfl
          generalize d ++ strsO (four p) ++ oct4 p.hooks.length = f at *
          generalize d ++ strsO (four p) = d4 at *
          have hhl : (hRows p.hooks).length = p.hooks.length := by simp [hRows]
          simp (maxSteps := 4000000) (disch := omega) only [EW, Nat.reduceBEq, reduceIte, Nat.reduceAdd, Nat.reduceLeDiff, Nat.reduceLT, Nat.reduceSub, Nat.reduceMul, reduceCtorEq, Int.reduceNeg, Int.reduceSub, Int.reduceAdd, Int.reduceLE, Int.reduceLT, Int.reduceMul, Int.reduceToNat, Int.reduceEq, Int.reduceBEq, Int.reduceBNe, Nat.reduceEqDiff, hl4]
          refine hE _ _ ?_
          clear hN hE hR
          simp (maxSteps := 4000000) (disch := omega) only [EW, Nat.reduceBEq, reduceIte, Nat.reduceAdd, Nat.reduceLeDiff, Nat.reduceLT, Nat.reduceSub, Nat.reduceMul, reduceCtorEq, Int.reduceNeg, Int.reduceSub, Int.reduceAdd, Int.reduceLE, Int.reduceLT, Int.reduceMul, Int.reduceToNat, Int.reduceEq, Int.reduceBEq, Int.reduceBNe, Nat.reduceEqDiff, PCp, hhl]
          (refine vk_callR rfl ⟨_, .inl rfl, hhn⟩ ?_; simp (maxSteps := 4000000) (disch := omega) only [EW, Nat.reduceBEq, reduceIte, Nat.reduceAdd, Nat.reduceLeDiff, Nat.reduceLT, Nat.reduceSub, Nat.reduceMul, reduceCtorEq, Int.reduceNeg, Int.reduceSub, Int.reduceAdd, Int.reduceLE, Int.reduceLT, Int.reduceMul, Int.reduceToNat, Int.reduceEq, Int.reduceBEq, Int.reduceBNe, Nat.reduceEqDiff, PCp, hhl, htd, hb1, hap])
          refine vk_loopR (γ := Nat) (fun j => { tm := [(1, .ptr 0 0), (4, .ref 1 (f ++ hooksB (p.hooks.take j)).length), (6, .bool (!(od || (p.hooks.take j).any fun h => oddI h.1 || oddI h.2.2))), (10, .int .i64 j)], ob := [some (.box (pCells p)), some (.arr 5 1 (bRows (f ++ hooksB (p.hooks.take j))))], base := 0 })
            (fun j => j ≤ p.hooks.length) (fun j => p.hooks.length - j) 0 (Nat.zero_le _) ?_ ?_
          · rw [List.take_zero, show hooksB [] = [] from rfl, List.append_nil, List.any_nil, Bool.or_false]
            exact ⟨[some 0, some 2], rfl, rfl, rfl, rfl, ⟨.ptr rfl, (.refE rfl (bRows_length f)), .same _ rfl, .same _ rfl, trivial⟩, ⟨⟨_, rfl, .box (SubML.same _ rfl)⟩, ⟨⟨_, rfl, .arr (.refl _)⟩, trivial⟩⟩⟩
          · rintro j hj R hN hE hR
            rcases Nat.lt_or_ge j p.hooks.length with hlt | hge
            · obtain ⟨⟨ev, cp, nm⟩, hx⟩ : ∃ x, p.hooks[j]? = some x := ⟨_, List.getElem?_eq_getElem hlt⟩
              have hrow : (hRows p.hooks)[j]? = some [.int .i64 ev, .bool cp, .int .i64 nm] := by simp [hRows, hx]
              have htk : p.hooks.take (j + 1) = p.hooks.take j ++ [(ev, cp, nm)] := by rw [List.take_add_one, hx]; rfl
              have hsn : hooksB (p.hooks.take j ++ [(ev, cp, nm)]) = hooksB (p.hooks.take j) ++ num4B ev ++ num4B (capI cp) ++ num4B nm := by simp [hooksB, hookNs, numsB]
              have hfl : (f ++ hooksB (p.hooks.take j)).length ≤ 2000000000 := by rw [List.length_append, hooksB_len, List.length_take]; omega
              have hx6 := hw.hooks _ (List.mem_of_getElem? hx)
              simp only [I64] at hx6
              have n1 := ref_num4 ev hx6.1
              have n2 := ref_num4 (capI cp) (by cases cp <;> decide)
              have n3 := ref_num4 nm hx6.2
              have hfin := fun s' hs => hN s' (j + 1) hlt (by omega) hs
              simp only [htk, hsn, List.any_append, List.any_cons, List.any_nil, Bool.or_false, ← List.append_assoc, ← Bool.or_assoc] at hfin
              generalize (od || (p.hooks.take j).any fun h => oddI h.1 || oddI h.2.2) = o1 at *
              generalize f ++ hooksB (p.hooks.take j) = f1 at *
              have q1 := bRows_length f1
              have q2 := bRows_length (num4B ev)
              have q3 := bRows_length (num4B (capI cp))
              have q4 := bRows_length (num4B nm)
              have q5 := num4_len ev
              have q6 := num4_len (capI cp)
              have q7 := num4_len nm
              have l2 : (f1 ++ num4B ev).length = f1.length + 4 := by rw [List.length_append, q5]
              have l3 : (f1 ++ num4B ev ++ num4B (capI cp)).length = f1.length + 8 := by rw [List.length_append, l2, q6]
              have l4 : (f1 ++ num4B ev ++ num4B (capI cp) ++ num4B nm).length = f1.length + 12 := by rw [List.length_append, l3, q7]
              have a2 := bRows_append f1 (num4B ev)
              have a3 := bRows_append (f1 ++ num4B ev) (num4B (capI cp))
              have a4 := bRows_append (f1 ++ num4B ev ++ num4B (capI cp)) (num4B nm)
              generalize f1 ++ num4B ev ++ num4B (capI cp) ++ num4B nm = f4 at *
              generalize f1 ++ num4B ev ++ num4B (capI cp) = f3 at *
              generalize f1 ++ num4B ev = f2 at *
              have r2 := bRows_length f2
              have r3 := bRows_length f3
              have r4 := bRows_length f4
              have t1 := bRows_take f1
              have t4 := bRows_take f2
              have t5 := bRows_take f3
              have t2 : List.take (f1.length + (num4B ev).length) (bRows f2) = bRows f2 := List.take_of_length_le (by omega)
              have t3 : List.take (f2.length + (num4B (capI cp)).length) (bRows f3) = bRows f3 := List.take_of_length_le (by omega)
              simp (maxSteps := 4000000) (disch := omega) only [EW, Nat.reduceBEq, reduceIte, Nat.reduceAdd, Nat.reduceLeDiff, Nat.reduceLT, Nat.reduceSub, Nat.reduceMul, reduceCtorEq, Int.reduceNeg, Int.reduceSub, Int.reduceAdd, Int.reduceLE, Int.reduceLT, Int.reduceMul, Int.reduceToNat, Int.reduceEq, Int.reduceBEq, Int.reduceBNe, Nat.reduceEqDiff, hrow, hhl, PCp]
              refine vk_joinR (γ := Unit) (fun _ => { tm := [(1, .ptr 0 0), (4, .ref 1 f1.length), (6, .bool (!o1)), (10, .int .i64 j), (11, .ptr 2 0), (12, .int .i64 (capI cp))], ob := [some (.box (pCells p)), some (.arr 5 1 (bRows f1)), some (.box [.int .i64 ev, .bool cp, .int .i64 nm])], base := 0 }) (fun _ => True) ?_ ?_
              · intro R hN hE hR
                cases cp <;>
                · simp (maxSteps := 4000000) (disch := omega) only [EW, Nat.reduceBEq, reduceIte, Nat.reduceAdd, Nat.reduceLeDiff, Nat.reduceLT, Nat.reduceSub, Nat.reduceMul, reduceCtorEq, Int.reduceNeg, Int.reduceSub, Int.reduceAdd, Int.reduceLE, Int.reduceLT, Int.reduceMul, Int.reduceToNat, Int.reduceEq, Int.reduceBEq, Int.reduceBNe, Nat.reduceEqDiff]
                  refine hN _ () trivial ?_
                  exact ⟨[some 0, some 1, some 2], rfl, rfl, rfl, rfl, ⟨.ptr rfl, .ref rfl, .same _ rfl, .same _ rfl, .ptr rfl, .same _ rfl, trivial⟩, ⟨⟨_, rfl, .box (SubML.same _ rfl)⟩, ⟨⟨_, rfl, .arr (.refl _)⟩, ⟨⟨_, rfl, .box (.cons (.same _ rfl) (.cons (.same _ rfl) (.cons (.same _ rfl) .nil)))⟩, trivial⟩⟩⟩⟩
              · rintro - -
                generalize hcp : capI cp = cpi at *
                rcases Bool.eq_false_or_eq_true o1 with h | h
                · rw [h] at hfin ⊢
                  simp (maxSteps := 4000000) (disch := omega) only [EW, Nat.reduceBEq, reduceIte, Nat.reduceAdd, Nat.reduceLeDiff, Nat.reduceLT, Nat.reduceSub, Nat.reduceMul, reduceCtorEq, Int.reduceNeg, Int.reduceSub, Int.reduceAdd, Int.reduceLE, Int.reduceLT, Int.reduceMul, Int.reduceToNat, Int.reduceEq, Int.reduceBEq, Int.reduceBNe, Nat.reduceEqDiff, PCp]
                  (refine vk_callR rfl ⟨_, .inl rfl, n1⟩ ?_; simp (maxSteps := 4000000) (disch := omega) only [EW, Nat.reduceBEq, reduceIte, Nat.reduceAdd, Nat.reduceLeDiff, Nat.reduceLT, Nat.reduceSub, Nat.reduceMul, reduceCtorEq, Int.reduceNeg, Int.reduceSub, Int.reduceAdd, Int.reduceLE, Int.reduceLT, Int.reduceMul, Int.reduceToNat, Int.reduceEq, Int.reduceBEq, Int.reduceBNe, Nat.reduceEqDiff, PCp, q1, q2, q3, q4, r2, r3, r4, t1, t2, t3, t4, t5, a2, a3, a4])
                  (refine vk_callR rfl ⟨_, .inl rfl, n2⟩ ?_; simp (maxSteps := 4000000) (disch := omega) only [EW, Nat.reduceBEq, reduceIte, Nat.reduceAdd, Nat.reduceLeDiff, Nat.reduceLT, Nat.reduceSub, Nat.reduceMul, reduceCtorEq, Int.reduceNeg, Int.reduceSub, Int.reduceAdd, Int.reduceLE, Int.reduceLT, Int.reduceMul, Int.reduceToNat, Int.reduceEq, Int.reduceBEq, Int.reduceBNe, Nat.reduceEqDiff, PCp, q1, q2, q3, q4, r2, r3, r4, t1, t2, t3, t4, t5, a2, a3, a4])
                  (refine vk_callR rfl ⟨_, .inl rfl, n3⟩ ?_; simp (maxSteps := 4000000) (disch := omega) only [EW, Nat.reduceBEq, reduceIte, Nat.reduceAdd, Nat.reduceLeDiff, Nat.reduceLT, Nat.reduceSub, Nat.reduceMul, reduceCtorEq, Int.reduceNeg, Int.reduceSub, Int.reduceAdd, Int.reduceLE, Int.reduceLT, Int.reduceMul, Int.reduceToNat, Int.reduceEq, Int.reduceBEq, Int.reduceBNe, Nat.reduceEqDiff, PCp, q1, q2, q3, q4, r2, r3, r4, t1, t2, t3, t4, t5, a2, a3, a4])
                  refine hfin _ ?_
                  exact ⟨[some 0, some 5], rfl, rfl, rfl, rfl, ⟨.ptr rfl, (.refE rfl (by omega)), .same _ rfl, .same _ rfl, trivial⟩, ⟨⟨_, rfl, .box (SubML.same _ rfl)⟩, ⟨⟨_, rfl, .arr (.refl _)⟩, trivial⟩⟩⟩
                · rw [h] at hfin ⊢
                  rcases (by omega : (ev < 0 ∨ 4294967296 ≤ ev) ∨ ((0 ≤ ev ∧ ev < 4294967296) ∧ (nm < 0 ∨ (0 ≤ nm ∧ nm < 4294967296) ∨ 4294967296 ≤ nm))) with (k | k) | ⟨k, k | k | k⟩
                  all_goals
                    first | rw [oddI_T (n := ev) (by omega)] at hfin | rw [oddI_F (n := ev) (by omega)] at hfin
                    first | rw [oddI_T (n := nm) (by omega)] at hfin | rw [oddI_F (n := nm) (by omega)] at hfin | skip
                    simp (maxSteps := 4000000) (disch := omega) only [EW, Nat.reduceBEq, reduceIte, Nat.reduceAdd, Nat.reduceLeDiff, Nat.reduceLT, Nat.reduceSub, Nat.reduceMul, reduceCtorEq, Int.reduceNeg, Int.reduceSub, Int.reduceAdd, Int.reduceLE, Int.reduceLT, Int.reduceMul, Int.reduceToNat, Int.reduceEq, Int.reduceBEq, Int.reduceBNe, Nat.reduceEqDiff, PCp]
                    (refine vk_callR rfl ⟨_, .inl rfl, n1⟩ ?_; simp (maxSteps := 4000000) (disch := omega) only [EW, Nat.reduceBEq, reduceIte, Nat.reduceAdd, Nat.reduceLeDiff, Nat.reduceLT, Nat.reduceSub, Nat.reduceMul, reduceCtorEq, Int.reduceNeg, Int.reduceSub, Int.reduceAdd, Int.reduceLE, Int.reduceLT, Int.reduceMul, Int.reduceToNat, Int.reduceEq, Int.reduceBEq, Int.reduceBNe, Nat.reduceEqDiff, PCp, q1, q2, q3, q4, r2, r3, r4, t1, t2, t3, t4, t5, a2, a3, a4])
                    (refine vk_callR rfl ⟨_, .inl rfl, n2⟩ ?_; simp (maxSteps := 4000000) (disch := omega) only [EW, Nat.reduceBEq, reduceIte, Nat.reduceAdd, Nat.reduceLeDiff, Nat.reduceLT, Nat.reduceSub, Nat.reduceMul, reduceCtorEq, Int.reduceNeg, Int.reduceSub, Int.reduceAdd, Int.reduceLE, Int.reduceLT, Int.reduceMul, Int.reduceToNat, Int.reduceEq, Int.reduceBEq, Int.reduceBNe, Nat.reduceEqDiff, PCp, q1, q2, q3, q4, r2, r3, r4, t1, t2, t3, t4, t5, a2, a3, a4])
                    (refine vk_callR rfl ⟨_, .inl rfl, n3⟩ ?_; simp (maxSteps := 4000000) (disch := omega) only [EW, Nat.reduceBEq, reduceIte, Nat.reduceAdd, Nat.reduceLeDiff, Nat.reduceLT, Nat.reduceSub, Nat.reduceMul, reduceCtorEq, Int.reduceNeg, Int.reduceSub, Int.reduceAdd, Int.reduceLE, Int.reduceLT, Int.reduceMul, Int.reduceToNat, Int.reduceEq, Int.reduceBEq, Int.reduceBNe, Nat.reduceEqDiff, PCp, q1, q2, q3, q4, r2, r3, r4, t1, t2, t3, t4, t5, a2, a3, a4])
                    refine hfin _ ?_
                    exact ⟨[some 0, some 5], rfl, rfl, rfl, rfl, ⟨.ptr rfl, (.refE rfl (by omega)), .same _ rfl, .same _ rfl, trivial⟩, ⟨⟨_, rfl, .box (SubML.same _ rfl)⟩, ⟨⟨_, rfl, .arr (.refl _)⟩, trivial⟩⟩⟩
            · have e : j = p.hooks.length := by omega
              subst e
              rw [List.take_length]
              have hbl := bRows_length (f ++ hooksB p.hooks)
              have hbt := bRows_take (f ++ hooksB p.hooks)
              generalize f ++ hooksB p.hooks = fz at *
              simp (maxSteps := 4000000) (disch := omega) only [EW, Nat.reduceBEq, reduceIte, Nat.reduceAdd, Nat.reduceLeDiff, Nat.reduceLT, Nat.reduceSub, Nat.reduceMul, reduceCtorEq, Int.reduceNeg, Int.reduceSub, Int.reduceAdd, Int.reduceLE, Int.reduceLT, Int.reduceMul, Int.reduceToNat, Int.reduceEq, Int.reduceBEq, Int.reduceBNe, Nat.reduceEqDiff, hhl, PCp]
              refine hE _ _ ?_
              simp (maxSteps := 4000000) (disch := omega) only [EW, Nat.reduceBEq, reduceIte, Nat.reduceAdd, Nat.reduceLeDiff, Nat.reduceLT, Nat.reduceSub, Nat.reduceMul, reduceCtorEq, Int.reduceNeg, Int.reduceSub, Int.reduceAdd, Int.reduceLE, Int.reduceLT, Int.reduceMul, Int.reduceToNat, Int.reduceEq, Int.reduceBEq, Int.reduceBNe, Nat.reduceEqDiff]
              refine ⟨_, .tup [.sl 1 (bRows fz), _], rfl, ?_, .refl _⟩
              simp only [lendV, lendL, objRows, List.getElem?_cons_succ, List.getElem?_cons_zero, hbl]
              rw [if_pos (Nat.le_refl _), hbt]
end Go.Proofs.VL

/- Contracts of functions of the program, for what calls them, and the law that its name tells. -/
import Derived.Test.YtdiddnapamjojaaTQ
namespace Go.Proofs.VL
open Go Go.RowKit
set_option maxRecDepth 100000
set_option maxHeartbeats 2000000
set_option linter.unusedSimpArgs false
set_option linter.unusedVariables false
attribute [local irreducible] vwp vk

def numsO (ns : List Int) : List UInt8 := ns.flatMap oct4
theorem numsO_snoc (ns : List Int) (n : Int) : numsO (ns ++ [n]) = numsO ns ++ oct4 n := by simp [numsO]
theorem numsO_len : ∀ ns : List Int, (numsO ns).length = 4 * ns.length
  | [] => rfl
  | n :: ns => by have := numsO_len ns; unfold numsO at this ⊢; rw [List.flatMap_cons, List.length_append, this, oct4_len, List.length_cons]; omega
def capI (b : Bool) : Int := if b then 1 else 0
def hookNs (h : Int × Bool × Int) : List Int := [h.1, capI h.2.1, h.2.2]
def five (p : Pat) : List Int := [p.node, p.parent, p.at_, p.kind, p.slot]
def four (p : Pat) : List (List UInt8 × Runs) := [p.tag, p.name, p.value, p.text]
def labR (s : List UInt8 × Runs) : LT := lab s.1 s.2
def strsO (ss : List (List UInt8 × Runs)) : List UInt8 := ss.flatMap fun s => strO (labR s)
def hooksO (hs : List (Int × Bool × Int)) : List UInt8 := hs.flatMap fun h => numsO (hookNs h)
def opO (n : Int) : List UInt8 := [UInt8.ofNat (n % 256).toNat]
/-- A patch's octets, and whether a number of it may not be. -/
def patO (p : Pat) : List UInt8 := opO p.op ++ numsO (five p) ++ textO p.key ++ strsO (four p) ++ oct4 p.hooks.length ++ hooksO p.hooks
def patOdd (p : Pat) : Bool := (five p).any oddI || p.hooks.any fun h => oddI h.1 || oddI h.2.2

theorem strO_len (l : LT) : (strO l).length ≤ 9 * l.length + 8 := by
  unfold strO
  rw [List.length_append, List.length_append, textO_len, oct4_len, runsO_len, txt_length]
  have := rle_len (l.map (·.2))
  rw [List.length_map] at this
  omega

structure PTiny (p : Pat) : Prop where
  key : p.key.length ≤ 10000000
  str : ∀ s ∈ four p, s.1.length ≤ 10000000 ∧ s.2.length ≤ 10000000
  hooks : p.hooks.length ≤ 10000000

theorem strsO_take (ss : List (List UInt8 × Runs)) (h : ∀ s ∈ ss, s.1.length ≤ 10000000) : (strsO ss).length ≤ 90000008 * ss.length := by
  induction ss with
  | nil => simp [strsO]
  | cons s ss ih =>
    have h1 := ih (fun s hs => h s (by simp [hs]))
    have h2 := strO_len (labR s)
    have h3 : (labR s).length = s.1.length := lab_length _ _
    have h4 := h s (by simp)
    unfold strsO at h1 ⊢
    rw [List.flatMap_cons, List.length_append, List.length_cons]
    omega

theorem byte_op (n : Int) : IntKind.u8.wrap n = (((UInt8.ofNat (n % 256).toNat).toNat : Nat) : Int) := by
  have hw : IntKind.u8.wrap n = n % 256 := by simp [IntKind.wrap, IntKind.bits, IntKind.signed]
  rw [hw, UInt8.toNat_ofNat']; omega

theorem w_patch (b : List UInt8) (odd : Bool) (p : Pat) (hp : PTiny p) (hb : b.length ≤ 200000000) : VCall Try.prog 99 [.ptr 0 0, .agg (pCells p)] (wOb b odd) (.tup []) (wOb2 (b ++ patO p) (odd || patOdd p)) := by
  refine VCall.intro ok99 (Nat.le_of_ble_eq_true rfl) (vk_start ?_)
  have hbl := bRows_length b
  have htk := bRows_take b
  have hop := byte_op p.op
  have e1 := bRows_snoc b (UInt8.ofNat (p.op % 256).toNat)
  have e0 : b ++ patO p = b ++ opO p.op ++ numsO (five p) ++ textO p.key ++ strsO (four p) ++ oct4 p.hooks.length ++ hooksO p.hooks := by unfold patO; simp
  have hc : (b ++ opO p.op).length = b.length + 1 := by rw [List.length_append]; rfl
  have hod2 : (odd || patOdd p) = (odd || (five p).any oddI || p.hooks.any fun h => oddI h.1 || oddI h.2.2) := by unfold patOdd; rw [Bool.or_assoc]
  rw [e0, hod2]
  change bRows b ++ _ = bRows (b ++ opO p.op) at e1
  generalize b ++ opO p.op = c at *
  simp (maxSteps := 4000000) (disch := omega) only [EW, Nat.reduceBEq, reduceIte, Nat.reduceAdd, Nat.reduceLeDiff, Nat.reduceLT, Nat.reduceSub, Nat.reduceMul, reduceCtorEq, Int.reduceNeg, Int.reduceSub, Int.reduceAdd, Int.reduceLE, Int.reduceLT, Int.reduceMul, Int.reduceToNat, Int.reduceEq, Int.reduceBEq, Int.reduceBNe, Nat.reduceEqDiff, vc99, rs99, wOb, hop, htk, e1, PCp]
  refine vk_loopR (γ := Nat) (fun j => { tm := [(0, .ptr 0 0), (3, .ptr 2 0), (33, .agg [.int .i64 p.node, .int .i64 p.parent, .int .i64 p.at_, .int .i64 p.kind, .int .i64 p.slot]), (34, .int .i64 j)], ob := [some (.box [.ref 3 (c ++ numsO ((five p).take j)).length, .bool (odd || ((five p).take j).any oddI)]), none, some (.box (pCells p)), some (.arr 5 1 (bRows (c ++ numsO ((five p).take j))))], base := 2 })
    (fun j => j ≤ 5) (fun j => 5 - j) 0 (by decide) ?_ ?_
  · rw [List.take_zero, show numsO [] = [] from rfl, List.append_nil, List.any_nil, Bool.or_false]
    exact ⟨[some 0, some 1, some 2, some 3], rfl, rfl, rfl, rfl, ⟨.ptr rfl, .ptr rfl, .agg (.cons (.same _ rfl) (.cons (.same _ rfl) (.cons (.same _ rfl) (.cons (.same _ rfl) (.cons (.same _ rfl) .nil))))), .same _ rfl, trivial⟩, ⟨⟨_, rfl, .box (.cons ((.refE rfl (by simp [bRows_length]))) (.cons (.same _ rfl) .nil))⟩, ⟨⟨_, rfl, .box (SubML.same _ rfl)⟩, ⟨⟨_, rfl, .arr (.refl _)⟩, trivial⟩⟩⟩⟩
  · rintro j hj R hN hE hR
    rcases Nat.lt_or_ge j 5 with hlt | hge
    · obtain ⟨x, hx⟩ : ∃ x, (five p)[j]? = some x := ⟨_, List.getElem?_eq_getElem hlt⟩
      have hg : ([V.int .i64 p.node, .int .i64 p.parent, .int .i64 p.at_, .int .i64 p.kind, .int .i64 p.slot] : List V)[j]? = some (.int .i64 x) := by
        have : ([V.int .i64 p.node, .int .i64 p.parent, .int .i64 p.at_, .int .i64 p.kind, .int .i64 p.slot] : List V) = (five p).map (V.int .i64) := rfl
        rw [this, List.getElem?_map, hx]; rfl
      have htk : (five p).take (j + 1) = (five p).take j ++ [x] := by rw [List.take_add_one, hx]; rfl
      have hn := fun B k0 k1 h0 h1 hne => w_numA (B := B) (k0 := k0) (k1 := k1) (c ++ numsO ((five p).take j)) (odd || ((five p).take j).any oddI) x (by rw [List.length_append, numsO_len, List.length_take]; omega) h0 h1 hne
      have hfin := fun s' hs => hN s' (j + 1) hlt (by omega) hs
      simp only [htk, numsO_snoc, List.any_append, List.any_cons, List.any_nil, Bool.or_false, ← List.append_assoc, ← Bool.or_assoc] at hfin
      generalize (odd || ((five p).take j).any oddI) = od at *
      generalize c ++ numsO ((five p).take j) = d at *
      simp (maxSteps := 4000000) (disch := omega) only [EW, Nat.reduceBEq, reduceIte, Nat.reduceAdd, Nat.reduceLeDiff, Nat.reduceLT, Nat.reduceSub, Nat.reduceMul, reduceCtorEq, Int.reduceNeg, Int.reduceSub, Int.reduceAdd, Int.reduceLE, Int.reduceLT, Int.reduceMul, Int.reduceToNat, Int.reduceEq, Int.reduceBEq, Int.reduceBNe, Nat.reduceEqDiff, Nat.mul_one, hg]
      refine vk_call rfl (hn _ 0 3 rfl rfl (by decide)) ?_
      simp (maxSteps := 4000000) (disch := omega) only [EW, Nat.reduceBEq, reduceIte, Nat.reduceAdd, Nat.reduceLeDiff, Nat.reduceLT, Nat.reduceSub, Nat.reduceMul, reduceCtorEq, Int.reduceNeg, Int.reduceSub, Int.reduceAdd, Int.reduceLE, Int.reduceLT, Int.reduceMul, Int.reduceToNat, Int.reduceEq, Int.reduceBEq, Int.reduceBNe, Nat.reduceEqDiff]
      refine hfin _ ?_
      exact ⟨[some 0, some 1, some 2, some 4], rfl, rfl, rfl, rfl, ⟨.ptr rfl, .ptr rfl, .agg (.cons (.same _ rfl) (.cons (.same _ rfl) (.cons (.same _ rfl) (.cons (.same _ rfl) (.cons (.same _ rfl) .nil))))), .same _ rfl, trivial⟩, ⟨⟨_, rfl, .box (.cons ((.refE rfl (by simp))) (.cons (.same _ rfl) .nil))⟩, ⟨⟨_, rfl, .box (SubML.same _ rfl)⟩, ⟨⟨_, rfl, .arr (.refl _)⟩, trivial⟩⟩⟩⟩
    · have e : j = 5 := by omega
      subst e
      rw [show (five p).take 5 = five p from rfl]
      clear hN hop
      have hc2 : (c ++ numsO (five p)).length = c.length + 20 := by rw [List.length_append, numsO_len]; rfl
      have hk := hp.key
      generalize hod : (odd || (five p).any oddI) = od
      have htext := fun B k0 k1 h0 h1 hne => w_at (w_text (c ++ numsO (five p)) od p.key (by omega) (by omega)) rfl (B := B) (k0 := k0) (k1 := k1) h0 h1 hne
      have hc3 : (c ++ numsO (five p) ++ textO p.key).length = c.length + 24 + p.key.length := by rw [List.length_append, hc2, textO_len]; omega
      generalize c ++ numsO (five p) ++ textO p.key = d at *
      generalize c ++ numsO (five p) = c5 at *
      simp (maxSteps := 4000000) (disch := omega) only [EW, Nat.reduceBEq, reduceIte, Nat.reduceAdd, Nat.reduceLeDiff, Nat.reduceLT, Nat.reduceSub, Nat.reduceMul, reduceCtorEq, Int.reduceNeg, Int.reduceSub, Int.reduceAdd, Int.reduceLE, Int.reduceLT, Int.reduceMul, Int.reduceToNat, Int.reduceEq, Int.reduceBEq, Int.reduceBNe, Nat.reduceEqDiff]
      refine hE _ _ ?_
      clear hE hR
      simp (maxSteps := 4000000) (disch := omega) only [EW, Nat.reduceBEq, reduceIte, Nat.reduceAdd, Nat.reduceLeDiff, Nat.reduceLT, Nat.reduceSub, Nat.reduceMul, reduceCtorEq, Int.reduceNeg, Int.reduceSub, Int.reduceAdd, Int.reduceLE, Int.reduceLT, Int.reduceMul, Int.reduceToNat, Int.reduceEq, Int.reduceBEq, Int.reduceBNe, Nat.reduceEqDiff, PCp]
      refine vk_call rfl (htext _ 0 3 rfl rfl (by decide)) ?_
      simp (maxSteps := 4000000) (disch := omega) only [EW, Nat.reduceBEq, reduceIte, Nat.reduceAdd, Nat.reduceLeDiff, Nat.reduceLT, Nat.reduceSub, Nat.reduceMul, reduceCtorEq, Int.reduceNeg, Int.reduceSub, Int.reduceAdd, Int.reduceLE, Int.reduceLT, Int.reduceMul, Int.reduceToNat, Int.reduceEq, Int.reduceBEq, Int.reduceBNe, Nat.reduceEqDiff, PCp]
      refine vk_loopR (γ := Nat) (fun j => { tm := [(0, .ptr 0 0), (3, .ptr 2 0), (55, .agg [.str p.tag.1, .sl 2 (rws p.tag.2), .str p.name.1, .sl 2 (rws p.name.2), .str p.value.1, .sl 2 (rws p.value.2), .str p.text.1, .sl 2 (rws p.text.2)]), (56, .int .i64 j)], ob := [some (.box [.ref 3 (d ++ strsO ((four p).take j)).length, .bool od]), none, some (.box (pCells p)), some (.arr 5 1 (bRows (d ++ strsO ((four p).take j))))], base := 2 })
        (fun j => j ≤ 4) (fun j => 4 - j) 0 (by decide) ?_ ?_
      · rw [List.take_zero, show strsO [] = [] from rfl, List.append_nil]
        exact ⟨[some 0, some 1, some 2, some 4], rfl, rfl, rfl, rfl, ⟨.ptr rfl, .ptr rfl, .agg (.cons (.same _ rfl) (.cons (.same _ rfl) (.cons (.same _ rfl) (.cons (.same _ rfl) (.cons (.same _ rfl) (.cons (.same _ rfl) (.cons (.same _ rfl) (.cons (.same _ rfl) .nil)))))))), .same _ rfl, trivial⟩, ⟨⟨_, rfl, .box (.cons ((.refE rfl (by simp))) (.cons (.same _ rfl) .nil))⟩, ⟨⟨_, rfl, .box (SubML.same _ rfl)⟩, ⟨⟨_, rfl, .arr (.refl _)⟩, trivial⟩⟩⟩⟩
      · rintro j hj R hN hE hR
        rcases Nat.lt_or_ge j 4 with hlt | hge
        · obtain ⟨x, hx⟩ : ∃ x, (four p)[j]? = some x := ⟨_, List.getElem?_eq_getElem hlt⟩
          have hxs := hp.str x (List.mem_of_getElem? hx)
          have hg : (List.drop (j * 2) ([.str p.tag.1, .sl 2 (rws p.tag.2), .str p.name.1, .sl 2 (rws p.name.2), .str p.value.1, .sl 2 (rws p.value.2), .str p.text.1, .sl 2 (rws p.text.2)] : List V)).take 2 = [.str x.1, .sl 2 (rws x.2)] := by
            have hj' : j = 0 ∨ j = 1 ∨ j = 2 ∨ j = 3 := by omega
            rcases hj' with rfl | rfl | rfl | rfl <;> (cases hx; rfl)
          have htk : (four p).take (j + 1) = (four p).take j ++ [x] := by rw [List.take_add_one, hx]; rfl
          have hsn : strsO ((four p).take j ++ [x]) = strsO ((four p).take j) ++ strO (labR x) := by simp [strsO]
          have hsl := strsO_take ((four p).take j) (fun s hs => (hp.str s (List.mem_of_mem_take hs)).1)
          have hn := fun B k0 k1 h0 h1 hne => w_at (w_str (d ++ strsO ((four p).take j)) od (t := x.1) (rs := x.2) rfl (by rw [List.length_append]; rw [List.length_take] at hsl; omega) (by omega) (by omega)) rfl (B := B) (k0 := k0) (k1 := k1) h0 h1 hne
          have hfin := fun s' hs => hN s' (j + 1) hlt (by omega) hs
          simp only [htk, hsn, ← List.append_assoc] at hfin
          have hlab : lab x.1 x.2 = labR x := rfl
          rw [hlab] at hn
          generalize d ++ strsO ((four p).take j) = f at *
          generalize f ++ strO (labR x) = g at *
          simp (maxSteps := 4000000) (disch := omega) only [EW, Nat.reduceBEq, reduceIte, Nat.reduceAdd, Nat.reduceLeDiff, Nat.reduceLT, Nat.reduceSub, Nat.reduceMul, reduceCtorEq, Int.reduceNeg, Int.reduceSub, Int.reduceAdd, Int.reduceLE, Int.reduceLT, Int.reduceMul, Int.reduceToNat, Int.reduceEq, Int.reduceBEq, Int.reduceBNe, Nat.reduceEqDiff, hg]
          refine vk_call rfl (hn _ 0 3 rfl rfl (by decide)) ?_
          simp (maxSteps := 4000000) (disch := omega) only [EW, Nat.reduceBEq, reduceIte, Nat.reduceAdd, Nat.reduceLeDiff, Nat.reduceLT, Nat.reduceSub, Nat.reduceMul, reduceCtorEq, Int.reduceNeg, Int.reduceSub, Int.reduceAdd, Int.reduceLE, Int.reduceLT, Int.reduceMul, Int.reduceToNat, Int.reduceEq, Int.reduceBEq, Int.reduceBNe, Nat.reduceEqDiff]
          refine hfin _ ?_
          exact ⟨[some 0, some 1, some 2, some 5], rfl, rfl, rfl, rfl, ⟨.ptr rfl, .ptr rfl, .agg (.cons (.same _ rfl) (.cons (.same _ rfl) (.cons (.same _ rfl) (.cons (.same _ rfl) (.cons (.same _ rfl) (.cons (.same _ rfl) (.cons (.same _ rfl) (.cons (.same _ rfl) .nil)))))))), .same _ rfl, trivial⟩, ⟨⟨_, rfl, .box (.cons (.ref rfl) (.cons (.same _ rfl) .nil))⟩, ⟨⟨_, rfl, .box (SubML.same _ rfl)⟩, ⟨⟨_, rfl, .arr (.refl _)⟩, trivial⟩⟩⟩⟩
        · have e : j = 4 := by omega
          subst e
          rw [show (four p).take 4 = four p from rfl]
          have hsl := strsO_take (four p) (fun s hs => (hp.str s hs).1)
          have hf4 : (four p).length = 4 := rfl
          have hh := hp.hooks
          have hnum := fun B k0 k1 h0 h1 hne => w_numA (B := B) (k0 := k0) (k1 := k1) (d ++ strsO (four p)) od p.hooks.length (by rw [List.length_append]; omega) h0 h1 hne
          rw [odd_len (by omega), Bool.or_false] at hnum
          have hc4 : (d ++ strsO (four p) ++ oct4 p.hooks.length).length ≤ 1000000000 := by rw [List.length_append, List.length_append, oct4_len]; omega
          generalize d ++ strsO (four p) ++ oct4 p.hooks.length = f at *
          generalize d ++ strsO (four p) = d4 at *
          have hhl : (hRows p.hooks).length = p.hooks.length := by simp [hRows]
          simp (maxSteps := 4000000) (disch := omega) only [EW, Nat.reduceBEq, reduceIte, Nat.reduceAdd, Nat.reduceLeDiff, Nat.reduceLT, Nat.reduceSub, Nat.reduceMul, reduceCtorEq, Int.reduceNeg, Int.reduceSub, Int.reduceAdd, Int.reduceLE, Int.reduceLT, Int.reduceMul, Int.reduceToNat, Int.reduceEq, Int.reduceBEq, Int.reduceBNe, Nat.reduceEqDiff]
          refine hE _ _ ?_
          clear hN hE hR htext
          simp (maxSteps := 4000000) (disch := omega) only [EW, Nat.reduceBEq, reduceIte, Nat.reduceAdd, Nat.reduceLeDiff, Nat.reduceLT, Nat.reduceSub, Nat.reduceMul, reduceCtorEq, Int.reduceNeg, Int.reduceSub, Int.reduceAdd, Int.reduceLE, Int.reduceLT, Int.reduceMul, Int.reduceToNat, Int.reduceEq, Int.reduceBEq, Int.reduceBNe, Nat.reduceEqDiff, PCp, hhl]
          refine vk_call rfl (hnum _ 0 3 rfl rfl (by decide)) ?_
          simp (maxSteps := 4000000) (disch := omega) only [EW, Nat.reduceBEq, reduceIte, Nat.reduceAdd, Nat.reduceLeDiff, Nat.reduceLT, Nat.reduceSub, Nat.reduceMul, reduceCtorEq, Int.reduceNeg, Int.reduceSub, Int.reduceAdd, Int.reduceLE, Int.reduceLT, Int.reduceMul, Int.reduceToNat, Int.reduceEq, Int.reduceBEq, Int.reduceBNe, Nat.reduceEqDiff, PCp, hhl]
          refine vk_loopR (γ := Nat) (fun j => { tm := [(0, .ptr 0 0), (69, .sl 3 (hRows p.hooks)), (70, .int .i64 p.hooks.length), (71, .int .i64 j)], ob := [some (.box [.ref 2 (f ++ hooksO (p.hooks.take j)).length, .bool (od || (p.hooks.take j).any fun h => oddI h.1 || oddI h.2.2)]), none, some (.arr 5 1 (bRows (f ++ hooksO (p.hooks.take j))))], base := 2 })
            (fun j => j ≤ p.hooks.length) (fun j => p.hooks.length - j) 0 (Nat.zero_le _) ?_ ?_
          · rw [List.take_zero, show hooksO [] = [] from rfl, List.append_nil, List.any_nil, Bool.or_false]
            exact ⟨[some 0, some 1, some 4], rfl, rfl, rfl, rfl, ⟨.ptr rfl, .same _ rfl, .same _ rfl, .same _ rfl, trivial⟩, ⟨⟨_, rfl, .box (.cons ((.refE rfl (by simp))) (.cons (.same _ rfl) .nil))⟩, ⟨⟨_, rfl, .arr (.refl _)⟩, trivial⟩⟩⟩
          · rintro j hj R hN hE hR
            rcases Nat.lt_or_ge j p.hooks.length with hlt | hge
            · obtain ⟨⟨ev, cp, nm⟩, hx⟩ : ∃ x, p.hooks[j]? = some x := ⟨_, List.getElem?_eq_getElem hlt⟩
              have hrow : (hRows p.hooks)[j]? = some [.int .i64 ev, .bool cp, .int .i64 nm] := by simp [hRows, hx]
              have htk : p.hooks.take (j + 1) = p.hooks.take j ++ [(ev, cp, nm)] := by rw [List.take_add_one, hx]; rfl
              have hsn : hooksO (p.hooks.take j ++ [(ev, cp, nm)]) = hooksO (p.hooks.take j) ++ oct4 ev ++ oct4 (capI cp) ++ oct4 nm := by simp [hooksO, hookNs, numsO]
              have hhl2 : (hooksO (p.hooks.take j)).length ≤ 12 * p.hooks.length := by
                have : ∀ hs : List (Int × Bool × Int), (hooksO hs).length = 12 * hs.length := by
                  intro hs
                  induction hs with
                  | nil => rfl
                  | cons h hs ih => unfold hooksO at ih ⊢; rw [List.flatMap_cons, List.length_append, ih, numsO_len]; simp [hookNs]; omega
                rw [this, List.length_take]; omega
              have hfl : (f ++ hooksO (p.hooks.take j)).length ≤ 2000000000 := by rw [List.length_append]; omega
              have hfin := fun s' hs => hN s' (j + 1) hlt (by omega) hs
              simp only [htk, hsn, List.any_append, List.any_cons, List.any_nil, Bool.or_false, ← List.append_assoc, ← Bool.or_assoc] at hfin
              generalize (od || (p.hooks.take j).any fun h => oddI h.1 || oddI h.2.2) = o1 at *
              generalize f ++ hooksO (p.hooks.take j) = f1 at *
              have n1 := fun B k0 k1 h0 h1 hne => w_numA (B := B) (k0 := k0) (k1 := k1) f1 o1 ev (by omega) h0 h1 hne
              have n2 := fun B k0 k1 h0 h1 hne => w_numA (B := B) (k0 := k0) (k1 := k1) (f1 ++ oct4 ev) (o1 || oddI ev) (capI cp) (by rw [List.length_append, oct4_len]; omega) h0 h1 hne
              have n3 := fun B k0 k1 h0 h1 hne => w_numA (B := B) (k0 := k0) (k1 := k1) (f1 ++ oct4 ev ++ oct4 (capI cp)) (o1 || oddI ev) nm (by rw [List.length_append, List.length_append, oct4_len, oct4_len]; omega) h0 h1 hne
              have hcap : oddI (capI cp) = false := by cases cp <;> rfl
              rw [hcap, Bool.or_false] at n2
              generalize f1 ++ oct4 ev ++ oct4 (capI cp) ++ oct4 nm = f4 at *
              generalize f1 ++ oct4 ev ++ oct4 (capI cp) = f3 at *
              generalize f1 ++ oct4 ev = f2 at *
              generalize (o1 || oddI ev || oddI nm) = o3 at *
              generalize (o1 || oddI ev) = o2 at *
              simp (maxSteps := 4000000) (disch := omega) only [EW, Nat.reduceBEq, reduceIte, Nat.reduceAdd, Nat.reduceLeDiff, Nat.reduceLT, Nat.reduceSub, Nat.reduceMul, reduceCtorEq, Int.reduceNeg, Int.reduceSub, Int.reduceAdd, Int.reduceLE, Int.reduceLT, Int.reduceMul, Int.reduceToNat, Int.reduceEq, Int.reduceBEq, Int.reduceBNe, Nat.reduceEqDiff, hrow]
              refine vk_call rfl (n1 _ 0 2 rfl rfl (by decide)) ?_
              cases cp with
              | true =>
                simp (maxSteps := 4000000) (disch := omega) only [EW, Nat.reduceBEq, reduceIte, Nat.reduceAdd, Nat.reduceLeDiff, Nat.reduceLT, Nat.reduceSub, Nat.reduceMul, reduceCtorEq, Int.reduceNeg, Int.reduceSub, Int.reduceAdd, Int.reduceLE, Int.reduceLT, Int.reduceMul, Int.reduceToNat, Int.reduceEq, Int.reduceBEq, Int.reduceBNe, Nat.reduceEqDiff]
                refine vk_pass ?_
                simp (maxSteps := 4000000) (disch := omega) only [EW, Nat.reduceBEq, reduceIte, Nat.reduceAdd, Nat.reduceLeDiff, Nat.reduceLT, Nat.reduceSub, Nat.reduceMul, reduceCtorEq, Int.reduceNeg, Int.reduceSub, Int.reduceAdd, Int.reduceLE, Int.reduceLT, Int.reduceMul, Int.reduceToNat, Int.reduceEq, Int.reduceBEq, Int.reduceBNe, Nat.reduceEqDiff]
                refine vk_call rfl (n2 _ 0 4 rfl rfl (by decide)) ?_
                simp (maxSteps := 4000000) (disch := omega) only [EW, Nat.reduceBEq, reduceIte, Nat.reduceAdd, Nat.reduceLeDiff, Nat.reduceLT, Nat.reduceSub, Nat.reduceMul, reduceCtorEq, Int.reduceNeg, Int.reduceSub, Int.reduceAdd, Int.reduceLE, Int.reduceLT, Int.reduceMul, Int.reduceToNat, Int.reduceEq, Int.reduceBEq, Int.reduceBNe, Nat.reduceEqDiff]
                refine vk_call rfl (n3 _ 0 5 rfl rfl (by decide)) ?_
                simp (maxSteps := 4000000) (disch := omega) only [EW, Nat.reduceBEq, reduceIte, Nat.reduceAdd, Nat.reduceLeDiff, Nat.reduceLT, Nat.reduceSub, Nat.reduceMul, reduceCtorEq, Int.reduceNeg, Int.reduceSub, Int.reduceAdd, Int.reduceLE, Int.reduceLT, Int.reduceMul, Int.reduceToNat, Int.reduceEq, Int.reduceBEq, Int.reduceBNe, Nat.reduceEqDiff]
                refine hfin _ ?_
                exact ⟨[some 0, some 1, some 6], rfl, rfl, rfl, rfl, ⟨.ptr rfl, .same _ rfl, .same _ rfl, .same _ rfl, trivial⟩, ⟨⟨_, rfl, .box (.cons (.ref rfl) (.cons (.same _ rfl) .nil))⟩, ⟨⟨_, rfl, .arr (.refl _)⟩, trivial⟩⟩⟩
              | false =>
                simp (maxSteps := 4000000) (disch := omega) only [EW, Nat.reduceBEq, reduceIte, Nat.reduceAdd, Nat.reduceLeDiff, Nat.reduceLT, Nat.reduceSub, Nat.reduceMul, reduceCtorEq, Int.reduceNeg, Int.reduceSub, Int.reduceAdd, Int.reduceLE, Int.reduceLT, Int.reduceMul, Int.reduceToNat, Int.reduceEq, Int.reduceBEq, Int.reduceBNe, Nat.reduceEqDiff]
                refine vk_pass ?_
                simp (maxSteps := 4000000) (disch := omega) only [EW, Nat.reduceBEq, reduceIte, Nat.reduceAdd, Nat.reduceLeDiff, Nat.reduceLT, Nat.reduceSub, Nat.reduceMul, reduceCtorEq, Int.reduceNeg, Int.reduceSub, Int.reduceAdd, Int.reduceLE, Int.reduceLT, Int.reduceMul, Int.reduceToNat, Int.reduceEq, Int.reduceBEq, Int.reduceBNe, Nat.reduceEqDiff]
                refine vk_call rfl (n2 _ 0 4 rfl rfl (by decide)) ?_
                simp (maxSteps := 4000000) (disch := omega) only [EW, Nat.reduceBEq, reduceIte, Nat.reduceAdd, Nat.reduceLeDiff, Nat.reduceLT, Nat.reduceSub, Nat.reduceMul, reduceCtorEq, Int.reduceNeg, Int.reduceSub, Int.reduceAdd, Int.reduceLE, Int.reduceLT, Int.reduceMul, Int.reduceToNat, Int.reduceEq, Int.reduceBEq, Int.reduceBNe, Nat.reduceEqDiff]
                refine vk_call rfl (n3 _ 0 5 rfl rfl (by decide)) ?_
                simp (maxSteps := 4000000) (disch := omega) only [EW, Nat.reduceBEq, reduceIte, Nat.reduceAdd, Nat.reduceLeDiff, Nat.reduceLT, Nat.reduceSub, Nat.reduceMul, reduceCtorEq, Int.reduceNeg, Int.reduceSub, Int.reduceAdd, Int.reduceLE, Int.reduceLT, Int.reduceMul, Int.reduceToNat, Int.reduceEq, Int.reduceBEq, Int.reduceBNe, Nat.reduceEqDiff]
                refine hfin _ ?_
                exact ⟨[some 0, some 1, some 6], rfl, rfl, rfl, rfl, ⟨.ptr rfl, .same _ rfl, .same _ rfl, .same _ rfl, trivial⟩, ⟨⟨_, rfl, .box (.cons (.ref rfl) (.cons (.same _ rfl) .nil))⟩, ⟨⟨_, rfl, .arr (.refl _)⟩, trivial⟩⟩⟩
            · have e : j = p.hooks.length := by omega
              subst e
              rw [List.take_length]
              simp (maxSteps := 4000000) (disch := omega) only [EW, Nat.reduceBEq, reduceIte, Nat.reduceAdd, Nat.reduceLeDiff, Nat.reduceLT, Nat.reduceSub, Nat.reduceMul, reduceCtorEq, Int.reduceNeg, Int.reduceSub, Int.reduceAdd, Int.reduceLE, Int.reduceLT, Int.reduceMul, Int.reduceToNat, Int.reduceEq, Int.reduceBEq, Int.reduceBNe, Nat.reduceEqDiff]
              refine hE _ _ ?_
              simp (maxSteps := 4000000) (disch := omega) only [EW, Nat.reduceBEq, reduceIte, Nat.reduceAdd, Nat.reduceLeDiff, Nat.reduceLT, Nat.reduceSub, Nat.reduceMul, reduceCtorEq, Int.reduceNeg, Int.reduceSub, Int.reduceAdd, Int.reduceLE, Int.reduceLT, Int.reduceMul, Int.reduceToNat, Int.reduceEq, Int.reduceBEq, Int.reduceBNe, Nat.reduceEqDiff]
              rw [← hod]
              exact ⟨_, rfl, ⟨[some 0, some 1, some 2], rfl, rfl, rfl, rfl, ⟨.same _ rfl, trivial⟩, ⟨⟨_, rfl, .box (.cons ((.refE rfl (by simp))) (.cons (.same _ rfl) .nil))⟩, ⟨⟨_, rfl, .arr (.refl _)⟩, trivial⟩⟩⟩⟩
end Go.Proofs.VL

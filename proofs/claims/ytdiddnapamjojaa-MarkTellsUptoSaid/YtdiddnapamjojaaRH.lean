/- Contracts of functions of the program, for what calls them, and the law that its name tells. -/
import Derived.Test.YtdiddnapamjojaaSI
import Derived.Test.YtdiddnapamjojaaSA9
import Derived.Test.YtdiddnapamjojaaV3
import Derived.Test.YtdiddnapamjojaaGQ
import Derived.Test.YtdiddnapamjojaaGR
namespace Go.Proofs.VL
open Go Go.RowKit
set_option maxRecDepth 100000
set_option maxHeartbeats 2000000
set_option linter.unusedSimpArgs false
set_option linter.unusedVariables false
attribute [local irreducible] vwp vk

theorem map_pair_fst (x : List UInt8) (o : Int) : (x.map fun c => (c, o)).map (·.1) = x := by
  induction x with
  | nil => rfl
  | cons a r ih => exact congrArg (a :: ·) ih
theorem map_pair_snd (x : List UInt8) (o : Int) : (x.map fun c => (c, o)).map (·.2) = List.replicate x.length o := by
  induction x with
  | nil => rfl
  | cons a r ih => exact congrArg (o :: ·) ih

theorem refl_worst (l : LT) (hl : l.length ≤ 1000000000) : VFn Try.prog 69 [.sl 2 (cRows l)] (.int .i64 (worstO l)) := by
  refine VFn.intro ok69 (Nat.le_of_ble_eq_true rfl) (vk_start ?_)
  simp (maxSteps := 4000000) (disch := omega) only [EW, Nat.reduceBEq, reduceIte, Nat.reduceAdd, Nat.reduceLeDiff, Nat.reduceLT, Nat.reduceSub, Nat.reduceMul, reduceCtorEq, Int.reduceNeg, Int.reduceSub, Int.reduceAdd, Int.reduceLE, Int.reduceLT, Int.reduceMul, Int.reduceToNat, Int.reduceEq, Int.reduceBEq, Int.reduceBNe, Nat.reduceEqDiff, vc69, rs69]
  refine vk_loopR (γ := Nat) (fun i => { tm := [(0, .sl 2 (cRows l)), (3, .int .i64 (worstO (l.take i))), (4, .int .i64 i)], ob := [], base := 0 })
    (fun i => i ≤ l.length) (fun i => l.length - i) 0 (Nat.zero_le _) ?_ ?_
  · exact ⟨[], rfl, rfl, rfl, rfl, ⟨.same _ rfl, .same _ rfl, .same _ rfl, trivial⟩, trivial⟩
  · rintro i hi R hN hE hR
    rcases Nat.lt_or_ge i l.length with hlt | hge
    · obtain ⟨⟨c, o⟩, hr⟩ : ∃ r, l[i]? = some r := ⟨_, List.getElem?_eq_getElem hlt⟩
      have hrow : (cRows l)[i]? = some [.int .u8 c.toNat, .int .i64 o] := by rw [cRows_get, hr]; rfl
      have e : worstO (l.take (i + 1)) = max (worstO (l.take i)) o := by
        rw [List.take_add_one, hr]; simp [worstO]
      by_cases hm : worstO (l.take i) < o
      · simp (maxSteps := 4000000) (disch := omega) only [EW, Nat.reduceBEq, reduceIte, Nat.reduceAdd, Nat.reduceLeDiff, Nat.reduceLT, Nat.reduceSub, Nat.reduceMul, reduceCtorEq, Int.reduceNeg, Int.reduceSub, Int.reduceAdd, Int.reduceLE, Int.reduceLT, Int.reduceMul, Int.reduceToNat, Int.reduceEq, Int.reduceBEq, Int.reduceBNe, Nat.reduceEqDiff, cRows_length, hrow]
        refine hN _ (i + 1) hlt (by omega) ?_
        rw [e, show max (worstO (l.take i)) o = o by omega]
        exact ⟨[], rfl, rfl, rfl, rfl, ⟨.same _ rfl, .same _ rfl, .same _ rfl, trivial⟩, trivial⟩
      · simp (maxSteps := 4000000) (disch := omega) only [EW, Nat.reduceBEq, reduceIte, Nat.reduceAdd, Nat.reduceLeDiff, Nat.reduceLT, Nat.reduceSub, Nat.reduceMul, reduceCtorEq, Int.reduceNeg, Int.reduceSub, Int.reduceAdd, Int.reduceLE, Int.reduceLT, Int.reduceMul, Int.reduceToNat, Int.reduceEq, Int.reduceBEq, Int.reduceBNe, Nat.reduceEqDiff, cRows_length, hrow]
        refine hN _ (i + 1) hlt (by omega) ?_
        rw [e, show max (worstO (l.take i)) o = worstO (l.take i) by omega]
        exact ⟨[], rfl, rfl, rfl, rfl, ⟨.same _ rfl, .same _ rfl, .same _ rfl, trivial⟩, trivial⟩
    · simp (maxSteps := 4000000) (disch := omega) only [EW, Nat.reduceBEq, reduceIte, Nat.reduceAdd, Nat.reduceLeDiff, Nat.reduceLT, Nat.reduceSub, Nat.reduceMul, reduceCtorEq, Int.reduceNeg, Int.reduceSub, Int.reduceAdd, Int.reduceLE, Int.reduceLT, Int.reduceMul, Int.reduceToNat, Int.reduceEq, Int.reduceBEq, Int.reduceBNe, Nat.reduceEqDiff, cRows_length]
      refine hE _ _ ?_
      have e : l.take i = l := List.take_of_length_le hge
      simp (maxSteps := 4000000) (disch := omega) only [EW, Nat.reduceBEq, reduceIte, Nat.reduceAdd, Nat.reduceLeDiff, Nat.reduceLT, Nat.reduceSub, Nat.reduceMul, reduceCtorEq, Int.reduceNeg, Int.reduceSub, Int.reduceAdd, Int.reduceLE, Int.reduceLT, Int.reduceMul, Int.reduceToNat, Int.reduceEq, Int.reduceBEq, Int.reduceBNe, Nat.reduceEqDiff, e]
      exact fin rfl

def norB (t : List UInt8) (rs : Runs) : Bool := decide (rle (orig t.length rs) = rs)

theorem markl_check (t : List UInt8) (rs : Runs) (ht : t.length ≤ 1000000000) (hrs : rs.length ≤ 1000000000) : VFn Try.prog 55 [rawV t rs] (.int .i64 (if norB t rs then 0 else 22)) := by
  refine VFn.intro ok55 (Nat.le_of_ble_eq_true rfl) (vk_start ?_)
  have l1 := rle_len (orig t.length rs)
  rw [orig_length] at l1
  have heq := eq_runs (rle (orig t.length rs)) rs (by omega) (by omega)
  have hn : norB t rs = decide (rle (orig t.length rs) = rs) := rfl
  rw [← hn] at heq
  have hf := fix t rs ht hrs
  generalize rle (orig t.length rs) = q at *
  simp (maxSteps := 4000000) (disch := omega) only [EW, Nat.reduceBEq, reduceIte, Nat.reduceAdd, Nat.reduceLeDiff, Nat.reduceLT, Nat.reduceSub, Nat.reduceMul, reduceCtorEq, Int.reduceNeg, Int.reduceSub, Int.reduceAdd, Int.reduceLE, Int.reduceLT, Int.reduceMul, Int.reduceToNat, Int.reduceEq, Int.reduceBEq, Int.reduceBNe, Nat.reduceEqDiff, vc55, rs55, rawV]
  refine vk_callR rfl ⟨[rawV t rs], .inl rfl, hf⟩ ?_
  simp (maxSteps := 4000000) (disch := omega) only [EW, Nat.reduceBEq, reduceIte, Nat.reduceAdd, Nat.reduceLeDiff, Nat.reduceLT, Nat.reduceSub, Nat.reduceMul, reduceCtorEq, Int.reduceNeg, Int.reduceSub, Int.reduceAdd, Int.reduceLE, Int.reduceLT, Int.reduceMul, Int.reduceToNat, Int.reduceEq, Int.reduceBEq, Int.reduceBNe, Nat.reduceEqDiff, rawV]
  (refine vk_callR rfl ⟨_, .inl rfl, heq⟩ ?_; simp (maxSteps := 4000000) (disch := omega) only [EW, Nat.reduceBEq, reduceIte, Nat.reduceAdd, Nat.reduceLeDiff, Nat.reduceLT, Nat.reduceSub, Nat.reduceMul, reduceCtorEq, Int.reduceNeg, Int.reduceSub, Int.reduceAdd, Int.reduceLE, Int.reduceLT, Int.reduceMul, Int.reduceToNat, Int.reduceEq, Int.reduceBEq, Int.reduceBNe, Nat.reduceEqDiff])
  cases norB t rs with
  | true =>
    simp (maxSteps := 4000000) (disch := omega) only [EW, Nat.reduceBEq, reduceIte, Nat.reduceAdd, Nat.reduceLeDiff, Nat.reduceLT, Nat.reduceSub, Nat.reduceMul, reduceCtorEq, Int.reduceNeg, Int.reduceSub, Int.reduceAdd, Int.reduceLE, Int.reduceLT, Int.reduceMul, Int.reduceToNat, Int.reduceEq, Int.reduceBEq, Int.reduceBNe, Nat.reduceEqDiff]
    exact fin rfl
  | false =>
    simp (maxSteps := 4000000) (disch := omega) only [EW, Nat.reduceBEq, reduceIte, Nat.reduceAdd, Nat.reduceLeDiff, Nat.reduceLT, Nat.reduceSub, Nat.reduceMul, reduceCtorEq, Int.reduceNeg, Int.reduceSub, Int.reduceAdd, Int.reduceLE, Int.reduceLT, Int.reduceMul, Int.reduceToNat, Int.reduceEq, Int.reduceBEq, Int.reduceBNe, Nat.reduceEqDiff]
    exact fin rfl

theorem mark_pure {t : List UInt8} {rs : Runs} {l : LT} (h : lab t rs = l) (ht : t.length ≤ 1000000000) (hrs : rs.length ≤ 1000000000) : VFn Try.prog 70 [rawV t rs] (.bool (worstO l == 0)) := by
  refine VFn.intro ok70 (Nat.le_of_ble_eq_true rfl) (vk_start ?_)
  have hf := mark_worst h ht hrs
  simp (maxSteps := 4000000) (disch := omega) only [EW, Nat.reduceBEq, reduceIte, Nat.reduceAdd, Nat.reduceLeDiff, Nat.reduceLT, Nat.reduceSub, Nat.reduceMul, reduceCtorEq, Int.reduceNeg, Int.reduceSub, Int.reduceAdd, Int.reduceLE, Int.reduceLT, Int.reduceMul, Int.reduceToNat, Int.reduceEq, Int.reduceBEq, Int.reduceBNe, Nat.reduceEqDiff, vc70, rs70, rawV]
  refine vk_callR rfl ⟨[rawV t rs], .inl rfl, hf⟩ ?_
  simp (maxSteps := 4000000) (disch := omega) only [EW, Nat.reduceBEq, reduceIte, Nat.reduceAdd, Nat.reduceLeDiff, Nat.reduceLT, Nat.reduceSub, Nat.reduceMul, reduceCtorEq, Int.reduceNeg, Int.reduceSub, Int.reduceAdd, Int.reduceLE, Int.reduceLT, Int.reduceMul, Int.reduceToNat, Int.reduceEq, Int.reduceBEq, Int.reduceBNe, Nat.reduceEqDiff]
  exact fin rfl

/-- A byte's origin, or none's. -/
def atI (l : LT) (i : Int) : Int := if 0 ≤ i then match l[i.toNat]? with | some c => c.2 | none => -1 else -1

theorem mark_atI {t : List UInt8} {rs : Runs} {l : LT} (h : lab t rs = l) (i : Int) (ht : t.length ≤ 1000000000) (hrs : rs.length ≤ 1000000000) : VFn Try.prog 68 [rawV t rs, .int .i64 i] (.int .i64 (atI l i)) := by
  have hl : l.length = t.length := by rw [← h, lab_length]
  by_cases h0 : 0 ≤ i
  · rcases Nat.lt_or_ge i.toNat l.length with hlt | hge
    · obtain ⟨⟨c, o⟩, hr⟩ : ∃ r, l[i.toNat]? = some r := ⟨_, List.getElem?_eq_getElem hlt⟩
      have := mark_at h hr ht hrs
      rw [Int.toNat_of_nonneg h0] at this
      have e : atI l i = o := by simp only [atI, if_pos h0, hr]
      rw [e]; exact this
    · have e : atI l i = -1 := by simp only [atI, if_pos h0, List.getElem?_eq_none hge]
      rw [e]
      refine VFn.intro ok68 (Nat.le_of_ble_eq_true rfl) (vk_start ?_)
      have c0 : (i < 0) = False := by simp; omega
      have c1 : ((t.length : Int) ≤ i) = True := by simp; omega
      simp only [vc68, rs68, rawV, wrap64, EV0, e_condB, Nat.reduceBEq, reduceIte, Nat.reduceAdd, Nat.reduceLeDiff, Nat.reduceLT, Nat.reduceSub, Nat.reduceMul, reduceCtorEq, Int.reduceNeg, Int.reduceSub, Int.reduceAdd, Int.reduceLE, Int.reduceLT, Int.reduceMul, Int.reduceToNat, Int.reduceEq, Int.reduceBEq, Int.reduceBNe, Nat.reduceEqDiff, c0, c1]
      exact ⟨_, _, rfl, rfl, .refl _⟩
  · have e : atI l i = -1 := by simp only [atI, if_neg h0]
    rw [e]
    refine VFn.intro ok68 (Nat.le_of_ble_eq_true rfl) (vk_start ?_)
    have c0 : (i < 0) = True := by simp; omega
    simp only [vc68, rs68, rawV, wrap64, EV0, e_condB, Nat.reduceBEq, reduceIte, Nat.reduceAdd, Nat.reduceLeDiff, Nat.reduceLT, Nat.reduceSub, Nat.reduceMul, reduceCtorEq, Int.reduceNeg, Int.reduceSub, Int.reduceAdd, Int.reduceLE, Int.reduceLT, Int.reduceMul, Int.reduceToNat, Int.reduceEq, Int.reduceBEq, Int.reduceBNe, Nat.reduceEqDiff, c0]
    exact ⟨_, _, rfl, rfl, .refl _⟩

theorem irows_get (zs : List Int) (i : Nat) : (irows zs)[i]? = (zs[i]?).map fun z => [.int .i64 z] := by simp [irows]

theorem ints_eq (a b : List Int) (ha : a.length ≤ 2000000000) (hb : b.length ≤ 2000000000) : VFn Try.prog 71 [.sl 1 (irows a), .sl 1 (irows b)] (.bool (decide (a = b))) := by
  refine VFn.intro ok71 (Nat.le_of_ble_eq_true rfl) (vk_start ?_)
  by_cases hl : a.length = b.length
  · have b2 : ((a.length : Int) != (b.length : Int)) = false := by simp [hl]
    simp only [vc71, rs71, wrap64, EV0, e_condB, Nat.reduceBEq, reduceIte, Nat.reduceAdd, Nat.reduceLeDiff, Nat.reduceLT, Nat.reduceSub, Nat.reduceMul, reduceCtorEq, Int.reduceNeg, Int.reduceSub, Int.reduceAdd, Int.reduceLE, Int.reduceLT, Int.reduceMul, Int.reduceToNat, Int.reduceEq, Int.reduceBEq, Int.reduceBNe, Nat.reduceEqDiff, irows_length, b2]
    refine vk_loopR (γ := Nat) (fun i => { tm := [(0, .sl 1 (irows a)), (1, .sl 1 (irows b)), (5, .int .i64 i)], ob := [], base := 0 }) (fun i => i ≤ a.length ∧ a.take i = b.take i) (fun i => a.length - i) 0 ⟨Nat.zero_le _, rfl⟩ ?_ ?_
    · exact ⟨[], rfl, rfl, rfl, rfl, ⟨.same _ rfl, .same _ rfl, .same _ rfl, trivial⟩, trivial⟩
    · rintro i ⟨hi, heq⟩ R hN hE hR
      have c0 : (0 ≤ (i : Int)) = True := by simp
      have w1 : IntKind.i64.wrap ((i : Int) + 1) = i + 1 := wrap64 (by omega) (by omega)
      rcases Nat.lt_or_ge i a.length with hlt | hge
      · have c1 : ((i : Int) < (a.length : Int)) = True := by simp; omega
        have c2 : ((i : Int) < (b.length : Int)) = True := by simp; omega
        obtain ⟨x, hr⟩ : ∃ r, a[i]? = some r := ⟨_, List.getElem?_eq_getElem hlt⟩
        obtain ⟨y, hr'⟩ : ∃ r, b[i]? = some r := ⟨_, List.getElem?_eq_getElem (by omega)⟩
        have hrow : (irows a)[i]? = some [.int .i64 x] := by rw [irows_get, hr]; rfl
        have hrow' : (irows b)[i]? = some [.int .i64 y] := by rw [irows_get, hr']; rfl
        by_cases hne : x = y
        · subst hne
          have b3 : (x != x) = false := by simp
          simp only [wrap64, EV0, e_condB, Nat.reduceBEq, reduceIte, Nat.reduceAdd, Nat.reduceLeDiff, Nat.reduceLT, Nat.reduceSub, Nat.reduceMul, reduceCtorEq, Int.reduceNeg, Int.reduceSub, Int.reduceAdd, Int.reduceLE, Int.reduceLT, Int.reduceMul, Int.reduceToNat, Int.reduceEq, Int.reduceBEq, Int.reduceBNe, Nat.reduceEqDiff, irows_length, c0, c1, c2, hrow, hrow', w1, b3]
          exact hN _ (i + 1) ⟨by omega, take_eq_step heq hr hr'⟩ (by omega) ⟨[], rfl, rfl, rfl, rfl, ⟨.same _ rfl, .same _ rfl, .same _ rfl, trivial⟩, trivial⟩
        · have b3 : (x != y) = true := by simp [hne]
          simp only [wrap64, EV0, e_condB, Nat.reduceBEq, reduceIte, Nat.reduceAdd, Nat.reduceLeDiff, Nat.reduceLT, Nat.reduceSub, Nat.reduceMul, reduceCtorEq, Int.reduceNeg, Int.reduceSub, Int.reduceAdd, Int.reduceLE, Int.reduceLT, Int.reduceMul, Int.reduceToNat, Int.reduceEq, Int.reduceBEq, Int.reduceBNe, Nat.reduceEqDiff, irows_length, c0, c1, c2, hrow, hrow', w1, b3]
          refine hR _ ?_
          simp only [wrap64, EV0, e_condB, Nat.reduceBEq, reduceIte, Nat.reduceAdd, Nat.reduceLeDiff, Nat.reduceLT, Nat.reduceSub, Nat.reduceMul, reduceCtorEq, Int.reduceNeg, Int.reduceSub, Int.reduceAdd, Int.reduceLE, Int.reduceLT, Int.reduceMul, Int.reduceToNat, Int.reduceEq, Int.reduceBEq, Int.reduceBNe, Nat.reduceEqDiff]
          have hf : decide (a = b) = false := by
            rw [decide_eq_false_iff_not]; rintro rfl
            rw [hr] at hr'; simp at hr'; exact hne hr'
          rw [hf]
          exact ⟨_, _, rfl, rfl, .refl _⟩
      · have c1 : ((i : Int) < (a.length : Int)) = False := by simp; omega
        have c2 : ((i : Int) < (b.length : Int)) = False := by simp; omega
        simp only [wrap64, EV0, e_condB, Nat.reduceBEq, reduceIte, Nat.reduceAdd, Nat.reduceLeDiff, Nat.reduceLT, Nat.reduceSub, Nat.reduceMul, reduceCtorEq, Int.reduceNeg, Int.reduceSub, Int.reduceAdd, Int.reduceLE, Int.reduceLT, Int.reduceMul, Int.reduceToNat, Int.reduceEq, Int.reduceBEq, Int.reduceBNe, Nat.reduceEqDiff, irows_length, c0, c1, c2]
        refine hE _ _ ?_
        simp only [wrap64, EV0, e_condB, Nat.reduceBEq, reduceIte, Nat.reduceAdd, Nat.reduceLeDiff, Nat.reduceLT, Nat.reduceSub, Nat.reduceMul, reduceCtorEq, Int.reduceNeg, Int.reduceSub, Int.reduceAdd, Int.reduceLE, Int.reduceLT, Int.reduceMul, Int.reduceToNat, Int.reduceEq, Int.reduceBEq, Int.reduceBNe, Nat.reduceEqDiff]
        have hf : decide (a = b) = true := by
          rw [decide_eq_true_eq]
          rw [List.take_of_length_le (by omega), List.take_of_length_le (by omega)] at heq
          exact heq
        rw [hf]
        exact ⟨_, _, rfl, rfl, .refl _⟩
  · have b2 : ((a.length : Int) != (b.length : Int)) = true := by simp; omega
    simp only [vc71, rs71, wrap64, EV0, e_condB, Nat.reduceBEq, reduceIte, Nat.reduceAdd, Nat.reduceLeDiff, Nat.reduceLT, Nat.reduceSub, Nat.reduceMul, reduceCtorEq, Int.reduceNeg, Int.reduceSub, Int.reduceAdd, Int.reduceLE, Int.reduceLT, Int.reduceMul, Int.reduceToNat, Int.reduceEq, Int.reduceBEq, Int.reduceBNe, Nat.reduceEqDiff, irows_length, b2]
    have hf : decide (a = b) = false := by
      rw [decide_eq_false_iff_not]; rintro rfl; exact hl rfl
    rw [hf]
    exact ⟨_, _, rfl, rfl, .refl _⟩

theorem sort_enter : Enter Try.prog 115 := ⟨_, Try.func115, by kernel_rfl, by kernel_rfl⟩
theorem comp_enter : Enter Try.prog 116 := ⟨_, Try.func116, by kernel_rfl, by kernel_rfl⟩

theorem sortK (e : Nat) (zs : List Int) (hsz : zs.length ≤ 4000000000) :
    VCall Try.prog 115 [.ref 0 zs.length] [some (.arr e 1 (irows zs))] (.tup []) [some (.arr e 1 (irows (zs.mergeSort fun x y => decide (x ≤ y))))] := sort_call (P := Try.prog) laySort sort_enter e zs hsz
theorem compactK (e : Nat) (zs : List Int) (hsz : zs.length ≤ 4000000000) :
    VCall Try.prog 116 [.ref 0 zs.length] [some (.arr e 1 (irows zs))] (.ref 0 (Lib.compact zs).length) [some (.arr e 1 (irows (Lib.compact zs ++ List.replicate (zs.length - (Lib.compact zs).length) 0)))] := compact_call (P := Try.prog) layComp comp_enter e zs hsz

theorem sort_at (e : Nat) (zs : List Int) (hsz : zs.length ≤ 4000000000) (B : List (Option VObj)) (k : Nat) (hk : B[k]? = some (some (.arr e 1 (irows zs)))) {n : Nat} (hn : n = zs.length) :
    VCall Try.prog 115 [.ref k n] B (.tup []) (B.set k (some (.arr e 1 (irows (zs.mergeSort fun x y => decide (x ≤ y)))))) := by
  subst hn
  have := VCall.frame (sortK e zs hsz) [k] B ⟨rfl, by simp, fun i j h => by
    cases i with
    | zero => simp at h; subst h; exact ⟨getElem?_lt hk, fun o' ho => by simp at ho; subst ho; exact hk⟩
    | succ i => simp at h⟩ rfl rfl rfl rfl (by simp)
  simpa [putObs, renO, nameOf, renL, renV] using this
theorem compact_at (e : Nat) (zs : List Int) (hsz : zs.length ≤ 4000000000) (B : List (Option VObj)) (k : Nat) (hk : B[k]? = some (some (.arr e 1 (irows zs)))) {n : Nat} (hn : n = zs.length) :
    VCall Try.prog 116 [.ref k n] B (.ref k (Lib.compact zs).length) (B.set k (some (.arr e 1 (irows (Lib.compact zs ++ List.replicate (zs.length - (Lib.compact zs).length) 0))))) := by
  subst hn
  have := VCall.frame (compactK e zs hsz) [k] B ⟨rfl, by simp, fun i j h => by
    cases i with
    | zero => simp at h; subst h; exact ⟨getElem?_lt hk, fun o' ho => by simp at ho; subst ho; exact hk⟩
    | succ i => simp at h⟩ rfl rfl rfl rfl (by simp)
  simpa [putObs, renO, nameOf, renL, renV] using this

theorem mark_origins {t : List UInt8} {rs : Runs} {l : LT} (h : lab t rs = l) (ht : t.length ≤ 1000000000) (hrs : rs.length ≤ 1000000000) : VFn Try.prog 72 [rawV t rs] (.sl 1 (irows (origs (l.map (·.2))))) := by
  refine VFn.intro ok72 (Nat.le_of_ble_eq_true rfl) (vk_start ?_)
  simp only [vc72, rs72, rawV, wrap64, EV0, e_condB, Nat.reduceBEq, reduceIte, Nat.reduceAdd, Nat.reduceLeDiff, Nat.reduceLT, Nat.reduceSub, Nat.reduceMul, reduceCtorEq, Int.reduceNeg, Int.reduceSub, Int.reduceAdd, Int.reduceLE, Int.reduceLT, Int.reduceMul, Int.reduceToNat, Int.reduceEq, Int.reduceBEq, Int.reduceBNe, Nat.reduceEqDiff]
  refine vk_call rfl (CallR.call ⟨[rawV t rs], .inl rfl, fix t rs ht hrs⟩) ?_
  simp only [wrap64, EV0, e_condB, Nat.reduceBEq, reduceIte, Nat.reduceAdd, Nat.reduceLeDiff, Nat.reduceLT, Nat.reduceSub, Nat.reduceMul, reduceCtorEq, Int.reduceNeg, Int.reduceSub, Int.reduceAdd, Int.reduceLE, Int.reduceLT, Int.reduceMul, Int.reduceToNat, Int.reduceEq, Int.reduceBEq, Int.reduceBNe, Nat.reduceEqDiff, rawV, rowsOf_length]
  have hlo : l.map (·.2) = orig t.length rs := by rw [← h, lab_snd]
  have hll := rle_len (orig t.length rs)
  rw [orig_length] at hll
  rw [hlo, ← origins_eq (orig t.length rs)]
  generalize hF : rle (orig t.length rs) = F at *
  refine vk_loopR (γ := Nat) (fun j => { tm := [(3, .ref 1 ((F.take j).map (·.2)).length), (8, .sl 2 (rowsOf F)), (9, .int .i64 F.length), (10, .int .i64 j)], ob := [none, some (.arr 3 1 (irows ((F.take j).map (·.2))))], base := 0 }) (fun j => j ≤ F.length) (fun j => F.length - j) 0 (Nat.zero_le _) ?_ ?_
  · exact ⟨[some 0, none], rfl, rfl, rfl, rfl, ⟨.nref rfl, .same _ rfl, .same _ rfl, .same _ rfl, trivial⟩, ⟨⟨_, _, rfl⟩, trivial⟩⟩
  · intro j hj R hN hE hR
    have d0 : (0 ≤ (j : Int)) = True := by simp
    rcases Nat.lt_or_ge j F.length with hlt | hge
    · have d1 : ((j : Int) < (F.length : Int)) = True := by simp; omega
      obtain ⟨⟨n, o'⟩, hr⟩ : ∃ r, F[j]? = some r := ⟨_, List.getElem?_eq_getElem hlt⟩
      have hrow : (rowsOf F)[j]? = some [.int .i64 n, .int .i64 o'] := by rw [rowsOf_get, hr]; rfl
      have w1 : IntKind.i64.wrap ((j : Int) + 1) = j + 1 := wrap64 (by omega) (by omega)
      have htk : (F.take (j + 1)).map (·.2) = (F.take j).map (·.2) ++ [o'] := by rw [List.take_add_one, hr]; simp
      have hX : ((F.take j).map (·.2)).length ≤ F.length := by simp; omega
      generalize (F.take j).map (·.2) = X at *
      have t1 : (irows X).take X.length = irows X := List.take_of_length_le (by rw [irows_length]; exact Nat.le_refl _)
      have d2 : X.length + 1 ≤ 140737488355328 := by omega
      have d3 : (X.length + 1) * 8 ≤ 140737488355328 := by omega
      simp only [wrap64, EV0, e_condB, Nat.reduceBEq, reduceIte, Nat.reduceAdd, Nat.reduceLeDiff, Nat.reduceLT, Nat.reduceSub, Nat.reduceMul, reduceCtorEq, Int.reduceNeg, Int.reduceSub, Int.reduceAdd, Int.reduceLE, Int.reduceLT, Int.reduceMul, Int.reduceToNat, Int.reduceEq, Int.reduceBEq, Int.reduceBNe, Nat.reduceEqDiff, d0, d1, hrow, w1, irows_length, t1, d2, d3]
      refine hN _ (j + 1) (by omega) (by omega) ?_
      rw [htk, show irows (X ++ [o']) = irows X ++ [[.int .i64 o']] by simp [irows], List.length_append]
      exact ⟨[some 0, some 3], rfl, rfl, rfl, rfl, ⟨.ref rfl, .same _ rfl, .same _ rfl, .same _ rfl, trivial⟩, ⟨⟨_, rfl, .arr (.refl _)⟩, trivial⟩⟩
    · have d1 : ((j : Int) < (F.length : Int)) = False := by simp; omega
      have htk : F.take j = F := List.take_of_length_le hge
      simp only [wrap64, EV0, e_condB, Nat.reduceBEq, reduceIte, Nat.reduceAdd, Nat.reduceLeDiff, Nat.reduceLT, Nat.reduceSub, Nat.reduceMul, reduceCtorEq, Int.reduceNeg, Int.reduceSub, Int.reduceAdd, Int.reduceLE, Int.reduceLT, Int.reduceMul, Int.reduceToNat, Int.reduceEq, Int.reduceBEq, Int.reduceBNe, Nat.reduceEqDiff, d0, d1]
      refine hE _ _ ?_
      simp only [wrap64, EV0, e_condB, Nat.reduceBEq, reduceIte, Nat.reduceAdd, Nat.reduceLeDiff, Nat.reduceLT, Nat.reduceSub, Nat.reduceMul, reduceCtorEq, Int.reduceNeg, Int.reduceSub, Int.reduceAdd, Int.reduceLE, Int.reduceLT, Int.reduceMul, Int.reduceToNat, Int.reduceEq, Int.reduceBEq, Int.reduceBNe, Nat.reduceEqDiff, htk]
      have hm : ((F.map (·.2)).mergeSort fun x y => decide (x ≤ y)).length = (F.map (·.2)).length := List.length_mergeSort _
      refine vk_call rfl (sort_at 3 (F.map (·.2)) (by simp; omega) _ 1 rfl (by simp)) ?_
      simp only [wrap64, EV0, e_condB, Nat.reduceBEq, reduceIte, Nat.reduceAdd, Nat.reduceLeDiff, Nat.reduceLT, Nat.reduceSub, Nat.reduceMul, reduceCtorEq, Int.reduceNeg, Int.reduceSub, Int.reduceAdd, Int.reduceLE, Int.reduceLT, Int.reduceMul, Int.reduceToNat, Int.reduceEq, Int.reduceBEq, Int.reduceBNe, Nat.reduceEqDiff]
      generalize hZ : ((F.map (·.2)).mergeSort fun x y => decide (x ≤ y)) = Z at *
      refine vk_call rfl (compact_at 3 Z (by rw [hm]; simp; omega) _ 1 rfl (by rw [hm]; simp)) ?_
      simp only [wrap64, EV0, e_condB, Nat.reduceBEq, reduceIte, Nat.reduceAdd, Nat.reduceLeDiff, Nat.reduceLT, Nat.reduceSub, Nat.reduceMul, reduceCtorEq, Int.reduceNeg, Int.reduceSub, Int.reduceAdd, Int.reduceLE, Int.reduceLT, Int.reduceMul, Int.reduceToNat, Int.reduceEq, Int.reduceBEq, Int.reduceBNe, Nat.reduceEqDiff]
      refine ⟨_, .sl 1 (irows (Lib.compact Z)), rfl, ?_, .refl _⟩
      have e : (irows (Lib.compact Z ++ List.replicate (Z.length - (Lib.compact Z).length) 0)).take (Lib.compact Z).length = irows (Lib.compact Z) := by
        rw [show irows (Lib.compact Z ++ List.replicate (Z.length - (Lib.compact Z).length) 0) = irows (Lib.compact Z) ++ irows (List.replicate (Z.length - (Lib.compact Z).length) 0) by simp [irows]]
        rw [List.take_append_of_le_length (by rw [irows_length]; exact Nat.le_refl _), List.take_of_length_le (by rw [irows_length]; exact Nat.le_refl _)]
      simp only [lendV, objRows, List.getElem?_cons_succ, List.getElem?_cons_zero, Option.map_some, e, irows_length, List.length_append]
      simp

theorem markTells (t : List UInt8) (rs : Runs) (i : Int) (x : List UInt8) (o : Int) (ht : t.length ≤ 100000000) (hrs : rs.length ≤ 100000000) (hx : x.length ≤ 100000000) :
    VFn Try.prog 17 [rawV t rs, .int .i64 i, .str x, .int .i64 o] (.bool true) := by
  refine VFn.intro ok17 (Nat.le_of_ble_eq_true rfl) (vk_start ?_)
  simp only [vc17, rs17, rawV, wrap64, EV0, e_condB, Nat.reduceBEq, reduceIte, Nat.reduceAdd, Nat.reduceLeDiff, Nat.reduceLT, Nat.reduceSub, Nat.reduceMul, reduceCtorEq, Int.reduceNeg, Int.reduceSub, Int.reduceAdd, Int.reduceLE, Int.reduceLT, Int.reduceMul, Int.reduceToNat, Int.reduceEq, Int.reduceBEq, Int.reduceBNe, Nat.reduceEqDiff]
  refine vk_call rfl (CallR.call ⟨[], .inl rfl, alive01⟩) ?_
  simp only [wrap64, EV0, e_condB, Nat.reduceBEq, reduceIte, Nat.reduceAdd, Nat.reduceLeDiff, Nat.reduceLT, Nat.reduceSub, Nat.reduceMul, reduceCtorEq, Int.reduceNeg, Int.reduceSub, Int.reduceAdd, Int.reduceLE, Int.reduceLT, Int.reduceMul, Int.reduceToNat, Int.reduceEq, Int.reduceBEq, Int.reduceBNe, Nat.reduceEqDiff]
  refine vk_callR rfl ⟨[rawV t rs], .inl rfl, ref_of t rs (by omega) (by omega)⟩ ?_
  simp only [wrap64, EV0, e_condB, Nat.reduceBEq, reduceIte, Nat.reduceAdd, Nat.reduceLeDiff, Nat.reduceLT, Nat.reduceSub, Nat.reduceMul, reduceCtorEq, Int.reduceNeg, Int.reduceSub, Int.reduceAdd, Int.reduceLE, Int.reduceLT, Int.reduceMul, Int.reduceToNat, Int.reduceEq, Int.reduceBEq, Int.reduceBNe, Nat.reduceEqDiff]
  have hL := lab_length t rs
  generalize hl : lab t rs = l at *
  refine vk_joinR (γ := Unit) (fun _ => { tm := [(1, .int .i64 i), (2, .str x), (3, .int .i64 o), (4, .ptr 0 0), (9, .sl 2 (cRows l)), (10, .int .i64 (atI l i))], ob := [some (.box [.str t, .sl 2 (rowsOf rs)])], base := 0 }) (fun _ => True) ?_ ?_
  · intro R hN hE hR
    by_cases h0 : 0 ≤ i
    · by_cases hlt : i.toNat < l.length
      · obtain ⟨⟨c, oo⟩, hr⟩ : ∃ r, l[i.toNat]? = some r := ⟨_, List.getElem?_eq_getElem hlt⟩
        have hrow : (cRows l)[i.toNat]? = some [.int .u8 c.toNat, .int .i64 oo] := by rw [cRows_get, hr]; rfl
        have e : atI l i = oo := by simp only [atI, if_pos h0, hr]
        have c1 : (i < (l.length : Int)) = True := by simp; omega
        simp only [wrap64, EV0, e_condB, Nat.reduceBEq, reduceIte, Nat.reduceAdd, Nat.reduceLeDiff, Nat.reduceLT, Nat.reduceSub, Nat.reduceMul, reduceCtorEq, Int.reduceNeg, Int.reduceSub, Int.reduceAdd, Int.reduceLE, Int.reduceLT, Int.reduceMul, Int.reduceToNat, Int.reduceEq, Int.reduceBEq, Int.reduceBNe, Nat.reduceEqDiff, h0, c1, cRows_length, hrow]
        rw [e] at hN
        exact hN _ () trivial ⟨[some 0], rfl, rfl, rfl, rfl, ⟨.same _ rfl, .same _ rfl, .same _ rfl, .ptr rfl, .same _ rfl, .same _ rfl, trivial⟩, ⟨⟨_, rfl, .box (.cons (.same _ rfl) (.cons (.same _ rfl) .nil))⟩, trivial⟩⟩
      · have e : atI l i = -1 := by simp only [atI, if_pos h0, List.getElem?_eq_none (Nat.le_of_not_lt hlt)]
        have c1 : (i < (l.length : Int)) = False := by simp; omega
        simp only [wrap64, EV0, e_condB, Nat.reduceBEq, reduceIte, Nat.reduceAdd, Nat.reduceLeDiff, Nat.reduceLT, Nat.reduceSub, Nat.reduceMul, reduceCtorEq, Int.reduceNeg, Int.reduceSub, Int.reduceAdd, Int.reduceLE, Int.reduceLT, Int.reduceMul, Int.reduceToNat, Int.reduceEq, Int.reduceBEq, Int.reduceBNe, Nat.reduceEqDiff, h0, c1, cRows_length]
        rw [e] at hN
        exact hN _ () trivial ⟨[some 0], rfl, rfl, rfl, rfl, ⟨.same _ rfl, .same _ rfl, .same _ rfl, .ptr rfl, .same _ rfl, .same _ rfl, trivial⟩, ⟨⟨_, rfl, .box (.cons (.same _ rfl) (.cons (.same _ rfl) .nil))⟩, trivial⟩⟩
    · have e : atI l i = -1 := by simp only [atI, if_neg h0]
      simp only [wrap64, EV0, e_condB, Nat.reduceBEq, reduceIte, Nat.reduceAdd, Nat.reduceLeDiff, Nat.reduceLT, Nat.reduceSub, Nat.reduceMul, reduceCtorEq, Int.reduceNeg, Int.reduceSub, Int.reduceAdd, Int.reduceLE, Int.reduceLT, Int.reduceMul, Int.reduceToNat, Int.reduceEq, Int.reduceBEq, Int.reduceBNe, Nat.reduceEqDiff, h0]
      rw [e] at hN
      exact hN _ () trivial ⟨[some 0], rfl, rfl, rfl, rfl, ⟨.same _ rfl, .same _ rfl, .same _ rfl, .ptr rfl, .same _ rfl, .same _ rfl, trivial⟩, ⟨⟨_, rfl, .box (.cons (.same _ rfl) (.cons (.same _ rfl) .nil))⟩, trivial⟩⟩
  · rintro _ -
    simp only [wrap64, EV0, e_condB, Nat.reduceBEq, reduceIte, Nat.reduceAdd, Nat.reduceLeDiff, Nat.reduceLT, Nat.reduceSub, Nat.reduceMul, reduceCtorEq, Int.reduceNeg, Int.reduceSub, Int.reduceAdd, Int.reduceLE, Int.reduceLT, Int.reduceMul, Int.reduceToNat, Int.reduceEq, Int.reduceBEq, Int.reduceBNe, Nat.reduceEqDiff]
    have hO : ∀ k, (origs ((l.take k).map (·.2))).length ≤ l.length := fun k => by
      have := origs_len ((l.take k).map (·.2))
      rw [List.length_map, List.length_take] at this; omega
    refine vk_loopR (γ := Nat) (fun k => { tm := [(1, .int .i64 i), (2, .str x), (3, .int .i64 o), (4, .ptr 0 0), (9, .sl 2 (cRows l)), (10, .int .i64 (atI l i)), (11, .ref 1 (origs ((l.take k).map (·.2))).length), (12, .int .i64 k)], ob := [some (.box [.str t, .sl 2 (rowsOf rs)]), some (.arr 3 1 (irows (origs ((l.take k).map (·.2)))))], base := 0 }) (fun k => k ≤ l.length) (fun k => l.length - k) 0 (Nat.zero_le _) ?_ ?_
    · exact ⟨[some 0, none], rfl, rfl, rfl, rfl, ⟨.same _ rfl, .same _ rfl, .same _ rfl, .ptr rfl, .same _ rfl, .same _ rfl, .nref rfl, .same _ rfl, trivial⟩, ⟨⟨_, rfl, .box (.cons (.same _ rfl) (.cons (.same _ rfl) .nil))⟩, ⟨⟨_, _, rfl⟩, trivial⟩⟩⟩
    · intro k hk R hN hE hR
      have d0 : (0 ≤ (k : Int)) = True := by simp
      rcases Nat.lt_or_ge k l.length with hlt | hge
      · have d1 : ((k : Int) < (l.length : Int)) = True := by simp; omega
        obtain ⟨⟨c, oo⟩, hr⟩ : ∃ r, l[k]? = some r := ⟨_, List.getElem?_eq_getElem hlt⟩
        have hrow : (cRows l)[k]? = some [.int .u8 c.toNat, .int .i64 oo] := by rw [cRows_get, hr]; rfl
        have w1 : IntKind.i64.wrap ((k : Int) + 1) = k + 1 := wrap64 (by omega) (by omega)
        have htk : origs ((l.take (k + 1)).map (·.2)) = insO oo (origs ((l.take k).map (·.2))) := by
          rw [List.take_add_one, hr]; simp [origs_snoc]
        have hSl := hO k
        have hSl1 := hO (k + 1)
        rw [htk] at hSl1
        generalize hS : origs ((l.take k).map (·.2)) = S at *
        simp only [wrap64, EV0, e_condB, Nat.reduceBEq, reduceIte, Nat.reduceAdd, Nat.reduceLeDiff, Nat.reduceLT, Nat.reduceSub, Nat.reduceMul, reduceCtorEq, Int.reduceNeg, Int.reduceSub, Int.reduceAdd, Int.reduceLE, Int.reduceLT, Int.reduceMul, Int.reduceToNat, Int.reduceEq, Int.reduceBEq, Int.reduceBNe, Nat.reduceEqDiff, d0, d1, cRows_length]
        refine vk_loopR (γ := Nat) (fun n => { tm := [(1, .int .i64 i), (2, .str x), (3, .int .i64 o), (4, .ptr 0 0), (9, .sl 2 (cRows l)), (10, .int .i64 (atI l i)), (11, .ref 1 S.length), (12, .int .i64 k), (13, .int .i64 n)], ob := [some (.box [.str t, .sl 2 (rowsOf rs)]), some (.arr 3 1 (irows S))], base := 0 }) (fun n => n ≤ S.length ∧ ∀ y ∈ S.take n, y < oo) (fun n => S.length - n) 0 ⟨Nat.zero_le _, by simp⟩ ?_ ?_
        · exact ⟨[some 0, some 1], rfl, rfl, rfl, rfl, ⟨.same _ rfl, .same _ rfl, .same _ rfl, .ptr rfl, .same _ rfl, .same _ rfl, .ref rfl, .same _ rfl, .same _ rfl, trivial⟩, ⟨⟨_, rfl, .box (.cons (.same _ rfl) (.cons (.same _ rfl) .nil))⟩, ⟨⟨_, rfl, .arr (.refl _)⟩, trivial⟩⟩⟩
        · rintro n ⟨hn, hall⟩ R2 hN2 hE2 hR2
          have n0 : (0 ≤ (n : Int)) = True := by simp
          rcases Nat.lt_or_ge n S.length with hnl | hnl
          · have n1 : ((n : Int) < (S.length : Int)) = True := by simp; omega
            obtain ⟨y, hy⟩ : ∃ r, S[n]? = some r := ⟨_, List.getElem?_eq_getElem hnl⟩
            have hyr : (irows S)[n]? = some [.int .i64 y] := by rw [irows_get, hy]; rfl
            have w2 : IntKind.i64.wrap ((n : Int) + 1) = n + 1 := wrap64 (by omega) (by omega)
            have n2 : (n < S.length) = True := eq_true hnl
            by_cases hyo : y < oo
            · simp only [wrap64, EV0, e_condB, Nat.reduceBEq, reduceIte, Nat.reduceAdd, Nat.reduceLeDiff, Nat.reduceLT, Nat.reduceSub, Nat.reduceMul, reduceCtorEq, Int.reduceNeg, Int.reduceSub, Int.reduceAdd, Int.reduceLE, Int.reduceLT, Int.reduceMul, Int.reduceToNat, Int.reduceEq, Int.reduceBEq, Int.reduceBNe, Nat.reduceEqDiff, d0, d1, n0, n1, n2, cRows_length, irows_length, hrow, hyr, hyo, w2]
              refine hN2 _ (n + 1) ⟨by omega, ?_⟩ (by omega) ?_
              case refine_2 => exact ⟨[some 0, some 1], rfl, rfl, rfl, rfl, ⟨.same _ rfl, .same _ rfl, .same _ rfl, .ptr rfl, .same _ rfl, .same _ rfl, .ref rfl, .same _ rfl, .same _ rfl, trivial⟩, ⟨⟨_, rfl, .box (.cons (.same _ rfl) (.cons (.same _ rfl) .nil))⟩, ⟨⟨_, rfl, .arr (.refl _)⟩, trivial⟩⟩⟩
              intro z hz
              rw [List.take_add_one, hy] at hz
              rcases List.mem_append.1 hz with hz | hz
              · exact hall z hz
              · simp at hz; omega
            · simp only [wrap64, EV0, e_condB, Nat.reduceBEq, reduceIte, Nat.reduceAdd, Nat.reduceLeDiff, Nat.reduceLT, Nat.reduceSub, Nat.reduceMul, reduceCtorEq, Int.reduceNeg, Int.reduceSub, Int.reduceAdd, Int.reduceLE, Int.reduceLT, Int.reduceMul, Int.reduceToNat, Int.reduceEq, Int.reduceBEq, Int.reduceBNe, Nat.reduceEqDiff, d0, d1, n0, n1, n2, cRows_length, irows_length, hrow, hyr, hyo, w2]
              refine hE2 _ _ ?_
              have n3 : ((n : Int) == (S.length : Int)) = false := by simp; omega
              by_cases hne : y = oo
              · subst hne
                have b1 : (y != y) = false := by simp
                simp only [wrap64, EV0, e_condB, Nat.reduceBEq, reduceIte, Nat.reduceAdd, Nat.reduceLeDiff, Nat.reduceLT, Nat.reduceSub, Nat.reduceMul, reduceCtorEq, Int.reduceNeg, Int.reduceSub, Int.reduceAdd, Int.reduceLE, Int.reduceLT, Int.reduceMul, Int.reduceToNat, Int.reduceEq, Int.reduceBEq, Int.reduceBNe, Nat.reduceEqDiff, d0, d1, n0, n1, n2, n3, cRows_length, irows_length, hrow, hyr, b1, w1]
                refine hN _ (k + 1) (by omega) (by omega) ?_
                have e : insO y S = S := by
                  rw [insO_at y S n hn hall (fun z hz => by rw [hy] at hz; simp at hz; omega), if_pos hy]
                rw [htk, e]
                exact ⟨[some 0, some 1], rfl, rfl, rfl, rfl, ⟨.same _ rfl, .same _ rfl, .same _ rfl, .ptr rfl, .same _ rfl, .same _ rfl, .ref rfl, .same _ rfl, trivial⟩, ⟨⟨_, rfl, .box (.cons (.same _ rfl) (.cons (.same _ rfl) .nil))⟩, ⟨⟨_, rfl, .arr (.refl _)⟩, trivial⟩⟩⟩
              · have b1 : (y != oo) = true := by simp [hne]
                have e : insO oo S = S.take n ++ oo :: S.drop n := by
                  rw [insO_at oo S n hn hall (fun z hz => by rw [hy] at hz; simp at hz; omega), if_neg (by rw [hy]; simpa using hne)]
                rw [e] at htk
                have et : (irows S).take n = irows (S.take n) := by simp [irows]
                have ed : (irows S).drop n = irows (S.drop n) := by simp [irows]
                have hA : (S.take n).length = n := by rw [List.length_take]; omega
                have hB : (S.drop n).length = S.length - n := by rw [List.length_drop]
                generalize S.take n = A at *
                generalize S.drop n = B at *
                have t1 : (irows A).take A.length = irows A := List.take_of_length_le (by rw [irows_length]; exact Nat.le_refl _)
                have t2 : (irows A ++ [[V.int .i64 oo]]).length = A.length + 1 := by rw [List.length_append, irows_length]; rfl
                have t3 : (irows A ++ [[V.int .i64 oo]]).take (A.length + 1) = irows A ++ [[V.int .i64 oo]] := List.take_of_length_le (by rw [t2]; exact Nat.le_refl _)
                simp only [wrap64, EV0, e_condB, Nat.reduceBEq, reduceIte, Nat.reduceAdd, Nat.reduceLeDiff, Nat.reduceLT, Nat.reduceSub, Nat.reduceMul, reduceCtorEq, Int.reduceNeg, Int.reduceSub, Int.reduceAdd, Int.reduceLE, Int.reduceLT, Int.reduceMul, Int.reduceToNat, Int.reduceEq, Int.reduceBEq, Int.reduceBNe, Nat.reduceEqDiff, d0, d1, n0, n1, n2, n3, cRows_length, irows_length, hrow, hyr, b1, w1]
                have q1 : (irows A).length = n := by rw [irows_length, hA]
                have q2 : (irows B).length = S.length - n := by rw [irows_length, hB]
                simp (maxSteps := 4000000) (disch := omega) only [EW, Nat.reduceBEq, reduceIte, Nat.reduceAdd, Nat.reduceLeDiff, Nat.reduceLT, Nat.reduceSub, Nat.reduceMul, reduceCtorEq, Int.reduceNeg, Int.reduceSub, Int.reduceAdd, Int.reduceLE, Int.reduceLT, Int.reduceMul, Int.reduceToNat, Int.reduceEq, Int.reduceBEq, Int.reduceBNe, Nat.reduceEqDiff, cRows_length, irows_length, hrow, et, ed, t1, t2, t3]
                have t4 : (irows S).take S.length = irows S := List.take_of_length_le (by rw [irows_length]; exact Nat.le_refl _)
                have hln : (A ++ oo :: B).length = A.length + 1 + B.length := by simp; omega
                have hrw : irows (A ++ oo :: B) = irows A ++ [[.int .i64 oo]] ++ irows B := by simp [irows]
                by_cases hn0 : n = 0
                · have ez : irows S = irows B := by rw [← ed, hn0]; rfl
                  rw [if_pos hn0]
                  simp (maxSteps := 4000000) (disch := omega) only [EW, Nat.reduceBEq, reduceIte, Nat.reduceAdd, Nat.reduceLeDiff, Nat.reduceLT, Nat.reduceSub, Nat.reduceMul, reduceCtorEq, Int.reduceNeg, Int.reduceSub, Int.reduceAdd, Int.reduceLE, Int.reduceLT, Int.reduceMul, Int.reduceToNat, Int.reduceEq, Int.reduceBEq, Int.reduceBNe, Nat.reduceEqDiff, cRows_length, irows_length, hrow, et, t1, t2, t3, t4]
                  rw [vkA_some]
                  refine ⟨⟨by rw [t2, irows_length]; omega, by rw [t2, irows_length]; omega⟩, ?_⟩
                  rw [ez]
                  simp (maxSteps := 4000000) (disch := omega) only [EW, Nat.reduceBEq, reduceIte, Nat.reduceAdd, Nat.reduceLeDiff, Nat.reduceLT, Nat.reduceSub, Nat.reduceMul, reduceCtorEq, Int.reduceNeg, Int.reduceSub, Int.reduceAdd, Int.reduceLE, Int.reduceLT, Int.reduceMul, Int.reduceToNat, Int.reduceEq, Int.reduceBEq, Int.reduceBNe, Nat.reduceEqDiff, cRows_length, irows_length, hrow, et, t1, t2, t3]
                  refine hN _ (k + 1) (by omega) (by omega) ?_
                  rw [htk, hln, hrw]
                  exact ⟨[some 0, some 5], rfl, rfl, rfl, rfl, ⟨.same _ rfl, .same _ rfl, .same _ rfl, .ptr rfl, .same _ rfl, .same _ rfl, .ref rfl, .same _ rfl, trivial⟩, ⟨⟨_, rfl, .box (.cons (.same _ rfl) (.cons (.same _ rfl) .nil))⟩, ⟨⟨_, rfl, .arr (.refl _)⟩, trivial⟩⟩⟩
                · rw [if_neg hn0]
                  have hsr : srcRows [some (VObj.box [V.str t, V.sl 2 (rowsOf rs)]), some (VObj.arr 3 1 (irows S)), none, none, some (VObj.arr 3 1 (irows A ++ [[V.int .i64 oo]]))] 1 (V.refs 1 1 n (S.length - n)) = some (irows B) := by
                    have e9 : n + (S.length - n) ≤ (irows S).length := by rw [irows_length]; omega
                    have e8 : (irows B).take (S.length - n) = irows B := List.take_of_length_le (by rw [irows_length, hB]; exact Nat.le_refl _)
                    simp only [srcRows, objRows, List.getElem?_cons_succ, List.getElem?_cons_zero, e9, and_self, if_true, ed, e8]
                  simp (maxSteps := 4000000) (disch := omega) only [EW, Nat.reduceBEq, reduceIte, Nat.reduceAdd, Nat.reduceLeDiff, Nat.reduceLT, Nat.reduceSub, Nat.reduceMul, reduceCtorEq, Int.reduceNeg, Int.reduceSub, Int.reduceAdd, Int.reduceLE, Int.reduceLT, Int.reduceMul, Int.reduceToNat, Int.reduceEq, Int.reduceBEq, Int.reduceBNe, Nat.reduceEqDiff, cRows_length, irows_length, hrow, et, ed, t1, t2, t3, t4, hsr]
                  refine hN _ (k + 1) (by omega) (by omega) ?_
                  rw [htk, hln, hrw]
                  exact ⟨[some 0, some 5], rfl, rfl, rfl, rfl, ⟨.same _ rfl, .same _ rfl, .same _ rfl, .ptr rfl, .same _ rfl, .same _ rfl, .ref rfl, .same _ rfl, trivial⟩, ⟨⟨_, rfl, .box (.cons (.same _ rfl) (.cons (.same _ rfl) .nil))⟩, ⟨⟨_, rfl, .arr (.refl _)⟩, trivial⟩⟩⟩
          · have n1 : ((n : Int) < (S.length : Int)) = False := by simp; omega
            have n2 : (n < S.length) = False := by simp; omega
            simp only [wrap64, EV0, e_condB, Nat.reduceBEq, reduceIte, Nat.reduceAdd, Nat.reduceLeDiff, Nat.reduceLT, Nat.reduceSub, Nat.reduceMul, reduceCtorEq, Int.reduceNeg, Int.reduceSub, Int.reduceAdd, Int.reduceLE, Int.reduceLT, Int.reduceMul, Int.reduceToNat, Int.reduceEq, Int.reduceBEq, Int.reduceBNe, Nat.reduceEqDiff, d0, d1, n0, n1, n2, cRows_length, irows_length, hrow]
            refine hE2 _ _ ?_
            have hnn : n = S.length := by omega
            subst hnn
            have e : insO oo S = S ++ [oo] := by
              rw [insO_at oo S S.length hn hall (fun z hz => by simp at hz), if_neg (by simp)]; simp
            rw [e] at htk
            have t0 : (irows S).take S.length = irows S := List.take_of_length_le (by rw [irows_length]; exact Nat.le_refl _)
            have t2 : (irows S ++ [[V.int .i64 oo]]).length = S.length + 1 := by rw [List.length_append, irows_length]; rfl
            have t3 : (irows S ++ [[V.int .i64 oo]]).take (S.length + 1) = irows S ++ [[V.int .i64 oo]] := List.take_of_length_le (by rw [t2]; exact Nat.le_refl _)
            have hln : (S ++ [oo]).length = S.length + 1 := by simp
            have hrw : irows (S ++ [oo]) = irows S ++ [[.int .i64 oo]] := by simp [irows]
            have q1 : (irows S).length = S.length := irows_length S
            simp (maxSteps := 4000000) (disch := omega) only [EW, Nat.reduceBEq, reduceIte, Nat.reduceAdd, Nat.reduceLeDiff, Nat.reduceLT, Nat.reduceSub, Nat.reduceMul, reduceCtorEq, Int.reduceNeg, Int.reduceSub, Int.reduceAdd, Int.reduceLE, Int.reduceLT, Int.reduceMul, Int.reduceToNat, Int.reduceEq, Int.reduceBEq, Int.reduceBNe, Nat.reduceEqDiff, cRows_length, irows_length, hrow, t0, t2, t3]
            by_cases hn0 : S.length = 0
            · rw [if_pos hn0]
              simp (maxSteps := 4000000) (disch := omega) only [EW, Nat.reduceBEq, reduceIte, Nat.reduceAdd, Nat.reduceLeDiff, Nat.reduceLT, Nat.reduceSub, Nat.reduceMul, reduceCtorEq, Int.reduceNeg, Int.reduceSub, Int.reduceAdd, Int.reduceLE, Int.reduceLT, Int.reduceMul, Int.reduceToNat, Int.reduceEq, Int.reduceBEq, Int.reduceBNe, Nat.reduceEqDiff, cRows_length, irows_length, hrow, t0, t2, t3]
              have hS0 : S = [] := List.eq_nil_of_length_eq_zero hn0
              refine hN _ (k + 1) (by omega) (by omega) ?_
              rw [htk, hln, hrw, show S.length + 1 + S.length = S.length + 1 by omega, show irows S ++ [[V.int .i64 oo]] ++ irows S = irows S ++ [[V.int .i64 oo]] by rw [hS0]; simp [irows]]
              exact ⟨[some 0, some 5], rfl, rfl, rfl, rfl, ⟨.same _ rfl, .same _ rfl, .same _ rfl, .ptr rfl, .same _ rfl, .same _ rfl, .ref rfl, .same _ rfl, trivial⟩, ⟨⟨_, rfl, .box (.cons (.same _ rfl) (.cons (.same _ rfl) .nil))⟩, ⟨⟨_, rfl, .arr (.refl _)⟩, trivial⟩⟩⟩
            · rw [if_neg hn0]
              have hsr : srcRows [some (VObj.box [V.str t, V.sl 2 (rowsOf rs)]), some (VObj.arr 3 1 (irows S)), none, none, some (VObj.arr 3 1 (irows S ++ [[V.int .i64 oo]]))] 1 (V.refs 1 1 S.length (S.length - S.length)) = some [] := by
                simp only [Nat.sub_self]
                simp only [srcRows, objRows, List.getElem?_cons_succ, List.getElem?_cons_zero, irows_length, Nat.add_zero, Nat.le_refl, and_self, if_true, List.take_zero]
              simp (maxSteps := 4000000) (disch := omega) only [EW, Nat.reduceBEq, reduceIte, Nat.reduceAdd, Nat.reduceLeDiff, Nat.reduceLT, Nat.reduceSub, Nat.reduceMul, reduceCtorEq, Int.reduceNeg, Int.reduceSub, Int.reduceAdd, Int.reduceLE, Int.reduceLT, Int.reduceMul, Int.reduceToNat, Int.reduceEq, Int.reduceBEq, Int.reduceBNe, Nat.reduceEqDiff, cRows_length, irows_length, hrow, t0, t2, t3, hsr]
              rw [vkA_some]
              refine ⟨⟨by rw [t2, List.length_nil]; omega, by rw [t2, List.length_nil]; omega⟩, ?_⟩
              simp (maxSteps := 4000000) (disch := omega) only [EW, Nat.reduceBEq, reduceIte, Nat.reduceAdd, Nat.reduceLeDiff, Nat.reduceLT, Nat.reduceSub, Nat.reduceMul, reduceCtorEq, Int.reduceNeg, Int.reduceSub, Int.reduceAdd, Int.reduceLE, Int.reduceLT, Int.reduceMul, Int.reduceToNat, Int.reduceEq, Int.reduceBEq, Int.reduceBNe, Nat.reduceEqDiff, cRows_length, irows_length, hrow, t0, t2, t3]
              refine hN _ (k + 1) (by omega) (by omega) ?_
              rw [htk, hln, hrw]
              exact ⟨[some 0, some 5], rfl, rfl, rfl, rfl, ⟨.same _ rfl, .same _ rfl, .same _ rfl, .ptr rfl, .same _ rfl, .same _ rfl, .ref rfl, .same _ rfl, trivial⟩, ⟨⟨_, rfl, .box (.cons (.same _ rfl) (.cons (.same _ rfl) .nil))⟩, ⟨⟨_, rfl, .arr (.refl _)⟩, trivial⟩⟩⟩
      · have d1 : ((k : Int) < (l.length : Int)) = False := by simp; omega
        have htk : l.take k = l := List.take_of_length_le hge
        simp only [wrap64, EV0, e_condB, Nat.reduceBEq, reduceIte, Nat.reduceAdd, Nat.reduceLeDiff, Nat.reduceLT, Nat.reduceSub, Nat.reduceMul, reduceCtorEq, Int.reduceNeg, Int.reduceSub, Int.reduceAdd, Int.reduceLE, Int.reduceLT, Int.reduceMul, Int.reduceToNat, Int.reduceEq, Int.reduceBEq, Int.reduceBNe, Nat.reduceEqDiff, d0, d1, cRows_length]
        refine hE _ _ ?_
        simp only [wrap64, EV0, e_condB, Nat.reduceBEq, reduceIte, Nat.reduceAdd, Nat.reduceLeDiff, Nat.reduceLT, Nat.reduceSub, Nat.reduceMul, reduceCtorEq, Int.reduceNeg, Int.reduceSub, Int.reduceAdd, Int.reduceLE, Int.reduceLT, Int.reduceMul, Int.reduceToNat, Int.reduceEq, Int.reduceBEq, Int.reduceBNe, Nat.reduceEqDiff, htk]
        have hOl := origs_len (l.map (·.2))
        rw [List.length_map] at hOl
        have hor := mark_origins hl (by omega) (by omega)
        generalize hS : origs (l.map (·.2)) = S at *
        have eI : isB t rs l = norB t rs := by
          have h1 : l.map (·.1) = t := by rw [← hl, lab_fst]
          have h2 : l.map (·.2) = orig t.length rs := by rw [← hl, lab_snd]
          simp only [isB, norB, h1, h2, true_and, decide_eq_decide]
          exact eq_comm
        have eN : ((if norB t rs = true then (0 : Int) else 22) == 0) = norB t rs := by cases norB t rs <;> rfl
        refine vk_callR rfl ⟨[rawV t rs], .inl rfl, fix_of hl (by omega) (by omega)⟩ ?_
        simp (maxSteps := 4000000) (disch := omega) only [EW, Nat.reduceBEq, reduceIte, Nat.reduceAdd, Nat.reduceLeDiff, Nat.reduceLT, Nat.reduceSub, Nat.reduceMul, reduceCtorEq, Int.reduceNeg, Int.reduceSub, Int.reduceAdd, Int.reduceLE, Int.reduceLT, Int.reduceMul, Int.reduceToNat, Int.reduceEq, Int.reduceBEq, Int.reduceBNe, Nat.reduceEqDiff]
        refine vk_callR rfl ⟨[strV l, .sl 2 (cRows l)], .inl rfl, is_of (by omega)⟩ ?_
        simp (maxSteps := 4000000) (disch := omega) only [EW, Nat.reduceBEq, reduceIte, Nat.reduceAdd, Nat.reduceLeDiff, Nat.reduceLT, Nat.reduceSub, Nat.reduceMul, reduceCtorEq, Int.reduceNeg, Int.reduceSub, Int.reduceAdd, Int.reduceLE, Int.reduceLT, Int.reduceMul, Int.reduceToNat, Int.reduceEq, Int.reduceBEq, Int.reduceBNe, Nat.reduceEqDiff]
        refine vk_callR rfl ⟨[rawV t rs], .inl rfl, markl_check t rs (by omega) (by omega)⟩ ?_
        simp (maxSteps := 4000000) (disch := omega) only [EW, Nat.reduceBEq, reduceIte, Nat.reduceAdd, Nat.reduceLeDiff, Nat.reduceLT, Nat.reduceSub, Nat.reduceMul, reduceCtorEq, Int.reduceNeg, Int.reduceSub, Int.reduceAdd, Int.reduceLE, Int.reduceLT, Int.reduceMul, Int.reduceToNat, Int.reduceEq, Int.reduceBEq, Int.reduceBNe, Nat.reduceEqDiff]
        refine vk_callR rfl ⟨[rawV t rs, .sl 2 (cRows l)], .inl rfl, ref_is t rs l (by omega) (by omega)⟩ ?_
        simp (maxSteps := 4000000) (disch := omega) only [EW, Nat.reduceBEq, reduceIte, Nat.reduceAdd, Nat.reduceLeDiff, Nat.reduceLT, Nat.reduceSub, Nat.reduceMul, reduceCtorEq, Int.reduceNeg, Int.reduceSub, Int.reduceAdd, Int.reduceLE, Int.reduceLT, Int.reduceMul, Int.reduceToNat, Int.reduceEq, Int.reduceBEq, Int.reduceBNe, Nat.reduceEqDiff, eI, eN]
        refine vk_callR rfl ⟨[rawV t rs, .int .i64 i], .inl rfl, mark_atI hl i (by omega) (by omega)⟩ ?_
        simp (maxSteps := 4000000) (disch := omega) only [EW, Nat.reduceBEq, reduceIte, Nat.reduceAdd, Nat.reduceLeDiff, Nat.reduceLT, Nat.reduceSub, Nat.reduceMul, reduceCtorEq, Int.reduceNeg, Int.reduceSub, Int.reduceAdd, Int.reduceLE, Int.reduceLT, Int.reduceMul, Int.reduceToNat, Int.reduceEq, Int.reduceBEq, Int.reduceBNe, Nat.reduceEqDiff]
        refine vk_callR rfl ⟨[rawV t rs], .inl rfl, mark_worst hl (by omega) (by omega)⟩ ?_
        simp (maxSteps := 4000000) (disch := omega) only [EW, Nat.reduceBEq, reduceIte, Nat.reduceAdd, Nat.reduceLeDiff, Nat.reduceLT, Nat.reduceSub, Nat.reduceMul, reduceCtorEq, Int.reduceNeg, Int.reduceSub, Int.reduceAdd, Int.reduceLE, Int.reduceLT, Int.reduceMul, Int.reduceToNat, Int.reduceEq, Int.reduceBEq, Int.reduceBNe, Nat.reduceEqDiff]
        refine vk_callR rfl ⟨[.sl 2 (cRows l)], .inl rfl, refl_worst l (by omega)⟩ ?_
        simp (maxSteps := 4000000) (disch := omega) only [EW, Nat.reduceBEq, reduceIte, Nat.reduceAdd, Nat.reduceLeDiff, Nat.reduceLT, Nat.reduceSub, Nat.reduceMul, reduceCtorEq, Int.reduceNeg, Int.reduceSub, Int.reduceAdd, Int.reduceLE, Int.reduceLT, Int.reduceMul, Int.reduceToNat, Int.reduceEq, Int.reduceBEq, Int.reduceBNe, Nat.reduceEqDiff]
        refine vk_callR rfl ⟨[rawV t rs], .inl rfl, mark_pure hl (by omega) (by omega)⟩ ?_
        simp (maxSteps := 4000000) (disch := omega) only [EW, Nat.reduceBEq, reduceIte, Nat.reduceAdd, Nat.reduceLeDiff, Nat.reduceLT, Nat.reduceSub, Nat.reduceMul, reduceCtorEq, Int.reduceNeg, Int.reduceSub, Int.reduceAdd, Int.reduceLE, Int.reduceLT, Int.reduceMul, Int.reduceToNat, Int.reduceEq, Int.reduceBEq, Int.reduceBNe, Nat.reduceEqDiff]
        refine vk_callR rfl ⟨[.sl 2 (cRows l)], .inl rfl, refl_worst l (by omega)⟩ ?_
        simp (maxSteps := 4000000) (disch := omega) only [EW, Nat.reduceBEq, reduceIte, Nat.reduceAdd, Nat.reduceLeDiff, Nat.reduceLT, Nat.reduceSub, Nat.reduceMul, reduceCtorEq, Int.reduceNeg, Int.reduceSub, Int.reduceAdd, Int.reduceLE, Int.reduceLT, Int.reduceMul, Int.reduceToNat, Int.reduceEq, Int.reduceBEq, Int.reduceBNe, Nat.reduceEqDiff]
        refine vk_callR rfl ⟨[rawV t rs], .inl rfl, hor⟩ ?_
        simp (maxSteps := 4000000) (disch := omega) only [EW, Nat.reduceBEq, reduceIte, Nat.reduceAdd, Nat.reduceLeDiff, Nat.reduceLT, Nat.reduceSub, Nat.reduceMul, reduceCtorEq, Int.reduceNeg, Int.reduceSub, Int.reduceAdd, Int.reduceLE, Int.reduceLT, Int.reduceMul, Int.reduceToNat, Int.reduceEq, Int.reduceBEq, Int.reduceBNe, Nat.reduceEqDiff]
        have hlend : lendL [some (VObj.box [.str t, .sl 2 (rowsOf rs)]), some (VObj.arr 3 1 (irows S))] [.sl 1 (irows S), .ref 1 S.length] = some [.sl 1 (irows S), .sl 1 (irows S)] := by
          simp only [lendL, lendV, objRows, List.getElem?_cons_succ, List.getElem?_cons_zero, irows_length]
          simp [irows_length, show (irows S).take S.length = irows S from List.take_of_length_le (by rw [irows_length]; exact Nat.le_refl _)]
        refine vk_callR rfl ⟨_, .inr ⟨hlend, rfl⟩, ints_eq S S (by omega) (by omega)⟩ ?_
        simp (maxSteps := 4000000) (disch := omega) only [EW, Nat.reduceBEq, reduceIte, Nat.reduceAdd, Nat.reduceLeDiff, Nat.reduceLT, Nat.reduceSub, Nat.reduceMul, reduceCtorEq, Int.reduceNeg, Int.reduceSub, Int.reduceAdd, Int.reduceLE, Int.reduceLT, Int.reduceMul, Int.reduceToNat, Int.reduceEq, Int.reduceBEq, Int.reduceBNe, Nat.reduceEqDiff]
        have hL1 : (x.map fun c => (c, nearI o)).map (·.1) = x := map_pair_fst x _
        have hL2 : (x.map fun c => (c, nearI o)).map (·.2) = List.replicate x.length (nearI o) := map_pair_snd x _
        have hLl : (x.map fun c => (c, nearI o)).length = x.length := by simp
        have hof : VFn Try.prog 65 [.str x, .int .i64 o] (strV (x.map fun c => (c, nearI o))) := by
          unfold strV; rw [hL1, hL2]; exact mark_of x o (by omega)
        have hra := ref_all x o (by omega)
        generalize (x.map fun c => (c, nearI o)) = L at *
        refine vk_callR rfl ⟨[.str x, .int .i64 o], .inl rfl, hof⟩ ?_
        simp (maxSteps := 4000000) (disch := omega) only [EW, Nat.reduceBEq, reduceIte, Nat.reduceAdd, Nat.reduceLeDiff, Nat.reduceLT, Nat.reduceSub, Nat.reduceMul, reduceCtorEq, Int.reduceNeg, Int.reduceSub, Int.reduceAdd, Int.reduceLE, Int.reduceLT, Int.reduceMul, Int.reduceToNat, Int.reduceEq, Int.reduceBEq, Int.reduceBNe, Nat.reduceEqDiff]
        refine vk_callR rfl ⟨[.str x, .int .i64 o], .inl rfl, hra⟩ ?_
        simp (maxSteps := 4000000) (disch := omega) only [EW, Nat.reduceBEq, reduceIte, Nat.reduceAdd, Nat.reduceLeDiff, Nat.reduceLT, Nat.reduceSub, Nat.reduceMul, reduceCtorEq, Int.reduceNeg, Int.reduceSub, Int.reduceAdd, Int.reduceLE, Int.reduceLT, Int.reduceMul, Int.reduceToNat, Int.reduceEq, Int.reduceBEq, Int.reduceBNe, Nat.reduceEqDiff]
        refine vk_callR rfl ⟨[strV L, .sl 2 (cRows L)], .inl rfl, is_of (by omega)⟩ ?_
        simp (maxSteps := 4000000) (disch := omega) only [EW, Nat.reduceBEq, reduceIte, Nat.reduceAdd, Nat.reduceLeDiff, Nat.reduceLT, Nat.reduceSub, Nat.reduceMul, reduceCtorEq, Int.reduceNeg, Int.reduceSub, Int.reduceAdd, Int.reduceLE, Int.reduceLT, Int.reduceMul, Int.reduceToNat, Int.reduceEq, Int.reduceBEq, Int.reduceBNe, Nat.reduceEqDiff]
        exact fin rfl
end Go.Proofs.VL

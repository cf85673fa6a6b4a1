/- Contracts of functions of the program, for what calls them, and the law that its name tells. -/
import Derived.Test.YtdiddnapamjojaaSQ
namespace Go.Proofs.VL
open Go Go.RowKit
set_option maxRecDepth 100000
set_option maxHeartbeats 2000000
set_option linter.unusedSimpArgs false
set_option linter.unusedVariables false

attribute [local irreducible] vwp vk
def winL : List Int := [8364, 129, 8218, 402, 8222, 8230, 8224, 8225, 710, 8240, 352, 8249, 338, 141, 381, 143, 144, 8216, 8217, 8220, 8221, 8226, 8211, 8212, 732, 8482, 353, 8250, 339, 157, 382, 376]
def winV : List V := winL.map (V.int .i64)
def winN (n : Int) : Int := if 128 ≤ n ∧ n < 160 then winL.getD (n - 128).toNat 0 else n

theorem n110 : Nat.ble ([] : List V).length Try.f110.ntmps = true := by kernel_rfl
theorem vfn_intro {P : Program} {f : FuncId} {fn : Func} {vc : VC} {rs : List RV} (hok : FnOk P f fn vc rs) {args : List V} {r : V} (hn : Nat.ble args.length fn.ntmps = true) (h : vwp P vc (RetV rs r) (St.init args [])) : VFn P f args r := VFn.intro hok (Nat.le_of_ble_eq_true hn) h
theorem lendL_ints (ob : List (Option VObj)) : ∀ ns : List Int, lendL ob (ns.map (V.int .i64)) = some (ns.map (V.int .i64))
  | [] => rfl
  | n :: ns => by
    simp only [List.map_cons]
    unfold lendL
    rw [lendL_ints ob ns]
    rfl
theorem lend_ints (ob : List (Option VObj)) (ns : List Int) : lendV ob (.agg (ns.map (V.int .i64))) = some (.agg (ns.map (V.int .i64))) := by
  unfold lendV
  rw [lendL_ints]
theorem windows_all : VFn Try.prog 110 [] (.agg winV) := by
  refine vfn_intro ok110 n110 ?_
  refine vk_start ?_
  simp only [vc110, rs110, wrap64, EV0, e_condB, Nat.reduceBEq, reduceIte, Nat.reduceAdd, Nat.reduceLeDiff, Nat.reduceLT, Nat.reduceSub, Nat.reduceMul, reduceCtorEq, Int.reduceNeg, Int.reduceSub, Int.reduceAdd, Int.reduceLE, Int.reduceLT, Int.reduceMul, Int.reduceToNat, Int.reduceEq, Int.reduceBEq, Int.reduceBNe, Nat.reduceEqDiff]
  refine ⟨_, .agg winV, rfl, ?_, ?_⟩
  · exact lend_ints _ winL
  · exact .refl _

theorem winV_get {n : Int} (h : 128 ≤ n ∧ n < 160) : winV[(n - 128).toNat * 1]? = some (.int .i64 (winN n)) := by
  have hk : (n - 128).toNat < 32 := by omega
  unfold winN
  rw [if_pos h, Nat.mul_one, winV, List.getElem?_map, List.getD_eq_getElem?_getD]
  have : (n - 128).toNat < winL.length := hk
  rw [List.getElem?_eq_getElem this]; rfl

theorem u_number (n : Int) : VFn Try.prog 63 [.int .i64 n] (.str (runeB (winN n))) := by
  refine VFn.intro ok63 (Nat.le_of_ble_eq_true rfl) (vk_start ?_)
  by_cases h : 128 ≤ n ∧ n < 160
  · have a0 : (128 ≤ n) = True := eq_true h.1
    have a1 : (n < 160) = True := eq_true h.2
    have w : IntKind.i64.wrap (n - 128) = n - 128 := wrap64 (by omega) (by omega)
    simp only [vc63, rs63, wrap64, EV0, e_condB, Nat.reduceBEq, reduceIte, Nat.reduceAdd, Nat.reduceLeDiff, Nat.reduceLT, Nat.reduceSub, Nat.reduceMul, reduceCtorEq, Int.reduceNeg, Int.reduceSub, Int.reduceAdd, Int.reduceLE, Int.reduceLT, Int.reduceMul, Int.reduceToNat, Int.reduceEq, Int.reduceBEq, Int.reduceBNe, Nat.reduceEqDiff]
    refine vk_pass ?_
    simp only [wrap64, EV0, e_condB, Nat.reduceBEq, reduceIte, Nat.reduceAdd, Nat.reduceLeDiff, Nat.reduceLT, Nat.reduceSub, Nat.reduceMul, reduceCtorEq, Int.reduceNeg, Int.reduceSub, Int.reduceAdd, Int.reduceLE, Int.reduceLT, Int.reduceMul, Int.reduceToNat, Int.reduceEq, Int.reduceBEq, Int.reduceBNe, Nat.reduceEqDiff, a0, a1]
    refine vk_callR rfl ⟨_, .inl rfl, windows_all⟩ ?_
    simp only [wrap64, EV0, e_condB, Nat.reduceBEq, reduceIte, Nat.reduceAdd, Nat.reduceLeDiff, Nat.reduceLT, Nat.reduceSub, Nat.reduceMul, reduceCtorEq, Int.reduceNeg, Int.reduceSub, Int.reduceAdd, Int.reduceLE, Int.reduceLT, Int.reduceMul, Int.reduceToNat, Int.reduceEq, Int.reduceBEq, Int.reduceBNe, Nat.reduceEqDiff, w]
    have k0 : (0 ≤ n - 128) = True := eq_true (by omega)
    have k1 : (n - 128 < 32) = True := eq_true (by omega)
    have k2 : (32 ≤ winV.length) = True := eq_true (by decide)
    simp only [wrap64, EV0, e_condB, Nat.reduceBEq, reduceIte, Nat.reduceAdd, Nat.reduceLeDiff, Nat.reduceLT, Nat.reduceSub, Nat.reduceMul, reduceCtorEq, Int.reduceNeg, Int.reduceSub, Int.reduceAdd, Int.reduceLE, Int.reduceLT, Int.reduceMul, Int.reduceToNat, Int.reduceEq, Int.reduceBEq, Int.reduceBNe, Nat.reduceEqDiff, k0, k1, k2, winV_get h]
    refine vk_callR rfl ⟨_, .inl rfl, u_rune (winN n)⟩ ?_
    simp only [wrap64, EV0, e_condB, Nat.reduceBEq, reduceIte, Nat.reduceAdd, Nat.reduceLeDiff, Nat.reduceLT, Nat.reduceSub, Nat.reduceMul, reduceCtorEq, Int.reduceNeg, Int.reduceSub, Int.reduceAdd, Int.reduceLE, Int.reduceLT, Int.reduceMul, Int.reduceToNat, Int.reduceEq, Int.reduceBEq, Int.reduceBNe, Nat.reduceEqDiff]
    exact ⟨_, _, rfl, rfl, .refl _⟩
  · have hw : winN n = n := by unfold winN; rw [if_neg h]
    rw [hw]
    by_cases a0 : 128 ≤ n
    · have a1 : (n < 160) = False := eq_false (by omega)
      have a0 : (128 ≤ n) = True := eq_true a0
      simp only [vc63, rs63, wrap64, EV0, e_condB, Nat.reduceBEq, reduceIte, Nat.reduceAdd, Nat.reduceLeDiff, Nat.reduceLT, Nat.reduceSub, Nat.reduceMul, reduceCtorEq, Int.reduceNeg, Int.reduceSub, Int.reduceAdd, Int.reduceLE, Int.reduceLT, Int.reduceMul, Int.reduceToNat, Int.reduceEq, Int.reduceBEq, Int.reduceBNe, Nat.reduceEqDiff]
      refine vk_pass ?_
      simp only [wrap64, EV0, e_condB, Nat.reduceBEq, reduceIte, Nat.reduceAdd, Nat.reduceLeDiff, Nat.reduceLT, Nat.reduceSub, Nat.reduceMul, reduceCtorEq, Int.reduceNeg, Int.reduceSub, Int.reduceAdd, Int.reduceLE, Int.reduceLT, Int.reduceMul, Int.reduceToNat, Int.reduceEq, Int.reduceBEq, Int.reduceBNe, Nat.reduceEqDiff, a0, a1]
      refine vk_callR rfl ⟨_, .inl rfl, u_rune n⟩ ?_
      simp only [wrap64, EV0, e_condB, Nat.reduceBEq, reduceIte, Nat.reduceAdd, Nat.reduceLeDiff, Nat.reduceLT, Nat.reduceSub, Nat.reduceMul, reduceCtorEq, Int.reduceNeg, Int.reduceSub, Int.reduceAdd, Int.reduceLE, Int.reduceLT, Int.reduceMul, Int.reduceToNat, Int.reduceEq, Int.reduceBEq, Int.reduceBNe, Nat.reduceEqDiff]
      exact ⟨_, _, rfl, rfl, .refl _⟩
    · have a0 : (128 ≤ n) = False := eq_false a0
      simp only [vc63, rs63, wrap64, EV0, e_condB, Nat.reduceBEq, reduceIte, Nat.reduceAdd, Nat.reduceLeDiff, Nat.reduceLT, Nat.reduceSub, Nat.reduceMul, reduceCtorEq, Int.reduceNeg, Int.reduceSub, Int.reduceAdd, Int.reduceLE, Int.reduceLT, Int.reduceMul, Int.reduceToNat, Int.reduceEq, Int.reduceBEq, Int.reduceBNe, Nat.reduceEqDiff]
      refine vk_pass ?_
      simp only [wrap64, EV0, e_condB, Nat.reduceBEq, reduceIte, Nat.reduceAdd, Nat.reduceLeDiff, Nat.reduceLT, Nat.reduceSub, Nat.reduceMul, reduceCtorEq, Int.reduceNeg, Int.reduceSub, Int.reduceAdd, Int.reduceLE, Int.reduceLT, Int.reduceMul, Int.reduceToNat, Int.reduceEq, Int.reduceBEq, Int.reduceBNe, Nat.reduceEqDiff, a0]
      refine vk_callR rfl ⟨_, .inl rfl, u_rune n⟩ ?_
      simp only [wrap64, EV0, e_condB, Nat.reduceBEq, reduceIte, Nat.reduceAdd, Nat.reduceLeDiff, Nat.reduceLT, Nat.reduceSub, Nat.reduceMul, reduceCtorEq, Int.reduceNeg, Int.reduceSub, Int.reduceAdd, Int.reduceLE, Int.reduceLT, Int.reduceMul, Int.reduceToNat, Int.reduceEq, Int.reduceBEq, Int.reduceBNe, Nat.reduceEqDiff]
      exact ⟨_, _, rfl, rfl, .refl _⟩

theorem n112a : Nat.ble 1 Try.f112.ntmps = true := by kernel_rfl
theorem n112 (n : Int) : Nat.ble ([V.int .i64 n] : List V).length Try.f112.ntmps = true := n112a
theorem ref_windows {n : Int} (h : 128 ≤ n ∧ n < 160) : VFn Try.prog 112 [.int .i64 n] (.int .i64 (winN n)) := by
  refine vfn_intro ok112 (n112 n) (vk_start ?_)
  have k0 : (0 ≤ n - 128) = True := eq_true (by omega)
  have k1 : (n - 128 < 32) = True := eq_true (by omega)
  have w : IntKind.i64.wrap (n - 128) = n - 128 := wrap64 (by omega) (by omega)
  simp only [vc112, rs112, wrap64, EV0, e_condB, Nat.reduceBEq, reduceIte, Nat.reduceAdd, Nat.reduceLeDiff, Nat.reduceLT, Nat.reduceSub, Nat.reduceMul, reduceCtorEq, Int.reduceNeg, Int.reduceSub, Int.reduceAdd, Int.reduceLE, Int.reduceLT, Int.reduceMul, Int.reduceToNat, Int.reduceEq, Int.reduceBEq, Int.reduceBNe, Nat.reduceEqDiff, w, k0, k1]
  rw [show ([V.int .i64 8364, V.int .i64 129, V.int .i64 8218, V.int .i64 402, V.int .i64 8222, V.int .i64 8230, V.int .i64 8224, V.int .i64 8225, V.int .i64 710, V.int .i64 8240, V.int .i64 352, V.int .i64 8249, V.int .i64 338, V.int .i64 141, V.int .i64 381, V.int .i64 143, V.int .i64 144, V.int .i64 8216, V.int .i64 8217, V.int .i64 8220, V.int .i64 8221, V.int .i64 8226, V.int .i64 8211, V.int .i64 8212, V.int .i64 732, V.int .i64 8482, V.int .i64 353, V.int .i64 8250, V.int .i64 339, V.int .i64 157, V.int .i64 382, V.int .i64 376] : List V) = winV from rfl]
  have hk : (n - 128).toNat < 32 := by omega
  have hlen : winV.length = 32 := rfl
  have d1 : (1 ≤ (winV.drop ((n - 128).toNat * 1)).length) = True := eq_true (by rw [List.length_drop, hlen]; omega)
  have d2 : (winV.drop ((n - 128).toNat * 1))[0]? = some (.int .i64 (winN n)) := by rw [List.getElem?_drop, Nat.add_zero]; exact winV_get h
  simp only [wrap64, EV0, e_condB, Nat.reduceBEq, reduceIte, Nat.reduceAdd, Nat.reduceLeDiff, Nat.reduceLT, Nat.reduceSub, Nat.reduceMul, reduceCtorEq, Int.reduceNeg, Int.reduceSub, Int.reduceAdd, Int.reduceLE, Int.reduceLT, Int.reduceMul, Int.reduceToNat, Int.reduceEq, Int.reduceBEq, Int.reduceBNe, Nat.reduceEqDiff, d1, d2]
  exact ⟨_, _, rfl, rfl, .refl _⟩

theorem ref_number (n : Int) : VFn Try.prog 64 [.int .i64 n] (.str (runeB (winN n))) := by
  refine VFn.intro ok64 (Nat.le_of_ble_eq_true rfl) (vk_start ?_)
  by_cases h : 128 ≤ n ∧ n < 160
  · have a0 : (128 ≤ n) = True := eq_true h.1
    have a1 : (n < 160) = True := eq_true h.2
    simp only [vc64, rs64, wrap64, EV0, e_condB, Nat.reduceBEq, reduceIte, Nat.reduceAdd, Nat.reduceLeDiff, Nat.reduceLT, Nat.reduceSub, Nat.reduceMul, reduceCtorEq, Int.reduceNeg, Int.reduceSub, Int.reduceAdd, Int.reduceLE, Int.reduceLT, Int.reduceMul, Int.reduceToNat, Int.reduceEq, Int.reduceBEq, Int.reduceBNe, Nat.reduceEqDiff]
    refine vk_pass ?_
    simp only [wrap64, EV0, e_condB, Nat.reduceBEq, reduceIte, Nat.reduceAdd, Nat.reduceLeDiff, Nat.reduceLT, Nat.reduceSub, Nat.reduceMul, reduceCtorEq, Int.reduceNeg, Int.reduceSub, Int.reduceAdd, Int.reduceLE, Int.reduceLT, Int.reduceMul, Int.reduceToNat, Int.reduceEq, Int.reduceBEq, Int.reduceBNe, Nat.reduceEqDiff, a0, a1]
    refine vk_callR rfl ⟨_, .inl rfl, ref_windows h⟩ ?_
    simp only [wrap64, EV0, e_condB, Nat.reduceBEq, reduceIte, Nat.reduceAdd, Nat.reduceLeDiff, Nat.reduceLT, Nat.reduceSub, Nat.reduceMul, reduceCtorEq, Int.reduceNeg, Int.reduceSub, Int.reduceAdd, Int.reduceLE, Int.reduceLT, Int.reduceMul, Int.reduceToNat, Int.reduceEq, Int.reduceBEq, Int.reduceBNe, Nat.reduceEqDiff]
    refine vk_callR rfl ⟨_, .inl rfl, ref_rune (winN n)⟩ ?_
    simp only [wrap64, EV0, e_condB, Nat.reduceBEq, reduceIte, Nat.reduceAdd, Nat.reduceLeDiff, Nat.reduceLT, Nat.reduceSub, Nat.reduceMul, reduceCtorEq, Int.reduceNeg, Int.reduceSub, Int.reduceAdd, Int.reduceLE, Int.reduceLT, Int.reduceMul, Int.reduceToNat, Int.reduceEq, Int.reduceBEq, Int.reduceBNe, Nat.reduceEqDiff]
    exact ⟨_, _, rfl, rfl, .refl _⟩
  · have hw : winN n = n := by unfold winN; rw [if_neg h]
    rw [hw]
    by_cases a0 : 128 ≤ n
    · have a1 : (n < 160) = False := eq_false (by omega)
      have a0 : (128 ≤ n) = True := eq_true a0
      simp only [vc64, rs64, wrap64, EV0, e_condB, Nat.reduceBEq, reduceIte, Nat.reduceAdd, Nat.reduceLeDiff, Nat.reduceLT, Nat.reduceSub, Nat.reduceMul, reduceCtorEq, Int.reduceNeg, Int.reduceSub, Int.reduceAdd, Int.reduceLE, Int.reduceLT, Int.reduceMul, Int.reduceToNat, Int.reduceEq, Int.reduceBEq, Int.reduceBNe, Nat.reduceEqDiff]
      refine vk_pass ?_
      simp only [wrap64, EV0, e_condB, Nat.reduceBEq, reduceIte, Nat.reduceAdd, Nat.reduceLeDiff, Nat.reduceLT, Nat.reduceSub, Nat.reduceMul, reduceCtorEq, Int.reduceNeg, Int.reduceSub, Int.reduceAdd, Int.reduceLE, Int.reduceLT, Int.reduceMul, Int.reduceToNat, Int.reduceEq, Int.reduceBEq, Int.reduceBNe, Nat.reduceEqDiff, a0, a1]
      refine vk_callR rfl ⟨_, .inl rfl, ref_rune n⟩ ?_
      simp only [wrap64, EV0, e_condB, Nat.reduceBEq, reduceIte, Nat.reduceAdd, Nat.reduceLeDiff, Nat.reduceLT, Nat.reduceSub, Nat.reduceMul, reduceCtorEq, Int.reduceNeg, Int.reduceSub, Int.reduceAdd, Int.reduceLE, Int.reduceLT, Int.reduceMul, Int.reduceToNat, Int.reduceEq, Int.reduceBEq, Int.reduceBNe, Nat.reduceEqDiff]
      exact ⟨_, _, rfl, rfl, .refl _⟩
    · have a0 : (128 ≤ n) = False := eq_false a0
      simp only [vc64, rs64, wrap64, EV0, e_condB, Nat.reduceBEq, reduceIte, Nat.reduceAdd, Nat.reduceLeDiff, Nat.reduceLT, Nat.reduceSub, Nat.reduceMul, reduceCtorEq, Int.reduceNeg, Int.reduceSub, Int.reduceAdd, Int.reduceLE, Int.reduceLT, Int.reduceMul, Int.reduceToNat, Int.reduceEq, Int.reduceBEq, Int.reduceBNe, Nat.reduceEqDiff]
      refine vk_pass ?_
      simp only [wrap64, EV0, e_condB, Nat.reduceBEq, reduceIte, Nat.reduceAdd, Nat.reduceLeDiff, Nat.reduceLT, Nat.reduceSub, Nat.reduceMul, reduceCtorEq, Int.reduceNeg, Int.reduceSub, Int.reduceAdd, Int.reduceLE, Int.reduceLT, Int.reduceMul, Int.reduceToNat, Int.reduceEq, Int.reduceBEq, Int.reduceBNe, Nat.reduceEqDiff, a0]
      refine vk_callR rfl ⟨_, .inl rfl, ref_rune n⟩ ?_
      simp only [wrap64, EV0, e_condB, Nat.reduceBEq, reduceIte, Nat.reduceAdd, Nat.reduceLeDiff, Nat.reduceLT, Nat.reduceSub, Nat.reduceMul, reduceCtorEq, Int.reduceNeg, Int.reduceSub, Int.reduceAdd, Int.reduceLE, Int.reduceLT, Int.reduceMul, Int.reduceToNat, Int.reduceEq, Int.reduceBEq, Int.reduceBNe, Nat.reduceEqDiff]
      exact ⟨_, _, rfl, rfl, .refl _⟩
end Go.Proofs.VL

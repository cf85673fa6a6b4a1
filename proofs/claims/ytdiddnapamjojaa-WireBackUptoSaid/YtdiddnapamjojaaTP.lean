/- Contracts of functions of the program, for what calls them, and the law that its name tells. -/
import Derived.Test.YtdiddnapamjojaaPA
import Derived.Test.YtdiddnapamjojaaSA7
import Derived.Test.YtdiddnapamjojaaSI
namespace Go.Proofs.VL
open Go Go.RowKit
set_option maxRecDepth 100000
set_option maxHeartbeats 2000000
set_option linter.unusedSimpArgs false
set_option linter.unusedVariables false
attribute [local irreducible] vwp vk

theorem byte_clone (rows : List (List V)) (hl : rows.length ≤ 10000000000) : VFn Try.prog 100 [.sl 1 rows] (.sl 1 rows) := by
  refine VFn.intro ok100 (Nat.le_of_ble_eq_true rfl) (vk_start ?_)
  cases rows with
  | nil =>
    simp (maxSteps := 4000000) (disch := omega) only [EW, Nat.reduceBEq, reduceIte, Nat.reduceAdd, Nat.reduceLeDiff, Nat.reduceLT, Nat.reduceSub, Nat.reduceMul, reduceCtorEq, Int.reduceNeg, Int.reduceSub, Int.reduceAdd, Int.reduceLE, Int.reduceLT, Int.reduceMul, Int.reduceToNat, Int.reduceEq, Int.reduceBEq, Int.reduceBNe, Nat.reduceEqDiff, vc100, rs100]
    exact ⟨⟨_, _, rfl, rfl, .nil _⟩, fin (lend_rows rfl rfl)⟩
  | cons r rows =>
    have hl2 : (r :: rows).length = rows.length + 1 := rfl
    simp (maxSteps := 4000000) (disch := omega) only [EW, Nat.reduceBEq, reduceIte, Nat.reduceAdd, Nat.reduceLeDiff, Nat.reduceLT, Nat.reduceSub, Nat.reduceMul, reduceCtorEq, Int.reduceNeg, Int.reduceSub, Int.reduceAdd, Int.reduceLE, Int.reduceLT, Int.reduceMul, Int.reduceToNat, Int.reduceEq, Int.reduceBEq, Int.reduceBNe, Nat.reduceEqDiff, vc100, rs100, List.take_length]
    exact fin (lend_rows rfl rfl)

/-- The four octets of a number. -/
def oct4 (n : Int) : List UInt8 := [UInt8.ofNat (n / 16777216 % 256).toNat, UInt8.ofNat (n / 65536 % 256).toNat, UInt8.ofNat (n / 256 % 256).toNat, UInt8.ofNat (n % 256).toNat]
def oddI (n : Int) : Bool := decide (n < 0 ∨ 4294967295 < n)
def wOb (b : List UInt8) (odd : Bool) : List (Option VObj) := [some (.box [.ref 1 b.length, .bool odd]), some (.arr 5 1 (bRows b))]
def wOb2 (b : List UInt8) (odd : Bool) : List (Option VObj) := [some (.box [.ref 2 b.length, .bool odd]), none, some (.arr 5 1 (bRows b))]

theorem shr_byte (n : Int) (j : Nat) (hj : j ≤ 3) : IntKind.u8.wrap (n.fdiv (2 ^ min (8 * (3 - j)) 64)) = ((((oct4 n).drop j).headD 0).toNat : Int) := by
  have hw : ∀ x : Int, IntKind.u8.wrap x = x % 256 := by intro x; simp [IntKind.wrap, IntKind.bits, IntKind.signed]
  have hn : ∀ x : Int, ((UInt8.ofNat (x % 256).toNat).toNat : Int) = x % 256 := by
    intro x; rw [UInt8.toNat_ofNat']; omega
  have hj' : j = 0 ∨ j = 1 ∨ j = 2 ∨ j = 3 := by omega
  rw [hw]
  rcases hj' with rfl | rfl | rfl | rfl
  · show n.fdiv 16777216 % 256 = _
    rw [Int.fdiv_eq_ediv_of_nonneg _ (by decide)]; exact (hn _).symm
  · show n.fdiv 65536 % 256 = _
    rw [Int.fdiv_eq_ediv_of_nonneg _ (by decide)]; exact (hn _).symm
  · show n.fdiv 256 % 256 = _
    rw [Int.fdiv_eq_ediv_of_nonneg _ (by decide)]; exact (hn _).symm
  · show n.fdiv 1 % 256 = _
    rw [Int.fdiv_eq_ediv_of_nonneg _ (by decide), Int.ediv_one]; exact (hn _).symm

theorem oct4_get (n : Int) {j : Nat} (hj : j ≤ 3) : (oct4 n)[j]? = some (((oct4 n).drop j).headD 0) := by
  have hj' : j = 0 ∨ j = 1 ∨ j = 2 ∨ j = 3 := by omega
  rcases hj' with rfl | rfl | rfl | rfl <;> rfl

theorem bRows_snoc (b : List UInt8) (c : UInt8) : bRows b ++ [[.int .u8 c.toNat]] = bRows (b ++ [c]) := by simp [bRows]

theorem w_num (b : List UInt8) (odd : Bool) (n : Int) (hb : b.length ≤ 100000000000) : VCall Try.prog 125 [.ptr 0 0, .int .i64 n] (wOb b odd) (.tup []) (wOb2 (b ++ oct4 n) (odd || oddI n)) := by
  refine VCall.intro ok125 (Nat.le_of_ble_eq_true rfl) (vk_start ?_)
  obtain ⟨o, ho⟩ : ∃ o, (odd || oddI n) = o := ⟨_, rfl⟩
  rw [ho]
  have cs : (odd = true ∧ o = true) ∨ (odd = false ∧ n < 0 ∧ o = true) ∨ (odd = false ∧ ¬ n < 0 ∧ 4294967295 < n ∧ o = true) ∨ (odd = false ∧ ¬ n < 0 ∧ ¬ 4294967295 < n ∧ o = false) := by
    unfold oddI at ho
    cases odd with
    | true => exact .inl ⟨rfl, by rw [← ho]; rfl⟩
    | false =>
      rw [Bool.false_or] at ho
      by_cases h1 : n < 0
      · exact .inr (.inl ⟨rfl, h1, by rw [← ho]; exact decide_eq_true (.inl h1)⟩)
      · by_cases h2 : 4294967295 < n
        · exact .inr (.inr (.inl ⟨rfl, h1, h2, by rw [← ho]; exact decide_eq_true (.inr h2)⟩))
        · exact .inr (.inr (.inr ⟨rfl, h1, h2, by rw [← ho]; exact decide_eq_false (by omega)⟩))
  have hlen4 : (oct4 n).length = 4 := rfl
  rcases cs with ⟨rfl, eo⟩ | ⟨rfl, h1, eo⟩ | ⟨rfl, h1, h2, eo⟩ | ⟨rfl, h1, h2, eo⟩
  all_goals
    simp (maxSteps := 4000000) (disch := omega) only [EW, Nat.reduceBEq, reduceIte, Nat.reduceAdd, Nat.reduceLeDiff, Nat.reduceLT, Nat.reduceSub, Nat.reduceMul, reduceCtorEq, Int.reduceNeg, Int.reduceSub, Int.reduceAdd, Int.reduceLE, Int.reduceLT, Int.reduceMul, Int.reduceToNat, Int.reduceEq, Int.reduceBEq, Int.reduceBNe, Nat.reduceEqDiff, vc125, rs125, wOb, wOb2]
    refine vk_loopR (γ := Nat) (fun j => { tm := [(0, .ptr 0 0), (1, .int .i64 n), (4, .int .i64 (24 - 8 * (j : Int)))], ob := [some (.box [.ref 2 (b.length + j), .bool o]), none, some (.arr 5 1 (bRows (b ++ (oct4 n).take j)))], base := 2 })
      (fun j => j ≤ 4) (fun j => 4 - j) 0 (by decide) ?_ ?_
    · rw [List.take_zero, List.append_nil]
      exact ⟨[some 0, some 1, some 1], rfl, rfl, rfl, rfl, ⟨.ptr rfl, .same _ rfl, .same _ rfl, trivial⟩, ⟨⟨_, rfl, .box (.cons (.ref rfl) (.cons ((.of_eq (by rw [eo]) rfl)) .nil))⟩, ⟨⟨_, rfl, .arr (.refl _)⟩, trivial⟩⟩⟩
    · rintro j hj R hN hE hR
      have hbl : (bRows (b ++ (oct4 n).take j)).length = b.length + j := by rw [bRows_length, List.length_append, List.length_take, hlen4]; omega
      rcases Nat.lt_or_ge j 4 with hlt | hge
      · have hs := shr_byte n j (by omega)
        have hsh : (24 - 8 * (j : Int)).toNat = 8 * (3 - j) := by omega
        have hg := oct4_get n (j := j) (by omega)
        have htk : List.take (b.length + j) (bRows (b ++ (oct4 n).take j)) = bRows (b ++ (oct4 n).take j) := List.take_of_length_le (by omega)
        generalize (((oct4 n).drop j).headD 0) = c at hs hg
        have e2 : (oct4 n).take (j + 1) = (oct4 n).take j ++ [c] := by rw [List.take_add_one, hg]; rfl
        have e1 := bRows_snoc (b ++ (oct4 n).take j) c
        have hb64 : IntKind.i64.bits = 64 := rfl
        simp (maxSteps := 4000000) (disch := omega) only [EW, Nat.reduceBEq, reduceIte, Nat.reduceAdd, Nat.reduceLeDiff, Nat.reduceLT, Nat.reduceSub, Nat.reduceMul, reduceCtorEq, Int.reduceNeg, Int.reduceSub, Int.reduceAdd, Int.reduceLE, Int.reduceLT, Int.reduceMul, Int.reduceToNat, Int.reduceEq, Int.reduceBEq, Int.reduceBNe, Nat.reduceEqDiff, hsh, hb64, hs, htk, e1]
        refine hN _ (j + 1) hlt (by omega) ?_
        rw [e2, ← List.append_assoc, show (24 - 8 * ((j + 1 : Nat) : Int)) = 24 - 8 * (j : Int) - 8 by omega, show b.length + (j + 1) = b.length + j + 1 by omega]
        exact ⟨[some 0, some 1, some 3], rfl, rfl, rfl, rfl, ⟨.ptr rfl, .same _ rfl, .same _ rfl, trivial⟩, ⟨⟨_, rfl, .box (.cons ((.refE rfl (by simp [bRows_length, hlen4] <;> omega))) (.cons (.same _ rfl) .nil))⟩, ⟨⟨_, rfl, .arr (.refl _)⟩, trivial⟩⟩⟩
      · have e : j = 4 := by omega
        subst e
        simp (maxSteps := 4000000) (disch := omega) only [EW, Nat.reduceBEq, reduceIte, Nat.reduceAdd, Nat.reduceLeDiff, Nat.reduceLT, Nat.reduceSub, Nat.reduceMul, reduceCtorEq, Int.reduceNeg, Int.reduceSub, Int.reduceAdd, Int.reduceLE, Int.reduceLT, Int.reduceMul, Int.reduceToNat, Int.reduceEq, Int.reduceBEq, Int.reduceBNe, Nat.reduceEqDiff]
        refine hE _ _ ?_
        simp (maxSteps := 4000000) (disch := omega) only [EW, Nat.reduceBEq, reduceIte, Nat.reduceAdd, Nat.reduceLeDiff, Nat.reduceLT, Nat.reduceSub, Nat.reduceMul, reduceCtorEq, Int.reduceNeg, Int.reduceSub, Int.reduceAdd, Int.reduceLE, Int.reduceLT, Int.reduceMul, Int.reduceToNat, Int.reduceEq, Int.reduceBEq, Int.reduceBNe, Nat.reduceEqDiff]
        rw [show (oct4 n).take 4 = oct4 n from rfl]
        exact ⟨_, rfl, ⟨[some 0, some 1, some 2], rfl, rfl, rfl, rfl, ⟨.same _ rfl, trivial⟩, ⟨⟨_, rfl, .box (.cons ((.refE rfl (by simp [hlen4]))) (.cons (.same _ rfl) .nil))⟩, ⟨⟨_, rfl, .arr (.refl _)⟩, trivial⟩⟩⟩⟩
end Go.Proofs.VL

/- Contracts of functions of the program, for what calls them, and the law that its name tells. -/
import Derived.Test.YtdiddnapamjojaaTU
import Derived.Test.YtdiddnapamjojaaV2
namespace Go.Proofs.VL
open Go Go.RowKit
set_option maxRecDepth 100000
set_option maxHeartbeats 2000000
set_option linter.unusedSimpArgs false
set_option linter.unusedVariables false
attribute [local irreducible] vwp vk

/-- The reader: what is left, and whether it is bad. -/
abbrev RS := List UInt8 × Bool
def rOb (s : RS) : List (Option VObj) := [some (.box [.sl 1 (bRows s.1), .bool s.2])]
def tak (n : Nat) (s : RS) : List UInt8 × RS := if s.2 = true ∨ s.1.length < n then ([], [], true) else (s.1.take n, s.1.drop n, false)

theorem bRows_drop (l : List UInt8) (n : Nat) : (bRows l).drop n = bRows (l.drop n) := by simp [bRows, List.map_drop]
theorem bRows_take2 (l : List UInt8) (n : Nat) : (bRows l).take n = bRows (l.take n) := by simp [bRows, List.map_take]

theorem r_take (s : RS) (n : Nat) (hn : n ≤ 1000000000000) (hs : s.1.length ≤ 1000000000000) : VCall Try.prog 127 [.ptr 0 0, .int .i64 n] (rOb s) (.sl 1 (bRows (tak n s).1)) (rOb (tak n s).2) := by
  obtain ⟨r, b⟩ := s
  refine VCall.intro ok127 (Nat.le_of_ble_eq_true rfl) (vk_start ?_)
  have hl := bRows_length r
  cases b with
  | true =>
    have e : tak n (r, true) = ([], [], true) := rfl
    rw [e]
    simp (maxSteps := 4000000) (disch := omega) only [EW, Nat.reduceBEq, reduceIte, Nat.reduceAdd, Nat.reduceLeDiff, Nat.reduceLT, Nat.reduceSub, Nat.reduceMul, reduceCtorEq, Int.reduceNeg, Int.reduceSub, Int.reduceAdd, Int.reduceLE, Int.reduceLT, Int.reduceMul, Int.reduceToNat, Int.reduceEq, Int.reduceBEq, Int.reduceBNe, Nat.reduceEqDiff, vc127, rs127, rOb, hl]
    exact ⟨_, rfl, ⟨[some 0], rfl, rfl, rfl, rfl, ⟨.nil _, trivial⟩, ⟨⟨_, rfl, .box (.cons (.nil _) (.cons (.same _ rfl) .nil))⟩, trivial⟩⟩⟩
  | false =>
    simp only at hs
    rcases Nat.lt_or_ge r.length n with h | h
    · have e : tak n (r, false) = ([], [], true) := by unfold tak; rw [if_pos (.inr h)]
      rw [e]
      simp (maxSteps := 4000000) (disch := omega) only [EW, Nat.reduceBEq, reduceIte, Nat.reduceAdd, Nat.reduceLeDiff, Nat.reduceLT, Nat.reduceSub, Nat.reduceMul, reduceCtorEq, Int.reduceNeg, Int.reduceSub, Int.reduceAdd, Int.reduceLE, Int.reduceLT, Int.reduceMul, Int.reduceToNat, Int.reduceEq, Int.reduceBEq, Int.reduceBNe, Nat.reduceEqDiff, vc127, rs127, rOb, hl]
      exact ⟨_, rfl, ⟨[some 0], rfl, rfl, rfl, rfl, ⟨.nil _, trivial⟩, ⟨⟨_, rfl, .box (.cons (.nil _) (.cons (.same _ rfl) .nil))⟩, trivial⟩⟩⟩
    · have e : tak n (r, false) = (r.take n, r.drop n, false) := by unfold tak; rw [if_neg (by simp; omega)]
      rw [e]
      have hf : r.take r.length = r := List.take_length
      simp (maxSteps := 4000000) (disch := omega) only [EW, Nat.reduceBEq, reduceIte, Nat.reduceAdd, Nat.reduceLeDiff, Nat.reduceLT, Nat.reduceSub, Nat.reduceMul, reduceCtorEq, Int.reduceNeg, Int.reduceSub, Int.reduceAdd, Int.reduceLE, Int.reduceLT, Int.reduceMul, Int.reduceToNat, Int.reduceEq, Int.reduceBEq, Int.reduceBNe, Nat.reduceEqDiff, vc127, rs127, rOb, hl, hf, bRows_take2, bRows_drop]
      exact ⟨_, rfl, ⟨[some 0], rfl, rfl, rfl, rfl, ⟨.same _ rfl, trivial⟩, ⟨⟨_, rfl, .box (.cons (.same _ rfl) (.cons (.same _ rfl) .nil))⟩, trivial⟩⟩⟩

/-- The number of some octets. -/
def beN (l : List UInt8) : Nat := l.foldl (fun a c => a * 256 + c.toNat) 0
theorem beN_snoc (l : List UInt8) (c : UInt8) : beN (l ++ [c]) = beN l * 256 + c.toNat := by simp [beN]
theorem beN_lt : ∀ (l : List UInt8), beN l < 256 ^ l.length := by
  intro l
  rw [← List.reverse_reverse l]
  generalize l.reverse = r
  induction r with
  | nil => simp [beN]
  | cons c r ih =>
    rw [List.reverse_cons, beN_snoc, List.length_append, List.length_singleton, Nat.pow_succ]
    have := c.toNat_lt
    omega
def numR (s : RS) : Nat × RS := (beN (tak 4 s).1, (tak 4 s).2)

theorem tak_len (n : Nat) (s : RS) : (tak n s).1.length ≤ n ∧ (tak n s).1.length ≤ s.1.length ∧ (tak n s).2.1.length ≤ s.1.length := by
  unfold tak; split
  · simp
  · simp; omega

theorem or_byte (a : Nat) (c : UInt8) (ha : a < 16777216) : IntKind.i64.wrap ((BitVec.ofInt IntKind.i64.bits (IntKind.i64.wrap ((a : Int) * 2 ^ min 8 IntKind.i64.bits)) ||| BitVec.ofInt IntKind.i64.bits (IntKind.i64.wrap (c.toNat : Int))).toNat : Int) = ((a * 256 + c.toNat : Nat) : Int) := by
  have hc := c.toNat_lt
  have e : (a : Int) * 2 ^ min 8 IntKind.i64.bits = ((a * 256 : Nat) : Int) := by
    show (a : Int) * 256 = _
    omega
  rw [e, wrap_lt (x := ((a * 256 : Nat) : Int)) (by omega) (by omega), wrap_lt (x := (c.toNat : Int)) (by omega) (by omega), or_nat _ _ (by omega) (by omega), or_hi (i := 8) (k := a) (by omega) (by omega)]

theorem r_num (s : RS) (hs : s.1.length ≤ 1000000000000) : VCall Try.prog 128 [.ptr 0 0] (rOb s) (.int .i64 (numR s).1) (rOb (numR s).2) := by
  refine VCall.intro ok128 (Nat.le_of_ble_eq_true rfl) (vk_start ?_)
  have ht := r_take s 4 (by decide) hs
  have hl := tak_len 4 s
  unfold numR
  generalize tak 4 s = x at *
  obtain ⟨x, s2⟩ := x
  simp only at hl ht ⊢
  have hxl := bRows_length x
  have e : ((4 : Nat) : Int) = 4 := rfl
  rw [e] at ht
  simp (maxSteps := 4000000) (disch := omega) only [EW, Nat.reduceBEq, reduceIte, Nat.reduceAdd, Nat.reduceLeDiff, Nat.reduceLT, Nat.reduceSub, Nat.reduceMul, reduceCtorEq, Int.reduceNeg, Int.reduceSub, Int.reduceAdd, Int.reduceLE, Int.reduceLT, Int.reduceMul, Int.reduceToNat, Int.reduceEq, Int.reduceBEq, Int.reduceBNe, Nat.reduceEqDiff, vc128, rs128]
  refine vk_call rfl ht ?_
  simp (maxSteps := 4000000) (disch := omega) only [EW, Nat.reduceBEq, reduceIte, Nat.reduceAdd, Nat.reduceLeDiff, Nat.reduceLT, Nat.reduceSub, Nat.reduceMul, reduceCtorEq, Int.reduceNeg, Int.reduceSub, Int.reduceAdd, Int.reduceLE, Int.reduceLT, Int.reduceMul, Int.reduceToNat, Int.reduceEq, Int.reduceBEq, Int.reduceBNe, Nat.reduceEqDiff, hxl]
  refine vk_loopR (γ := Nat) (fun j => { tm := [(3, .int .i64 (beN (x.take j))), (7, .sl 1 (bRows x)), (8, .int .i64 x.length), (9, .int .i64 j)], ob := rOb s2, base := 1 })
    (fun j => j ≤ x.length) (fun j => x.length - j) 0 (Nat.zero_le _) ?_ ?_
  · exact ⟨[some 0], rfl, rfl, rfl, rfl, ⟨.same _ rfl, .same _ rfl, .same _ rfl, .same _ rfl, trivial⟩, ⟨⟨_, rfl, .box (.cons (.same _ rfl) (.cons (.same _ rfl) .nil))⟩, trivial⟩⟩
  · rintro j hj R hN hE hR
    rcases Nat.lt_or_ge j x.length with hlt | hge
    · obtain ⟨c, hc⟩ : ∃ c, x[j]? = some c := ⟨_, List.getElem?_eq_getElem hlt⟩
      have hrow : (bRows x)[j]? = some [.int .u8 c.toNat] := by simp [bRows, hc]
      have htk : x.take (j + 1) = x.take j ++ [c] := by rw [List.take_add_one, hc]; rfl
      have hb := beN_lt (x.take j)
      have hb2 : 256 ^ (x.take j).length ≤ 256 ^ 3 := Nat.pow_le_pow_right (by decide) (by rw [List.length_take]; omega)
      have hfin := fun s' hs => hN s' (j + 1) hlt (by omega) hs
      simp only [htk, beN_snoc] at hfin
      generalize beN (x.take j) = a at *
      have hor := or_byte a c (by omega)
      simp (maxSteps := 4000000) (disch := omega) only [EW, Nat.reduceBEq, reduceIte, Nat.reduceAdd, Nat.reduceLeDiff, Nat.reduceLT, Nat.reduceSub, Nat.reduceMul, reduceCtorEq, Int.reduceNeg, Int.reduceSub, Int.reduceAdd, Int.reduceLE, Int.reduceLT, Int.reduceMul, Int.reduceToNat, Int.reduceEq, Int.reduceBEq, Int.reduceBNe, Nat.reduceEqDiff, hrow, hxl, rOb, hor]
      refine hfin _ ?_
      exact ⟨[some 0], rfl, rfl, rfl, rfl, ⟨.same _ rfl, .same _ rfl, .same _ rfl, .same _ rfl, trivial⟩, ⟨⟨_, rfl, .box (.cons (.same _ rfl) (.cons (.same _ rfl) .nil))⟩, trivial⟩⟩
    · have e : j = x.length := by omega
      subst e
      rw [List.take_length]
      simp (maxSteps := 4000000) (disch := omega) only [EW, Nat.reduceBEq, reduceIte, Nat.reduceAdd, Nat.reduceLeDiff, Nat.reduceLT, Nat.reduceSub, Nat.reduceMul, reduceCtorEq, Int.reduceNeg, Int.reduceSub, Int.reduceAdd, Int.reduceLE, Int.reduceLT, Int.reduceMul, Int.reduceToNat, Int.reduceEq, Int.reduceBEq, Int.reduceBNe, Nat.reduceEqDiff, hxl, rOb]
      refine hE _ _ ?_
      simp (maxSteps := 4000000) (disch := omega) only [EW, Nat.reduceBEq, reduceIte, Nat.reduceAdd, Nat.reduceLeDiff, Nat.reduceLT, Nat.reduceSub, Nat.reduceMul, reduceCtorEq, Int.reduceNeg, Int.reduceSub, Int.reduceAdd, Int.reduceLE, Int.reduceLT, Int.reduceMul, Int.reduceToNat, Int.reduceEq, Int.reduceBEq, Int.reduceBNe, Nat.reduceEqDiff]
      exact ⟨_, rfl, ⟨[some 0], rfl, rfl, rfl, rfl, ⟨.same _ rfl, trivial⟩, ⟨⟨_, rfl, .box (.cons (.same _ rfl) (.cons (.same _ rfl) .nil))⟩, trivial⟩⟩⟩
theorem r_at {f : FuncId} {args : List V} {s s' : RS} {r : V} (h : VCall Try.prog f (.ptr 0 0 :: args) (rOb s) r (rOb s')) (ha : wfL 0 args = true) (hr : wfV 0 r = true) {B : List (Option VObj)} {k : Nat} (h0 : B[k]? = some (some (.box [.sl 1 (bRows s.1), .bool s.2]))) :
    VCall Try.prog f (.ptr k 0 :: args) B r (B.set k (some (.box [.sl 1 (bRows s'.1), .bool s'.2]))) := box_at h ha rfl rfl hr h0

def textR (s : RS) : List UInt8 × RS := tak (numR s).1 (numR s).2
theorem num_le (s : RS) : (numR s).2.1.length ≤ s.1.length ∧ (numR s).1 ≤ 4294967295 := by
  refine ⟨(tak_len 4 s).2.2, ?_⟩
  have h := beN_lt (tak 4 s).1
  have h2 : 256 ^ (tak 4 s).1.length ≤ 256 ^ 4 := Nat.pow_le_pow_right (by decide) (tak_len 4 s).1
  show beN (tak 4 s).1 ≤ _
  omega

theorem r_text (s : RS) (hs : s.1.length ≤ 1000000000000) : VCall Try.prog 129 [.ptr 0 0] (rOb s) (.str (textR s).1) (rOb (textR s).2) := by
  refine VCall.intro ok129 (Nat.le_of_ble_eq_true rfl) (vk_start ?_)
  have h1 := r_num s hs
  have hl := num_le s
  unfold textR
  generalize numR s = x at *
  obtain ⟨n, s2⟩ := x
  simp only at hl h1 ⊢
  have h2 := r_take s2 n (by omega) (by omega)
  generalize tak n s2 = y at *
  obtain ⟨y, s3⟩ := y
  simp only at h2 ⊢
  simp (maxSteps := 4000000) (disch := omega) only [EW, Nat.reduceBEq, reduceIte, Nat.reduceAdd, Nat.reduceLeDiff, Nat.reduceLT, Nat.reduceSub, Nat.reduceMul, reduceCtorEq, Int.reduceNeg, Int.reduceSub, Int.reduceAdd, Int.reduceLE, Int.reduceLT, Int.reduceMul, Int.reduceToNat, Int.reduceEq, Int.reduceBEq, Int.reduceBNe, Nat.reduceEqDiff, vc129, rs129]
  refine vk_call rfl h1 ?_
  simp (maxSteps := 4000000) (disch := omega) only [EW, Nat.reduceBEq, reduceIte, Nat.reduceAdd, Nat.reduceLeDiff, Nat.reduceLT, Nat.reduceSub, Nat.reduceMul, reduceCtorEq, Int.reduceNeg, Int.reduceSub, Int.reduceAdd, Int.reduceLE, Int.reduceLT, Int.reduceMul, Int.reduceToNat, Int.reduceEq, Int.reduceBEq, Int.reduceBNe, Nat.reduceEqDiff]
  refine vk_call rfl h2 ?_
  simp (maxSteps := 4000000) (disch := omega) only [EW, Nat.reduceBEq, reduceIte, Nat.reduceAdd, Nat.reduceLeDiff, Nat.reduceLT, Nat.reduceSub, Nat.reduceMul, reduceCtorEq, Int.reduceNeg, Int.reduceSub, Int.reduceAdd, Int.reduceLE, Int.reduceLT, Int.reduceMul, Int.reduceToNat, Int.reduceEq, Int.reduceBEq, Int.reduceBNe, Nat.reduceEqDiff, rowsBytes_bRows, Option.map_some]
  exact ⟨_, rfl, ⟨[some 0], rfl, rfl, rfl, rfl, ⟨.same _ rfl, trivial⟩, ⟨⟨_, rfl, .box (.cons (.same _ rfl) (.cons (.same _ rfl) .nil))⟩, trivial⟩⟩⟩

/-- A hook, as it is read. -/
def hookR (s : RS) : (Int × Bool × Int) × RS :=
  let a := numR s
  let b := numR a.2
  let c := numR b.2
  (((a.1 : Int), decide ((b.1 : Int) = 1), (c.1 : Int)), c.2.1, c.2.2 || decide (1 < b.1))

theorem r_hook (s : RS) (hs : s.1.length ≤ 1000000000000) : VCall Try.prog 130 [.ptr 0 0] (rOb s) (.agg [.int .i64 (hookR s).1.1, .bool (hookR s).1.2.1, .int .i64 (hookR s).1.2.2]) (rOb (hookR s).2) := by
  refine VCall.intro ok130 (Nat.le_of_ble_eq_true rfl) (vk_start ?_)
  have h1 := r_num s hs
  have hl := num_le s
  unfold hookR
  simp only
  generalize numR s = x at *
  obtain ⟨n1, s1⟩ := x
  simp only at hl h1 ⊢
  have h2 := r_num s1 (by omega)
  have hl2 := num_le s1
  generalize numR s1 = x at *
  obtain ⟨n2, s2⟩ := x
  simp only at hl2 h2 ⊢
  have h3 := r_num s2 (by omega)
  have hl3 := num_le s2
  generalize numR s2 = x at *
  obtain ⟨n3, s3, b3⟩ := x
  simp only at hl3 h3 ⊢
  simp (maxSteps := 4000000) (disch := omega) only [EW, Nat.reduceBEq, reduceIte, Nat.reduceAdd, Nat.reduceLeDiff, Nat.reduceLT, Nat.reduceSub, Nat.reduceMul, reduceCtorEq, Int.reduceNeg, Int.reduceSub, Int.reduceAdd, Int.reduceLE, Int.reduceLT, Int.reduceMul, Int.reduceToNat, Int.reduceEq, Int.reduceBEq, Int.reduceBNe, Nat.reduceEqDiff, vc130, rs130, rOb]
  refine vk_call rfl (r_at h1 rfl rfl rfl) ?_
  simp (maxSteps := 4000000) (disch := omega) only [EW, Nat.reduceBEq, reduceIte, Nat.reduceAdd, Nat.reduceLeDiff, Nat.reduceLT, Nat.reduceSub, Nat.reduceMul, reduceCtorEq, Int.reduceNeg, Int.reduceSub, Int.reduceAdd, Int.reduceLE, Int.reduceLT, Int.reduceMul, Int.reduceToNat, Int.reduceEq, Int.reduceBEq, Int.reduceBNe, Nat.reduceEqDiff]
  refine vk_call rfl (r_at h2 rfl rfl rfl) ?_
  simp (maxSteps := 4000000) (disch := omega) only [EW, Nat.reduceBEq, reduceIte, Nat.reduceAdd, Nat.reduceLeDiff, Nat.reduceLT, Nat.reduceSub, Nat.reduceMul, reduceCtorEq, Int.reduceNeg, Int.reduceSub, Int.reduceAdd, Int.reduceLE, Int.reduceLT, Int.reduceMul, Int.reduceToNat, Int.reduceEq, Int.reduceBEq, Int.reduceBNe, Nat.reduceEqDiff]
  refine vk_call rfl (r_at h3 rfl rfl rfl) ?_
  cases b3 with
  | true =>
    simp (maxSteps := 4000000) (disch := omega) only [EW, Nat.reduceBEq, reduceIte, Nat.reduceAdd, Nat.reduceLeDiff, Nat.reduceLT, Nat.reduceSub, Nat.reduceMul, reduceCtorEq, Int.reduceNeg, Int.reduceSub, Int.reduceAdd, Int.reduceLE, Int.reduceLT, Int.reduceMul, Int.reduceToNat, Int.reduceEq, Int.reduceBEq, Int.reduceBNe, Nat.reduceEqDiff]
    exact ⟨_, rfl, ⟨[some 0], rfl, rfl, rfl, rfl, ⟨.agg (.cons (.same _ rfl) (.cons (.same _ rfl) (.cons (.same _ rfl) .nil))), trivial⟩, ⟨⟨_, rfl, .box (.cons (.same _ rfl) (.cons (.same _ rfl) .nil))⟩, trivial⟩⟩⟩
  | false =>
    simp (maxSteps := 4000000) (disch := omega) only [EW, Nat.reduceBEq, reduceIte, Nat.reduceAdd, Nat.reduceLeDiff, Nat.reduceLT, Nat.reduceSub, Nat.reduceMul, reduceCtorEq, Int.reduceNeg, Int.reduceSub, Int.reduceAdd, Int.reduceLE, Int.reduceLT, Int.reduceMul, Int.reduceToNat, Int.reduceEq, Int.reduceBEq, Int.reduceBNe, Nat.reduceEqDiff]
    exact ⟨_, rfl, ⟨[some 0], rfl, rfl, rfl, rfl, ⟨.agg (.cons (.same _ rfl) (.cons (.same _ rfl) (.cons (.same _ rfl) .nil))), trivial⟩, ⟨⟨_, rfl, .box (.cons (.same _ rfl) (.cons (.of_eq (by first | rfl | (simp; done) | (simp; omega)) rfl) .nil))⟩, trivial⟩⟩⟩
end Go.Proofs.VL

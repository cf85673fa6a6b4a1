/- Contracts of functions of the program, for what calls them, and the law that its name tells. -/
import Derived.Test.YtdhfnmbbdcpnbaaSF
import Derived.Test.YtdhfnmbbdcpnbaaCglazierref01
import Derived.Test.YtdhfnmbbdcpnbaaCmark
namespace Go.Proofs.VL
open Go Go.RowKit
set_option maxRecDepth 100000
set_option maxHeartbeats 2000000
set_option linter.unusedSimpArgs false
set_option linter.unusedVariables false

def clampN (x : Int) (n : Nat) : Nat := min x.toNat n

theorem cut_step (L : List Int) (m a b : Nat) (o : Int) : ((L ++ List.replicate m o).take b).drop a = (L.take b).drop a ++ List.replicate (min (L.length + m) b - max L.length a) o := by
  rw [List.take_append, List.drop_append, List.take_replicate, List.drop_replicate, List.length_take]
  congr 2
  omega

theorem mark_cut (t : List UInt8) (rs : Runs) (x y : Int) (ht : t.length ≤ 1000000000) (hrs : rs.length ≤ 1000000000) :
    VFn Try.prog 21 [rawV t rs, .int .i64 x, .int .i64 y] (rawV ((t.take (clampN y t.length)).drop (clampN x t.length)) (rle (((orig t.length rs).take (clampN y t.length)).drop (clampN x t.length)))) := by
  refine VFn.intro ok21 (Nat.le_of_ble_eq_true rfl) (vk_start ?_)
  have m1 : (if (t.length : Int) < if x < 0 then 0 else x then (t.length : Int) else if x < 0 then 0 else x) = ((clampN x t.length : Nat) : Int) := by unfold clampN; split <;> split at * <;> omega
  have m2 : (if (t.length : Int) < if y < 0 then 0 else y then (t.length : Int) else if y < 0 then 0 else y) = ((clampN y t.length : Nat) : Int) := by unfold clampN; split <;> split at * <;> omega
  have hy : clampN y t.length ≤ t.length := by unfold clampN; omega
  generalize hA : clampN x t.length = a at *
  generalize hB : clampN y t.length = b at *
  by_cases hle : b ≤ a
  · have c1 : ((b : Int) ≤ (a : Int)) = True := by simp; omega
    simp only [vc21, rs21, rawV, wrap64, EV0, e_condB, Nat.reduceBEq, reduceIte, Nat.reduceAdd, Nat.reduceLeDiff, Nat.reduceLT, Nat.reduceSub, Nat.reduceMul, reduceCtorEq, Int.reduceNeg, Int.reduceSub, Int.reduceAdd, Int.reduceLE, Int.reduceLT, Int.reduceMul, Int.reduceToNat, Int.reduceEq, Int.reduceBEq, Int.reduceBNe, Nat.reduceEqDiff, m1, m2, c1]
    have e1 : (t.take b).drop a = [] := List.drop_eq_nil_of_le (by simp; omega)
    have e2 : ((orig t.length rs).take b).drop a = [] := List.drop_eq_nil_of_le (by simp; omega)
    rw [e1, e2]
    exact ⟨_, _, rfl, rfl, .agg (.cons (.refl _) (.cons (.nil _) .nil))⟩
  · have c1 : ((b : Int) ≤ (a : Int)) = False := by simp; omega
    have c2 : (0 ≤ (b : Int)) = True := by simp
    have c3 : ((b : Int) ≤ (t.length : Int)) = True := by simp; omega
    have c4 : (0 ≤ (a : Int)) = True := by simp
    have c5 : ((a : Int) ≤ (b : Int)) = True := by simp; omega
    simp only [vc21, rs21, rawV, wrap64, EV0, e_condB, Nat.reduceBEq, reduceIte, Nat.reduceAdd, Nat.reduceLeDiff, Nat.reduceLT, Nat.reduceSub, Nat.reduceMul, reduceCtorEq, Int.reduceNeg, Int.reduceSub, Int.reduceAdd, Int.reduceLE, Int.reduceLT, Int.reduceMul, Int.reduceToNat, Int.reduceEq, Int.reduceBEq, Int.reduceBNe, Nat.reduceEqDiff, m1, m2, c1, c2, c3, c4, c5]
    refine vk_call rfl (CallR.call ⟨[rawV t rs], .inl rfl, fix t rs ht hrs⟩) ?_
    simp only [wrap64, EV0, e_condB, Nat.reduceBEq, reduceIte, Nat.reduceAdd, Nat.reduceLeDiff, Nat.reduceLT, Nat.reduceSub, Nat.reduceMul, reduceCtorEq, Int.reduceNeg, Int.reduceSub, Int.reduceAdd, Int.reduceLE, Int.reduceLT, Int.reduceMul, Int.reduceToNat, Int.reduceEq, Int.reduceBEq, Int.reduceBNe, Nat.reduceEqDiff, rawV, rowsOf_length]
    have hol := orig_length t.length rs
    have hmem : ∀ r ∈ rle (orig t.length rs), 1 ≤ r.1 ∧ r.1 ≤ 1000000000 := fun r hr => by have := rle_mem hr; omega
    have hexp := (expand_rle (orig t.length rs)).1
    have hrll := rle_len (orig t.length rs)
    have hxl : ∀ j, (expand ((rle (orig t.length rs)).take j)).length ≤ t.length := by
      intro j
      have h1 : expand (rle (orig t.length rs)) = expand ((rle (orig t.length rs)).take j) ++ expand ((rle (orig t.length rs)).drop j) := by simp only [expand]; rw [← List.flatMap_append, List.take_append_drop]
      have h2 := congrArg List.length h1
      rw [hexp, hol, List.length_append] at h2
      omega
    generalize hO : orig t.length rs = O at *
    generalize hF : rle O = F at *
    refine vk_loopR (γ := Nat) (fun j => { tm := [(1, .int .i64 a), (2, .int .i64 b), (6, .ptr 1 0), (8, .ptr 2 0), (9, .int .i64 (expand (F.take j)).length), (37, .sl 2 (rowsOf F)), (38, .int .i64 F.length), (39, .int .i64 j)], ob := [some (.box [.str t, .sl 2 (rowsOf rs)]), some (.box [.str [], .nils]), some (.box [.str ((t.take b).drop a), .ref 3 (rle (((expand (F.take j)).take b).drop a)).length]), some (.arr 116 2 (rowsOf (rle (((expand (F.take j)).take b).drop a))))], base := 0 }) (fun j => j ≤ F.length) (fun j => F.length - j) 0 (Nat.zero_le _) ?_ ?_
    · have e : ((expand (F.take 0)).take b).drop a = [] := by simp [expand]
      simp only [e]
      exact ⟨[some 0, some 1, some 2, none], rfl, rfl, rfl, rfl, ⟨.same _ rfl, .same _ rfl, .ptr rfl, .ptr rfl, .same _ rfl, .same _ rfl, .same _ rfl, .same _ rfl, trivial⟩, ⟨⟨_, rfl, .box (.cons (.same _ rfl) (.cons (.same _ rfl) .nil))⟩, ⟨⟨_, rfl, .box (.cons (.same _ rfl) (.cons (.same _ rfl) .nil))⟩, ⟨⟨_, rfl, .box (.cons (.same _ rfl) (.cons (.nref rfl) .nil))⟩, ⟨⟨_, _, rfl⟩, trivial⟩⟩⟩⟩⟩
    · intro j hj R hN hE hR
      have d0 : (0 ≤ (j : Int)) = True := by simp
      rcases Nat.lt_or_ge j F.length with hlt | hge
      · have d1 : ((j : Int) < (F.length : Int)) = True := by simp; omega
        obtain ⟨⟨n, o⟩, hr⟩ : ∃ r, F[j]? = some r := ⟨_, List.getElem?_eq_getElem hlt⟩
        have hrow : (rowsOf F)[j]? = some [.int .i64 n, .int .i64 o] := by rw [rowsOf_get, hr]; rfl
        have w1 : IntKind.i64.wrap ((j : Int) + 1) = j + 1 := wrap64 (by omega) (by omega)
        have hno := hmem (n, o) (List.mem_of_getElem? hr)
        simp only at hno
        have hx1 := hxl j
        have hx2 := hxl (j + 1)
        have hxt := expand_take F j hr
        have hcs := cut_step (expand (F.take j)) n.toNat a b o
        rw [← hxt] at hcs
        have hlx : (expand (F.take (j + 1))).length = (expand (F.take j)).length + n.toNat := by rw [hxt]; simp
        generalize hX : expand (F.take j) = X at *
        have hrl := rle_len ((X.take b).drop a)
        have hlt2 : ((X.take b).drop a).length ≤ t.length := by simp; omega
        have hmem2 : ∀ r ∈ rle ((X.take b).drop a), 0 ≤ r.1 ∧ r.1 ≤ 4000000000 := fun r hr => by have := rle_mem hr; omega
        have w2 : IntKind.i64.wrap ((X.length : Int) + n) = ((expand (F.take (j + 1))).length : Int) := by rw [wrap64 (by omega) (by omega), hlx]; omega
        have k1 : (if (X.length : Int) < (a : Int) then (a : Int) else (X.length : Int)) = ((max X.length a : Nat) : Int) := by split <;> omega
        have k2 : (if (b : Int) < ((expand (F.take (j + 1))).length : Int) then (b : Int) else ((expand (F.take (j + 1))).length : Int)) = ((min (X.length + n.toNat) b : Nat) : Int) := by rw [hlx]; split <;> omega
        have w3 : IntKind.i64.wrap (((min (X.length + n.toNat) b : Nat) : Int) - ((max X.length a : Nat) : Int)) = ((min (X.length + n.toNat) b : Nat) : Int) - ((max X.length a : Nat) : Int) := wrap64 (by omega) (by omega)
        simp only [wrap64, EV0, e_condB, Nat.reduceBEq, reduceIte, Nat.reduceAdd, Nat.reduceLeDiff, Nat.reduceLT, Nat.reduceSub, Nat.reduceMul, reduceCtorEq, Int.reduceNeg, Int.reduceSub, Int.reduceAdd, Int.reduceLE, Int.reduceLT, Int.reduceMul, Int.reduceToNat, Int.reduceEq, Int.reduceBEq, Int.reduceBNe, Nat.reduceEqDiff, d0, d1, hrow, hX, w2, k1, k2, w3]
        refine vk_call rfl (put_at _ _ rfl (by omega) (by omega) hmem2) ?_
        have hnn : (((min (X.length + n.toNat) b : Nat) : Int) - ((max X.length a : Nat) : Int)).toNat = min (X.length + n.toNat) b - max X.length a := by omega
        simp only [wrap64, EV0, e_condB, Nat.reduceBEq, reduceIte, Nat.reduceAdd, Nat.reduceLeDiff, Nat.reduceLT, Nat.reduceSub, Nat.reduceMul, reduceCtorEq, Int.reduceNeg, Int.reduceSub, Int.reduceAdd, Int.reduceLE, Int.reduceLT, Int.reduceMul, Int.reduceToNat, Int.reduceEq, Int.reduceBEq, Int.reduceBNe, Nat.reduceEqDiff, w1, w2, rle_putI, hnn]
        refine hN _ (j + 1) (by omega) (by omega) ?_
        rw [hcs]
        exact ⟨[some 0, some 1, some 2, some 5], rfl, rfl, rfl, rfl, ⟨.same _ rfl, .same _ rfl, .ptr rfl, .ptr rfl, .same _ rfl, .same _ rfl, .same _ rfl, .same _ rfl, trivial⟩, ⟨⟨_, rfl, .box (.cons (.same _ rfl) (.cons (.same _ rfl) .nil))⟩, ⟨⟨_, rfl, .box (.cons (.same _ rfl) (.cons (.same _ rfl) .nil))⟩, ⟨⟨_, rfl, .box (.cons (.same _ rfl) (.cons (.ref rfl) .nil))⟩, ⟨⟨_, rfl, .arr (.refl _)⟩, trivial⟩⟩⟩⟩⟩
      · have d1 : ((j : Int) < (F.length : Int)) = False := by simp; omega
        have htk : F.take j = F := List.take_of_length_le hge
        simp only [wrap64, EV0, e_condB, Nat.reduceBEq, reduceIte, Nat.reduceAdd, Nat.reduceLeDiff, Nat.reduceLT, Nat.reduceSub, Nat.reduceMul, reduceCtorEq, Int.reduceNeg, Int.reduceSub, Int.reduceAdd, Int.reduceLE, Int.reduceLT, Int.reduceMul, Int.reduceToNat, Int.reduceEq, Int.reduceBEq, Int.reduceBNe, Nat.reduceEqDiff, d0, d1]
        refine hE _ _ ?_
        simp only [wrap64, EV0, e_condB, Nat.reduceBEq, reduceIte, Nat.reduceAdd, Nat.reduceLeDiff, Nat.reduceLT, Nat.reduceSub, Nat.reduceMul, reduceCtorEq, Int.reduceNeg, Int.reduceSub, Int.reduceAdd, Int.reduceLE, Int.reduceLT, Int.reduceMul, Int.reduceToNat, Int.reduceEq, Int.reduceBEq, Int.reduceBNe, Nat.reduceEqDiff, htk, hexp]
        exact ⟨_, _, rfl, lend_str rfl rfl, .refl _⟩

theorem lab_cut (t : List UInt8) (rs : Runs) (a b : Nat) : rawV ((t.take b).drop a) (rle (((orig t.length rs).take b).drop a)) = strV (((lab t rs).take b).drop a) := by
  unfold strV
  rw [List.map_drop, List.map_take, lab_fst, List.map_drop, List.map_take, lab_snd]

theorem cut_of {t : List UInt8} {rs : Runs} {l : LT} (h : lab t rs = l) (x y : Int) (ht : t.length ≤ 1000000000) (hrs : rs.length ≤ 1000000000) :
    VFn Try.prog 21 [rawV t rs, .int .i64 x, .int .i64 y] (strV ((l.take (clampN y l.length)).drop (clampN x l.length))) := by
  subst h
  rw [← lab_cut, lab_length]
  exact mark_cut t rs x y ht hrs

theorem fix_of {t : List UInt8} {rs : Runs} {l : LT} (h : lab t rs = l) (ht : t.length ≤ 1000000000) (hrs : rs.length ≤ 1000000000) : VFn Try.prog 61 [rawV t rs] (strV l) := by
  subst h
  unfold strV
  rw [lab_fst, lab_snd]
  exact fix t rs ht hrs

theorem cat_of {ss : List Raw} {l : LT} (h : labs ss = l) (hs : ss.length ≤ 1000000000) (hr : ∀ s ∈ ss, s.2.length ≤ 1000000000) (ht : (catT ss).length ≤ 1000000000) : VFn Try.prog 84 [.sl 2 (rawRows ss)] (strV l) := by
  subst h
  unfold strV
  rw [labs_fst, labs_snd]
  exact cat ss hs hr ht

theorem is_of {l : LT} (h : l.length ≤ 1000000000) : VFn Try.prog 29 [strV l, .sl 2 (cRows l)] (.bool true) := by
  have := ref_is (l.map (·.1)) (rle (l.map (·.2))) l (by omega) (by have := rle_len (l.map (·.2)); simp at this; omega)
  rw [isB_true rfl rfl] at this
  exact this

/-- Labelled texts as told of bytes with origins. -/
def rawOf (l : LT) : Raw := (l.map (·.1), rle (l.map (·.2)))
theorem lab_rawOf {l : LT} (h : Near l) : lab (rawOf l).1 (rawOf l).2 = l := lab_str h
theorem labs_rawOf : ∀ {ls : List LT}, (∀ l ∈ ls, Near l) → labs (ls.map rawOf) = ls.flatten
  | [], _ => rfl
  | l :: ls, h => by
    have := labs_rawOf (ls := ls) (fun q hq => h q (by simp [hq]))
    simp only [labs, List.map_cons, List.flatMap_cons, List.flatten_cons] at this ⊢
    rw [this, lab_rawOf (h l (by simp))]
theorem strV_raw (l : LT) : strV l = rawV (rawOf l).1 (rawOf l).2 := rfl
theorem rawOf_len (l : LT) : (rawOf l).1.length = l.length ∧ (rawOf l).2.length ≤ l.length := by
  refine ⟨by simp [rawOf], ?_⟩
  have := rle_len (l.map (·.2))
  simpa [rawOf] using this
end Go.Proofs.VL

/- A logic of values over the model, part 4: symbolic states, their soundness, rules for calls and loops. No law is stated here. -/
import Derived.Test.YtdhfnmbbdcpnbaaV2
import Derived.ProofKit
import Derived.OpenShut
import Derived.JoinedCond
import Derived.ChangeSame
import Derived.ReadAgain
import Derived.WideKeyArgs
namespace Go.Proofs.VL
open Go Go.RowKit Go.WideShapes Go.ChangeShapes Go.ChangeAt
set_option linter.unusedSimpArgs false
set_option linter.unusedVariables false

/-! ### a law, out of its function of values -/
/-- An argument's value out of its cells. -/
def argV (P : Program) (t : TypeId) (xs : List V) : V := if aggB P t = true then .agg xs else xs.headD .junk

section
variable {H : Type} {enc : TypeId × Value → H} {P : Program}

theorem arg_rep {T : TypeId → Prop} (K : Kids P T) (hz : ∀ t e, T t → P.underlying t = some (.slice e) → 0 < P.cellsOf e) {w : World} {base : Nat} {spare : Nat → Bool} {held : Bool} {t : TypeId} {v : Value} {d : DataW H} {ps : List MemPlace} (hT : T t)
    (hval : Value.okWide P w .any base t v) (h : DataW.Trod enc P w 0 spare held t v d ps) : ∃ xs b, Rep w Env.bare (argV P t xs) v ∧ b ≤ bulkD d ∧ Ty P t xs b := by
  obtain ⟨fuel, h⟩ := h
  obtain ⟨xs, b, h1, h2, h3, h4⟩ := trod_rep K hz fuel t _ d ps hT h
  refine ⟨xs, b, ?_, h3, h4⟩
  unfold argV
  by_cases ha : aggB P t = true
  · rw [if_pos ha]
    have : ∃ cs, v = .agg cs := by
      unfold aggB at ha
      unfold Value.okWide at hval
      split at ha <;> try (cases ha; done)
      · rename_i hu; rw [hu] at hval; obtain ⟨cs, hv, _⟩ := hval; exact ⟨cs, hv⟩
      · rename_i hu; rw [hu] at hval; obtain ⟨cs, hv, _⟩ := hval; exact ⟨cs, hv⟩
    obtain ⟨cs, rfl⟩ := this
    simp only [Rep]
    exact ⟨cs.toList, by simp, h1⟩
  · rw [if_neg ha]
    have : v.cells = #[v] := by
      have hok : Cell.okWide P w .any base t v := by
        unfold aggB at ha
        unfold Value.okWide at hval
        split at hval
        · rename_i hu; rw [hu] at ha; simp at ha
        · rename_i hu; rw [hu] at ha; simp at ha
        · exact hval
      cases v with
      | agg cs =>
        unfold Cell.okWide Cell.ok at hok
        split at hok <;> simp_all
      | _ => rfl
    rw [this] at h1
    cases xs with
    | nil => simp [RepL] at h1
    | cons x xs =>
      simp only [RepL] at h1
      obtain ⟨v', vs', he, h5, h6⟩ := h1
      simp at he
      obtain ⟨rfl, rfl⟩ := he
      exact h5

theorem args_rep {T : TypeId → Prop} (K : Kids P T) (hz : ∀ t e, T t → P.underlying t = some (.slice e) → 0 < P.cellsOf e) {w : World} {base : Nat} {spare : Nat → Bool} {held : Bool} : ∀ {ts : List TypeId} {vs : List Value} {ds : List (DataW H)} {ps : List MemPlace}, (∀ t ∈ ts, T t) →
    (∀ (j : Nat) t v, ts[j]? = some t → vs[j]? = some v → Value.okWide P w .any base t v) → DataW.TrodAll enc P w 0 spare held ts vs ds ps →
    ∃ (xss : List (List V)) (bs : List Nat), xss.length = ts.length ∧ bs.length = ts.length ∧ RepL w Env.bare (List.zipWith (argV P) ts xss) vs ∧ bs.sum ≤ bulkL ds ∧ ∀ (i : Nat) t xs b, ts[i]? = some t → xss[i]? = some xs → bs[i]? = some b → Ty P t xs b
  | [], [], [], ps, _, _, _ => ⟨[], [], rfl, rfl, rfl, Nat.le_refl _, fun i t xs b h => by simp at h⟩
  | t :: ts, v :: vs, d :: ds, ps, hT, hval, h => by
    obtain ⟨p, q, h1, h2, rfl⟩ := h
    obtain ⟨xs, b, g1, g2, g3⟩ := arg_rep K hz (hT t (by simp)) (hval 0 t v rfl rfl) h1
    obtain ⟨xss, bs, k1, k2, k3, k4, k5⟩ := args_rep K hz (fun t' h => hT t' (by simp [h])) (fun j t' v' a b => hval (j + 1) t' v' (by simpa using a) (by simpa using b)) h2
    refine ⟨xs :: xss, b :: bs, by simp [k1], by simp [k2], ⟨v, vs, rfl, g1, k3⟩, by simp only [List.sum_cons, bulkL]; omega, ?_⟩
    intro i t' xs' b' a1 a2 a3
    cases i with
    | zero => simp at a1 a2 a3; subst a1; subst a2; subst a3; exact g3
    | succ i => exact k5 i t' xs' b' (by simpa using a1) (by simpa using a2) (by simpa using a3)
  | [], _ :: _, _, _, _, _, h => by simp [DataW.TrodAll] at h
  | [], [], _ :: _, _, _, _, h => by simp [DataW.TrodAll] at h
  | _ :: _, [], _, _, _, _, h => by simp [DataW.TrodAll] at h
  | _ :: _, _ :: _, [], _, _, _, h => by simp [DataW.TrodAll] at h

/-- What a function of values comes to in a world where all is only read. -/
theorem vfn_calls {f : FuncId} {xs : List V} {r : V} (h : VFn P f xs r) {w : World} {vs : List Value} (hr : RepL w Env.bare xs vs) :
    Calls P f ⟨vs⟩ w fun e w' => ∃ v E', e = .returned v ∧ Rep w' E' r v ∧ Below w.heap.size w w' := by
  refine (h.2 w Env.bare vs (fun k => by simp [Env.bare]) (fun k o h => by simp at h) (fun b _ => rfl) hr).mono ?_
  rintro e w' ⟨v, E', rfl, hres⟩
  exact ⟨v, E', rfl, hres.rep, hres.ext.os, hres.ext.tape, hres.ext.output, hres.ext.size, fun b hb => (hres.ext.imm b hb rfl).2⟩
end
end Go.Proofs.VL

namespace Go.Proofs.VL
open Go Go.RowKit Go.WideShapes Go.ChangeShapes Go.ChangeAt
set_option linter.unusedSimpArgs false
set_option linter.unusedVariables false

section
variable {H : Type} {enc : TypeId × Value → H} {P : Program}

theorem post_below {f : Func} {s : ChangeSpec} {apart fresh handsOn again : Bool} {W W' : World} {args : Array Value} {v : Value} {ds gs : List (DataW H)} {before pa pv : List MemPlace}
    (hW : DataW.Whole enc P f.params.toList s.vars apart W args.toList ds gs before)
    (hres : ∀ (b : Nat) (sp : Nat → Bool) (hd : Bool), DataW.TrodAll enc P W' b sp hd f.resultTypes.toList (v.resultList f.resultTypes.size) (s.fn H (ds ++ gs)).results [])
    (hargs : ∀ sp : Nat → Bool, (∀ p ∈ before, sp p.block = true) → DataW.TrodAll enc P W' 0 sp true f.params.toList args.toList (s.fn H (ds ++ gs)).args pa)
    (hvars : ∀ sp : Nat → Bool, (∀ p ∈ before, sp p.block = true) → DataW.TrodVars enc P W' sp s.vars (s.fn H (ds ++ gs)).vars pv)
    (hps : before = pa ++ pv) (hb : Below W.heap.size W W')
    (hok : ∀ (j : Nat) (t : TypeId) (r : Value), f.resultTypes[j]? = some t → (v.resultList f.resultTypes.size)[j]? = some r → Value.okWide P W' .any 0 t r) :
    s.post enc P f apart fresh handsOn again W args v W' := by
  have hlt : ∀ p ∈ before, p.block < W.heap.size := fun p hp => hW.lt p hp
  have hold : ∀ p ∈ before, (fun b => decide (b < W.heap.size)) p.block = true := fun p hp => by simpa using hlt p hp
  refine ⟨ds, gs, before, [], pa, pv, hW, hres _ _ _, hargs _ hold, hvars _ hold, World.keptBut_mono (fun p hp => ⟨hp, ?_⟩) (hb.frame (· ∈ before)), fun _ => ?_⟩
  · rw [hps, List.mem_append] at hp
    exact Or.inr hp
  · obtain ⟨_, _, _, _, _, hz, hn⟩ := hW
    refine ⟨hok, _, _, ([] ++ pa) ++ pv, ⟨[] ++ pa, pv, trodAll_append (hargs _ (fun _ _ => rfl)) (hres _ _ _), hvars _ (fun _ _ => rfl), rfl, ?_, ?_⟩, ?_⟩
    · intro b off hp
      have hin : MemPlace.cell b off ∈ before := by rw [hps]; simpa using hp
      rw [hb.frozen (hlt _ hin)]
      exact hz b off hin
    · intro ha
      have := hn ha
      rw [hps] at this
      simpa using this
    · intro p hp _
      rw [hps]
      simpa using hp

theorem trodAll_stays (hl : laidOutB P = true) {W W' : World} (hb : Below W.heap.size W W') {sp : Nat → Bool} : ∀ {ts : List TypeId} {vs : List Value} {ds : List (DataW H)} {ps : List MemPlace}, (∀ t ∈ ts, P.readableRec t = true ∧ t < P.types.size) →
    DataW.TrodAll enc P W 0 (fun _ => true) true ts vs ds ps → (∀ p ∈ ps, p.block < W.heap.size) → (∀ p ∈ ps, sp p.block = true) → DataW.TrodAll enc P W' 0 sp true ts vs ds ps
  | [], [], [], ps, _, h, _, _ => h
  | t :: ts, v :: vs, d :: ds, ps, hr, h, hlt, hs => by
    obtain ⟨p, q, h1, h2, rfl⟩ := h
    refine ⟨p, q, ?_, trodAll_stays hl hb (fun t' h => hr t' (by simp [h])) h2 (fun x hx => hlt x (by simp [hx])) (fun x hx => hs x (by simp [hx])), rfl⟩
    exact WideElems.Trod_stays hl (hr t (by simp)).1 (hr t (by simp)).2 h1 (fun x hx => hb.same (hlt x (by simp [hx]))) (fun x hx => hs x (by simp [hx]))
  | [], _ :: _, _, _, _, h, _, _ => by simp [DataW.TrodAll] at h
  | [], [], _ :: _, _, _, h, _, _ => by simp [DataW.TrodAll] at h
  | _ :: _, [], _, _, _, h, _, _ => by simp [DataW.TrodAll] at h
  | _ :: _, _ :: _, [], _, _, h, _, _ => by simp [DataW.TrodAll] at h

def slicesB (P : Program) : Bool := (List.range P.types.size).all fun t => match P.underlying t with | some (.slice e) => decide (0 < P.cellsOf e) | _ => true

theorem slicesB_spec (h : slicesB P = true) : ∀ t e, t < P.types.size → P.underlying t = some (.slice e) → 0 < P.cellsOf e := by
  intro t e ht hu
  have := List.all_eq_true.1 h t (by simpa using ht)
  rw [hu] at this
  simpa using this

/-- WHAT A LAW's CALL COMES TO, FOR EVERY ARGUMENT THAT CAN BE READ. -/
theorem law_contract {f : FuncId} {fn : Func} {s : ChangeSpec} {bt : TypeId} (hl : laidOutB P = true) (hm : mapsRowed P = true) (hsl : slicesB P = true) (hread : ∀ t ∈ fn.params.toList, P.readableRec t = true ∧ t < P.types.size)
    (hvars : s.vars = []) (hrt : fn.resultTypes = #[bt]) (hbt : P.underlying bt = some .bool) {apart fresh handsOn again : Bool} {W : World} {base : Nat} {args : Array Value} {ds gs : List (DataW H)} {before : List MemPlace}
    (hval : ∀ (j : Nat) t v, fn.params[j]? = some t → args[j]? = some v → Value.okWide P W .any base t v)
    (hW : DataW.Whole enc P fn.params.toList s.vars apart W args.toList ds gs before)
    (hfn : gs = [] → ds.length = fn.params.size → (s.fn H (ds ++ gs)).results = [.lit (.bool true)] ∧ (s.fn H (ds ++ gs)).args = ds ∧ (s.fn H (ds ++ gs)).vars = [])
    (law : gs = [] → ∀ (xss : List (List V)) (bs : List Nat), xss.length = fn.params.size → bs.length = fn.params.size → bs.sum ≤ bulkL ds → (∀ (i : Nat) t xs b, fn.params.toList[i]? = some t → xss[i]? = some xs → bs[i]? = some b → Ty P t xs b) → VFn P f (List.zipWith (argV P) fn.params.toList xss) (.bool true)) :
    Calls P f args W fun e W' => ∃ v, e = .returned v ∧ s.post enc P fn apart fresh handsOn again W args v W' := by
  have hW' := hW
  obtain ⟨p, q, hA, hV, rfl, hfz, hnd⟩ := hW
  rw [hvars] at hV
  obtain ⟨rfl, rfl⟩ := trodVars_none hV
  have hlen : ds.length = fn.params.size := by
    have : ∀ {ts : List TypeId} {vs : List Value} {ds : List (DataW H)} {ps : List MemPlace}, DataW.TrodAll enc P W 0 (fun _ => true) true ts vs ds ps → ds.length = ts.length := by
      intro ts
      induction ts with
      | nil => intro vs ds ps h; cases vs <;> cases ds <;> simp [DataW.TrodAll] at h ⊢
      | cons t ts ih =>
        intro vs ds ps h
        cases vs <;> cases ds <;> simp only [DataW.TrodAll] at h
        obtain ⟨_, _, _, h2, _⟩ := h
        simp [ih h2]
    simpa using this hA
  obtain ⟨f1, f2, f3⟩ := hfn rfl hlen
  obtain ⟨xss, bs, g1, g2, g3, g4, g5⟩ := args_rep (kids_rows hl hm) (fun t e ht hu => slicesB_spec hsl t e ht hu) (base := base) (fun t ht => (hread t ht).2) (fun j t v a b => hval j t v (by simpa using a) (by simpa using b)) hA
  have hcall := vfn_calls (law rfl xss bs (by simpa using g1) (by simpa using g2) g4 g5) g3
  refine hcall.mono ?_
  rintro e W' ⟨v, E', rfl, hr, hb⟩
  simp only [Rep] at hr
  subst hr
  refine ⟨_, rfl, post_below (pa := p) (pv := []) hW' ?_ ?_ ?_ rfl hb ?_⟩
  · intro b sp hd
    rw [hrt, f1]
    exact trodAll_cons_mk (shut_bool hbt _) trodAll_mk0
  · intro sp hsp
    rw [f2]
    refine trodAll_stays hl hb hread hA (fun x hx => hW'.lt x (by simp [hx])) (fun x hx => hsp x (by simp [hx]))
  · intro sp hsp
    rw [hvars, f3]
    rfl
  · exact ok_one hrt rfl (okWide_bool_mk hbt _)
end
end Go.Proofs.VL

namespace Go.Proofs.VL
set_option linter.unusedVariables false

/-! ### runs of origins: the plain words -/
abbrev LT := List (UInt8 × Int)
abbrev Runs := List (Int × Int)

def nearI (o : Int) : Int := min (max o 0) 65536

def putS (l : Runs) (n o : Int) : Runs :=
  if n < 1 then l else match l.getLast? with
    | some (a, o') => if o' = o then l.dropLast ++ [(a + n, o)] else l ++ [(n, o)]
    | none => [(n, o)]

def rle (os : List Int) : Runs := os.foldl (fun l o => putS l 1 o) []

theorem rle_snoc (os : List Int) (o : Int) : rle (os ++ [o]) = putS (rle os) 1 o := by simp [rle]
theorem rle_nil : rle [] = [] := rfl

theorem putS_putS (l : Runs) (n : Nat) (o : Int) : putS (putS l 1 o) n o = putS l (n + 1) o := by
  rcases Nat.eq_zero_or_pos n with rfl | hn
  · rw [putS, if_pos (by simp)]; simp
  · have h1 : ¬ ((n : Int) < 1) := by omega
    have h2 : ¬ ((n : Int) + 1 < 1) := by omega
    have h3 : ¬ ((1 : Int) < 1) := by omega
    rcases List.eq_nil_or_concat l with rfl | ⟨init, ⟨a, o'⟩, rfl⟩
    · simp only [putS, h1, h2, h3, if_false, List.getLast?_nil, List.getLast?_singleton, if_true, List.dropLast_singleton, List.nil_append]
      congr 2; omega
    · by_cases h : o' = o
      · subst h
        simp only [putS, h1, h2, h3, if_false, List.concat_eq_append, List.getLast?_concat, List.dropLast_concat, if_true]
        congr 3; omega
      · simp only [putS, h1, h2, h3, if_false, List.concat_eq_append, List.getLast?_concat, if_neg h, List.dropLast_concat, if_true]
        congr 3; omega

theorem rle_put (os : List Int) (n : Nat) (o : Int) : putS (rle os) n o = rle (os ++ List.replicate n o) := by
  induction n generalizing os with
  | zero => rw [putS, if_pos (by simp)]; simp
  | succ n ih =>
    have := ih (os ++ [o])
    rw [rle_snoc, putS_putS] at this
    rw [List.replicate_succ, show os ++ o :: List.replicate n o = os ++ [o] ++ List.replicate n o by simp, ← this]
    congr 1

theorem rle_putI (os : List Int) (n : Int) (o : Int) : putS (rle os) n o = rle (os ++ List.replicate n.toNat o) := by
  rcases Int.lt_or_le n 0 with h | h
  · have : n.toNat = 0 := by omega
    rw [this, putS, if_pos (by omega)]; simp
  · rw [← rle_put]; congr 1; omega

/-- What runs there are: each of one byte or more, all together as many as the origins. -/
theorem putS_len (l : Runs) (n o : Int) : l.length ≤ (putS l n o).length ∧ (putS l n o).length ≤ l.length + 1 := by
  unfold putS
  split
  · omega
  · rcases List.eq_nil_or_concat l with rfl | ⟨init, ⟨a, o'⟩, rfl⟩
    · simp
    · simp only [List.concat_eq_append, List.getLast?_concat, List.dropLast_concat]
      split <;> simp

theorem snoc_ind {α : Type} {p : List α → Prop} (h0 : p []) (h1 : ∀ l a, p l → p (l ++ [a])) (l : List α) : p l := by
  have : ∀ n (l : List α), l.length = n → p l := by
    intro n
    induction n with
    | zero => intro l hl; rw [List.eq_nil_of_length_eq_zero hl]; exact h0
    | succ n ih =>
      intro l hl
      rcases List.eq_nil_or_concat l with rfl | ⟨init, a, rfl⟩
      · simp at hl
      · rw [List.concat_eq_append]
        exact h1 init a (ih init (by simpa using hl))
  exact this _ l rfl

theorem rle_len (os : List Int) : (rle os).length ≤ os.length := by
  induction os using snoc_ind with
  | h0 => simp [rle]
  | h1 os o ih => rw [rle_snoc]; have := (putS_len (rle os) 1 o).2; simp; omega

/-- The origins that runs stand for. -/
def expand (l : Runs) : List Int := l.flatMap fun r => List.replicate r.1.toNat r.2

theorem expand_putS (l : Runs) (o : Int) (hp : ∀ r ∈ l, 1 ≤ r.1) : expand (putS l 1 o) = expand l ++ [o] ∧ ∀ r ∈ putS l 1 o, 1 ≤ r.1 := by
  unfold putS
  rw [if_neg (by omega)]
  rcases List.eq_nil_or_concat l with rfl | ⟨init, ⟨a, o'⟩, rfl⟩
  · simp [expand]
  · simp only [List.concat_eq_append, List.getLast?_concat, List.dropLast_concat] at hp ⊢
    have ha := hp (a, o') (by simp)
    simp only at ha
    by_cases h : o' = o
    · subst h
      rw [if_pos rfl]
      refine ⟨?_, ?_⟩
      · simp only [expand, List.flatMap_append, List.flatMap_cons, List.flatMap_nil, List.append_nil]
        rw [show (a + 1).toNat = a.toNat + 1 by omega, List.replicate_succ']; simp
      · intro r hr
        simp only [List.mem_append, List.mem_singleton] at hr
        rcases hr with hr | rfl
        · exact hp r (by simp [hr])
        · simp; omega
    · rw [if_neg h]
      refine ⟨?_, ?_⟩
      · simp [expand]
      · intro r hr
        simp only [List.mem_append, List.mem_singleton] at hr
        rcases hr with hr | rfl
        · exact hp r (by simpa using hr)
        · simp

theorem expand_rle (os : List Int) : expand (rle os) = os ∧ ∀ r ∈ rle os, 1 ≤ r.1 := by
  induction os using snoc_ind with
  | h0 => simp [rle, expand]
  | h1 os o ih =>
    rw [rle_snoc]
    obtain ⟨h1, h2⟩ := expand_putS (rle os) o ih.2
    exact ⟨by rw [h1, ih.1], h2⟩

theorem rle_inj {a b : List Int} (h : rle a = rle b) : a = b := by rw [← (expand_rle a).1, h, (expand_rle b).1]

theorem expand_mem {l : Runs} {r : Int × Int} (h : r ∈ l) : r.1.toNat ≤ (expand l).length := by
  induction l with
  | nil => simp at h
  | cons x l ih =>
    simp only [expand, List.flatMap_cons, List.length_append, List.length_replicate] at ih ⊢
    rcases List.mem_cons.1 h with rfl | h
    · omega
    · have := ih h; omega

theorem rle_mem {os : List Int} {r : Int × Int} (h : r ∈ rle os) : 1 ≤ r.1 ∧ r.1 ≤ os.length := by
  have h1 := (expand_rle os).2 r h
  have h2 := expand_mem h
  rw [(expand_rle os).1] at h2
  omega

/-- The origins that a labelled text has, as it is taken: so many bytes. -/
def orig : Nat → Runs → List Int
  | k, [] => List.replicate k 65536
  | k, (n, o) :: r => List.replicate (min n.toNat k) (nearI o) ++ orig (k - min n.toNat k) r

theorem orig_length : ∀ (k : Nat) (r : Runs), (orig k r).length = k
  | k, [] => by simp [orig]
  | k, (n, o) :: r => by simp only [orig, List.length_append, List.length_replicate, orig_length]; omega

/-- What is taken of some runs, and how many bytes are left. -/
def takeR (k : Nat) (l : Runs) : List Int × Nat := l.foldl (fun s r => (s.1 ++ List.replicate (min r.1.toNat s.2) (nearI r.2), s.2 - min r.1.toNat s.2)) ([], k)

theorem takeR_snoc (k : Nat) (l : Runs) (r : Int × Int) : takeR k (l ++ [r]) = ((takeR k l).1 ++ List.replicate (min r.1.toNat (takeR k l).2) (nearI r.2), (takeR k l).2 - min r.1.toNat (takeR k l).2) := by
  simp [takeR]

theorem takeR_orig (k : Nat) (l : Runs) : orig k l = (takeR k l).1 ++ List.replicate (takeR k l).2 65536 := by
  have : ∀ (l : Runs) (acc : List Int) (k : Nat), acc ++ orig k l = (l.foldl (fun s r => (s.1 ++ List.replicate (min r.1.toNat s.2) (nearI r.2), s.2 - min r.1.toNat s.2)) (acc, k)).1 ++ List.replicate (l.foldl (fun s r => (s.1 ++ List.replicate (min r.1.toNat s.2) (nearI r.2), s.2 - min r.1.toNat s.2)) (acc, k)).2 65536 := by
    intro l
    induction l with
    | nil => intro acc k; simp [orig]
    | cons r l ih =>
      intro acc k
      simp only [orig, List.foldl_cons]
      rw [← ih, List.append_assoc]
  simpa [takeR] using this l [] k

theorem takeR_len (k : Nat) (l : Runs) : (takeR k l).1.length + (takeR k l).2 = k := by
  have := congrArg List.length (takeR_orig k l)
  simp only [orig_length, List.length_append, List.length_replicate] at this
  omega

theorem nearI_idem (o : Int) : nearI (nearI o) = nearI o := by unfold nearI; omega
theorem near_top : nearI 65536 = 65536 := by unfold nearI; omega

theorem orig_good : ∀ (k : Nat) (r : Runs), ∀ o ∈ orig k r, nearI o = o
  | k, [], o, h => by simp only [orig, List.mem_replicate] at h; rw [h.2, near_top]
  | k, (n, o') :: r, o, h => by
    simp only [orig, List.mem_append, List.mem_replicate] at h
    rcases h with h | h
    · rw [h.2, nearI_idem]
    · exact orig_good _ r o h

theorem orig_expand : ∀ (l : Runs), orig (expand l).length l = (expand l).map nearI
  | [] => rfl
  | (n, o) :: l => by
    have ih := orig_expand l
    simp only [expand, List.flatMap_cons, List.length_append, List.length_replicate, orig, List.map_append, List.map_replicate] at ih ⊢
    rw [show min n.toNat (n.toNat + (List.flatMap (fun r => List.replicate r.1.toNat r.2) l).length) = n.toNat by omega,
      show n.toNat + (List.flatMap (fun r => List.replicate r.1.toNat r.2) l).length - n.toNat = (List.flatMap (fun r => List.replicate r.1.toNat r.2) l).length by omega, ih]

theorem orig_rle {os : List Int} (h : ∀ o ∈ os, nearI o = o) : orig os.length (rle os) = os := by
  have := orig_expand (rle os)
  rw [(expand_rle os).1] at this
  rw [this]
  conv => rhs; rw [← List.map_id os]
  exact List.map_congr_left h

/-- Its origins may be. -/
def Near (l : LT) : Prop := ∀ c ∈ l, nearI c.2 = c.2

def lab (t : List UInt8) (rs : Runs) : LT := t.zip (orig t.length rs)

theorem lab_near (t : List UInt8) (rs : Runs) : Near (lab t rs) := by
  intro c hc
  exact orig_good _ _ _ (List.of_mem_zip hc).2
theorem lab_fst (t : List UInt8) (rs : Runs) : (lab t rs).map (·.1) = t := by
  unfold lab; rw [List.map_fst_zip]; rw [orig_length]; exact Nat.le_refl _
theorem lab_snd (t : List UInt8) (rs : Runs) : (lab t rs).map (·.2) = orig t.length rs := by
  unfold lab; rw [List.map_snd_zip]; rw [orig_length]; exact Nat.le_refl _
theorem lab_length (t : List UInt8) (rs : Runs) : (lab t rs).length = t.length := by simp [lab, orig_length]
theorem lab_str {l : LT} (h : Near l) : lab (l.map (·.1)) (rle (l.map (·.2))) = l := by
  unfold lab
  have : (l.map (·.1)).length = (l.map (·.2)).length := by simp
  rw [this, orig_rle (by intro o ho; obtain ⟨c, hc, rfl⟩ := List.mem_map.1 ho; exact h c hc)]
  have z : ∀ (l : LT), (l.map (·.1)).zip (l.map (·.2)) = l := by
    intro l
    induction l with
    | nil => rfl
    | cons c l ih => simp [ih]
  exact z l

theorem Near.append {a b : LT} (ha : Near a) (hb : Near b) : Near (a ++ b) := fun c hc => by
  rcases List.mem_append.1 hc with h | h
  · exact ha c h
  · exact hb c h
theorem Near.take {a : LT} (ha : Near a) (n : Nat) : Near (a.take n) := fun c hc => ha c (List.mem_of_mem_take hc)
theorem Near.drop {a : LT} (ha : Near a) (n : Nat) : Near (a.drop n) := fun c hc => ha c (List.mem_of_mem_drop hc)
theorem Near.nil : Near [] := fun c hc => by simp at hc
end Go.Proofs.VL

namespace Go.Proofs.VL
open Go Go.RowKit
/-! ### all equations of a walk as one word -/
theorem A {a b : Prop} (h : a) (g : b) : a ∧ b := ⟨h, g⟩
theorem EV0 : type_of% (A (A (A (A (A (A (A (A (@e_seq) (@e_block)) (A (@e_skip_seq) (A (@e_skip_block) (@e_skip_nil)))) (A (A (@e_exit_seq) (A (@e_exit_block) (@e_exit_nil))) (A (@e_ret_cons) (A (@e_ret_nil) (@e_reg))))) (A (A (A (@e_dreg) (A (@e_mv) (@e_pick))) (A (@e_bin) (A (@e_eqb) (@e_eqn)))) (A (A (@e_eqa) (A (@e_un) (@e_cint))) (A (@e_cstr) (A (@e_build) (@e_nilck)))))) (A (A (A (A (@e_fadr) (A (@e_fld) (@e_iadr))) (A (@e_iadrA) (A (@e_idxs) (@e_idxa)))) (A (A (@e_slcs) (A (@e_slc) (@e_ext))) (A (@e_fn) (A (@e_lns) (@e_ln))))) (A (A (A (@e_mm) (A (@e_alloc) (@e_box))) (A (@e_load) (A (@e_bslI) (@e_bslO)))) (A (A (@e_msl) (A (@e_b2s) (@e_s2b))) (A (@e_store) (A (@e_app) (@e_apps))))))) (A (A (A (A (A (@e_guardB) (@vkV_some)) (A (@vkV_none) (A (@vkW_some) (@vkW_none)))) (A (A (@vkO_some) (A (@vkO_none) (@vkC_bool))) (A (@vkG_bool) (A (@vkG_undef) (@vkM_int))))) (A (A (A (@vkA_some) (A (@vkAs_some) (@evPick.eq_1))) (A (@evPick.eq_2) (A (@evBslI.eq_1) (@evBslI.eq_2)))) (A (A (@evBslO.eq_1) (A (@evBslO.eq_2) (@evEqb.eq_1))) (A (@evEqb.eq_2) (A (@evEqn.eq_1) (@evEqa.eq_1)))))) (A (A (A (A (@evEqa.eq_2) (A (@eqCells.eq_1) (@eqCells.eq_2))) (A (@eqCells.eq_3) (A (@eqCell.eq_1) (@eqCell.eq_2)))) (A (A (@eqCell.eq_3) (A (@eqCell.eq_4) (@isNil.eq_1))) (A (@isNil.eq_2) (A (@isNil.eq_3) (@isNil.eq_4))))) (A (A (A (@isNil.eq_5) (A (@isNil.eq_6) (@isNil.eq_7))) (A (@isNil.eq_8) (A (@isNil.eq_9) (@isNil.eq_10)))) (A (A (@isNil.eq_11) (A (@isNil.eq_12) (@isNil.eq_13))) (A (@evCint.eq_1) (A (@evCint.eq_2) (@evCstr.eq_1)))))))) (A (A (A (A (A (A (@evCstr.eq_2) (@evNilck.eq_1)) (A (@evNilck.eq_2) (A (@evNilck.eq_3) (@evNilck.eq_4)))) (A (A (@evNilck.eq_5) (A (@evFadr.eq_1) (@evFadr.eq_2))) (A (@evFadr.eq_3) (A (@evFadr.eq_4) (@evFld.eq_1))))) (A (A (A (@evFld.eq_2) (A (@rowPtr.eq_1) (@rowPtr.eq_2))) (A (@evIadr.eq_1) (A (@evIadr.eq_2) (@evIadr.eq_3)))) (A (A (@evIadr.eq_4) (A (@evIadrA.eq_1) (@evIadrA.eq_2))) (A (@evIadrA.eq_3) (A (@byteV.eq_1) (@byteV.eq_2)))))) (A (A (A (A (@evIdxs.eq_1) (A (@evIdxs.eq_2) (@evIdxa.eq_1))) (A (@evIdxa.eq_2) (A (@evSlcs.eq_1) (@evSlcs.eq_2)))) (A (A (@evSlc.eq_1) (A (@evSlc.eq_2) (@evSlc.eq_3))) (A (@evSlc.eq_4) (A (@evSlc.eq_5) (@boundsV.eq_1))))) (A (A (A (@boundsV.eq_2) (A (@boundsV.eq_3) (@asI.eq_1))) (A (@asI.eq_2) (A (@evExt.eq_1) (@evExt.eq_2)))) (A (A (@evLns.eq_1) (A (@evLns.eq_2) (@evLn.eq_1))) (A (@evLn.eq_2) (A (@evLn.eq_3) (@evLn.eq_4))))))) (A (A (A (A (A (@evLn.eq_5) (A (@evMm.eq_1) (@evMm.eq_2))) (A (@mmInt.eq_1) (A (@mmInt.eq_2) (@mmInt.eq_3)))) (A (A (@evB2s.eq_1) (A (@evB2s.eq_2) (@evB2s.eq_3))) (A (@evB2s.eq_4) (A (@evS2b.eq_1) (@evS2b.eq_2))))) (A (A (A (@evStore.eq_1) (A (@evStore.eq_2) (@evStore.eq_3))) (A (@VO.evW.isCell.eq_1) (A (@VO.evW.isCell.eq_2) (@VO.evW.isCell.eq_3)))) (A (A (@VO.evW.isCell.eq_4) (A (@evBin.eq_1) (@evBin.eq_2))) (A (@evBin.eq_3) (A (@evBin.eq_4) (@evBin.eq_5)))))) (A (A (A (A (@evInt.eq_1) (A (@evInt.eq_2) (@evInt.eq_3))) (A (@evInt.eq_4) (A (@evInt.eq_5) (@evInt.eq_6)))) (A (A (@evInt.eq_7) (A (@evInt.eq_8) (@evInt.eq_9))) (A (@evInt.eq_10) (A (@evInt.eq_11) (@evInt.eq_12))))) (A (A (A (@evInt.eq_13) (A (@evInt.eq_14) (@evInt.eq_15))) (A (@evInt.eq_16) (A (@evStr.eq_1) (@evStr.eq_2)))) (A (A (@evStr.eq_3) (A (@evStr.eq_4) (@evStr.eq_5))) (A (@evStr.eq_6) (A (@evStr.eq_7) (@evStr.eq_8))))))))) (A (A (A (A (A (A (A (@evUn.eq_1) (@evUn.eq_2)) (A (@evUn.eq_3) (A (@evUn.eq_4) (@evUn.eq_5)))) (A (A (@evUn.eq_6) (A (@fillV.eq_1) (@fillV.eq_2))) (A (@putCells.eq_1) (A (@putCells.eq_2) (@fillRows.eq_1))))) (A (A (A (@fillRows.eq_2) (A (@loadFrom.eq_1) (@loadFrom.eq_2))) (A (@loadFrom.eq_3) (A (@loadFrom.eq_4) (@loadV.eq_1)))) (A (A (@objRows.eq_1) (A (@appRows.eq_1) (@appRows.eq_2))) (A (@appRows.eq_3) (A (@srcRows.eq_1) (@srcRows.eq_2)))))) (A (A (A (A (@srcRows.eq_3) (A (@srcRows.eq_4) (@dropOb.eq_1))) (A (@dropOb.eq_2) (A (@V.ok.eq_1) (@V.ok.eq_2)))) (A (A (@V.cells.eq_1) (A (@V.cells.eq_2) (@idFree.eq_1))) (A (@idFree.eq_2) (A (@idFree.eq_3) (@idFree.eq_4))))) (A (A (A (@idFree.eq_5) (A (@idFree.eq_6) (@idFree.eq_7))) (A (@idFree.eq_8) (A (@idFree.eq_9) (@idFree.eq_10)))) (A (A (@idFree.eq_11) (A (@tagN.eq_1) (@tagN.eq_2))) (A (@tagD.eq_1) (A (@tagD.eq_2) (@St.putO.eq_1))))))) (A (A (A (A (A (@St.putO.eq_2) (@St.put.eq_1)) (A (@St.x.eq_1) (A (@St.x.eq_2) (@St.get.eq_1)))) (A (A (@St.init.eq_1) (A (@List.lookup.eq_1.{0,0}) (@List.lookup.eq_2.{0,0}))) (A (@loopQ.eq_1) (A (@loopQ.eq_2) (@loopQ.eq_3))))) (A (A (A (@joinQ.eq_1) (A (@joinQ.eq_2) (@joinQ.eq_3))) (A (@RetV.eq_1) (A (@RetV.eq_2) (@RetC.eq_1)))) (A (A (@RetC.eq_2) (A (@resV.eq_1) (@resL.eq_1))) (A (@resL.eq_2) (A (@RV.get.eq_1) (@RV.get.eq_2)))))) (A (A (A (A (@lendV.eq_1) (A (@lendV.eq_2) (@lendV.eq_3))) (A (@lendV.eq_4) (A (@lendV.eq_5) (@lendV.eq_6)))) (A (A (@lendV.eq_7) (A (@lendV.eq_8) (@lendV.eq_9))) (A (@lendV.eq_10) (A (@lendL.eq_1) (@lendL.eq_2))))) (A (A (A (@Q0.{0}) (A (@Q1.{0}) (@Q2.{0,0}))) (A (@Q3.{0,0}) (A (@Q4.{0}) (@Q5.{0})))) (A (A (@Q6.{0,0}) (A (@Q7.{0,0}) (@Q8.{0,0}))) (A (@Q9.{0,0}) (A (@Q10.{0}) (@Q11.{0})))))))) (A (A (A (A (A (A (@Q12.{0}) (@Q13.{0})) (A (@Q14.{0}) (A (@Q15.{0}) (@Q16)))) (A (A (@Q17) (A (@Q18.{0}) (@Q19.{0}))) (A (@Q20.{0}) (A (@Q21.{0}) (@Q22.{0}))))) (A (A (A (@Q23.{0}) (A (@Q24.{0}) (@Q25.{0}))) (A (@Q26.{0}) (A (@Q27) (@Q28)))) (A (A (@Q29) (A (@Q30.{0}) (@Q31.{0}))) (A (@Q32.{0}) (A (@Q33.{0}) (@Q34)))))) (A (A (A (A (@Q35) (A (@Q36) (@Q37))) (A (@Q38) (A (@Q39) (@Q40)))) (A (A (@Q41) (A (@Q42) (@Q43))) (A (@Q44.{1}) (A (@Q44.{0}) (@Q45.{1}))))) (A (A (A (@Q45.{0}) (A (@Q46) (@Q47))) (A (@Q48.{0}) (A (@Q49.{0,0}) (@Q50.{0})))) (A (A (@Q51.{0}) (A (@Q52.{0}) (@Q53.{0}))) (A (@Q54.{0}) (A (@Q55.{0}) (@Q56.{0}))))))) (A (A (A (A (A (@Q57) (A (@Q58) (@Q59))) (A (@Q60.{0}) (A (@Q61.{0}) (@Q62.{0})))) (A (A (@Q63) (A (@Q64) (@Q65.{0}))) (A (@Q66.{0}) (A (@Q67.{0}) (@vkE_some))))) (A (A (A (@vkE_none) (A (@e_eqnD) (@unkS.eq_1))) (A (@unkS.eq_2) (A (@e_boxI) (@e_mkmap)))) (A (A (@e_look) (A (@e_rng) (@e_upd))) (A (@e_del) (A (@e_clr) (@isInt.eq_1)))))) (A (A (A (A (@lookV.eq_1) (A (@lookV.eq_2) (@objLook.eq_1))) (A (@evLook.eq_1) (A (@evLook.eq_2) (@objRng.eq_1)))) (A (A (@evRng.eq_1) (A (@evRng.eq_2) (@updV.eq_1))) (A (@updV.eq_2) (A (@objUpd.eq_1) (@evUpd.eq_1))))) (A (A (A (@delV.eq_1) (A (@delV.eq_2) (@objDel.eq_1))) (A (@evDel.eq_1) (A (@objClr.eq_1) (@evClr.eq_1)))) (A (A (@evClr.eq_2) (A (@evClr.eq_3) (@isKey_i))) (A (@isKey_s) (A (@elemFree_agg) (@nkArr.eq_1)))))))))) := A (A (A (A (A (A (A (A (@e_seq) (@e_block)) (A (@e_skip_seq) (A (@e_skip_block) (@e_skip_nil)))) (A (A (@e_exit_seq) (A (@e_exit_block) (@e_exit_nil))) (A (@e_ret_cons) (A (@e_ret_nil) (@e_reg))))) (A (A (A (@e_dreg) (A (@e_mv) (@e_pick))) (A (@e_bin) (A (@e_eqb) (@e_eqn)))) (A (A (@e_eqa) (A (@e_un) (@e_cint))) (A (@e_cstr) (A (@e_build) (@e_nilck)))))) (A (A (A (A (@e_fadr) (A (@e_fld) (@e_iadr))) (A (@e_iadrA) (A (@e_idxs) (@e_idxa)))) (A (A (@e_slcs) (A (@e_slc) (@e_ext))) (A (@e_fn) (A (@e_lns) (@e_ln))))) (A (A (A (@e_mm) (A (@e_alloc) (@e_box))) (A (@e_load) (A (@e_bslI) (@e_bslO)))) (A (A (@e_msl) (A (@e_b2s) (@e_s2b))) (A (@e_store) (A (@e_app) (@e_apps))))))) (A (A (A (A (A (@e_guardB) (@vkV_some)) (A (@vkV_none) (A (@vkW_some) (@vkW_none)))) (A (A (@vkO_some) (A (@vkO_none) (@vkC_bool))) (A (@vkG_bool) (A (@vkG_undef) (@vkM_int))))) (A (A (A (@vkA_some) (A (@vkAs_some) (@evPick.eq_1))) (A (@evPick.eq_2) (A (@evBslI.eq_1) (@evBslI.eq_2)))) (A (A (@evBslO.eq_1) (A (@evBslO.eq_2) (@evEqb.eq_1))) (A (@evEqb.eq_2) (A (@evEqn.eq_1) (@evEqa.eq_1)))))) (A (A (A (A (@evEqa.eq_2) (A (@eqCells.eq_1) (@eqCells.eq_2))) (A (@eqCells.eq_3) (A (@eqCell.eq_1) (@eqCell.eq_2)))) (A (A (@eqCell.eq_3) (A (@eqCell.eq_4) (@isNil.eq_1))) (A (@isNil.eq_2) (A (@isNil.eq_3) (@isNil.eq_4))))) (A (A (A (@isNil.eq_5) (A (@isNil.eq_6) (@isNil.eq_7))) (A (@isNil.eq_8) (A (@isNil.eq_9) (@isNil.eq_10)))) (A (A (@isNil.eq_11) (A (@isNil.eq_12) (@isNil.eq_13))) (A (@evCint.eq_1) (A (@evCint.eq_2) (@evCstr.eq_1)))))))) (A (A (A (A (A (A (@evCstr.eq_2) (@evNilck.eq_1)) (A (@evNilck.eq_2) (A (@evNilck.eq_3) (@evNilck.eq_4)))) (A (A (@evNilck.eq_5) (A (@evFadr.eq_1) (@evFadr.eq_2))) (A (@evFadr.eq_3) (A (@evFadr.eq_4) (@evFld.eq_1))))) (A (A (A (@evFld.eq_2) (A (@rowPtr.eq_1) (@rowPtr.eq_2))) (A (@evIadr.eq_1) (A (@evIadr.eq_2) (@evIadr.eq_3)))) (A (A (@evIadr.eq_4) (A (@evIadrA.eq_1) (@evIadrA.eq_2))) (A (@evIadrA.eq_3) (A (@byteV.eq_1) (@byteV.eq_2)))))) (A (A (A (A (@evIdxs.eq_1) (A (@evIdxs.eq_2) (@evIdxa.eq_1))) (A (@evIdxa.eq_2) (A (@evSlcs.eq_1) (@evSlcs.eq_2)))) (A (A (@evSlc.eq_1) (A (@evSlc.eq_2) (@evSlc.eq_3))) (A (@evSlc.eq_4) (A (@evSlc.eq_5) (@boundsV.eq_1))))) (A (A (A (@boundsV.eq_2) (A (@boundsV.eq_3) (@asI.eq_1))) (A (@asI.eq_2) (A (@evExt.eq_1) (@evExt.eq_2)))) (A (A (@evLns.eq_1) (A (@evLns.eq_2) (@evLn.eq_1))) (A (@evLn.eq_2) (A (@evLn.eq_3) (@evLn.eq_4))))))) (A (A (A (A (A (@evLn.eq_5) (A (@evMm.eq_1) (@evMm.eq_2))) (A (@mmInt.eq_1) (A (@mmInt.eq_2) (@mmInt.eq_3)))) (A (A (@evB2s.eq_1) (A (@evB2s.eq_2) (@evB2s.eq_3))) (A (@evB2s.eq_4) (A (@evS2b.eq_1) (@evS2b.eq_2))))) (A (A (A (@evStore.eq_1) (A (@evStore.eq_2) (@evStore.eq_3))) (A (@VO.evW.isCell.eq_1) (A (@VO.evW.isCell.eq_2) (@VO.evW.isCell.eq_3)))) (A (A (@VO.evW.isCell.eq_4) (A (@evBin.eq_1) (@evBin.eq_2))) (A (@evBin.eq_3) (A (@evBin.eq_4) (@evBin.eq_5)))))) (A (A (A (A (@evInt.eq_1) (A (@evInt.eq_2) (@evInt.eq_3))) (A (@evInt.eq_4) (A (@evInt.eq_5) (@evInt.eq_6)))) (A (A (@evInt.eq_7) (A (@evInt.eq_8) (@evInt.eq_9))) (A (@evInt.eq_10) (A (@evInt.eq_11) (@evInt.eq_12))))) (A (A (A (@evInt.eq_13) (A (@evInt.eq_14) (@evInt.eq_15))) (A (@evInt.eq_16) (A (@evStr.eq_1) (@evStr.eq_2)))) (A (A (@evStr.eq_3) (A (@evStr.eq_4) (@evStr.eq_5))) (A (@evStr.eq_6) (A (@evStr.eq_7) (@evStr.eq_8))))))))) (A (A (A (A (A (A (A (@evUn.eq_1) (@evUn.eq_2)) (A (@evUn.eq_3) (A (@evUn.eq_4) (@evUn.eq_5)))) (A (A (@evUn.eq_6) (A (@fillV.eq_1) (@fillV.eq_2))) (A (@putCells.eq_1) (A (@putCells.eq_2) (@fillRows.eq_1))))) (A (A (A (@fillRows.eq_2) (A (@loadFrom.eq_1) (@loadFrom.eq_2))) (A (@loadFrom.eq_3) (A (@loadFrom.eq_4) (@loadV.eq_1)))) (A (A (@objRows.eq_1) (A (@appRows.eq_1) (@appRows.eq_2))) (A (@appRows.eq_3) (A (@srcRows.eq_1) (@srcRows.eq_2)))))) (A (A (A (A (@srcRows.eq_3) (A (@srcRows.eq_4) (@dropOb.eq_1))) (A (@dropOb.eq_2) (A (@V.ok.eq_1) (@V.ok.eq_2)))) (A (A (@V.cells.eq_1) (A (@V.cells.eq_2) (@idFree.eq_1))) (A (@idFree.eq_2) (A (@idFree.eq_3) (@idFree.eq_4))))) (A (A (A (@idFree.eq_5) (A (@idFree.eq_6) (@idFree.eq_7))) (A (@idFree.eq_8) (A (@idFree.eq_9) (@idFree.eq_10)))) (A (A (@idFree.eq_11) (A (@tagN.eq_1) (@tagN.eq_2))) (A (@tagD.eq_1) (A (@tagD.eq_2) (@St.putO.eq_1))))))) (A (A (A (A (A (@St.putO.eq_2) (@St.put.eq_1)) (A (@St.x.eq_1) (A (@St.x.eq_2) (@St.get.eq_1)))) (A (A (@St.init.eq_1) (A (@List.lookup.eq_1.{0,0}) (@List.lookup.eq_2.{0,0}))) (A (@loopQ.eq_1) (A (@loopQ.eq_2) (@loopQ.eq_3))))) (A (A (A (@joinQ.eq_1) (A (@joinQ.eq_2) (@joinQ.eq_3))) (A (@RetV.eq_1) (A (@RetV.eq_2) (@RetC.eq_1)))) (A (A (@RetC.eq_2) (A (@resV.eq_1) (@resL.eq_1))) (A (@resL.eq_2) (A (@RV.get.eq_1) (@RV.get.eq_2)))))) (A (A (A (A (@lendV.eq_1) (A (@lendV.eq_2) (@lendV.eq_3))) (A (@lendV.eq_4) (A (@lendV.eq_5) (@lendV.eq_6)))) (A (A (@lendV.eq_7) (A (@lendV.eq_8) (@lendV.eq_9))) (A (@lendV.eq_10) (A (@lendL.eq_1) (@lendL.eq_2))))) (A (A (A (@Q0.{0}) (A (@Q1.{0}) (@Q2.{0,0}))) (A (@Q3.{0,0}) (A (@Q4.{0}) (@Q5.{0})))) (A (A (@Q6.{0,0}) (A (@Q7.{0,0}) (@Q8.{0,0}))) (A (@Q9.{0,0}) (A (@Q10.{0}) (@Q11.{0})))))))) (A (A (A (A (A (A (@Q12.{0}) (@Q13.{0})) (A (@Q14.{0}) (A (@Q15.{0}) (@Q16)))) (A (A (@Q17) (A (@Q18.{0}) (@Q19.{0}))) (A (@Q20.{0}) (A (@Q21.{0}) (@Q22.{0}))))) (A (A (A (@Q23.{0}) (A (@Q24.{0}) (@Q25.{0}))) (A (@Q26.{0}) (A (@Q27) (@Q28)))) (A (A (@Q29) (A (@Q30.{0}) (@Q31.{0}))) (A (@Q32.{0}) (A (@Q33.{0}) (@Q34)))))) (A (A (A (A (@Q35) (A (@Q36) (@Q37))) (A (@Q38) (A (@Q39) (@Q40)))) (A (A (@Q41) (A (@Q42) (@Q43))) (A (@Q44.{1}) (A (@Q44.{0}) (@Q45.{1}))))) (A (A (A (@Q45.{0}) (A (@Q46) (@Q47))) (A (@Q48.{0}) (A (@Q49.{0,0}) (@Q50.{0})))) (A (A (@Q51.{0}) (A (@Q52.{0}) (@Q53.{0}))) (A (@Q54.{0}) (A (@Q55.{0}) (@Q56.{0}))))))) (A (A (A (A (A (@Q57) (A (@Q58) (@Q59))) (A (@Q60.{0}) (A (@Q61.{0}) (@Q62.{0})))) (A (A (@Q63) (A (@Q64) (@Q65.{0}))) (A (@Q66.{0}) (A (@Q67.{0}) (@vkE_some))))) (A (A (A (@vkE_none) (A (@e_eqnD) (@unkS.eq_1))) (A (@unkS.eq_2) (A (@e_boxI) (@e_mkmap)))) (A (A (@e_look) (A (@e_rng) (@e_upd))) (A (@e_del) (A (@e_clr) (@isInt.eq_1)))))) (A (A (A (A (@lookV.eq_1) (A (@lookV.eq_2) (@objLook.eq_1))) (A (@evLook.eq_1) (A (@evLook.eq_2) (@objRng.eq_1)))) (A (A (@evRng.eq_1) (A (@evRng.eq_2) (@updV.eq_1))) (A (@updV.eq_2) (A (@objUpd.eq_1) (@evUpd.eq_1))))) (A (A (A (@delV.eq_1) (A (@delV.eq_2) (@objDel.eq_1))) (A (@evDel.eq_1) (A (@objClr.eq_1) (@evClr.eq_1)))) (A (A (@evClr.eq_2) (A (@evClr.eq_3) (@isKey_i))) (A (@isKey_s) (A (@elemFree_agg) (@nkArr.eq_1)))))))))
theorem ok_bool (b : Bool) : V.ok (.bool b) = true := rfl
theorem ce_bool (b : Bool) : V.cells (.bool b) = [.bool b] := rfl
theorem ic_bool (b : Bool) : VO.evW.isCell (.bool b) = true := rfl
theorem le_bool (b : Bool) (ob : List (Option VObj)) : lendV ob (.bool b) = some (.bool b) := rfl
theorem ok_int (k : IntKind) (n : Int) : V.ok (.int k n) = true := rfl
theorem ce_int (k : IntKind) (n : Int) : V.cells (.int k n) = [.int k n] := rfl
theorem ic_int (k : IntKind) (n : Int) : VO.evW.isCell (.int k n) = true := rfl
theorem le_int (k : IntKind) (n : Int) (ob : List (Option VObj)) : lendV ob (.int k n) = some (.int k n) := rfl
theorem ok_str (l : List UInt8) : V.ok (.str l) = true := rfl
theorem ce_str (l : List UInt8) : V.cells (.str l) = [.str l] := rfl
theorem ic_str (l : List UInt8) : VO.evW.isCell (.str l) = true := rfl
theorem le_str (l : List UInt8) (ob : List (Option VObj)) : lendV ob (.str l) = some (.str l) := rfl
theorem ok_nils  : V.ok .nils = true := rfl
theorem ce_nils  : V.cells .nils = [.nils] := rfl
theorem ic_nils  : VO.evW.isCell .nils = true := rfl
theorem le_nils  (ob : List (Option VObj)) : lendV ob .nils = some .nils := rfl
theorem ok_sl (z : Nat) (rows : List (List V)) : V.ok (.sl z rows) = true := rfl
theorem ce_sl (z : Nat) (rows : List (List V)) : V.cells (.sl z rows) = [.sl z rows] := rfl
theorem ic_sl (z : Nat) (rows : List (List V)) : VO.evW.isCell (.sl z rows) = true := rfl
theorem le_sl (z : Nat) (rows : List (List V)) (ob : List (Option VObj)) : lendV ob (.sl z rows) = some (.sl z rows) := rfl
theorem ok_ref (k n : Nat) : V.ok (.ref k n) = true := rfl
theorem ce_ref (k n : Nat) : V.cells (.ref k n) = [.ref k n] := rfl
theorem ic_ref (k n : Nat) : VO.evW.isCell (.ref k n) = true := rfl
theorem ok_ptr (k o : Nat) : V.ok (.ptr k o) = true := rfl
theorem ce_ptr (k o : Nat) : V.cells (.ptr k o) = [.ptr k o] := rfl
theorem ic_ptr (k o : Nat) : VO.evW.isCell (.ptr k o) = true := rfl
theorem ok_eptr (k i z o : Nat) : V.ok (.eptr k i z o) = true := rfl
theorem ce_eptr (k i z o : Nat) : V.cells (.eptr k i z o) = [.eptr k i z o] := rfl
theorem ic_eptr (k i z o : Nat) : VO.evW.isCell (.eptr k i z o) = true := rfl
theorem ok_iptr (cs : List V) : V.ok (.iptr cs) = true := rfl
theorem ce_iptr (cs : List V) : V.cells (.iptr cs) = [.iptr cs] := rfl
theorem ic_iptr (cs : List V) : VO.evW.isCell (.iptr cs) = true := rfl
theorem le_iptr (cs : List V) (ob : List (Option VObj)) : lendV ob (.iptr cs) = some (.iptr cs) := rfl
theorem ok_agg (cs : List V) : V.ok (.agg cs) = true := rfl
theorem ok_tup (cs : List V) : V.ok (.tup cs) = true := rfl
theorem ce_tup (cs : List V) : V.cells (.tup cs) = [.tup cs] := rfl
theorem ok_fn (f : FuncId) (a b : List V) : V.ok (.fn f a b) = true := rfl
theorem ce_fn (f : FuncId) (a b : List V) : V.cells (.fn f a b) = [.fn f a b] := rfl
theorem ic_fn (f : FuncId) (a b : List V) : VO.evW.isCell (.fn f a b) = true := rfl
theorem ok_nilp  : V.ok .nilp = true := rfl
theorem ce_nilp  : V.cells .nilp = [.nilp] := rfl
theorem ic_nilp  : VO.evW.isCell .nilp = true := rfl
theorem le_nilp  (ob : List (Option VObj)) : lendV ob .nilp = some .nilp := rfl
theorem ok_nilm  : V.ok .nilm = true := rfl
theorem ce_nilm  : V.cells .nilm = [.nilm] := rfl
theorem ic_nilm  : VO.evW.isCell .nilm = true := rfl
theorem le_nilm  (ob : List (Option VObj)) : lendV ob .nilm = some .nilm := rfl
theorem ok_nilf  : V.ok .nilf = true := rfl
theorem ce_nilf  : V.cells .nilf = [.nilf] := rfl
theorem ic_nilf  : VO.evW.isCell .nilf = true := rfl
theorem le_nilf  (ob : List (Option VObj)) : lendV ob .nilf = some .nilf := rfl
theorem ok_nili  : V.ok .nili = true := rfl
theorem ce_nili  : V.cells .nili = [.nili] := rfl
theorem ic_nili  : VO.evW.isCell .nili = true := rfl
theorem le_nili  (ob : List (Option VObj)) : lendV ob .nili = some .nili := rfl
theorem ok_mapr (k : Nat) : V.ok (.mapr k) = true := rfl
theorem ce_mapr (k : Nat) : V.cells (.mapr k) = [.mapr k] := rfl
theorem ic_mapr (k : Nat) : VO.evW.isCell (.mapr k) = true := rfl
theorem nm_bool (b : Bool) : V.names (.bool b) = [] := rfl
theorem nm_int (k : IntKind) (n : Int) : V.names (.int k n) = [] := rfl
theorem nm_str (l : List UInt8) : V.names (.str l) = [] := rfl
theorem nm_nils  : V.names .nils = [] := rfl
theorem nm_sl (z : Nat) (rows : List (List V)) : V.names (.sl z rows) = [] := rfl
theorem nm_iptr (cs : List V) : V.names (.iptr cs) = [] := rfl
theorem nm_nilp  : V.names .nilp = [] := rfl
theorem nm_nilm  : V.names .nilm = [] := rfl
theorem nm_nilf  : V.names .nilf = [] := rfl
theorem nm_nili  : V.names .nili = [] := rfl
theorem bi_add (k : IntKind) (a b : Int) : evBin .add (.int k a) (.int k b) = evInt .add k a b := by simp only [evBin, if_true]
theorem bi_sub (k : IntKind) (a b : Int) : evBin .sub (.int k a) (.int k b) = evInt .sub k a b := by simp only [evBin, if_true]
theorem bi_mul (k : IntKind) (a b : Int) : evBin .mul (.int k a) (.int k b) = evInt .mul k a b := by simp only [evBin, if_true]
theorem bi_quo (k : IntKind) (a b : Int) : evBin .quo (.int k a) (.int k b) = evInt .quo k a b := by simp only [evBin, if_true]
theorem bi_rem (k : IntKind) (a b : Int) : evBin .rem (.int k a) (.int k b) = evInt .rem k a b := by simp only [evBin, if_true]
theorem bi_and (k : IntKind) (a b : Int) : evBin .and (.int k a) (.int k b) = evInt .and k a b := by simp only [evBin, if_true]
theorem bi_or (k : IntKind) (a b : Int) : evBin .or (.int k a) (.int k b) = evInt .or k a b := by simp only [evBin, if_true]
theorem bi_xor (k : IntKind) (a b : Int) : evBin .xor (.int k a) (.int k b) = evInt .xor k a b := by simp only [evBin, if_true]
theorem bi_andNot (k : IntKind) (a b : Int) : evBin .andNot (.int k a) (.int k b) = evInt .andNot k a b := by simp only [evBin, if_true]
theorem bi_eql (k : IntKind) (a b : Int) : evBin .eql (.int k a) (.int k b) = evInt .eql k a b := by simp only [evBin, if_true]
theorem bi_neq (k : IntKind) (a b : Int) : evBin .neq (.int k a) (.int k b) = evInt .neq k a b := by simp only [evBin, if_true]
theorem bi_lss (k : IntKind) (a b : Int) : evBin .lss (.int k a) (.int k b) = evInt .lss k a b := by simp only [evBin, if_true]
theorem bi_leq (k : IntKind) (a b : Int) : evBin .leq (.int k a) (.int k b) = evInt .leq k a b := by simp only [evBin, if_true]
theorem bi_gtr (k : IntKind) (a b : Int) : evBin .gtr (.int k a) (.int k b) = evInt .gtr k a b := by simp only [evBin, if_true]
theorem bi_geq (k : IntKind) (a b : Int) : evBin .geq (.int k a) (.int k b) = evInt .geq k a b := by simp only [evBin, if_true]
theorem retV_n (rs : List RV) (r : V) (s : St) : RetV rs r .normal s = ∃ x y, resV s rs = some x ∧ lendV s.ob x = some y ∧ Sub y r := nr rfl
theorem retV_r (rs : List RV) (r : V) (s : St) : RetV rs r .ret s = ∃ x y, resV s rs = some x ∧ lendV s.ob x = some y ∧ Sub y r := nr rfl
theorem retC_n (rs : List RV) (r : V) (ob : List (Option VObj)) (s : St) : RetC rs r ob .normal s = ∃ x, resV s rs = some x ∧ (St.mk [(0, x)] s.ob s.base).fg (St.mk [(0, r)] ob s.base) := nr rfl
theorem retC_r (rs : List RV) (r : V) (ob : List (Option VObj)) (s : St) : RetC rs r ob .ret s = ∃ x, resV s rs = some x ∧ (St.mk [(0, x)] s.ob s.base).fg (St.mk [(0, r)] ob s.base) := nr rfl
theorem vkA_c {P : Program} {os : List (Option (Bool × Bool) × VOper)} {c : VC} {fs : List Fr} {Q : VX → St → Prop} {s : St} {d : Option Nat} {old : Option Nat} {rows rows2 : List (List V)} {e sz bytes : Nat} (h1 : rows.length + rows2.length ≤ 140737488355328) (h2 : (rows.length + rows2.length) * bytes ≤ 140737488355328) : vkA (some (old, rows)) (some rows2) e sz bytes P d os c fs Q s = vk P os c fs Q (({ s with ob := dropOb s.ob old ++ [some (.arr e sz (rows ++ rows2))] } : St).putO d (.ref s.ob.length (rows ++ rows2).length)) := by rw [vkA_some]; exact propext ⟨fun h => h.2, fun h => ⟨⟨h1, h2⟩, h⟩⟩
theorem vkA_1 {P : Program} {os : List (Option (Bool × Bool) × VOper)} {c : VC} {fs : List Fr} {Q : VX → St → Prop} {s : St} {d : Option Nat} {old : Option Nat} {rows : List (List V)} {r : List V} {e sz bytes : Nat} (h1 : rows.length + 1 ≤ 140737488355328) (h2 : (rows.length + 1) * bytes ≤ 140737488355328) : vkA (some (old, rows)) (some [r]) e sz bytes P d os c fs Q s = vk P os c fs Q (({ s with ob := dropOb s.ob old ++ [some (.arr e sz (rows ++ [r]))] } : St).putO d (.ref s.ob.length (rows ++ [r]).length)) := vkA_c h1 h2
theorem vkA_2 {P : Program} {os : List (Option (Bool × Bool) × VOper)} {c : VC} {fs : List Fr} {Q : VX → St → Prop} {s : St} {d : Option Nat} {old : Option Nat} {rows : List (List V)} {r r2 : List V} {e sz bytes : Nat} (h1 : rows.length + 2 ≤ 140737488355328) (h2 : (rows.length + 2) * bytes ≤ 140737488355328) : vkA (some (old, rows)) (some [r, r2]) e sz bytes P d os c fs Q s = vk P os c fs Q (({ s with ob := dropOb s.ob old ++ [some (.arr e sz (rows ++ [r, r2]))] } : St).putO d (.ref s.ob.length (rows ++ [r, r2]).length)) := vkA_c h1 h2
theorem nil_slE (z : Nat) : isNil .s (.sl z []) = none := rfl
theorem vkA_0 {P : Program} {os : List (Option (Bool × Bool) × VOper)} {c : VC} {fs : List Fr} {Q : VX → St → Prop} {s : St} {d : Option Nat} {old : Option Nat} {rows2 : List (List V)} {e sz bytes : Nat} (h1 : rows2.length ≤ 140737488355328) (h2 : rows2.length * bytes ≤ 140737488355328) : vkA (some (old, [])) (some rows2) e sz bytes P d os c fs Q s = vk P os c fs Q (({ s with ob := dropOb s.ob old ++ [some (.arr e sz rows2)] } : St).putO d (.ref s.ob.length rows2.length)) := by rw [vkA_c (by simpa using h1) (by simpa using h2)]; rfl
theorem vkA_00 {P : Program} {os : List (Option (Bool × Bool) × VOper)} {c : VC} {fs : List Fr} {Q : VX → St → Prop} {s : St} {d : Option Nat} {old : Option Nat} {e sz bytes : Nat} : vkA (some (old, [])) (some []) e sz bytes P d os c fs Q s = vk P os c fs Q (({ s with ob := dropOb s.ob old ++ [some (.arr e sz [])] } : St).putO d (.ref s.ob.length 0)) := by rw [vkA_c (by simp) (by simp)]; rfl
theorem vkAs_0 {P : Program} {os : List (Option (Bool × Bool) × VOper)} {c : VC} {fs : List Fr} {Q : VX → St → Prop} {s : St} {d : Option Nat} {old : Option Nat} {l : List UInt8} {e : Nat} (h1 : l.length ≤ 140737488355328) : vkAs (some (old, [])) (.str l) e P d os c fs Q s = vk P os c fs Q (({ s with ob := dropOb s.ob old ++ [some (.arr e 1 (bRows l))] } : St).putO d (.ref s.ob.length (bRows l).length)) := by rw [vkAs_some]; exact propext ⟨fun h => h.2, fun h => ⟨by simpa using h1, h⟩⟩
theorem vkAs_c {P : Program} {os : List (Option (Bool × Bool) × VOper)} {c : VC} {fs : List Fr} {Q : VX → St → Prop} {s : St} {d : Option Nat} {old : Option Nat} {rows : List (List V)} {l : List UInt8} {e : Nat} (h1 : rows.length + l.length ≤ 140737488355328) : vkAs (some (old, rows)) (.str l) e P d os c fs Q s = vk P os c fs Q (({ s with ob := dropOb s.ob old ++ [some (.arr e 1 (rows ++ bRows l))] } : St).putO d (.ref s.ob.length (rows ++ bRows l).length)) := by rw [vkAs_some]; exact propext ⟨fun h => h.2, fun h => ⟨h1, h⟩⟩
theorem vkM_c {P : Program} {os : List (Option (Bool × Bool) × VOper)} {c : VC} {fs : List Fr} {Q : VX → St → Prop} {s : St} {d : Option Nat} {k k' : IntKind} {n q : Int} {e sz bytes : Nat} {z : List V} (h0 : 0 ≤ n) (h1 : n = q) (h2 : n ≤ 140737488355328) (h3 : bytes * n ≤ 281474976710656) : vkM (.int k n) (.int k' q) e sz bytes z P d os c fs Q s = (z.all idFree = true ∧ vk P os c fs Q (({ s with ob := s.ob ++ [some (.arr e sz (List.replicate n.toNat z))] } : St).putO d (.ref s.ob.length n.toNat))) := by rw [vkM_int]; exact propext ⟨fun h => ⟨h.1.2.2.2.2, h.2⟩, fun h => ⟨⟨h0, h1, h2, h3, h.1⟩, h.2⟩⟩
theorem beqI_t {a b : Int} (h : a = b) : (a == b) = true := by simp [h]
theorem beqI_f {a b : Int} (h : ¬ a = b) : (a == b) = false := by simp [h]
theorem bneI_t {a b : Int} (h : ¬ a = b) : (a != b) = true := by simp [h]
theorem bneI_f {a b : Int} (h : a = b) : (a != b) = false := by simp [h]
theorem dec_t {p : Prop} [Decidable p] (h : p) : decide p = true := by simp [h]
theorem dec_f {p : Prop} [Decidable p] (h : ¬ p) : decide p = false := by simp [h]
theorem w_i8 {n : Int} (h1 : -128 ≤ n) (h2 : n ≤ 127) : IntKind.i8.wrap n = n := by
  simp only [IntKind.wrap, IntKind.bits, IntKind.signed]
  first | omega | (simp; omega)
theorem w_i16 {n : Int} (h1 : -32768 ≤ n) (h2 : n ≤ 32767) : IntKind.i16.wrap n = n := by
  simp only [IntKind.wrap, IntKind.bits, IntKind.signed]
  first | omega | (simp; omega)
theorem w_i32 {n : Int} (h1 : -2147483648 ≤ n) (h2 : n ≤ 2147483647) : IntKind.i32.wrap n = n := by
  simp only [IntKind.wrap, IntKind.bits, IntKind.signed]
  first | omega | (simp; omega)
theorem w_i64 {n : Int} (h1 : -9223372036854775808 ≤ n) (h2 : n ≤ 9223372036854775807) : IntKind.i64.wrap n = n := by
  simp only [IntKind.wrap, IntKind.bits, IntKind.signed]
  first | omega | (simp; omega)
theorem w_u8 {n : Int} (h1 : 0 ≤ n) (h2 : n ≤ 255) : IntKind.u8.wrap n = n := by
  simp only [IntKind.wrap, IntKind.bits, IntKind.signed]
  first | omega | (simp; omega)
theorem w_u16 {n : Int} (h1 : 0 ≤ n) (h2 : n ≤ 65535) : IntKind.u16.wrap n = n := by
  simp only [IntKind.wrap, IntKind.bits, IntKind.signed]
  first | omega | (simp; omega)
theorem w_u32 {n : Int} (h1 : 0 ≤ n) (h2 : n ≤ 4294967295) : IntKind.u32.wrap n = n := by
  simp only [IntKind.wrap, IntKind.bits, IntKind.signed]
  first | omega | (simp; omega)
theorem w_u64 {n : Int} (h1 : 0 ≤ n) (h2 : n ≤ 18446744073709551615) : IntKind.u64.wrap n = n := by
  simp only [IntKind.wrap, IntKind.bits, IntKind.signed]
  first | omega | (simp; omega)

theorem EW : type_of% (A (A (A (A (A (A (A (A (@e_seq) (A (@e_block) (@e_skip_seq))) (A (A (@e_skip_block) (@e_skip_nil)) (A (@e_exit_seq) (@e_exit_block)))) (A (A (@e_exit_nil) (A (@e_ret_cons) (@e_ret_nil))) (A (A (@e_reg) (@e_dreg)) (A (@e_mv) (@e_pick))))) (A (A (A (@e_bin) (A (@e_eqb) (@e_eqn))) (A (A (@e_eqa) (@e_un)) (A (@e_cint) (@e_cstr)))) (A (A (A (@e_build) (@e_nilck)) (A (@e_fadr) (@e_fld))) (A (A (@e_iadr) (@e_iadrA)) (A (@e_idxs) (@e_idxa)))))) (A (A (A (A (@e_slcs) (A (@e_slc) (@e_ext))) (A (A (@e_fn) (@e_lns)) (A (@e_ln) (@e_mm)))) (A (A (@e_alloc) (A (@e_box) (@e_load))) (A (A (@e_bslI) (@e_bslO)) (A (@e_msl) (@e_b2s))))) (A (A (A (@e_s2b) (A (@e_store) (@e_app))) (A (A (@e_apps) (@e_guardB)) (A (@vkV_some) (@vkV_none)))) (A (A (A (@vkW_some) (@vkW_none)) (A (@vkO_some) (@vkO_none))) (A (A (@vkC_bool) (@vkG_bool)) (A (@vkG_undef) (@evPick.eq_1))))))) (A (A (A (A (A (@evBslI.eq_1) (A (@evBslI.eq_2) (@evBslO.eq_1))) (A (A (@evBslO.eq_2) (@evEqb.eq_1)) (A (@evEqn.eq_1) (@evEqa.eq_1)))) (A (A (@eqCells.eq_1) (A (@eqCells.eq_2) (@eqCell.eq_1))) (A (A (@eqCell.eq_2) (@eqCell.eq_3)) (A (@isNil.eq_1) (@isNil.eq_2))))) (A (A (A (@isNil.eq_3) (A (@isNil.eq_4) (@isNil.eq_5))) (A (A (@isNil.eq_6) (@isNil.eq_7)) (A (@isNil.eq_8) (@isNil.eq_9)))) (A (A (A (@isNil.eq_10) (@isNil.eq_11)) (A (@isNil.eq_12) (@evCint.eq_1))) (A (A (@evCstr.eq_1) (@evNilck.eq_1)) (A (@evNilck.eq_2) (@evNilck.eq_3)))))) (A (A (A (A (@evNilck.eq_4) (A (@evFadr.eq_1) (@evFadr.eq_2))) (A (A (@evFadr.eq_3) (@evFld.eq_1)) (A (@rowPtr.eq_1) (@rowPtr.eq_2)))) (A (A (@evIadr.eq_1) (A (@evIadr.eq_2) (@evIadr.eq_3))) (A (A (@evIadrA.eq_1) (@evIadrA.eq_2)) (A (@byteV.eq_1) (@byteV.eq_2))))) (A (A (A (@evIdxs.eq_1) (A (@evIdxa.eq_1) (@evSlcs.eq_1))) (A (A (@evSlc.eq_1) (@evSlc.eq_2)) (A (@evSlc.eq_3) (@evSlc.eq_4)))) (A (A (A (@boundsV.eq_1) (@boundsV.eq_2)) (A (@boundsV.eq_3) (@asI.eq_1))) (A (A (@evExt.eq_1) (@evLns.eq_1)) (A (@evLn.eq_1) (@evLn.eq_2)))))))) (A (A (A (A (A (A (@evLn.eq_3) (A (@evLn.eq_4) (@evMm.eq_1))) (A (A (@mmInt.eq_1) (@mmInt.eq_2)) (A (@evB2s.eq_1) (@evB2s.eq_2)))) (A (A (@evB2s.eq_3) (A (@evS2b.eq_1) (@evStore.eq_1))) (A (A (@evStore.eq_2) (@VO.evW.isCell.eq_1)) (A (@VO.evW.isCell.eq_2) (@VO.evW.isCell.eq_3))))) (A (A (A (@evBin.eq_1) (A (@evBin.eq_2) (@evBin.eq_4))) (A (A (@evInt.eq_1) (@evInt.eq_2)) (A (@evInt.eq_3) (@evInt.eq_4)))) (A (A (A (@evInt.eq_5) (@evInt.eq_6)) (A (@evInt.eq_7) (@evInt.eq_8))) (A (A (@evInt.eq_9) (@evInt.eq_10)) (A (@evInt.eq_11) (@evInt.eq_12)))))) (A (A (A (A (@evInt.eq_13) (A (@evInt.eq_14) (@evInt.eq_15))) (A (A (@evStr.eq_1) (@evStr.eq_2)) (A (@evStr.eq_3) (@evStr.eq_4)))) (A (A (@evStr.eq_5) (A (@evStr.eq_6) (@evStr.eq_7))) (A (A (@evUn.eq_1) (@evUn.eq_3)) (A (@evUn.eq_4) (@fillV.eq_1))))) (A (A (A (@fillV.eq_2) (A (@putCells.eq_1) (@putCells.eq_2))) (A (A (@fillRows.eq_1) (@fillRows.eq_2)) (A (@loadFrom.eq_1) (@loadFrom.eq_2)))) (A (A (A (@loadFrom.eq_3) (@loadV.eq_1)) (A (@objRows.eq_1) (@appRows.eq_1))) (A (A (@appRows.eq_2) (@srcRows.eq_1)) (A (@srcRows.eq_2) (@srcRows.eq_3))))))) (A (A (A (A (A (@dropOb.eq_1) (A (@dropOb.eq_2) (@V.ok.eq_1))) (A (A (@V.cells.eq_1) (@idFree.eq_1)) (A (@idFree.eq_2) (@idFree.eq_3)))) (A (A (@idFree.eq_4) (A (@idFree.eq_5) (@idFree.eq_6))) (A (A (@idFree.eq_7) (@idFree.eq_8)) (A (@idFree.eq_9) (@idFree.eq_10))))) (A (A (A (@tagN.eq_1) (A (@tagN.eq_2) (@tagD.eq_1))) (A (A (@tagD.eq_2) (@St.putO.eq_1)) (A (@St.putO.eq_2) (@St.put.eq_1)))) (A (A (A (@St.x.eq_1) (@St.x.eq_2)) (A (@St.get.eq_1) (@St.init.eq_1))) (A (A (@List.lookup.eq_1.{0,0}) (@List.lookup.eq_2.{0,0})) (A (@loopQ.eq_1) (@loopQ.eq_2)))))) (A (A (A (A (@joinQ.eq_1) (A (@joinQ.eq_2) (@RetV.eq_1))) (A (A (@RetC.eq_1) (@resV.eq_1)) (A (@resL.eq_1) (@resL.eq_2)))) (A (A (A (@RV.get.eq_1) (@RV.get.eq_2)) (A (@lendV.eq_1) (@lendV.eq_2))) (A (A (@lendV.eq_3) (@lendV.eq_4)) (A (@lendV.eq_5) (@lendV.eq_6))))) (A (A (A (@lendV.eq_7) (A (@lendV.eq_8) (@lendV.eq_9))) (A (A (@lendL.eq_1) (@lendL.eq_2)) (A (@Q0.{0}) (@Q1.{0})))) (A (A (A (@Q2.{0,0}) (@Q3.{0,0})) (A (@Q4.{0}) (@Q5.{0}))) (A (A (@Q6.{0,0}) (@Q7.{0,0})) (A (@Q8.{0,0}) (@Q9.{0,0}))))))))) (A (A (A (A (A (A (A (@Q10.{0}) (A (@Q11.{0}) (@Q12.{0}))) (A (A (@Q13.{0}) (@Q14.{0})) (A (@Q15.{0}) (@Q16)))) (A (A (@Q17) (A (@Q18.{0}) (@Q19.{0}))) (A (A (@Q20.{0}) (@Q21.{0})) (A (@Q22.{0}) (@Q23.{0}))))) (A (A (A (@Q24.{0}) (A (@Q25.{0}) (@Q26.{0}))) (A (A (@Q27) (@Q28)) (A (@Q29) (@Q30.{0})))) (A (A (A (@Q31.{0}) (@Q32.{0})) (A (@Q33.{0}) (@Q34))) (A (A (@Q35) (@Q36)) (A (@Q37) (@Q38)))))) (A (A (A (A (@Q39) (A (@Q40) (@Q41))) (A (A (@Q42) (@Q43)) (A (@Q44.{1}) (@Q44.{0})))) (A (A (@Q45.{1}) (A (@Q45.{0}) (@Q46))) (A (A (@Q47) (@Q48.{0})) (A (@Q49.{0,0}) (@Q50.{0}))))) (A (A (A (@Q51.{0}) (A (@Q52.{0}) (@Q53.{0}))) (A (A (@Q54.{0}) (@Q55.{0})) (A (@Q56.{0}) (@Q57)))) (A (A (A (@Q58) (@Q59)) (A (@Q60.{0}) (@Q61.{0}))) (A (A (@Q62.{0}) (@Q63)) (A (@Q64) (@Q65.{0}))))))) (A (A (A (A (A (@Q66.{0}) (A (@Q67.{0}) (@vkE_some))) (A (A (@vkE_none) (@e_eqnD)) (A (@unkS.eq_1) (@unkS.eq_2)))) (A (A (@List.length_drop.{0}) (A (@List.getElem?_drop.{0}) (@List.drop_drop.{0}))) (A (A (@List.contains_nil.{0}) (@List.contains_cons.{0})) (A (@Bool.or_false) (@Bool.false_or))))) (A (A (A (@Bool.or_true) (A (@Bool.true_or) (@e_dregF))) (A (A (@e_chk) (@chkS.eq_1)) (A (@namesL.eq_1) (@namesL.eq_2)))) (A (A (A (@V.names.eq_1) (@V.names.eq_2)) (A (@V.names.eq_3) (@V.names.eq_4))) (A (A (@V.names.eq_5) (@V.names.eq_6)) (A (@V.names.eq_7) (@ok_bool)))))) (A (A (A (A (@ce_bool) (A (@ic_bool) (@le_bool))) (A (A (@ok_int) (@ce_int)) (A (@ic_int) (@le_int)))) (A (A (@ok_str) (A (@ce_str) (@ic_str))) (A (A (@le_str) (@ok_nils)) (A (@ce_nils) (@ic_nils))))) (A (A (A (@le_nils) (A (@ok_sl) (@ce_sl))) (A (A (@ic_sl) (@le_sl)) (A (@ok_ref) (@ce_ref)))) (A (A (A (@ic_ref) (@ok_ptr)) (A (@ce_ptr) (@ic_ptr))) (A (A (@ok_eptr) (@ce_eptr)) (A (@ic_eptr) (@ok_iptr)))))))) (A (A (A (A (A (A (@ce_iptr) (A (@ic_iptr) (@le_iptr))) (A (A (@ok_agg) (@ok_tup)) (A (@ce_tup) (@ok_fn)))) (A (A (@ce_fn) (A (@ic_fn) (@ok_nilp))) (A (A (@ce_nilp) (@ic_nilp)) (A (@le_nilp) (@ok_nilm))))) (A (A (A (@ce_nilm) (A (@ic_nilm) (@le_nilm))) (A (A (@ok_nilf) (@ce_nilf)) (A (@ic_nilf) (@le_nilf)))) (A (A (A (@ok_nili) (@ce_nili)) (A (@ic_nili) (@le_nili))) (A (A (@ok_mapr) (@ce_mapr)) (A (@ic_mapr) (@nm_bool)))))) (A (A (A (A (@nm_int) (A (@nm_str) (@nm_nils))) (A (A (@nm_sl) (@nm_iptr)) (A (@nm_nilp) (@nm_nilm)))) (A (A (@nm_nilf) (A (@nm_nili) (@bi_add))) (A (A (@bi_sub) (@bi_mul)) (A (@bi_quo) (@bi_rem))))) (A (A (A (@bi_and) (A (@bi_or) (@bi_xor))) (A (A (@bi_andNot) (@bi_eql)) (A (@bi_neq) (@bi_lss)))) (A (A (A (@bi_leq) (@bi_gtr)) (A (@bi_geq) (@retV_n))) (A (A (@retV_r) (@retC_n)) (A (@retC_r) (@vkA_c))))))) (A (A (A (A (A (@vkA_1) (A (@vkA_2) (@nil_slE))) (A (A (@vkA_0) (@vkA_00)) (A (@vkAs_0) (@vkAs_c)))) (A (A (@vkM_c) (A (@beqI_t) (@beqI_f))) (A (A (@bneI_t) (@bneI_f)) (A (@dec_t) (@dec_f))))) (A (A (A (@e_condB) (A (@if_pos.{0}) (@if_pos.{1}))) (A (A (@if_neg.{0}) (@if_neg.{1})) (A (@w_i64) (@w_u8)))) (A (A (A (@w_i32) (@w_u32)) (A (@w_u64) (@w_i8))) (A (A (@w_i16) (@w_u16)) (A (@e_boxI) (@e_mkmap)))))) (A (A (A (A (@e_look) (A (@e_rng) (@e_upd))) (A (A (@e_del) (@e_clr)) (A (@isInt.eq_1) (@lookV.eq_1)))) (A (A (A (@lookV.eq_2) (@objLook.eq_1)) (A (@evLook.eq_1) (@evLook.eq_2))) (A (A (@objRng.eq_1) (@evRng.eq_1)) (A (@evRng.eq_2) (@updV.eq_1))))) (A (A (A (@updV.eq_2) (A (@objUpd.eq_1) (@evUpd.eq_1))) (A (A (@delV.eq_1) (@delV.eq_2)) (A (@objDel.eq_1) (@evDel.eq_1)))) (A (A (A (@objClr.eq_1) (@evClr.eq_1)) (A (@evClr.eq_2) (@evClr.eq_3))) (A (A (@isKey_i) (@isKey_s)) (A (@elemFree_agg) (@nkArr.eq_1)))))))))) := A (A (A (A (A (A (A (A (@e_seq) (A (@e_block) (@e_skip_seq))) (A (A (@e_skip_block) (@e_skip_nil)) (A (@e_exit_seq) (@e_exit_block)))) (A (A (@e_exit_nil) (A (@e_ret_cons) (@e_ret_nil))) (A (A (@e_reg) (@e_dreg)) (A (@e_mv) (@e_pick))))) (A (A (A (@e_bin) (A (@e_eqb) (@e_eqn))) (A (A (@e_eqa) (@e_un)) (A (@e_cint) (@e_cstr)))) (A (A (A (@e_build) (@e_nilck)) (A (@e_fadr) (@e_fld))) (A (A (@e_iadr) (@e_iadrA)) (A (@e_idxs) (@e_idxa)))))) (A (A (A (A (@e_slcs) (A (@e_slc) (@e_ext))) (A (A (@e_fn) (@e_lns)) (A (@e_ln) (@e_mm)))) (A (A (@e_alloc) (A (@e_box) (@e_load))) (A (A (@e_bslI) (@e_bslO)) (A (@e_msl) (@e_b2s))))) (A (A (A (@e_s2b) (A (@e_store) (@e_app))) (A (A (@e_apps) (@e_guardB)) (A (@vkV_some) (@vkV_none)))) (A (A (A (@vkW_some) (@vkW_none)) (A (@vkO_some) (@vkO_none))) (A (A (@vkC_bool) (@vkG_bool)) (A (@vkG_undef) (@evPick.eq_1))))))) (A (A (A (A (A (@evBslI.eq_1) (A (@evBslI.eq_2) (@evBslO.eq_1))) (A (A (@evBslO.eq_2) (@evEqb.eq_1)) (A (@evEqn.eq_1) (@evEqa.eq_1)))) (A (A (@eqCells.eq_1) (A (@eqCells.eq_2) (@eqCell.eq_1))) (A (A (@eqCell.eq_2) (@eqCell.eq_3)) (A (@isNil.eq_1) (@isNil.eq_2))))) (A (A (A (@isNil.eq_3) (A (@isNil.eq_4) (@isNil.eq_5))) (A (A (@isNil.eq_6) (@isNil.eq_7)) (A (@isNil.eq_8) (@isNil.eq_9)))) (A (A (A (@isNil.eq_10) (@isNil.eq_11)) (A (@isNil.eq_12) (@evCint.eq_1))) (A (A (@evCstr.eq_1) (@evNilck.eq_1)) (A (@evNilck.eq_2) (@evNilck.eq_3)))))) (A (A (A (A (@evNilck.eq_4) (A (@evFadr.eq_1) (@evFadr.eq_2))) (A (A (@evFadr.eq_3) (@evFld.eq_1)) (A (@rowPtr.eq_1) (@rowPtr.eq_2)))) (A (A (@evIadr.eq_1) (A (@evIadr.eq_2) (@evIadr.eq_3))) (A (A (@evIadrA.eq_1) (@evIadrA.eq_2)) (A (@byteV.eq_1) (@byteV.eq_2))))) (A (A (A (@evIdxs.eq_1) (A (@evIdxa.eq_1) (@evSlcs.eq_1))) (A (A (@evSlc.eq_1) (@evSlc.eq_2)) (A (@evSlc.eq_3) (@evSlc.eq_4)))) (A (A (A (@boundsV.eq_1) (@boundsV.eq_2)) (A (@boundsV.eq_3) (@asI.eq_1))) (A (A (@evExt.eq_1) (@evLns.eq_1)) (A (@evLn.eq_1) (@evLn.eq_2)))))))) (A (A (A (A (A (A (@evLn.eq_3) (A (@evLn.eq_4) (@evMm.eq_1))) (A (A (@mmInt.eq_1) (@mmInt.eq_2)) (A (@evB2s.eq_1) (@evB2s.eq_2)))) (A (A (@evB2s.eq_3) (A (@evS2b.eq_1) (@evStore.eq_1))) (A (A (@evStore.eq_2) (@VO.evW.isCell.eq_1)) (A (@VO.evW.isCell.eq_2) (@VO.evW.isCell.eq_3))))) (A (A (A (@evBin.eq_1) (A (@evBin.eq_2) (@evBin.eq_4))) (A (A (@evInt.eq_1) (@evInt.eq_2)) (A (@evInt.eq_3) (@evInt.eq_4)))) (A (A (A (@evInt.eq_5) (@evInt.eq_6)) (A (@evInt.eq_7) (@evInt.eq_8))) (A (A (@evInt.eq_9) (@evInt.eq_10)) (A (@evInt.eq_11) (@evInt.eq_12)))))) (A (A (A (A (@evInt.eq_13) (A (@evInt.eq_14) (@evInt.eq_15))) (A (A (@evStr.eq_1) (@evStr.eq_2)) (A (@evStr.eq_3) (@evStr.eq_4)))) (A (A (@evStr.eq_5) (A (@evStr.eq_6) (@evStr.eq_7))) (A (A (@evUn.eq_1) (@evUn.eq_3)) (A (@evUn.eq_4) (@fillV.eq_1))))) (A (A (A (@fillV.eq_2) (A (@putCells.eq_1) (@putCells.eq_2))) (A (A (@fillRows.eq_1) (@fillRows.eq_2)) (A (@loadFrom.eq_1) (@loadFrom.eq_2)))) (A (A (A (@loadFrom.eq_3) (@loadV.eq_1)) (A (@objRows.eq_1) (@appRows.eq_1))) (A (A (@appRows.eq_2) (@srcRows.eq_1)) (A (@srcRows.eq_2) (@srcRows.eq_3))))))) (A (A (A (A (A (@dropOb.eq_1) (A (@dropOb.eq_2) (@V.ok.eq_1))) (A (A (@V.cells.eq_1) (@idFree.eq_1)) (A (@idFree.eq_2) (@idFree.eq_3)))) (A (A (@idFree.eq_4) (A (@idFree.eq_5) (@idFree.eq_6))) (A (A (@idFree.eq_7) (@idFree.eq_8)) (A (@idFree.eq_9) (@idFree.eq_10))))) (A (A (A (@tagN.eq_1) (A (@tagN.eq_2) (@tagD.eq_1))) (A (A (@tagD.eq_2) (@St.putO.eq_1)) (A (@St.putO.eq_2) (@St.put.eq_1)))) (A (A (A (@St.x.eq_1) (@St.x.eq_2)) (A (@St.get.eq_1) (@St.init.eq_1))) (A (A (@List.lookup.eq_1.{0,0}) (@List.lookup.eq_2.{0,0})) (A (@loopQ.eq_1) (@loopQ.eq_2)))))) (A (A (A (A (@joinQ.eq_1) (A (@joinQ.eq_2) (@RetV.eq_1))) (A (A (@RetC.eq_1) (@resV.eq_1)) (A (@resL.eq_1) (@resL.eq_2)))) (A (A (A (@RV.get.eq_1) (@RV.get.eq_2)) (A (@lendV.eq_1) (@lendV.eq_2))) (A (A (@lendV.eq_3) (@lendV.eq_4)) (A (@lendV.eq_5) (@lendV.eq_6))))) (A (A (A (@lendV.eq_7) (A (@lendV.eq_8) (@lendV.eq_9))) (A (A (@lendL.eq_1) (@lendL.eq_2)) (A (@Q0.{0}) (@Q1.{0})))) (A (A (A (@Q2.{0,0}) (@Q3.{0,0})) (A (@Q4.{0}) (@Q5.{0}))) (A (A (@Q6.{0,0}) (@Q7.{0,0})) (A (@Q8.{0,0}) (@Q9.{0,0}))))))))) (A (A (A (A (A (A (A (@Q10.{0}) (A (@Q11.{0}) (@Q12.{0}))) (A (A (@Q13.{0}) (@Q14.{0})) (A (@Q15.{0}) (@Q16)))) (A (A (@Q17) (A (@Q18.{0}) (@Q19.{0}))) (A (A (@Q20.{0}) (@Q21.{0})) (A (@Q22.{0}) (@Q23.{0}))))) (A (A (A (@Q24.{0}) (A (@Q25.{0}) (@Q26.{0}))) (A (A (@Q27) (@Q28)) (A (@Q29) (@Q30.{0})))) (A (A (A (@Q31.{0}) (@Q32.{0})) (A (@Q33.{0}) (@Q34))) (A (A (@Q35) (@Q36)) (A (@Q37) (@Q38)))))) (A (A (A (A (@Q39) (A (@Q40) (@Q41))) (A (A (@Q42) (@Q43)) (A (@Q44.{1}) (@Q44.{0})))) (A (A (@Q45.{1}) (A (@Q45.{0}) (@Q46))) (A (A (@Q47) (@Q48.{0})) (A (@Q49.{0,0}) (@Q50.{0}))))) (A (A (A (@Q51.{0}) (A (@Q52.{0}) (@Q53.{0}))) (A (A (@Q54.{0}) (@Q55.{0})) (A (@Q56.{0}) (@Q57)))) (A (A (A (@Q58) (@Q59)) (A (@Q60.{0}) (@Q61.{0}))) (A (A (@Q62.{0}) (@Q63)) (A (@Q64) (@Q65.{0}))))))) (A (A (A (A (A (@Q66.{0}) (A (@Q67.{0}) (@vkE_some))) (A (A (@vkE_none) (@e_eqnD)) (A (@unkS.eq_1) (@unkS.eq_2)))) (A (A (@List.length_drop.{0}) (A (@List.getElem?_drop.{0}) (@List.drop_drop.{0}))) (A (A (@List.contains_nil.{0}) (@List.contains_cons.{0})) (A (@Bool.or_false) (@Bool.false_or))))) (A (A (A (@Bool.or_true) (A (@Bool.true_or) (@e_dregF))) (A (A (@e_chk) (@chkS.eq_1)) (A (@namesL.eq_1) (@namesL.eq_2)))) (A (A (A (@V.names.eq_1) (@V.names.eq_2)) (A (@V.names.eq_3) (@V.names.eq_4))) (A (A (@V.names.eq_5) (@V.names.eq_6)) (A (@V.names.eq_7) (@ok_bool)))))) (A (A (A (A (@ce_bool) (A (@ic_bool) (@le_bool))) (A (A (@ok_int) (@ce_int)) (A (@ic_int) (@le_int)))) (A (A (@ok_str) (A (@ce_str) (@ic_str))) (A (A (@le_str) (@ok_nils)) (A (@ce_nils) (@ic_nils))))) (A (A (A (@le_nils) (A (@ok_sl) (@ce_sl))) (A (A (@ic_sl) (@le_sl)) (A (@ok_ref) (@ce_ref)))) (A (A (A (@ic_ref) (@ok_ptr)) (A (@ce_ptr) (@ic_ptr))) (A (A (@ok_eptr) (@ce_eptr)) (A (@ic_eptr) (@ok_iptr)))))))) (A (A (A (A (A (A (@ce_iptr) (A (@ic_iptr) (@le_iptr))) (A (A (@ok_agg) (@ok_tup)) (A (@ce_tup) (@ok_fn)))) (A (A (@ce_fn) (A (@ic_fn) (@ok_nilp))) (A (A (@ce_nilp) (@ic_nilp)) (A (@le_nilp) (@ok_nilm))))) (A (A (A (@ce_nilm) (A (@ic_nilm) (@le_nilm))) (A (A (@ok_nilf) (@ce_nilf)) (A (@ic_nilf) (@le_nilf)))) (A (A (A (@ok_nili) (@ce_nili)) (A (@ic_nili) (@le_nili))) (A (A (@ok_mapr) (@ce_mapr)) (A (@ic_mapr) (@nm_bool)))))) (A (A (A (A (@nm_int) (A (@nm_str) (@nm_nils))) (A (A (@nm_sl) (@nm_iptr)) (A (@nm_nilp) (@nm_nilm)))) (A (A (@nm_nilf) (A (@nm_nili) (@bi_add))) (A (A (@bi_sub) (@bi_mul)) (A (@bi_quo) (@bi_rem))))) (A (A (A (@bi_and) (A (@bi_or) (@bi_xor))) (A (A (@bi_andNot) (@bi_eql)) (A (@bi_neq) (@bi_lss)))) (A (A (A (@bi_leq) (@bi_gtr)) (A (@bi_geq) (@retV_n))) (A (A (@retV_r) (@retC_n)) (A (@retC_r) (@vkA_c))))))) (A (A (A (A (A (@vkA_1) (A (@vkA_2) (@nil_slE))) (A (A (@vkA_0) (@vkA_00)) (A (@vkAs_0) (@vkAs_c)))) (A (A (@vkM_c) (A (@beqI_t) (@beqI_f))) (A (A (@bneI_t) (@bneI_f)) (A (@dec_t) (@dec_f))))) (A (A (A (@e_condB) (A (@if_pos.{0}) (@if_pos.{1}))) (A (A (@if_neg.{0}) (@if_neg.{1})) (A (@w_i64) (@w_u8)))) (A (A (A (@w_i32) (@w_u32)) (A (@w_u64) (@w_i8))) (A (A (@w_i16) (@w_u16)) (A (@e_boxI) (@e_mkmap)))))) (A (A (A (A (@e_look) (A (@e_rng) (@e_upd))) (A (A (@e_del) (@e_clr)) (A (@isInt.eq_1) (@lookV.eq_1)))) (A (A (A (@lookV.eq_2) (@objLook.eq_1)) (A (@evLook.eq_1) (@evLook.eq_2))) (A (A (@objRng.eq_1) (@evRng.eq_1)) (A (@evRng.eq_2) (@updV.eq_1))))) (A (A (A (@updV.eq_2) (A (@objUpd.eq_1) (@evUpd.eq_1))) (A (A (@delV.eq_1) (@delV.eq_2)) (A (@objDel.eq_1) (@evDel.eq_1)))) (A (A (A (@objClr.eq_1) (@evClr.eq_1)) (A (@evClr.eq_2) (@evClr.eq_3))) (A (A (@isKey_i) (@isKey_s)) (A (@elemFree_agg) (@nkArr.eq_1)))))))))
theorem fin {x r : V} {ob : List (Option VObj)} (h : lendV ob x = some r) : ∃ a b, some x = some a ∧ lendV ob a = some b ∧ Sub b r := ⟨_, _, rfl, h, .refl _⟩
end Go.Proofs.VL

namespace Go.Proofs.VL
open Go Go.RowKit
set_option linter.unusedSimpArgs false
set_option linter.unusedVariables false

/-! ### rows of one's own, given away to a function of values -/
def keepO (ks : List Nat) (ob : List (Option VObj)) : List (Option VObj) := ob.zipIdx.map fun p => if ks.contains p.2 then p.1 else none
def dropO (ks : List Nat) (ob : List (Option VObj)) : List (Option VObj) := ob.zipIdx.map fun p => if ks.contains p.2 then none else p.1

theorem keepO_get {ks : List Nat} {ob : List (Option VObj)} {k : Nat} {o : VObj} (h : (keepO ks ob)[k]? = some (some o)) : ob[k]? = some (some o) ∧ k ∈ ks := by
  simp only [keepO, List.getElem?_map, List.getElem?_zipIdx, Option.map_eq_some_iff] at h
  obtain ⟨⟨q, j⟩, hq, he⟩ := h
  obtain ⟨q', hq', he'⟩ := hq
  simp only [Prod.mk.injEq] at he'
  obtain ⟨rfl, rfl⟩ := he'
  simp only [Nat.zero_add] at he
  split at he
  · rename_i hk
    subst he
    exact ⟨hq', by simpa using hk⟩
  · cases he

theorem dropO_get {ks : List Nat} {ob : List (Option VObj)} {k : Nat} {o : VObj} (h : (dropO ks ob)[k]? = some (some o)) : ob[k]? = some (some o) ∧ k ∉ ks := by
  simp only [dropO, List.getElem?_map, List.getElem?_zipIdx, Option.map_eq_some_iff] at h
  obtain ⟨⟨q, j⟩, hq, he⟩ := h
  obtain ⟨q', hq', he'⟩ := hq
  simp only [Prod.mk.injEq] at he'
  obtain ⟨rfl, rfl⟩ := he'
  simp only [Nat.zero_add] at he
  split at he
  · cases he
  · rename_i hk
    subst he
    exact ⟨hq', by simpa using hk⟩

theorem dropO_length (ks : List Nat) (ob : List (Option VObj)) : (dropO ks ob).length = ob.length := by simp [dropO]

theorem VFn.eat {P : Program} {g : FuncId} {as args : List V} {r : V} {ob : List (Option VObj)} (h : VFn P g as r) (ks : List Nat) (hl : lendL (keepO ks ob) args = some as) : VCall P g args ob r (dropO ks ob) := by
  refine ⟨h.1, fun w E vs hdom hob hf hr => ?_⟩
  have hob1 : ∀ k o, E.dom k → (keepO ks ob)[k]? = some (some o) → ObjRep w E k o := fun k o _ hk => hob k o (keepO_get hk).1
  have hrep := lendL_rep hob1 args as vs hl hr
  refine (h.2 w (E.lend (keepO ks ob)) vs (fun k => by simp [Env.lend]) (fun k o h => by simp at h) (fun b hb => lend_imm.2 (.inl (hf b hb))) hrep).mono ?_
  rintro e w' ⟨v, E1, rfl, hres⟩
  have hsame : ∀ b, b < w.heap.size → w'.heap[b]? = w.heap[b]? := by
    intro b hb
    rcases lend_or (E := E) (ob := keepO ks ob) b with hl | hl
    · exact (hres.ext.imm b hb hl).2
    · exact (hres.ext.ext b hb hl).2
  have hcls : ∀ b, Decidable ((E.lend (keepO ks ob)).lab b = .imm) := fun b => Classical.propDecidable _
  let E' : Env := { E with lab := fun b => if b < w.heap.size then (if (E.lend (keepO ks ob)).lab b = .imm then .imm else E.lab b) else if E1.lab b = .imm then .imm else .ext }
  have hold : ∀ b, b < w.heap.size → E'.lab b = if (E.lend (keepO ks ob)).lab b = .imm then .imm else E.lab b := fun b hb => if_pos hb
  have hnew : ∀ b, ¬ b < w.heap.size → E'.lab b = if E1.lab b = .imm then .imm else .ext := fun b hb => if_neg hb
  have hx : Ext w E w' E' := by
    refine ⟨hres.ext.os, hres.ext.tape, hres.ext.output, hres.ext.size, fun b hb hl => ⟨?_, hsame b hb⟩, fun b hb hl => ⟨?_, hsame b hb⟩, fun _ h => h, fun _ _ => rfl, fun _ _ => rfl, fun _ _ => rfl⟩
    · rw [hold b hb, if_pos (lend_imm.2 (.inl hl))]
    · rw [hold b hb, if_neg]
      · exact hl
      · intro hi
        rcases lend_imm.1 hi with h1 | ⟨k, o, h1, h2, h3, h4⟩
        · rw [hl] at h1; cases h1
        · have := lend_lab (hob k _ (keepO_get h2).1) h3
          rw [h4, hl] at this; cases this
  refine ⟨v, E', rfl, hx, fun k => by rw [dropO_length]; exact hdom k, ?_, ?_, ?_⟩
  · refine Rep.iext ⟨Nat.le_refl _, ?_, ?_, ?_, ?_, ?_⟩ r v hres.rep
    · intro b hb hlb
      refine ⟨?_, rfl⟩
      by_cases hbw : b < w.heap.size
      · rw [hold b hbw, if_pos]
        rcases lend_or (E := E) (ob := keepO ks ob) b with hl | hl
        · exact hl
        · have := (hres.ext.ext b hbw hl).1
          rw [this] at hlb; cases hlb
      · rw [hnew b hbw, if_pos hlb]
    all_goals
      intro k hk
      have := (hres.dom k).1 hk
      simp at this
  · intro k o hk
    obtain ⟨h1, h2⟩ := dropO_get hk
    have hkl := getElem?_lt h1
    refine (hob k o h1).move hx ((hdom k).2 hkl) ?_
    rintro (hl | hl) hb
    · refine ⟨hsame _ hb, ?_⟩
      rw [hold _ hb, if_neg]
      intro hi
      rcases lend_imm.1 hi with h3 | ⟨k', o', h3, h4, h5, h6⟩
      · rw [hl] at h3; cases h3
      · have := lend_lab (hob k' _ (keepO_get h4).1) h5
        rw [h6, hl] at this
        injection this with this
        exact h2 (this ▸ (keepO_get h4).2)
    · refine ⟨hsame _ hb, ?_⟩
      rw [hold _ hb, if_pos (lend_imm.2 (.inl hl))]; exact hl.symm
  · intro b hb
    rw [hnew b (by have := hres.ext.size; omega), if_pos (hres.fresh b hb)]
end Go.Proofs.VL

namespace Go.Proofs.VL
open Go Go.RowKit
theorem dropO_one (k : Nat) (ob : List (Option VObj)) : dropO [k] ob = ob.set k none := by
  apply List.ext_getElem?
  intro i
  simp only [dropO, List.getElem?_map, List.getElem?_zipIdx, List.getElem?_set, Nat.zero_add]
  by_cases h : k = i
  · subst h
    by_cases h2 : k < ob.length
    · rw [List.getElem?_eq_getElem h2]; simp [h2]
    · rw [List.getElem?_eq_none (by omega)]; simp [h2]
  · have h3 : i ≠ k := fun e => h e.symm
    rw [if_neg h]
    cases ob[i]? with
    | none => rfl
    | some o => simp [h3]
/-- An own array is handed over, and is gone. -/
theorem VFn.eat1 {P : Program} {g : FuncId} {as args : List V} {r : V} {ob : List (Option VObj)} (h : VFn P g as r) (k : Nat) (hl : lendL (keepO [k] ob) args = some as) : VCall P g args ob r (ob.set k none) := dropO_one k ob ▸ VFn.eat h [k] hl
theorem lend_2 {ob : List (Option VObj)} {x y y' : V} (h : lendV ob y = some y') {sz : Nat} {rows : List (List V)} (hx : x = .sl sz rows := by rfl) : lendL ob [x, y] = some [x, y'] := by
  subst hx
  simp only [lendL, lendV, h]
mutual
theorem wfV_mono {n m : Nat} (h : n ≤ m) : (x : V) → wfV n x = true → wfV m x = true
  | .ref k _, hx => by simp only [wfV, decide_eq_true_eq] at hx ⊢; omega
  | .ptr k _, hx => by simp only [wfV, decide_eq_true_eq] at hx ⊢; omega
  | .eptr k _ _ _, hx => by simp only [wfV, decide_eq_true_eq] at hx ⊢; omega
  | .mapr k, hx => by simp only [wfV, decide_eq_true_eq] at hx ⊢; omega
  | .refs k _ _ _, hx => by simp only [wfV, decide_eq_true_eq] at hx ⊢; omega
  | .agg cs, hx => by simp only [wfV] at hx ⊢; exact wfL_mono h cs hx
  | .tup cs, hx => by simp only [wfV] at hx ⊢; exact wfL_mono h cs hx
  | .fn _ a b, hx => by simp only [wfV, Bool.and_eq_true] at hx ⊢; exact ⟨wfL_mono h a hx.1, wfL_mono h b hx.2⟩
  | .bool _, _ | .int _ _, _ | .str _, _ | .nils, _ | .sl _ _, _ | .iptr _, _ | .nilp, _ | .nilm, _ | .nilf, _ | .nili, _ | .junk, _ => by simp only [wfV]
theorem wfL_mono {n m : Nat} (h : n ≤ m) : (xs : List V) → wfL n xs = true → wfL m xs = true
  | [], _ => rfl
  | x :: xs, hx => by simp only [wfL, Bool.and_eq_true] at hx ⊢; exact ⟨wfV_mono h x hx.1, wfL_mono h xs hx.2⟩
end
theorem SubM.refE {ms : FM} {j k a b : Nat} (h : ms.ms[k]? = some (some j)) (e : a = b) : SubM ms (.ref j a) (.ref k b) := e ▸ .ref h
theorem SubM.lentA {m : FM} {k n sz : Nat} {rows : List (List V)} (h : m.fz k = some (sz, rows)) (e : n = rows.length) : SubM m (.ref k n) (.sl sz rows) := .lent h (by omega) (by rw [e, List.take_length])
theorem SubML.same {ms : FM} : ∀ (xs : List V), wfL 0 xs = true → SubML ms xs xs
  | [], _ => .nil
  | x :: xs, h => by
    simp only [wfL, Bool.and_eq_true] at h
    exact .cons (.same x h.1) (SubML.same xs h.2)
end Go.Proofs.VL

namespace Go.Proofs.VL
open Go Go.RowKit

/-- A callee may know the caller's nil slices as own arrays of no row. -/
theorem VCall.adopt {P : Program} {f : FuncId} {args args1 : List V} {ob ob1 : List (Option VObj)} {r : V} {ob' : List (Option VObj)} (h : VCall P f args1 ob1 r ob') (hlen : args1.length = args.length)
    (hfg : (St.init args ob).fg { tm := (St.init args1 []).tm, ob := ob1, base := ob.length }) : VCall P f args ob r ob' := by
  refine ⟨h.1, fun w E vs hdom hob hf hv => ?_⟩
  have hvl := hv.length
  have h0 := Rel.init (nt := args.length) (Nat.le_refl _) hdom hob hf hv
  obtain ⟨E1, h1⟩ := h0.forget hfg
  have hargs : RepL w E1 args1 vs := by
    refine RepL.of_get (by omega) ?_
    intro i x v hx hv
    have h2 := h1.tmps i
    have hg : (St.mk (St.init args1 []).tm ob1 ob.length).get i = x := by
      have := init_get (args := args1) (ob := []) i
      show (((St.init args1 []).tm.lookup i).getD .junk) = x
      have e : ((St.init args1 []).tm.lookup i).getD .junk = (args1[i]?).getD .junk := this
      rw [e, hx]; rfl
    rw [hg] at h2
    have he : ((⟨vs⟩ : Array Value) ++ Array.replicate (args.length - (⟨vs⟩ : Array Value).size) undef).getD i undef = v := by
      have hil : i < vs.length := (List.getElem?_eq_some_iff.1 hv).1
      rw [Array.getD_eq_getD_getElem?, Array.getElem?_append_left (by simpa using hil)]
      simp [hv]
    rwa [he] at h2
  refine (h.2 w E1 vs h1.dom h1.objs h1.fresh hargs).mono ?_
  rintro e w' ⟨v, E', rfl, hres⟩
  exact ⟨v, E', rfl, h1.ext.ofBare.trans hres.ext, hres.dom, hres.rep, hres.objs, hres.fresh⟩
end Go.Proofs.VL

namespace Go.Proofs.VL
open Go Go.RowKit
set_option linter.unusedSimpArgs false
set_option linter.unusedVariables false

/-! ### a call over few objects, in a region that draws its order -/
def atF (m : Nat → Nat) (ob : List (Option VObj)) (nm : List Nat) : List Nat → List (Option VObj) → Prop
  | j :: js, some o :: os => (j < ob.length ∧ j ∈ nm ∧ ob[j]? = some (some (renO m o))) ∧ atF m ob nm js os
  | j :: js, none :: os => (j < ob.length ∧ j ∈ nm) ∧ atF m ob nm js os
  | [], [] => True
  | _, _ => False

theorem atF_get {m : Nat → Nat} {ob : List (Option VObj)} {nm : List Nat} : ∀ {ms : List Nat} {obs : List (Option VObj)}, atF m ob nm ms obs → ms.length = obs.length ∧ ∀ (i j : Nat), ms[i]? = some j → j < ob.length ∧ j ∈ nm ∧ ∀ o, obs[i]? = some (some o) → ob[j]? = some (some (renO m o))
  | [], [], _ => ⟨rfl, fun i j h => by simp at h⟩
  | [], _ :: _, h => h.elim
  | j :: js, [], h => h.elim
  | j :: js, some o :: os, h => by
    obtain ⟨⟨h1, h2, h3⟩, h⟩ := h
    obtain ⟨g1, g2⟩ := atF_get h
    refine ⟨by simp [g1], fun i q hq => ?_⟩
    cases i with
    | zero => simp at hq; subst hq; exact ⟨h1, h2, fun o' ho => by simp at ho; subst ho; exact h3⟩
    | succ i => exact g2 i q (by simpa using hq)
  | j :: js, none :: os, h => by
    obtain ⟨⟨h1, h2⟩, h⟩ := h
    obtain ⟨g1, g2⟩ := atF_get h
    refine ⟨by simp [g1], fun i q hq => ?_⟩
    cases i with
    | zero => simp at hq; subst hq; exact ⟨h1, h2, fun o' ho => by simp at ho⟩
    | succ i => exact g2 i q (by simpa using hq)

/-- The call of a contract over few objects; behind it the list has as many objects as before, or the new ones are named by the result. -/
theorem vk_callS {P : Program} {os : List (Option (Bool × Bool) × VOper)} {c : VC} {fs : List Fr} {Q : VX → St → Prop} {s : St} {d : Option Nat} {f : X} {args : List X} {g : FuncId} {first caps : List V} {args0 : List V} {obs obs' : List (Option VObj)} {r0 : V} (ms : List Nat) (hf : s.x f = .fn g first caps) (hc : VCall P g args0 obs r0 obs')
    (ha : first ++ args.map s.x ++ caps = renL (nameOf ms s.ob.length) args0) (nd : ms.Nodup) (at_ : atF (nameOf ms s.ob.length) s.ob (namesL (renL (nameOf ms s.ob.length) args0)) ms obs)
    (wfa : wfL obs.length args0 = true) (wfo : wfOb obs.length obs = true) (wfr : wfV obs'.length r0 = true) (wfo' : wfOb obs'.length obs' = true) (le : obs.length ≤ obs'.length)
    (news : ∀ k, s.ob.length ≤ k → k < (putObs (nameOf ms s.ob.length) s.ob ms obs').length → k ∈ (renV (nameOf ms s.ob.length) r0).names)
    (h : vk P os c fs Q (({ s with ob := putObs (nameOf ms s.ob.length) s.ob ms obs' } : St).putO d (renV (nameOf ms s.ob.length) r0))) : vk P ((some (false, true), ⟨d, .call f args, none⟩) :: os) c fs Q s :=
  vk_callF (ms := ms) (args0 := args0) (obs := obs) (obs' := obs') (r0 := r0) hf
    { call := hc, len := (atF_get at_).1, nodup := nd, at_ := by rw [ha]; exact (atF_get at_).2, wfa := wfa, wfo := wfo, wfr := wfr, wfo' := wfo', le := le, args := ha, res := rfl, obj := rfl, news := news } h

/-- The same in a region that keeps its order. -/
theorem vk_callS0 {P : Program} {os : List (Option (Bool × Bool) × VOper)} {c : VC} {fs : List Fr} {Q : VX → St → Prop} {s : St} {d : Option Nat} {f : X} {args : List X} {g : FuncId} {first caps : List V} {args0 : List V} {obs obs' : List (Option VObj)} {r0 : V} (ms : List Nat) (hf : s.x f = .fn g first caps) (hc : VCall P g args0 obs r0 obs')
    (ha : first ++ args.map s.x ++ caps = renL (nameOf ms s.ob.length) args0) (nd : ms.Nodup) (at_ : atF (nameOf ms s.ob.length) s.ob ms ms obs)
    (wfa : wfL obs.length args0 = true) (wfo : wfOb obs.length obs = true) (wfr : wfV obs'.length r0 = true) (wfo' : wfOb obs'.length obs' = true) (le : obs.length ≤ obs'.length)
    (h : vk P os c fs Q (({ s with ob := putObs (nameOf ms s.ob.length) s.ob ms obs' } : St).putO d (renV (nameOf ms s.ob.length) r0))) : vk P ((none, ⟨d, .call f args, none⟩) :: os) c fs Q s := by
  refine vk_call hf (r := renV (nameOf ms s.ob.length) r0) (ob' := putObs (nameOf ms s.ob.length) s.ob ms obs') ?_ h
  rw [ha]
  exact hc.frame ms s.ob ⟨(atF_get at_).1, nd, fun i j hij => ⟨((atF_get at_).2 i j hij).1, ((atF_get at_).2 i j hij).2.2⟩⟩ wfa wfo wfr wfo' le

/-- A call that knows but one box, wherever the box lies. -/
theorem box_at {P : Program} {f : FuncId} {args : List V} {c c' : List V} {r : V} (h : VCall P f (.ptr 0 0 :: args) [some (.box c)] r [some (.box c')]) (ha : wfL 0 args = true) (hc : wfL 0 c = true) (hc' : wfL 0 c' = true) (hr : wfV 0 r = true) {B : List (Option VObj)} {k : Nat}
    (h0 : B[k]? = some (some (.box c))) : VCall P f (.ptr k 0 :: args) B r (B.set k (some (.box c'))) := by
  have id0 : ∀ (i : Nat), i < 0 → nameOf [k] B.length i = i := fun i hi => by omega
  have hf := VCall.frame h [k] B ⟨rfl, by simp, fun i j hj => by
    match i, hj with
    | 0, hj => simp at hj; subst hj; exact ⟨getElem?_lt h0, fun o' ho => by simp at ho; subst ho; rw [renO, renL_id id0 c hc]; exact h0⟩
    | i + 1, hj => simp at hj⟩ (by simp only [wfL, wfV, Bool.and_eq_true]; exact ⟨rfl, wfL_mono (Nat.zero_le _) args ha⟩) (by simp [wfOb, wfO, wfL_mono (Nat.zero_le _) c hc]) (wfV_mono (Nat.zero_le _) r hr) (by simp [wfOb, wfO, wfL_mono (Nat.zero_le _) c' hc']) (Nat.le_refl _)
  have e : putObs (nameOf [k] B.length) B [k] [some (.box c')] = B.set k (some (.box c')) := by
    simp [putObs, renO, renL_id id0 c' hc']
  rw [e, renV_id id0 r hr] at hf
  have e2 : renL (nameOf [k] B.length) (.ptr 0 0 :: args) = .ptr k 0 :: args := by
    rw [renL, renV, renL_id id0 args ha]; rfl
  rwa [e2] at hf

/-- The same in a region that draws its order. -/
theorem vk_callB {P : Program} {os : List (Option (Bool × Bool) × VOper)} {cc : VC} {fs : List Fr} {Q : VX → St → Prop} {s : St} {d : Option Nat} {f : X} {xs : List X} {g : FuncId} {first caps : List V} {args : List V} {c c' : List V} {r : V} {k : Nat} (hf : s.x f = .fn g first caps) (h : VCall P g (.ptr 0 0 :: args) [some (.box c)] r [some (.box c')]) (he : first ++ xs.map s.x ++ caps = .ptr k 0 :: args)
    (h0 : s.ob[k]? = some (some (.box c))) (ha : wfL 0 args = true) (hc : wfL 0 c = true) (hc' : wfL 0 c' = true) (hr : wfV 0 r = true)
    (hh : vk P os cc fs Q (({ s with ob := s.ob.set k (some (.box c')) } : St).putO d r)) : vk P ((some (false, true), ⟨d, .call f xs, none⟩) :: os) cc fs Q s := by
  have id0 : ∀ (i : Nat), i < 0 → nameOf [k] s.ob.length i = i := fun i hi => by omega
  have e2 : renL (nameOf [k] s.ob.length) (.ptr 0 0 :: args) = .ptr k 0 :: args := by
    rw [renL, renV, renL_id id0 args ha]; rfl
  have e : putObs (nameOf [k] s.ob.length) s.ob [k] [some (.box c')] = s.ob.set k (some (.box c')) := by
    simp [putObs, renO, renL_id id0 c' hc']
  refine vk_callS [k] hf h (by rw [he, e2]) (by simp) ?_ (by simp only [wfL, wfV, Bool.and_eq_true]; exact ⟨rfl, wfL_mono (Nat.zero_le _) args ha⟩) (by simp [wfOb, wfO, wfL_mono (Nat.zero_le _) c hc]) (wfV_mono (Nat.zero_le _) r hr) (by simp [wfOb, wfO, wfL_mono (Nat.zero_le _) c' hc']) (Nat.le_refl _) ?_ ?_
  · refine ⟨⟨getElem?_lt h0, ?_, ?_⟩, trivial⟩
    · rw [e2]; simp [namesL, V.names]
    · rw [renO, renL_id id0 c hc]; exact h0
  · intro i h1 h2; rw [e, List.length_set] at h2; omega
  · rw [e, renV_id id0 r hr]; exact hh
end Go.Proofs.VL

namespace Go.Proofs.VL
open Go Go.RowKit

/-- A contract of the kit's own, in our words. -/
theorem VFn.ofCalls {P : Program} {f : FuncId} {args : List V} {r : V} (he : Enter P f) (h : ∀ (w : World) (E : Env) (vs : List Value), RepL w E args vs → ∃ v, Rep w E r v ∧ Calls P f ⟨vs⟩ w fun e w' => e = .returned v ∧ w' = w) : VFn P f args r :=
  ⟨he, fun w E vs hdom hob hf hr => by
    obtain ⟨v, hrep, hc⟩ := h w E vs hr
    exact hc.mono (by rintro e w' ⟨rfl, rfl⟩; exact ⟨v, E, rfl, ⟨Ext.refl _ _, hdom, hrep, hob, hf⟩⟩)⟩
end Go.Proofs.VL

namespace Go.Proofs.VL
open Go Go.RowKit
set_option linter.unusedSimpArgs false
set_option linter.unusedVariables false

/-- A contract that says less of its result. -/
theorem VCall.less {P : Program} {f : FuncId} {args : List V} {ob ob' ob2 : List (Option VObj)} {r r2 : V} (h : VCall P f args ob r ob') (hfg : (St.mk [(0, r)] ob' ob.length).fg (St.mk [(0, r2)] ob2 ob.length)) : VCall P f args ob r2 ob2 := by
  refine ⟨h.1, fun w E vs hdom hob hf hv => ?_⟩
  refine (h.2 w E vs hdom hob hf hv).mono ?_
  rintro e w' ⟨v, E', rfl, hres⟩
  have h3 : Rel w E.dry 1 (St.mk [(0, r)] ob' ob.length) { tmps := #[v], defers := [] } w' E' := by
    refine ⟨rfl, rfl, fun t => ?_, hres.dom, hres.objs, hres.fresh, hres.ext.toBare, fun k hk => (hdom k).1 hk⟩
    cases t with
    | zero => exact hres.rep
    | succ t => simp [St.get, List.lookup, Rep]
  obtain ⟨E2, h4⟩ := h3.forget hfg
  exact ⟨v, E2, rfl, h4.ext.ofBare, h4.dom, h4.tmps 0, h4.objs, h4.fresh⟩

/-- A contract over no objects serves in any list of objects; what it makes stands behind. -/
theorem VCall.app {P : Program} {f : FuncId} {args : List V} {obs' : List (Option VObj)} {r : V} (h : VCall P f args [] r obs') (B : List (Option VObj)) (hwa : wfL 0 args = true) (hwr : wfV obs'.length r = true) (hwo' : wfOb obs'.length obs' = true) :
    VCall P f args B (renV (fun k => B.length + k) r) (B ++ obs'.map (Option.map (renO fun k => B.length + k))) := by
  have hf := VCall.frame h [] B ⟨rfl, by simp, fun i j hj => by simp at hj⟩ hwa rfl hwr hwo' (Nat.zero_le _)
  have hn : nameOf [] B.length = fun k => B.length + k := by funext k; simp [nameOf]
  rw [hn] at hf
  have ha : renL (fun k => B.length + k) args = args := renL_id (n := 0) (fun k hk => by omega) args hwa
  rw [ha] at hf
  have hp : putObs (fun k => B.length + k) B [] obs' = B ++ obs'.map (Option.map (renO fun k => B.length + k)) := by
    simp [putObs]
  rw [hp] at hf
  exact hf
end Go.Proofs.VL

namespace Go.Proofs.VL
open Go Go.RowKit
set_option linter.unusedSimpArgs false
set_option linter.unusedVariables false
noncomputable section

/-! ### carrying out code on what is known -/
abbrev Obs := List (Option VObj)

/-- A contract whose own objects are lent at the end. -/
theorem VCall.lent {P : Program} {f : FuncId} {args : List V} {ob' : Obs} {r y : V} (h : VCall P f args [] r ob') (hl : lendV ob' r = some y) : VFn P f args y := by
  refine ⟨h.1, fun w E vs hdom hob hf hv => (h.2 w E vs hdom hob hf hv).mono ?_⟩
  rintro e w' ⟨v, E', rfl, hres⟩
  have hrep := lend_rep (fun k o _ => hres.objs k o) r y v hl hres.rep
  have hx := hres.ext
  have hd0 : ∀ k, ¬ E.dom k := fun k hk => by have := (hdom k).1 hk; simp at this
  refine ⟨v, E'.lend ob', rfl, ?_, fun k => by simp [Env.lend], hrep, fun k o hk => by simp at hk, fun b hb => lend_imm.2 (.inl (hres.fresh b hb))⟩
  refine ⟨hx.os, hx.tape, hx.output, hx.size, ?_, ?_, fun k hk => absurd hk (hd0 k), fun k hk => absurd hk (hd0 k), fun k hk => absurd hk (hd0 k), fun k hk => absurd hk (hd0 k)⟩
  · intro b hb hl
    obtain ⟨q1, q2⟩ := hx.imm b hb hl
    exact ⟨lend_imm.2 (.inl q1), q2⟩
  · intro b hb hl
    obtain ⟨q1, q2⟩ := hx.ext b hb hl
    refine ⟨?_, q2⟩
    rcases lend_or (E := E') (ob := ob') b with h3 | h3
    · rcases lend_imm.1 h3 with h4 | ⟨k, o, hk, ho, hnk, hbk⟩
      · rw [q1] at h4; cases h4
      · have := lend_lab (hres.objs k _ ho) hnk
        rw [hbk, q1] at this; cases this
    · exact h3

abbrev Orac := FuncId → List V → Obs → Option (V × Obs)

def gt (t : Nat) (l : List (Nat × V)) : V := List.rec .junk (fun p _ ih => match Nat.beq t p.1 with | true => p.2 | false => ih) l

theorem gt_eq (t : Nat) (l : List (Nat × V)) : gt t l = (l.lookup t).getD .junk := by
  induction l with
  | nil => rfl
  | cons p l ih =>
    show (match Nat.beq t p.1 with | true => p.2 | false => gt t l) = _
    obtain ⟨a, b⟩ := p
    simp only [List.lookup]
    have he : (t == a) = Nat.beq t a := by
      cases hb : Nat.beq t a
      · simpa using Nat.ne_of_beq_eq_false hb
      · simpa using Nat.eq_of_beq_eq_true hb
    rw [he]
    cases Nat.beq t a
    · exact ih
    · rfl

def gx (l : List (Nat × V)) (x : X) : V := match x with | .t n => gt n l | .c v => v

theorem gx_eq (s : St) : gx s.tm = s.x := by
  funext x
  cases x with
  | t n => exact gt_eq n s.tm
  | c v => rfl

def pv (o : Option V) (ob : Obs) : Option (V × Obs) := match o with | some v => some (v, ob) | none => none
def r_mv (x : X) (ρ : X → V) (ob : Obs) : Option (V × Obs) := some (ρ x, ob)
def r_pick (c a b : X) (ρ : X → V) (ob : Obs) : Option (V × Obs) := pv (evPick (ρ c) (ρ a) (ρ b)) ob
def r_bin (op : BinOp) (x y : X) (ρ : X → V) (ob : Obs) : Option (V × Obs) := pv (evBin op (ρ x) (ρ y)) ob
def r_eqb (neg : Bool) (x y : X) (ρ : X → V) (ob : Obs) : Option (V × Obs) := pv (evEqb neg (ρ x) (ρ y)) ob
def r_eqn (kd : NK) (neg : Bool) (x y : X) (ρ : X → V) (ob : Obs) : Option (V × Obs) := pv (evEqn kd neg (ρ x) (ρ y)) ob
def r_eqa (neg : Bool) (ks : List FK) (x y : X) (ρ : X → V) (ob : Obs) : Option (V × Obs) := VO.run (.eqa neg ks x y) ρ ob
def r_un (op : UnOp) (x : X) (ρ : X → V) (ob : Obs) : Option (V × Obs) := pv (evUn op (ρ x)) ob
def r_cint (k : IntKind) (x : X) (ρ : X → V) (ob : Obs) : Option (V × Obs) := pv (evCint k (ρ x)) ob
def r_cstr (x : X) (ρ : X → V) (ob : Obs) : Option (V × Obs) := VO.run (.cstr x) ρ ob
def r_build (zero : List V) (parts : List (Nat × Nat × X)) (ρ : X → V) (ob : Obs) : Option (V × Obs) := pv ((fillV ρ zero parts).map .agg) ob
def r_nilck (x : X) (ρ : X → V) (ob : Obs) : Option (V × Obs) := pv (evNilck (ρ x)) ob
def r_fadr (off : Nat) (x : X) (ρ : X → V) (ob : Obs) : Option (V × Obs) := pv (evFadr off (ρ x)) ob
def r_fld (off sz : Nat) (agg : Bool) (x : X) (ρ : X → V) (ob : Obs) : Option (V × Obs) := pv (evFld off sz agg (ρ x)) ob
def r_iadr (arr : Option Nat) (sz : Nat) (x i : X) (ρ : X → V) (ob : Obs) : Option (V × Obs) := match arr with | none => pv (evIadr sz (ρ x) (ρ i)) ob | some len => pv (evIadrA len sz (ρ x) (ρ i)) ob
def r_idxs (x i : X) (ρ : X → V) (ob : Obs) : Option (V × Obs) := pv (evIdxs (ρ x) (ρ i)) ob
def r_idxa (len sz : Nat) (agg : Bool) (x i : X) (ρ : X → V) (ob : Obs) : Option (V × Obs) := VO.run (.idxa len sz agg x i) ρ ob
def r_slcs (x : X) (lo hi : Option X) (ρ : X → V) (ob : Obs) : Option (V × Obs) := VO.run (.slcs x lo hi) ρ ob
def r_slc (sz : Nat) (x : X) (lo hi mx : Option X) (ρ : X → V) (ob : Obs) : Option (V × Obs) := VO.run (.slc sz x lo hi mx) ρ ob
def r_ext (x : X) (i : Nat) (ρ : X → V) (ob : Obs) : Option (V × Obs) := pv (evExt i (ρ x)) ob
def r_fn (f : FuncId) (first caps : List X) (ρ : X → V) (ob : Obs) : Option (V × Obs) := some (.fn f (first.map ρ) (caps.map ρ), ob)
def r_ln (st : Bool) (x : X) (ρ : X → V) (ob : Obs) : Option (V × Obs) := pv (match st with | true => evLns (ρ x) | false => evLn (ρ x)) ob
def r_mm (mx : Bool) (xs : List X) (ρ : X → V) (ob : Obs) : Option (V × Obs) := VO.run (.mm mx xs) ρ ob
def r_alloc (zero : List V) (ρ : X → V) (ob : Obs) : Option (V × Obs) := some (.ptr ob.length 0, ob ++ [some (.box zero)])
def r_box (x : X) (ρ : X → V) (ob : Obs) : Option (V × Obs) := match (ρ x).ok with | true => some (.ptr ob.length 0, ob ++ [some (.box (ρ x).cells)]) | false => none
def r_boxI (x : X) (ρ : X → V) (ob : Obs) : Option (V × Obs) := VO.run (.boxI x) ρ ob
def r_load (agg : Bool) (sz : Nat) (x : X) (ρ : X → V) (ob : Obs) : Option (V × Obs) := pv ((loadFrom ob (ρ x)).bind (loadV agg sz)) ob
def r_bsl (own : Bool) (e sz len : Nat) (zero : List V) (parts : List (Nat × X)) (ρ : X → V) (ob : Obs) : Option (V × Obs) := VO.run (.bsl own e sz len zero parts) ρ ob
def r_msl (e sz bytes : Nat) (zero : List V) (len cap : X) (ρ : X → V) (ob : Obs) : Option (V × Obs) := VO.run (.msl e sz bytes zero len cap) ρ ob
def r_b2s (x : X) (ρ : X → V) (ob : Obs) : Option (V × Obs) := VO.run (.b2s x) ρ ob
def r_s2b (e : Nat) (x : X) (ρ : X → V) (ob : Obs) : Option (V × Obs) := VO.run (.s2b e x) ρ ob
def r_store (sz : Nat) (a x : X) (ρ : X → V) (ob : Obs) : Option (V × Obs) := match evStore sz ob (ρ a) (ρ x) with | some ob' => some (.junk, ob') | none => none
def r_app (e sz bytes : Nat) (x y : X) (ρ : X → V) (ob : Obs) : Option (V × Obs) := VO.run (.app e sz bytes x y) ρ ob
def r_apps (e : Nat) (x y : X) (ρ : X → V) (ob : Obs) : Option (V × Obs) := VO.run (.apps e x y) ρ ob
def r_mkmap (l : List X) (ρ : X → V) (ob : Obs) : Option (V × Obs) := VO.run (.mkmap l) ρ ob
def r_look (ck : Bool) (kd : MK) (zero : V) (x i : X) (ρ : X → V) (ob : Obs) : Option (V × Obs) := VO.run (.look ck kd zero x i) ρ ob
def r_rng (x : X) (ρ : X → V) (ob : Obs) : Option (V × Obs) := VO.run (.rng x) ρ ob
def r_nxt (x : X) (ρ : X → V) (ob : Obs) : Option (V × Obs) := match nxtV ρ ob x with | some [p] => some p | _ => none
def r_ent (x : X) (ρ : X → V) (ob : Obs) : Option (V × Obs) := match entV ρ ob x with | some v => some (v, ob) | none => none
def r_upd (kd : MK) (m k x : X) (ρ : X → V) (ob : Obs) : Option (V × Obs) := VO.run (.upd kd m k x) ρ ob
def r_del (kd : MK) (m k : X) (ρ : X → V) (ob : Obs) : Option (V × Obs) := VO.run (.del kd m k) ρ ob
def r_clr (sz : Nat) (zero : List V) (x : X) (ρ : X → V) (ob : Obs) : Option (V × Obs) := VO.run (.clr sz zero x) ρ ob
def r_call (C : Orac) (f : X) (args : List X) (ρ : X → V) (ob : Obs) : Option (V × Obs) := match ρ f with | .fn g first caps => C g (first ++ args.map ρ ++ caps) ob | _ => none
/-- An operation in a region of one order. -/
def evO (C : Orac) (o : VO) : (X → V) → Obs → Option (V × Obs) := VO.rec (motive := fun _ => (X → V) → Obs → Option (V × Obs)) r_mv r_pick r_bin r_eqb r_eqn r_eqa r_un r_cint r_cstr r_build r_nilck r_fadr r_fld r_iadr r_idxs r_idxa r_slcs r_slc r_ext r_fn r_ln r_mm r_alloc r_box r_boxI r_load r_bsl r_msl r_b2s r_s2b (r_call C) r_store r_app r_apps r_mkmap r_look r_rng r_nxt r_ent r_upd r_del r_clr o
theorem r_mv_eq (x : X) (ρ : X → V) (ob : Obs) : r_mv x ρ ob = VO.run (.mv x) ρ ob := by
    simp [r_mv, VO.run, VO.evR, VO.evP]
theorem r_pick_eq (c a b : X) (ρ : X → V) (ob : Obs) : r_pick c a b ρ ob = VO.run (.pick c a b) ρ ob := by
    simp only [r_pick, VO.run, VO.evR, VO.evP]; cases ρ c <;> simp [evPick, pv]
theorem r_bin_eq (op : BinOp) (x y : X) (ρ : X → V) (ob : Obs) : r_bin op x y ρ ob = VO.run (.bin op x y) ρ ob := by
    simp only [r_bin, VO.run, VO.evR, VO.evP]; cases evBin op (ρ x) (ρ y) <;> simp [pv]
theorem r_eqb_eq (neg : Bool) (x y : X) (ρ : X → V) (ob : Obs) : r_eqb neg x y ρ ob = VO.run (.eqb neg x y) ρ ob := by
    simp only [r_eqb, VO.run, VO.evR, VO.evP]; cases ρ x <;> cases ρ y <;> simp [evEqb, pv]
theorem r_eqn_eq (kd : NK) (neg : Bool) (x y : X) (ρ : X → V) (ob : Obs) : r_eqn kd neg x y ρ ob = VO.run (.eqn kd neg x y) ρ ob := by
    have h1 : VO.evR (.eqn kd neg x y) ρ ob = (evEqn kd neg (ρ x) (ρ y)).map fun v => (v, []) := rfl
    simp only [r_eqn, VO.run, h1]; cases evEqn kd neg (ρ x) (ρ y) <;> simp [pv]
theorem r_eqa_eq (neg : Bool) (ks : List FK) (x y : X) (ρ : X → V) (ob : Obs) : r_eqa neg ks x y ρ ob = VO.run (.eqa neg ks x y) ρ ob := rfl
theorem r_un_eq (op : UnOp) (x : X) (ρ : X → V) (ob : Obs) : r_un op x ρ ob = VO.run (.un op x) ρ ob := by
    simp only [r_un, VO.run, VO.evR, VO.evP]; cases evUn op (ρ x) <;> simp [pv]
theorem r_cint_eq (k : IntKind) (x : X) (ρ : X → V) (ob : Obs) : r_cint k x ρ ob = VO.run (.cint k x) ρ ob := by
    simp only [r_cint, VO.run, VO.evR, VO.evP]; cases ρ x <;> simp [evCint, pv]
theorem r_cstr_eq (x : X) (ρ : X → V) (ob : Obs) : r_cstr x ρ ob = VO.run (.cstr x) ρ ob := rfl
theorem r_build_eq (zero : List V) (parts : List (Nat × Nat × X)) (ρ : X → V) (ob : Obs) : r_build zero parts ρ ob = VO.run (.build zero parts) ρ ob := by
    simp only [r_build, VO.run, VO.evR, VO.evP]; cases fillV ρ zero parts <;> simp [pv]
theorem r_nilck_eq (x : X) (ρ : X → V) (ob : Obs) : r_nilck x ρ ob = VO.run (.nilck x) ρ ob := by
    simp only [r_nilck, VO.run, VO.evR, VO.evP]; cases ρ x <;> simp [evNilck, pv]
theorem r_fadr_eq (off : Nat) (x : X) (ρ : X → V) (ob : Obs) : r_fadr off x ρ ob = VO.run (.fadr off x) ρ ob := by
    simp only [r_fadr, VO.run, VO.evR, VO.evP]; cases ρ x <;> simp [evFadr, pv]
theorem r_fld_eq (off sz : Nat) (agg : Bool) (x : X) (ρ : X → V) (ob : Obs) : r_fld off sz agg x ρ ob = VO.run (.fld off sz agg x) ρ ob := by
    have h1 : (VO.fld off sz agg x).evP ρ = evFld off sz agg (ρ x) := by
      simp only [VO.evP]
      cases ρ x <;> rfl
    simp only [r_fld, VO.run, VO.evR, h1]; cases evFld off sz agg (ρ x) <;> simp [pv]
theorem r_iadr_eq (arr : Option Nat) (sz : Nat) (x i : X) (ρ : X → V) (ob : Obs) : r_iadr arr sz x i ρ ob = VO.run (.iadr arr sz x i) ρ ob := by
    cases arr with
    | none =>
      have : (VO.iadr none sz x i).evP ρ = evIadr sz (ρ x) (ρ i) := by
        simp only [VO.evP]
        cases ρ i <;> cases ρ x <;> simp only [evIadr] <;> (try rfl) <;> (try (split <;> rfl))
        rename_i k n sz' rows
        split
        · split
          · cases rows[n.toNat]? <;> rfl
          · rfl
        · rfl
      simp only [r_iadr, VO.run, VO.evR, this]; cases evIadr sz (ρ x) (ρ i) <;> simp [pv]
    | some len =>
      have : (VO.iadr (some len) sz x i).evP ρ = evIadrA len sz (ρ x) (ρ i) := by
        simp only [VO.evP]
        cases ρ i <;> cases ρ x <;> simp only [evIadrA] <;> (try rfl) <;> (split <;> rfl)
      simp only [r_iadr, VO.run, VO.evR, this]; cases evIadrA len sz (ρ x) (ρ i) <;> simp [pv]
theorem r_idxs_eq (x i : X) (ρ : X → V) (ob : Obs) : r_idxs x i ρ ob = VO.run (.idxs x i) ρ ob := by
    have h1 : (VO.idxs x i).evP ρ = evIdxs (ρ x) (ρ i) := by
      simp only [VO.evP]
      cases ρ x <;> cases ρ i <;> simp only [evIdxs]
      rename_i l k n
      split
      · cases l[n.toNat]? <;> rfl
      · rfl
    simp only [r_idxs, VO.run, VO.evR, h1]; cases evIdxs (ρ x) (ρ i) <;> simp [pv]
theorem r_idxa_eq (len sz : Nat) (agg : Bool) (x i : X) (ρ : X → V) (ob : Obs) : r_idxa len sz agg x i ρ ob = VO.run (.idxa len sz agg x i) ρ ob := rfl
theorem r_slcs_eq (x : X) (lo hi : Option X) (ρ : X → V) (ob : Obs) : r_slcs x lo hi ρ ob = VO.run (.slcs x lo hi) ρ ob := rfl
theorem r_slc_eq (sz : Nat) (x : X) (lo hi mx : Option X) (ρ : X → V) (ob : Obs) : r_slc sz x lo hi mx ρ ob = VO.run (.slc sz x lo hi mx) ρ ob := rfl
theorem r_ext_eq (x : X) (i : Nat) (ρ : X → V) (ob : Obs) : r_ext x i ρ ob = VO.run (.ext x i) ρ ob := by
    simp only [r_ext, VO.run, VO.evR, VO.evP]; cases ρ x <;> simp only [evExt, pv, Option.map_none]; rename_i cs; cases cs[i]? <;> simp
theorem r_fn_eq (f : FuncId) (first caps : List X) (ρ : X → V) (ob : Obs) : r_fn f first caps ρ ob = VO.run (.fn f first caps) ρ ob := by
    simp [r_fn, VO.run, VO.evR, VO.evP]
theorem r_ln_eq (st : Bool) (x : X) (ρ : X → V) (ob : Obs) : r_ln st x ρ ob = VO.run (.ln st x) ρ ob := by
    cases st <;> simp only [r_ln, VO.run, VO.evR, VO.evP] <;> cases ρ x <;> simp [evLns, evLn, pv]
theorem r_mm_eq (mx : Bool) (xs : List X) (ρ : X → V) (ob : Obs) : r_mm mx xs ρ ob = VO.run (.mm mx xs) ρ ob := rfl
theorem r_alloc_eq (zero : List V) (ρ : X → V) (ob : Obs) : r_alloc zero ρ ob = VO.run (.alloc zero) ρ ob := by
    simp [r_alloc, VO.run, VO.evR]
theorem r_box_eq (x : X) (ρ : X → V) (ob : Obs) : r_box x ρ ob = VO.run (.box x) ρ ob := by
    simp only [r_box, VO.run, VO.evR]; cases (ρ x).ok <;> simp
theorem r_boxI_eq (x : X) (ρ : X → V) (ob : Obs) : r_boxI x ρ ob = VO.run (.boxI x) ρ ob := rfl
theorem r_load_eq (agg : Bool) (sz : Nat) (x : X) (ρ : X → V) (ob : Obs) : r_load agg sz x ρ ob = VO.run (.load agg sz x) ρ ob := by
    simp only [r_load, VO.run, VO.evR]; cases (loadFrom ob (ρ x)).bind (loadV agg sz) <;> simp [pv]
theorem r_bsl_eq (own : Bool) (e sz len : Nat) (zero : List V) (parts : List (Nat × X)) (ρ : X → V) (ob : Obs) : r_bsl own e sz len zero parts ρ ob = VO.run (.bsl own e sz len zero parts) ρ ob := rfl
theorem r_msl_eq (e sz bytes : Nat) (zero : List V) (len cap : X) (ρ : X → V) (ob : Obs) : r_msl e sz bytes zero len cap ρ ob = VO.run (.msl e sz bytes zero len cap) ρ ob := rfl
theorem r_b2s_eq (x : X) (ρ : X → V) (ob : Obs) : r_b2s x ρ ob = VO.run (.b2s x) ρ ob := rfl
theorem r_s2b_eq (e : Nat) (x : X) (ρ : X → V) (ob : Obs) : r_s2b e x ρ ob = VO.run (.s2b e x) ρ ob := rfl
theorem r_store_eq (sz : Nat) (a x : X) (ρ : X → V) (ob : Obs) : r_store sz a x ρ ob = VO.run (.store sz a x) ρ ob := by
    have : (VO.store sz a x).run ρ ob = (evStore sz ob (ρ a) (ρ x)).map fun ob => (.junk, ob) := by
      simp only [VO.run, VO.evW, evStore]
      split
      · cases ρ a <;> simp only [Option.map_none]
        · rename_i k off
          cases ob[k]? with
          | none => rfl
          | some o => cases o with
            | none => rfl
            | some o => cases o <;> simp only [Option.map_none]; split <;> rfl
        · rename_i k i s' off
          cases ob[k]? with
          | none => rfl
          | some o => cases o with
            | none => rfl
            | some o =>
              cases o <;> simp only [Option.map_none]
              split
              · rename_i rows _
                cases rows[i]? with
                | none => rfl
                | some row => simp only; split <;> rfl
              · rfl
      · rfl
    rw [this]; simp only [r_store]; cases evStore sz ob (ρ a) (ρ x) <;> rfl
theorem r_app_eq (e sz bytes : Nat) (x y : X) (ρ : X → V) (ob : Obs) : r_app e sz bytes x y ρ ob = VO.run (.app e sz bytes x y) ρ ob := rfl
theorem r_apps_eq (e : Nat) (x y : X) (ρ : X → V) (ob : Obs) : r_apps e x y ρ ob = VO.run (.apps e x y) ρ ob := rfl
theorem r_mkmap_eq (l : List X) (ρ : X → V) (ob : Obs) : r_mkmap l ρ ob = VO.run (.mkmap l) ρ ob := rfl
theorem r_look_eq (ck : Bool) (kd : MK) (zero : V) (x i : X) (ρ : X → V) (ob : Obs) : r_look ck kd zero x i ρ ob = VO.run (.look ck kd zero x i) ρ ob := rfl
theorem r_rng_eq (x : X) (ρ : X → V) (ob : Obs) : r_rng x ρ ob = VO.run (.rng x) ρ ob := rfl
theorem r_upd_eq (kd : MK) (m k x : X) (ρ : X → V) (ob : Obs) : r_upd kd m k x ρ ob = VO.run (.upd kd m k x) ρ ob := rfl
theorem r_del_eq (kd : MK) (m k : X) (ρ : X → V) (ob : Obs) : r_del kd m k ρ ob = VO.run (.del kd m k) ρ ob := rfl
theorem r_clr_eq (sz : Nat) (zero : List V) (x : X) (ρ : X → V) (ob : Obs) : r_clr sz zero x ρ ob = VO.run (.clr sz zero x) ρ ob := rfl
/-- A call of values in a region that draws its order. -/
def evL (C : Orac) (g : FuncId) (args : List V) (ob : Obs) : Option V :=
  match lendL [] args with
  | some as => match C g as [] with
    | some (r, ob') => lendV ob' r
    | none => none
  | none => match lendL ob args with
    | some as => match C g as [] with
      | some (r, ob') => match lendV ob' r with | some y => if flatV y then some y else none | none => none
      | none => none
    | none => none

mutual
theorem renV_back {m v : Nat → Nat} : (x : V) → (∀ k ∈ x.names, m (v k) = k) → renV m (renV v x) = x
  | .ref k _, h => by simp only [renV]; rw [h k (by simp [V.names])]
  | .ptr k _, h => by simp only [renV]; rw [h k (by simp [V.names])]
  | .eptr k _ _ _, h => by simp only [renV]; rw [h k (by simp [V.names])]
  | .mapr k, h => by simp only [renV]; rw [h k (by simp [V.names])]
  | .refs k _ _ _, h => by simp only [renV]; rw [h k (by simp [V.names])]
  | .agg cs, h => by simp only [renV]; rw [renL_back cs (by simpa [V.names] using h)]
  | .tup cs, h => by simp only [renV]; rw [renL_back cs (by simpa [V.names] using h)]
  | .fn f a b, h => by
    simp only [V.names, List.mem_append] at h
    simp only [renV]
    rw [renL_back a (fun k hk => h k (.inl hk)), renL_back b (fun k hk => h k (.inr hk))]
  | .bool _, _ => rfl
  | .int _ _, _ => rfl
  | .str _, _ => rfl
  | .nils, _ => rfl
  | .sl _ _, _ => rfl
  | .iptr _, _ => rfl
  | .nilp, _ => rfl
  | .nilm, _ => rfl
  | .nilf, _ => rfl
  | .nili, _ => rfl
  | .junk, _ => rfl
theorem renL_back {m v : Nat → Nat} : (xs : List V) → (∀ k ∈ namesL xs, m (v k) = k) → renL m (renL v xs) = xs
  | [], _ => rfl
  | x :: xs, h => by
    simp only [namesL, List.mem_append] at h
    simp only [renL]
    rw [renV_back x (fun k hk => h k (.inl hk)), renL_back xs (fun k hk => h k (.inr hk))]
end
def namesO : VObj → List Nat
  | .box cs => namesL cs
  | .miter (some j) _ _ _ => [j]
  | _ => []
theorem renO_back {m v : Nat → Nat} (o : VObj) (h : ∀ k ∈ namesO o, m (v k) = k) : renO m (renO v o) = o := by
  cases o with
  | box cs => simp only [renO]; rw [renL_back cs h]
  | miter q a b c =>
    cases q with
    | none => rfl
    | some j => simp only [renO, Option.map_some]; rw [h j (by simp [namesO])]
  | arr e s r => rfl
  | fro s r => rfl
  | map e c => rfl
def undup : List Nat → List Nat
  | [] => []
  | x :: xs => match xs.any (Nat.beq x) with | true => undup xs | false => x :: undup xs
def idxN (k : Nat) : List Nat → Nat
  | [] => 0
  | x :: xs => match Nat.beq k x with | true => 0 | false => idxN k xs + 1
theorem idxN_get {k : Nat} : ∀ {l : List Nat}, l.any (Nat.beq k) = true → l[idxN k l]? = some k
  | [], h => by cases h
  | x :: xs, h => by
    simp only [idxN]
    cases hb : Nat.beq k x with
    | true => simp [Nat.eq_of_beq_eq_true hb]
    | false =>
      simp only [List.any_cons, hb, Bool.false_or] at h
      simpa using idxN_get h
/-- A call of a callee that is handed but some objects. -/
def evFC (C : Orac) (g : FuncId) (xs : List V) (ob : Obs) : Option (V × Obs) :=
  let ns := namesL xs
  let ms := undup ns
  let inv := fun k => idxN k ms
  let obs : Obs := ms.map fun j => match ob[j]? with
    | some (some o) => match (namesO o).all fun k => ms.any (Nat.beq k) with | true => some (renO inv o) | false => none
    | _ => none
  match nodupB ms && ms.all (fun j => Nat.ble (j + 1) ob.length && ns.any (Nat.beq j)) && ns.all (fun k => ms.any (Nat.beq k)) && wfL ms.length (renL inv xs) && wfOb ms.length obs with
  | false => none
  | true => match C g (renL inv xs) obs with
    | none => none
    | some (r0, obs0) => match (match Nat.ble ms.length obs0.length && (wfV ms.length r0 && wfOb ms.length (obs0.take ms.length)) with | true => obs0.take ms.length | false => obs0) with
      | obs1 => match Nat.ble ms.length obs1.length && wfV obs1.length r0 && wfOb obs1.length obs1 && (List.range (obs1.length - ms.length)).all (fun i => (renV (nameOf ms ob.length) r0).names.any (Nat.beq (ob.length + i))) with
        | false => none
        | true => some (renV (nameOf ms ob.length) r0, putObs (nameOf ms ob.length) ob ms obs1)

theorem evFC_call {P : Program} {C : Orac} (hC : ∀ g as ob r ob', C g as ob = some (r, ob') → VCall P g as ob r ob') {g : FuncId} {xs : List V} {ob : Obs} {r : V} {ob' : Obs} (h : evFC C g xs ob = some (r, ob')) : ∃ ms args0 obs obs' r0, FCall P ob g xs r ob' ms args0 obs obs' r0 := by
  unfold evFC at h
  simp only at h
  split at h <;> try (cases h; done)
  rename_i hb
  simp only [Bool.and_eq_true] at hb
  obtain ⟨⟨⟨⟨h1, h2⟩, h3⟩, h4⟩, h5⟩ := hb
  split at h <;> try (cases h; done)
  rename_i r0 obs0 hr
  have hcall := hC _ _ _ _ _ hr
  generalize hms : undup (namesL xs) = ms at *
  generalize hobs : (ms.map fun j => match ob[j]? with
    | some (some o) => match (namesO o).all fun k => ms.any (Nat.beq k) with | true => some (renO (fun k => idxN k ms) o) | false => none
    | _ => none : Obs) = obs at *
  have hlen : ms.length = obs.length := by rw [← hobs]; simp
  -- what is kept of the callee's objects
  have hcall2 : VCall P g (renL (fun k => idxN k ms) xs) obs r0 (match Nat.ble ms.length obs0.length && (wfV ms.length r0 && wfOb ms.length (obs0.take ms.length)) with | true => obs0.take ms.length | false => obs0) := by
    split
    · rename_i hb
      simp only [Bool.and_eq_true] at hb
      obtain ⟨q1, q2, q3⟩ := hb
      have q1 := Nat.le_of_ble_eq_true q1
      have hl : (obs0.take ms.length).length = ms.length := by rw [List.length_take]; omega
      refine VCall.trim (ob' := obs0.take ms.length) (extra := obs0.drop ms.length) ?_ (by omega) (by rw [hl]; exact q2) (by rw [hl]; exact q3)
      rw [List.take_append_drop]; exact hcall
    · exact hcall
  generalize (match Nat.ble ms.length obs0.length && (wfV ms.length r0 && wfOb ms.length (obs0.take ms.length)) with | true => obs0.take ms.length | false => obs0) = obs1 at *
  split at h <;> try (cases h; done)
  rename_i hb
  simp only [Bool.and_eq_true] at hb
  obtain ⟨⟨⟨g1, g2⟩, g3⟩, g4⟩ := hb
  have g1 := Nat.le_of_ble_eq_true g1
  simp only [Option.some.injEq, Prod.mk.injEq] at h
  obtain ⟨rfl, rfl⟩ := h
  have hback : ∀ k, ms.any (Nat.beq k) = true → nameOf ms ob.length (idxN k ms) = k := fun k hk => nameOf_lt (idxN_get hk)
  have hall : ∀ j ∈ ms, j < ob.length ∧ j ∈ namesL xs := by
    intro j hj
    have := List.all_eq_true.1 h2 j hj
    simp only [Bool.and_eq_true] at this
    obtain ⟨a, b⟩ := this
    have a := Nat.le_of_ble_eq_true a
    obtain ⟨x, hx, hb⟩ := List.any_eq_true.1 b
    have : j = x := Nat.eq_of_beq_eq_true hb
    exact ⟨by omega, this ▸ hx⟩
  have hns : ∀ k ∈ namesL xs, ms.any (Nat.beq k) = true := fun k hk => List.all_eq_true.1 h3 k hk
  refine ⟨ms, renL (fun k => idxN k ms) xs, obs, obs1, r0, hcall2, hlen, nodupB_spec h1, ?_, by rw [← hlen]; exact h4, by rw [← hlen]; exact h5, g2, g3, by omega, (renL_back xs (fun k hk => hback k (hns k hk))).symm, rfl, rfl, ?_⟩
  · intro i j hj
    have hm := List.mem_of_getElem? hj
    refine ⟨(hall j hm).1, (hall j hm).2, fun o ho => ?_⟩
    rw [← hobs, List.getElem?_map, hj] at ho
    simp only [Option.map_some, Option.some.injEq] at ho
    split at ho <;> try (cases ho; done)
    rename_i o' ho'
    split at ho <;> simp only [reduceCtorEq, Option.some.injEq] at ho
    rename_i hn
    subst ho
    rw [ho', renO_back o' (fun k hk => hback k (List.all_eq_true.1 hn k hk))]
  · intro k hk hk2
    rw [putObs_length _ _ _ _ (by omega)] at hk2
    have := List.all_eq_true.1 g4 (k - ob.length) (List.mem_range.2 (by omega))
    obtain ⟨x, hx, hb⟩ := List.any_eq_true.1 this
    have : ob.length + (k - ob.length) = x := Nat.eq_of_beq_eq_true hb
    have e : k = x := by omega
    exact e ▸ hx

def r_callD (C : Orac) (fl wc : Bool) (f : X) (args : List X) (ρ : X → V) (ob : Obs) : Option (V × Obs) :=
  match ρ f with
    | .fn g first caps => match fl && wc with
      | true => match C g (first ++ args.map ρ ++ caps) ob with
        | some (r, ob') => if ob.length ≤ ob'.length then some (r, ob') else none
        | none => none
      | false => match evL C g (first ++ args.map ρ ++ caps) ob with | some y => some (y, ob) | none => match wc with | true => evFC C g (first ++ args.map ρ ++ caps) ob | false => none
    | _ => none
def evOD (C : Orac) (fl wc : Bool) (o : VO) : (X → V) → Obs → Option (V × Obs) := VO.rec (motive := fun _ => (X → V) → Obs → Option (V × Obs)) r_mv r_pick r_bin r_eqb r_eqn r_eqa r_un r_cint r_cstr r_build r_nilck r_fadr r_fld r_iadr r_idxs r_idxa r_slcs r_slc r_ext r_fn r_ln r_mm r_alloc r_box r_boxI r_load r_bsl r_msl r_b2s r_s2b (r_callD C fl wc) r_store r_app r_apps r_mkmap r_look r_rng (fun _ _ _ => none) (fun _ _ _ => none) r_upd r_del r_clr o

def evG (f : VO → (X → V) → Obs → Option (V × Obs)) (o : VOper) (s : St) : Option St :=
  match o.guard with
  | none => match f o.op (gx s.tm) s.ob with | some (v, ob') => some (({ s with ob := ob' } : St).putO o.dst v) | none => none
  | some (t, want) => match gt t s.tm with
    | .bool b => match b == want with
      | true => match f o.op (gx s.tm) s.ob with | some (v, ob') => some (({ s with ob := ob' } : St).putO o.dst v) | none => none
      | false => some (s.putO o.dst (.tup []))
    | .tup [] => some (s.putO o.dst (.tup []))
    | _ => none

def evOps (C : Orac) (os : List VOper) : St → Option St :=
  List.rec (motive := fun _ => St → Option St) (fun s => some s) (fun o _ ih s => match evG (evO C) o s with | some s' => ih s' | none => none) os
def evOpsD (C : Orac) (fl : Bool) (os : List VOper) : List Bool → St → Option St :=
  List.rec (motive := fun _ => List Bool → St → Option St) (fun _ s => some s) (fun o _ ih wc s => match evG (evOD C fl (wc.headD false)) o s with | some s' => ih wc.tail s' | none => none) os

/-- Slots that stand there twice. -/
def dd (l : List (Nat × V)) : List Nat → List (Nat × V) :=
  List.rec (motive := fun _ => List Nat → List (Nat × V)) (fun _ => []) (fun p _ ih seen => match seen.any (Nat.beq p.1) with | true => ih seen | false => p :: ih (p.1 :: seen)) l
def tidy (s : St) : St := if s.tm.length ≤ 300 then s else { s with tm := dd s.tm [] }

theorem dd_get (t : Nat) : ∀ (l : List (Nat × V)) (seen : List Nat), t ∉ seen → gt t (dd l seen) = gt t l
  | [], seen, _ => rfl
  | p :: l, seen, h => by
    show gt t (match seen.any (Nat.beq p.1) with | true => dd l seen | false => p :: dd l (p.1 :: seen)) = (match Nat.beq t p.1 with | true => p.2 | false => gt t l)
    cases hs : seen.any (Nat.beq p.1) with
    | true =>
      have hm : p.1 ∈ seen := by
        obtain ⟨x, hx, hb⟩ := List.any_eq_true.1 hs
        have : p.1 = x := Nat.eq_of_beq_eq_true hb
        exact this ▸ hx
      have hb : Nat.beq t p.1 = false := by
        cases hq : Nat.beq t p.1 with
        | false => rfl
        | true => exact absurd (Nat.eq_of_beq_eq_true hq ▸ hm) h
      rw [hb]
      exact dd_get t l seen h
    | false =>
      show (match Nat.beq t p.1 with | true => p.2 | false => gt t (dd l (p.1 :: seen))) = _
      cases hq : Nat.beq t p.1 with
      | true => rfl
      | false =>
        refine dd_get t l _ ?_
        intro hm
        rcases List.mem_cons.1 hm with e | hm
        · subst e; simp at hq
        · exact h hm

theorem tidy_thin (s : St) : s.thin (tidy s) := by
  unfold tidy
  split
  · exact s.thin_refl
  · refine ⟨rfl, rfl, fun t => .inl ?_⟩
    show ((dd s.tm []).lookup t).getD .junk = (s.tm.lookup t).getD .junk
    rw [← gt_eq, ← gt_eq]
    exact dd_get t s.tm [] (by simp)

def iter (f : St → Option (VX × St)) (n : Nat) : St → Option (VX × St) :=
  Nat.rec (motive := fun _ => St → Option (VX × St)) (fun _ => none) (fun _ ih s => match f s with
    | some (.normal, s') => ih (tidy s')
    | r => r) n

def ev (C : Orac) (L : Nat) (c : VC) : St → Option (VX × St) :=
  VC.rec (motive := fun _ => St → Option (VX × St))
    (fun s => some (.normal, s))
    (fun ops s => match evOps C ops s with | some s' => some (.normal, s') | none => none)
    (fun ops wc s => match evOpsD C true ops wc s with | some s' => some (.normal, s') | none => none)
    (fun ops wc sp s => match evOpsD C false ops wc s with | some s' => if chkS sp s' = true then some (.normal, s') else none | none => none)
    (fun _ _ _ _ => none)
    (fun sp s => if chkS sp s = true then some (.normal, s) else none)
    (fun _ _ iha ihb s => match iha s with | some (.normal, s') => ihb s' | r => r)
    (fun _ _ iha ihb s => match iha s with | some (.normal, s') => ihb s' | r => r)
    (fun x _ _ iha ihb s => match gx s.tm x with | .bool c => (match c with | true => iha s | false => ihb s) | _ => none)
    (fun id _ ih s => match ih s with | some (.exit i, s') => (match Nat.beq i id with | true => some (.normal, s') | false => some (.exit i, s')) | r => r)
    (fun _ ih s => iter ih L (tidy s))
    (fun id s => some (.exit id, s))
    (fun s => some (.ret, s))
    c

theorem evO_step {P : Program} {C : Orac} (hC : ∀ g as ob r ob', C g as ob = some (r, ob') → VCall P g as ob r ob') {o : VO} {ρ : X → V} {ob : Obs} {v : V} {ob' : Obs} {K : V → Obs → Prop} (h : evO C o ρ ob = some (v, ob')) (hk : K v ob') : o.step P ρ ob K := by
  cases o with
  | call f args =>
    change r_call C f args ρ ob = some (v, ob') at h
    simp only [r_call] at h
    split at h <;> try (cases h; done)
    rename_i g first caps hf
    simp only [VO.step, hf]
    exact ⟨v, ob', hC _ _ _ _ _ h, hk⟩
  | nxt x =>
    change r_nxt x ρ ob = some (v, ob') at h
    simp only [r_nxt] at h
    split at h <;> try (cases h; done)
    rename_i p hp
    simp only [Option.some.injEq] at h
    subst h
    simp only [VO.step, hp, List.mem_singleton]
    rintro q rfl
    exact hk
  | ent x =>
    change r_ent x ρ ob = some (v, ob') at h
    simp only [r_ent] at h
    split at h <;> try (cases h; done)
    rename_i u hu
    simp only [Option.some.injEq, Prod.mk.injEq] at h
    obtain ⟨rfl, rfl⟩ := h
    simp only [VO.step, hu]
    exact hk
  | mv x => rw [show evO C (.mv x) ρ ob = VO.run (.mv x) ρ ob from r_mv_eq x ρ ob] at h; exact step_run rfl h hk
  | pick c a b => rw [show evO C (.pick c a b) ρ ob = VO.run (.pick c a b) ρ ob from r_pick_eq c a b ρ ob] at h; exact step_run rfl h hk
  | bin op x y => rw [show evO C (.bin op x y) ρ ob = VO.run (.bin op x y) ρ ob from r_bin_eq op x y ρ ob] at h; exact step_run rfl h hk
  | eqb neg x y => rw [show evO C (.eqb neg x y) ρ ob = VO.run (.eqb neg x y) ρ ob from r_eqb_eq neg x y ρ ob] at h; exact step_run rfl h hk
  | eqn kd neg x y => rw [show evO C (.eqn kd neg x y) ρ ob = VO.run (.eqn kd neg x y) ρ ob from r_eqn_eq kd neg x y ρ ob] at h; exact step_run rfl h hk
  | eqa neg ks x y => rw [show evO C (.eqa neg ks x y) ρ ob = VO.run (.eqa neg ks x y) ρ ob from r_eqa_eq neg ks x y ρ ob] at h; exact step_run rfl h hk
  | un op x => rw [show evO C (.un op x) ρ ob = VO.run (.un op x) ρ ob from r_un_eq op x ρ ob] at h; exact step_run rfl h hk
  | cint k x => rw [show evO C (.cint k x) ρ ob = VO.run (.cint k x) ρ ob from r_cint_eq k x ρ ob] at h; exact step_run rfl h hk
  | cstr x => rw [show evO C (.cstr x) ρ ob = VO.run (.cstr x) ρ ob from r_cstr_eq x ρ ob] at h; exact step_run rfl h hk
  | build zero parts => rw [show evO C (.build zero parts) ρ ob = VO.run (.build zero parts) ρ ob from r_build_eq zero parts ρ ob] at h; exact step_run rfl h hk
  | nilck x => rw [show evO C (.nilck x) ρ ob = VO.run (.nilck x) ρ ob from r_nilck_eq x ρ ob] at h; exact step_run rfl h hk
  | fadr off x => rw [show evO C (.fadr off x) ρ ob = VO.run (.fadr off x) ρ ob from r_fadr_eq off x ρ ob] at h; exact step_run rfl h hk
  | fld off sz agg x => rw [show evO C (.fld off sz agg x) ρ ob = VO.run (.fld off sz agg x) ρ ob from r_fld_eq off sz agg x ρ ob] at h; exact step_run rfl h hk
  | iadr arr sz x i => rw [show evO C (.iadr arr sz x i) ρ ob = VO.run (.iadr arr sz x i) ρ ob from r_iadr_eq arr sz x i ρ ob] at h; exact step_run rfl h hk
  | idxs x i => rw [show evO C (.idxs x i) ρ ob = VO.run (.idxs x i) ρ ob from r_idxs_eq x i ρ ob] at h; exact step_run rfl h hk
  | idxa len sz agg x i => rw [show evO C (.idxa len sz agg x i) ρ ob = VO.run (.idxa len sz agg x i) ρ ob from r_idxa_eq len sz agg x i ρ ob] at h; exact step_run rfl h hk
  | slcs x lo hi => rw [show evO C (.slcs x lo hi) ρ ob = VO.run (.slcs x lo hi) ρ ob from r_slcs_eq x lo hi ρ ob] at h; exact step_run rfl h hk
  | slc sz x lo hi mx => rw [show evO C (.slc sz x lo hi mx) ρ ob = VO.run (.slc sz x lo hi mx) ρ ob from r_slc_eq sz x lo hi mx ρ ob] at h; exact step_run rfl h hk
  | ext x i => rw [show evO C (.ext x i) ρ ob = VO.run (.ext x i) ρ ob from r_ext_eq x i ρ ob] at h; exact step_run rfl h hk
  | fn f first caps => rw [show evO C (.fn f first caps) ρ ob = VO.run (.fn f first caps) ρ ob from r_fn_eq f first caps ρ ob] at h; exact step_run rfl h hk
  | ln st x => rw [show evO C (.ln st x) ρ ob = VO.run (.ln st x) ρ ob from r_ln_eq st x ρ ob] at h; exact step_run rfl h hk
  | mm mx xs => rw [show evO C (.mm mx xs) ρ ob = VO.run (.mm mx xs) ρ ob from r_mm_eq mx xs ρ ob] at h; exact step_run rfl h hk
  | alloc zero => rw [show evO C (.alloc zero) ρ ob = VO.run (.alloc zero) ρ ob from r_alloc_eq zero ρ ob] at h; exact step_run rfl h hk
  | box x => rw [show evO C (.box x) ρ ob = VO.run (.box x) ρ ob from r_box_eq x ρ ob] at h; exact step_run rfl h hk
  | boxI x => rw [show evO C (.boxI x) ρ ob = VO.run (.boxI x) ρ ob from r_boxI_eq x ρ ob] at h; exact step_run rfl h hk
  | load agg sz x => rw [show evO C (.load agg sz x) ρ ob = VO.run (.load agg sz x) ρ ob from r_load_eq agg sz x ρ ob] at h; exact step_run rfl h hk
  | bsl own e sz len zero parts => rw [show evO C (.bsl own e sz len zero parts) ρ ob = VO.run (.bsl own e sz len zero parts) ρ ob from r_bsl_eq own e sz len zero parts ρ ob] at h; exact step_run rfl h hk
  | msl e sz bytes zero len cap => rw [show evO C (.msl e sz bytes zero len cap) ρ ob = VO.run (.msl e sz bytes zero len cap) ρ ob from r_msl_eq e sz bytes zero len cap ρ ob] at h; exact step_run rfl h hk
  | b2s x => rw [show evO C (.b2s x) ρ ob = VO.run (.b2s x) ρ ob from r_b2s_eq x ρ ob] at h; exact step_run rfl h hk
  | s2b e x => rw [show evO C (.s2b e x) ρ ob = VO.run (.s2b e x) ρ ob from r_s2b_eq e x ρ ob] at h; exact step_run rfl h hk
  | store sz a x => rw [show evO C (.store sz a x) ρ ob = VO.run (.store sz a x) ρ ob from r_store_eq sz a x ρ ob] at h; exact step_run rfl h hk
  | app e sz bytes x y => rw [show evO C (.app e sz bytes x y) ρ ob = VO.run (.app e sz bytes x y) ρ ob from r_app_eq e sz bytes x y ρ ob] at h; exact step_run rfl h hk
  | apps e x y => rw [show evO C (.apps e x y) ρ ob = VO.run (.apps e x y) ρ ob from r_apps_eq e x y ρ ob] at h; exact step_run rfl h hk
  | mkmap l => rw [show evO C (.mkmap l) ρ ob = VO.run (.mkmap l) ρ ob from r_mkmap_eq l ρ ob] at h; exact step_run rfl h hk
  | look ck kd zero x i => rw [show evO C (.look ck kd zero x i) ρ ob = VO.run (.look ck kd zero x i) ρ ob from r_look_eq ck kd zero x i ρ ob] at h; exact step_run rfl h hk
  | rng x => rw [show evO C (.rng x) ρ ob = VO.run (.rng x) ρ ob from r_rng_eq x ρ ob] at h; exact step_run rfl h hk
  | upd kd m k x => rw [show evO C (.upd kd m k x) ρ ob = VO.run (.upd kd m k x) ρ ob from r_upd_eq kd m k x ρ ob] at h; exact step_run rfl h hk
  | del kd m k => rw [show evO C (.del kd m k) ρ ob = VO.run (.del kd m k) ρ ob from r_del_eq kd m k ρ ob] at h; exact step_run rfl h hk
  | clr sz zero x => rw [show evO C (.clr sz zero x) ρ ob = VO.run (.clr sz zero x) ρ ob from r_clr_eq sz zero x ρ ob] at h; exact step_run rfl h hk

theorem evL_callR {P : Program} {C : Orac} (hC : ∀ g as ob r ob', C g as ob = some (r, ob') → VCall P g as ob r ob') {g : FuncId} {args : List V} {ob : Obs} {y : V} (h : evL C g args ob = some y) : CallR P ob g args y := by
  unfold evL at h
  split at h
  · rename_i as hl
    split at h <;> try (cases h; done)
    rename_i r ob' hr
    exact ⟨as, .inl hl, (hC _ _ _ _ _ hr).lent h⟩
  · split at h <;> try (cases h; done)
    rename_i as hl
    split at h <;> try (cases h; done)
    rename_i r ob' hr
    split at h <;> try (cases h; done)
    rename_i z hz
    split at h <;> simp only [reduceCtorEq, Option.some.injEq] at h
    rename_i hfl
    subst h
    exact ⟨as, .inr ⟨hl, hfl⟩, (hC _ _ _ _ _ hr).lent hz⟩

theorem evOD_step {P : Program} {C : Orac} (hC : ∀ g as ob r ob', C g as ob = some (r, ob') → VCall P g as ob r ob') {fl wc : Bool} {o : VO} {ρ : X → V} {ob : Obs} {v : V} {ob' : Obs} {K : V → Obs → Prop} (h : evOD C fl wc o ρ ob = some (v, ob')) (hk : K v ob') : o.stepD P fl wc ρ ob K := by
  cases o with
  | call f args =>
    change r_callD C fl wc f args ρ ob = some (v, ob') at h
    simp only [r_callD] at h
    split at h <;> try (cases h; done)
    rename_i g first caps hf
    simp only [VO.stepD, hf]
    split at h
    · rename_i hb
      simp only [Bool.and_eq_true] at hb
      obtain ⟨rfl, rfl⟩ := hb
      split at h <;> try (cases h; done)
      rename_i r ob1 hr
      split at h <;> simp only [reduceCtorEq, Option.some.injEq, Prod.mk.injEq] at h
      rename_i hl
      obtain ⟨rfl, rfl⟩ := h
      exact ⟨r, ob1, hC _ _ _ _ _ hr, hl, hk⟩
    · rename_i hb
      split at h
      · rename_i y hy
        simp only [Option.some.injEq, Prod.mk.injEq] at h
        obtain ⟨rfl, rfl⟩ := h
        have hR := evL_callR hC hy
        cases wc with
        | false => exact ⟨y, hR, hk⟩
        | true =>
          cases fl with
          | true => simp at hb
          | false => exact .inl ⟨y, hR, hk⟩
      · cases wc with
        | false => cases h
        | true =>
          cases fl with
          | true => simp at hb
          | false =>
            obtain ⟨ms, args0, obs, obs', r0, hF⟩ := evFC_call hC h
            exact .inr ⟨v, ob', ms, args0, obs, obs', r0, hF, hk⟩
  | nxt x => cases h
  | ent x => cases h
  | mv x => rw [show evOD C fl wc (.mv x) ρ ob = VO.run (.mv x) ρ ob from r_mv_eq x ρ ob] at h; exact stepD_run (wc := (fl, wc)) rfl h hk
  | pick c a b => rw [show evOD C fl wc (.pick c a b) ρ ob = VO.run (.pick c a b) ρ ob from r_pick_eq c a b ρ ob] at h; exact stepD_run (wc := (fl, wc)) rfl h hk
  | bin op x y => rw [show evOD C fl wc (.bin op x y) ρ ob = VO.run (.bin op x y) ρ ob from r_bin_eq op x y ρ ob] at h; exact stepD_run (wc := (fl, wc)) rfl h hk
  | eqb neg x y => rw [show evOD C fl wc (.eqb neg x y) ρ ob = VO.run (.eqb neg x y) ρ ob from r_eqb_eq neg x y ρ ob] at h; exact stepD_run (wc := (fl, wc)) rfl h hk
  | eqn kd neg x y => rw [show evOD C fl wc (.eqn kd neg x y) ρ ob = VO.run (.eqn kd neg x y) ρ ob from r_eqn_eq kd neg x y ρ ob] at h; exact stepD_run (wc := (fl, wc)) rfl h hk
  | eqa neg ks x y => rw [show evOD C fl wc (.eqa neg ks x y) ρ ob = VO.run (.eqa neg ks x y) ρ ob from r_eqa_eq neg ks x y ρ ob] at h; exact stepD_run (wc := (fl, wc)) rfl h hk
  | un op x => rw [show evOD C fl wc (.un op x) ρ ob = VO.run (.un op x) ρ ob from r_un_eq op x ρ ob] at h; exact stepD_run (wc := (fl, wc)) rfl h hk
  | cint k x => rw [show evOD C fl wc (.cint k x) ρ ob = VO.run (.cint k x) ρ ob from r_cint_eq k x ρ ob] at h; exact stepD_run (wc := (fl, wc)) rfl h hk
  | cstr x => rw [show evOD C fl wc (.cstr x) ρ ob = VO.run (.cstr x) ρ ob from r_cstr_eq x ρ ob] at h; exact stepD_run (wc := (fl, wc)) rfl h hk
  | build zero parts => rw [show evOD C fl wc (.build zero parts) ρ ob = VO.run (.build zero parts) ρ ob from r_build_eq zero parts ρ ob] at h; exact stepD_run (wc := (fl, wc)) rfl h hk
  | nilck x => rw [show evOD C fl wc (.nilck x) ρ ob = VO.run (.nilck x) ρ ob from r_nilck_eq x ρ ob] at h; exact stepD_run (wc := (fl, wc)) rfl h hk
  | fadr off x => rw [show evOD C fl wc (.fadr off x) ρ ob = VO.run (.fadr off x) ρ ob from r_fadr_eq off x ρ ob] at h; exact stepD_run (wc := (fl, wc)) rfl h hk
  | fld off sz agg x => rw [show evOD C fl wc (.fld off sz agg x) ρ ob = VO.run (.fld off sz agg x) ρ ob from r_fld_eq off sz agg x ρ ob] at h; exact stepD_run (wc := (fl, wc)) rfl h hk
  | iadr arr sz x i => rw [show evOD C fl wc (.iadr arr sz x i) ρ ob = VO.run (.iadr arr sz x i) ρ ob from r_iadr_eq arr sz x i ρ ob] at h; exact stepD_run (wc := (fl, wc)) rfl h hk
  | idxs x i => rw [show evOD C fl wc (.idxs x i) ρ ob = VO.run (.idxs x i) ρ ob from r_idxs_eq x i ρ ob] at h; exact stepD_run (wc := (fl, wc)) rfl h hk
  | idxa len sz agg x i => rw [show evOD C fl wc (.idxa len sz agg x i) ρ ob = VO.run (.idxa len sz agg x i) ρ ob from r_idxa_eq len sz agg x i ρ ob] at h; exact stepD_run (wc := (fl, wc)) rfl h hk
  | slcs x lo hi => rw [show evOD C fl wc (.slcs x lo hi) ρ ob = VO.run (.slcs x lo hi) ρ ob from r_slcs_eq x lo hi ρ ob] at h; exact stepD_run (wc := (fl, wc)) rfl h hk
  | slc sz x lo hi mx => rw [show evOD C fl wc (.slc sz x lo hi mx) ρ ob = VO.run (.slc sz x lo hi mx) ρ ob from r_slc_eq sz x lo hi mx ρ ob] at h; exact stepD_run (wc := (fl, wc)) rfl h hk
  | ext x i => rw [show evOD C fl wc (.ext x i) ρ ob = VO.run (.ext x i) ρ ob from r_ext_eq x i ρ ob] at h; exact stepD_run (wc := (fl, wc)) rfl h hk
  | fn f first caps => rw [show evOD C fl wc (.fn f first caps) ρ ob = VO.run (.fn f first caps) ρ ob from r_fn_eq f first caps ρ ob] at h; exact stepD_run (wc := (fl, wc)) rfl h hk
  | ln st x => rw [show evOD C fl wc (.ln st x) ρ ob = VO.run (.ln st x) ρ ob from r_ln_eq st x ρ ob] at h; exact stepD_run (wc := (fl, wc)) rfl h hk
  | mm mx xs => rw [show evOD C fl wc (.mm mx xs) ρ ob = VO.run (.mm mx xs) ρ ob from r_mm_eq mx xs ρ ob] at h; exact stepD_run (wc := (fl, wc)) rfl h hk
  | alloc zero => rw [show evOD C fl wc (.alloc zero) ρ ob = VO.run (.alloc zero) ρ ob from r_alloc_eq zero ρ ob] at h; exact stepD_run (wc := (fl, wc)) rfl h hk
  | box x => rw [show evOD C fl wc (.box x) ρ ob = VO.run (.box x) ρ ob from r_box_eq x ρ ob] at h; exact stepD_run (wc := (fl, wc)) rfl h hk
  | boxI x => rw [show evOD C fl wc (.boxI x) ρ ob = VO.run (.boxI x) ρ ob from r_boxI_eq x ρ ob] at h; exact stepD_run (wc := (fl, wc)) rfl h hk
  | load agg sz x => rw [show evOD C fl wc (.load agg sz x) ρ ob = VO.run (.load agg sz x) ρ ob from r_load_eq agg sz x ρ ob] at h; exact stepD_run (wc := (fl, wc)) rfl h hk
  | bsl own e sz len zero parts => rw [show evOD C fl wc (.bsl own e sz len zero parts) ρ ob = VO.run (.bsl own e sz len zero parts) ρ ob from r_bsl_eq own e sz len zero parts ρ ob] at h; exact stepD_run (wc := (fl, wc)) rfl h hk
  | msl e sz bytes zero len cap => rw [show evOD C fl wc (.msl e sz bytes zero len cap) ρ ob = VO.run (.msl e sz bytes zero len cap) ρ ob from r_msl_eq e sz bytes zero len cap ρ ob] at h; exact stepD_run (wc := (fl, wc)) rfl h hk
  | b2s x => rw [show evOD C fl wc (.b2s x) ρ ob = VO.run (.b2s x) ρ ob from r_b2s_eq x ρ ob] at h; exact stepD_run (wc := (fl, wc)) rfl h hk
  | s2b e x => rw [show evOD C fl wc (.s2b e x) ρ ob = VO.run (.s2b e x) ρ ob from r_s2b_eq e x ρ ob] at h; exact stepD_run (wc := (fl, wc)) rfl h hk
  | store sz a x => rw [show evOD C fl wc (.store sz a x) ρ ob = VO.run (.store sz a x) ρ ob from r_store_eq sz a x ρ ob] at h; exact stepD_run (wc := (fl, wc)) rfl h hk
  | app e sz bytes x y => rw [show evOD C fl wc (.app e sz bytes x y) ρ ob = VO.run (.app e sz bytes x y) ρ ob from r_app_eq e sz bytes x y ρ ob] at h; exact stepD_run (wc := (fl, wc)) rfl h hk
  | apps e x y => rw [show evOD C fl wc (.apps e x y) ρ ob = VO.run (.apps e x y) ρ ob from r_apps_eq e x y ρ ob] at h; exact stepD_run (wc := (fl, wc)) rfl h hk
  | mkmap l => rw [show evOD C fl wc (.mkmap l) ρ ob = VO.run (.mkmap l) ρ ob from r_mkmap_eq l ρ ob] at h; exact stepD_run (wc := (fl, wc)) rfl h hk
  | look ck kd zero x i => rw [show evOD C fl wc (.look ck kd zero x i) ρ ob = VO.run (.look ck kd zero x i) ρ ob from r_look_eq ck kd zero x i ρ ob] at h; exact stepD_run (wc := (fl, wc)) rfl h hk
  | rng x => rw [show evOD C fl wc (.rng x) ρ ob = VO.run (.rng x) ρ ob from r_rng_eq x ρ ob] at h; exact stepD_run (wc := (fl, wc)) rfl h hk
  | upd kd m k x => rw [show evOD C fl wc (.upd kd m k x) ρ ob = VO.run (.upd kd m k x) ρ ob from r_upd_eq kd m k x ρ ob] at h; exact stepD_run (wc := (fl, wc)) rfl h hk
  | del kd m k => rw [show evOD C fl wc (.del kd m k) ρ ob = VO.run (.del kd m k) ρ ob from r_del_eq kd m k ρ ob] at h; exact stepD_run (wc := (fl, wc)) rfl h hk
  | clr sz zero x => rw [show evOD C fl wc (.clr sz zero x) ρ ob = VO.run (.clr sz zero x) ρ ob from r_clr_eq sz zero x ρ ob] at h; exact stepD_run (wc := (fl, wc)) rfl h hk

theorem evG_step {P : Program} {f : VO → (X → V) → Obs → Option (V × Obs)} {S : VO → (X → V) → Obs → (V → Obs → Prop) → Prop} (hf : ∀ o ρ ob v ob' (K : V → Obs → Prop), f o ρ ob = some (v, ob') → K v ob' → S o ρ ob K) {o : VOper} {s s' : St} {K : St → Prop} (h : evG f o s = some s') (hk : K s') :
    match o.guard with
    | none => S o.op s.x s.ob fun v ob' => K (({ s with ob := ob' } : St).putO o.dst v)
    | some (t, want) => match s.get t with
      | .bool b => if b = want then S o.op s.x s.ob fun v ob' => K (({ s with ob := ob' } : St).putO o.dst v) else K (s.putO o.dst (.tup []))
      | .tup [] => K (s.putO o.dst (.tup []))
      | _ => False := by
  unfold evG at h
  rw [gx_eq] at h
  split at h
  · rename_i hg
    split at h <;> simp only [reduceCtorEq, Option.some.injEq] at h
    rename_i v ob' hv
    subst h
    exact hf _ _ _ _ _ _ hv hk
  · rename_i t want hg
    rw [gt_eq] at h
    change (match s.get t with | .bool b => _ | .tup [] => _ | _ => none) = some s' at h
    split at h
    · rename_i b hb
      split at h
      · rename_i hbw
        rw [if_pos (by simpa using hbw)]
        split at h <;> simp only [reduceCtorEq, Option.some.injEq] at h
        rename_i v ob' hv
        subst h
        exact hf _ _ _ _ _ _ hv hk
      · rename_i hbw
        rw [if_neg (by simpa using hbw)]
        simp only [Option.some.injEq] at h
        subst h
        exact hk
    · simp only [Option.some.injEq] at h
      subst h
      exact hk
    · cases h

theorem evOps_sound {P : Program} {C : Orac} (hC : ∀ g as ob r ob', C g as ob = some (r, ob') → VCall P g as ob r ob') : ∀ (os : List VOper) (s s' : St) (K : St → Prop), evOps C os s = some s' → K s' → vops P os s K
  | [], s, s', K, h, hk => by
    change some s = some s' at h
    simp only [Option.some.injEq] at h
    subst h
    exact hk
  | o :: os, s, s', K, h, hk => by
    change (match evG (evO C) o s with | some s' => evOps C os s' | none => none) = some s' at h
    split at h <;> try (cases h; done)
    rename_i s1 h1
    exact evG_step (P := P) (K := fun s' => vops P os s' K) (S := fun o ρ ob K => o.step P ρ ob K) (fun o ρ ob v ob' K hf hk => evO_step hC hf hk) h1 (evOps_sound hC os s1 s' K h hk)

theorem evOpsD_sound {P : Program} {C : Orac} (hC : ∀ g as ob r ob', C g as ob = some (r, ob') → VCall P g as ob r ob') {fl : Bool} : ∀ (os : List VOper) (wc : List Bool) (s s' : St) (K : St → Prop), evOpsD C fl os wc s = some s' → K s' → dvops P fl os wc s K
  | [], wc, s, s', K, h, hk => by
    change some s = some s' at h
    simp only [Option.some.injEq] at h
    subst h
    exact hk
  | o :: os, wc, s, s', K, h, hk => by
    change (match evG (evOD C fl (wc.headD false)) o s with | some s' => evOpsD C fl os wc.tail s' | none => none) = some s' at h
    split at h <;> try (cases h; done)
    rename_i s1 h1
    exact evG_step (P := P) (K := fun s' => dvops P fl os wc.tail s' K) (S := fun o ρ ob K => o.stepD P fl (wc.headD false) ρ ob K) (fun o ρ ob v ob' K hf hk => evOD_step hC hf hk) h1 (evOpsD_sound hC os wc.tail s1 s' K h hk)

theorem iter_sound {P : Program} {c : VC} {f : St → Option (VX × St)} (hf : ∀ s e s' (Q : VX → St → Prop), f s = some (e, s') → Q e s' → vwp P c Q s) (n : Nat) (s : St) (e : VX) (s' : St) (Q : VX → St → Prop) (h : iter f n (tidy s) = some (e, s')) (hQ : Q e s') : vwp P (.loop c) Q s := by
  refine ⟨fun n s => iter f n s = some (e, s'), n, ⟨tidy s, .inl (tidy_thin s), h⟩, ?_⟩
  intro n s h
  cases n with
  | zero => cases h
  | succ n =>
    change (match f s with | some (.normal, s') => iter f n (tidy s') | r => r) = some (e, s') at h
    split at h
    · rename_i s1 h1
      refine hf _ _ _ _ h1 ?_
      exact ⟨n, tidy s1, Nat.lt_succ_self n, .inl (tidy_thin s1), h⟩
    · rename_i hne
      refine hf _ _ _ _ h ?_
      cases e with
      | normal => exact absurd h (hne _)
      | exit i => exact hQ
      | ret => exact hQ

theorem ev_sound {P : Program} {C : Orac} (hC : ∀ g as ob r ob', C g as ob = some (r, ob') → VCall P g as ob r ob') (L : Nat) (c : VC) : ∀ (s : St) (e : VX) (s' : St) (Q : VX → St → Prop), ev C L c s = some (e, s') → Q e s' → vwp P c Q s := by
  induction c with
  | skip =>
    intro s e s' Q h hQ
    change some (VX.normal, s) = some (e, s') at h
    simp only [Option.some.injEq, Prod.mk.injEq] at h
    obtain ⟨rfl, rfl⟩ := h
    exact hQ
  | exit id =>
    intro s e s' Q h hQ
    change some (VX.exit id, s) = some (e, s') at h
    simp only [Option.some.injEq, Prod.mk.injEq] at h
    obtain ⟨rfl, rfl⟩ := h
    exact hQ
  | ret =>
    intro s e s' Q h hQ
    change some (VX.ret, s) = some (e, s') at h
    simp only [Option.some.injEq, Prod.mk.injEq] at h
    obtain ⟨rfl, rfl⟩ := h
    exact hQ
  | reg ops =>
    intro s e s' Q h hQ
    change (match evOps C ops s with | some s' => some (VX.normal, s') | none => none) = some (e, s') at h
    split at h <;> simp only [reduceCtorEq, Option.some.injEq, Prod.mk.injEq] at h
    rename_i s1 h1
    obtain ⟨rfl, rfl⟩ := h
    exact evOps_sound hC ops s s1 _ h1 hQ
  | dreg ops wc =>
    intro s e s' Q h hQ
    change (match evOpsD C true ops wc s with | some s' => some (VX.normal, s') | none => none) = some (e, s') at h
    split at h <;> simp only [reduceCtorEq, Option.some.injEq, Prod.mk.injEq] at h
    rename_i s1 h1
    obtain ⟨rfl, rfl⟩ := h
    exact evOpsD_sound hC ops wc s s1 _ h1 hQ
  | dregF ops wc sp =>
    intro s e s' Q h hQ
    change (match evOpsD C false ops wc s with | some s' => if chkS sp s' = true then some (VX.normal, s') else none | none => none) = some (e, s') at h
    split at h <;> try (cases h; done)
    rename_i s1 h1
    split at h <;> simp only [reduceCtorEq, Option.some.injEq, Prod.mk.injEq] at h
    rename_i hc
    obtain ⟨rfl, rfl⟩ := h
    exact evOpsD_sound hC ops wc s s1 _ h1 ⟨hc, hQ⟩
  | areg ops dirs done => intro s e s' Q h hQ; cases h
  | chk sp =>
    intro s e s' Q h hQ
    change (if chkS sp s = true then some (VX.normal, s) else none) = some (e, s') at h
    split at h <;> simp only [reduceCtorEq, Option.some.injEq, Prod.mk.injEq] at h
    rename_i hc
    obtain ⟨rfl, rfl⟩ := h
    exact ⟨hc, hQ⟩
  | seq a b iha ihb =>
    intro s e s' Q h hQ
    change (match ev C L a s with | some (.normal, s') => ev C L b s' | r => r) = some (e, s') at h
    split at h
    · rename_i s1 h1
      exact iha _ _ _ _ h1 (ihb _ _ _ _ h hQ)
    · rename_i hne
      refine iha _ _ _ _ h ?_
      cases e with
      | normal => exact absurd h (hne _)
      | exit i => exact hQ
      | ret => exact hQ
  | seqc a b iha ihb =>
    intro s e s' Q h hQ
    change (match ev C L a s with | some (.normal, s') => ev C L b s' | r => r) = some (e, s') at h
    split at h
    · rename_i s1 h1
      exact iha _ _ _ _ h1 (.inl (ihb _ _ _ _ h hQ))
    · rename_i hne
      refine iha _ _ _ _ h ?_
      cases e with
      | normal => exact absurd h (hne _)
      | exit i => exact hQ
      | ret => exact hQ
  | cond x a b iha ihb =>
    intro s e s' Q h hQ
    change (match gx s.tm x with | .bool c => (match c with | true => ev C L a s | false => ev C L b s) | _ => none) = some (e, s') at h
    rw [gx_eq] at h
    simp only [vwp]
    split at h <;> try (cases h; done)
    rename_i c hc
    simp only [hc]
    cases c
    · exact ihb _ _ _ _ h hQ
    · exact iha _ _ _ _ h hQ
  | block id c ih =>
    intro s e s' Q h hQ
    change (match ev C L c s with | some (.exit i, s') => (match Nat.beq i id with | true => some (.normal, s') | false => some (.exit i, s')) | r => r) = some (e, s') at h
    split at h
    · rename_i i s1 h1
      refine ih _ _ _ _ h1 ?_
      simp only
      split at h
      · rename_i hb
        rw [if_pos (Nat.eq_of_beq_eq_true hb)]
        simp only [Option.some.injEq, Prod.mk.injEq] at h
        obtain ⟨rfl, rfl⟩ := h
        exact hQ
      · rename_i hb
        rw [if_neg (Nat.ne_of_beq_eq_false hb)]
        simp only [Option.some.injEq, Prod.mk.injEq] at h
        obtain ⟨rfl, rfl⟩ := h
        exact hQ
    · rename_i hne
      refine ih _ _ _ _ h ?_
      cases e with
      | normal => exact hQ
      | exit i => exact absurd h (hne _ _)
      | ret => exact hQ
  | loop c ih =>
    intro s e s' Q h hQ
    exact iter_sound ih L s e s' Q h hQ

/-! ### tables of functions -/
inductive FE where
  | code (nt : Nat) (vc : VC) (rs : List RV)
  | lent (nt : Nat) (vc : VC) (rs : List RV)
  | spec (F : List V → Obs → Option (V × Obs))

inductive TOk (P : Program) : List (Nat × FE) → Prop
  | nil : TOk P []
  | code {f : Nat} {fo : List Nat} {fn : Func} {vc : VC} {rs : List RV} {T : List (Nat × FE)} : FnOkF fo P f fn vc rs → TOk P T → TOk P ((f, .code fn.ntmps vc rs) :: T)
  | lent {f : Nat} {fo : List Nat} {fn : Func} {vc : VC} {rs : List RV} {T : List (Nat × FE)} : FnOkF fo P f fn vc rs → TOk P T → TOk P ((f, .lent fn.ntmps vc rs) :: T)
  | spec {f : Nat} {F : List V → Obs → Option (V × Obs)} {T : List (Nat × FE)} : (∀ args ob r ob', F args ob = some (r, ob') → VCall P f args ob r ob') → TOk P T → TOk P ((f, .spec F) :: T)

theorem TOk.append {P : Program} {A B : List (Nat × FE)} (h : TOk P A) (g : TOk P B) : TOk P (A ++ B) := by
  induction h with
  | nil => exact g
  | code h1 _ ih => exact .code h1 ih
  | lent h1 _ ih => exact .lent h1 ih
  | spec h1 _ ih => exact .spec h1 ih

/-- Objects of the callee's own that nobody can come to any more are left. -/
def trimR (n : Nat) (x : V) (ob : Obs) : V × Obs :=
  match Nat.ble (n + 12) ob.length && (wfV n x && wfOb n (ob.take n)) with
  | true => (x, ob.take n)
  | false => (x, ob)

def callT (ih : Orac) (L : Nat) (f : FuncId) (args : List V) (ob : Obs) (T : List (Nat × FE)) : Option (V × Obs) :=
  List.rec none (fun p _ rest => match Nat.beq f p.1 with
    | false => rest
    | true => match p.2 with
      | .lent _ _ _ => rest
      | .spec F => match F args ob with
        | some r => some r
        | none => rest
      | .code nt vc rs => match Nat.ble args.length nt with
        | true => match ev ih L vc (St.init args ob) with
          | some (.exit _, _) => none
          | some (_, s) => match resV s rs with | some x => some (trimR ob.length x s.ob) | none => none
          | none => none
        | false => none) T

def run (T : List (Nat × FE)) (L : Nat) (n : Nat) : Orac :=
  Nat.rec (motive := fun _ => Orac) (fun _ _ _ => none) (fun _ ih f args ob => callT ih L f args ob T) n

/-- The end of a function, to the letter. -/
def RetE (rs : List RV) (r : V) (ob' : Obs) : VX → St → Prop
  | .exit _, _ => False
  | _, s => resV s rs = some r ∧ s.ob = ob'

theorem VCall.introE {fo : List Nat} {P : Program} {f : FuncId} {fn : Func} {vc : VC} {rs : List RV} (hok : FnOkF fo P f fn vc rs) {args : List V} {r : V} {ob ob' : Obs} (hn : args.length ≤ fn.ntmps) (h : vwp P vc (RetE rs r ob') (St.init args ob)) : VCall P f args ob r ob' := by
  refine ⟨hok.enter, fun w E vs hdom hob hf hr => ?_⟩
  obtain ⟨c, hb, hc⟩ := Option.bind_eq_some_iff.1 hok.body
  refine calls_of_wp hok.func hb ?_
  refine wp_mono (vwp_sound c vc hc _ _ _ _ _ (Rel.init hn hdom hob hf hr) h) ?_
  intro e a w' hl
  have fin : (∃ s E', (resV s rs = some r ∧ s.ob = ob') ∧ Rel w E.dry fn.ntmps s a w' E') → a.defers = [] ∧ ∃ v, (results fn a.tmps).run P w' = .ok v w' ∧ ∃ v_1 E', Ending.returned v = .returned v_1 ∧ WRes E w r ob' v_1 w' E' := by
    rintro ⟨s, E', ⟨hx, rfl⟩, hrel⟩
    obtain ⟨v, h1, h2⟩ := res_sound hok.res hrel hx
    exact ⟨hrel.defers, v, h1, v, E', rfl, hrel.ext.ofBare, hrel.dom, h2, hrel.objs, hrel.fresh⟩
  cases e with
  | normal => exact fin hl
  | ret => exact fin hl
  | exit id => obtain ⟨s, E', hk, _⟩ := hl; exact hk.elim
  | goto l => exact hl.elim
  | panic ch => exact hl.elim
  | outgrown => exact hl.elim

theorem trim_ok {P : Program} {f : FuncId} {args : List V} {ob ob1 : Obs} {x : V} (h : VCall P f args ob x ob1) {r : V} {ob' : Obs} (ht : trimR ob.length x ob1 = (r, ob')) : VCall P f args ob r ob' := by
  unfold trimR at ht
  split at ht
  · rename_i hb
    simp only [Bool.and_eq_true] at hb
    obtain ⟨h1, h2, h3⟩ := hb
    have h1 := Nat.le_of_ble_eq_true h1
    simp only [Prod.mk.injEq] at ht
    obtain ⟨rfl, rfl⟩ := ht
    have hl : (ob1.take ob.length).length = ob.length := by rw [List.length_take]; omega
    refine VCall.trim (ob' := ob1.take ob.length) (extra := ob1.drop ob.length) ?_ (by omega) (by rw [hl]; exact h2) (by rw [hl]; exact h3)
    rw [List.take_append_drop]; exact h
  · simp only [Prod.mk.injEq] at ht
    obtain ⟨rfl, rfl⟩ := ht
    exact h

theorem callT_sound {P : Program} {ih : Orac} (hih : ∀ g as ob r ob', ih g as ob = some (r, ob') → VCall P g as ob r ob') (L : Nat) {f : FuncId} {args : List V} {ob : Obs} {r : V} {ob' : Obs} {T : List (Nat × FE)} (hT : TOk P T) : callT ih L f args ob T = some (r, ob') → VCall P f args ob r ob' := by
  induction hT with
  | nil => intro h; cases h
  | @spec g F T h1 _ IH =>
    intro h
    change (match Nat.beq f g with
      | false => callT ih L f args ob T
      | true => match F args ob with
        | some r => some r
        | none => callT ih L f args ob T) = some (r, ob') at h
    split at h
    · exact IH h
    · rename_i hb
      have := Nat.eq_of_beq_eq_true hb
      subst this
      split at h
      · rename_i q hq
        rw [h] at hq
        exact h1 _ _ _ _ hq
      · exact IH h
  | @lent g fo fn vc rs T hok _ IH =>
    intro h
    change (match Nat.beq f g with
      | false => callT ih L f args ob T
      | true => callT ih L f args ob T) = some (r, ob') at h
    split at h <;> exact IH h
  | @code g fo fn vc rs T hok _ IH =>
    intro h
    change (match Nat.beq f g with
      | false => callT ih L f args ob T
      | true => match Nat.ble args.length fn.ntmps with
        | true => match ev ih L vc (St.init args ob) with
          | some (.exit _, _) => none
          | some (_, s) => match resV s rs with | some x => some (trimR ob.length x s.ob) | none => none
          | none => none
        | false => none) = some (r, ob') at h
    split at h
    · exact IH h
    · rename_i hb
      have := Nat.eq_of_beq_eq_true hb
      subst this
      split at h <;> try (cases h; done)
      rename_i hle
      have go : ∀ e s, ev ih L vc (St.init args ob) = some (e, s) → (∀ i, e ≠ .exit i) → (match resV s rs with | some x => some (trimR ob.length x s.ob) | none => none) = some (r, ob') → VCall P f args ob r ob' := by
        intro e s he hne h
        split at h <;> simp only [reduceCtorEq, Option.some.injEq] at h
        rename_i x hx
        refine trim_ok (VCall.introE hok (Nat.le_of_ble_eq_true hle) (ev_sound hih L vc _ e s _ he ?_)) h
        cases e with
        | normal => exact ⟨hx, rfl⟩
        | exit i => exact absurd rfl (hne i)
        | ret => exact ⟨hx, rfl⟩
      split at h <;> try (cases h; done)
      rename_i e s hne he
      exact go e s he (fun i hi => hne i hi) h

theorem run_sound {P : Program} {T : List (Nat × FE)} (hT : TOk P T) (L : Nat) : ∀ (n : Nat) (f : FuncId) (args : List V) (ob : Obs) (r : V) (ob' : Obs), run T L n f args ob = some (r, ob') → VCall P f args ob r ob'
  | 0, f, args, ob, r, ob', h => by cases h
  | n + 1, f, args, ob, r, ob', h => callT_sound (run_sound hT L n) L hT h

end
end Go.Proofs.VL

namespace Go.Proofs.VL
open Go Go.RowKit
set_option linter.unusedSimpArgs false
set_option linter.unusedVariables false
noncomputable section

/-! ### going on from the midst of a walk by carrying out -/
def orM (C : Orac) (m : Option (Bool × Bool)) : VO → (X → V) → Obs → Option (V × Obs) := match m with | none => evO C | some m => evOD C m.1 m.2
def evM (C : Orac) (os : List (Option (Bool × Bool) × VOper)) : St → Option St :=
  List.rec (motive := fun _ => St → Option St) (fun s => some s) (fun o _ ih s => match evG (orM C o.1) o.2 s with | some s' => ih s' | none => none) os

def evF (C : Orac) (L : Nat) (fs : List Fr) : VX → St → Option (VX × St) :=
  List.rec (motive := fun _ => VX → St → Option (VX × St)) (fun e s => some (e, s)) (fun f _ ih e s => match f with
    | .seq b => match e with
      | .normal => match ev C L b s with | some (e, s') => ih e s' | none => none
      | e => ih e s
    | .block id => match e with
      | .exit i => match Nat.beq i id with | true => ih .normal s | false => ih (.exit i) s
      | e => ih e s) fs

def vkRun (C : Orac) (L : Nat) (os : List (Option (Bool × Bool) × VOper)) (c : VC) (fs : List Fr) (s : St) : Option (VX × St) :=
  match evM C os s with
  | some s1 => match ev C L c s1 with
    | some (e, s2) => evF C L fs e s2
    | none => none
  | none => none

theorem evM_sound {P : Program} {C : Orac} (hC : ∀ g as ob r ob', C g as ob = some (r, ob') → VCall P g as ob r ob') : ∀ (os : List (Option (Bool × Bool) × VOper)) (s s' : St) (K : St → Prop), evM C os s = some s' → K s' → mops P os s K
  | [], s, s', K, h, hk => by
    change some s = some s' at h
    simp only [Option.some.injEq] at h
    subst h
    exact hk
  | (m, o) :: os, s, s', K, h, hk => by
    change (match evG (orM C m) o s with | some s' => evM C os s' | none => none) = some s' at h
    split at h <;> try (cases h; done)
    rename_i s1 h1
    cases m with
    | none => exact evG_step (P := P) (K := fun s' => mops P os s' K) (S := fun o ρ ob K => o.step P ρ ob K) (fun o ρ ob v ob' K hf hk => evO_step hC hf hk) h1 (evM_sound hC os s1 s' K h hk)
    | some m => exact evG_step (P := P) (K := fun s' => mops P os s' K) (S := fun o ρ ob K => o.stepD P m.1 m.2 ρ ob K) (fun o ρ ob v ob' K hf hk => evOD_step hC hf hk) h1 (evM_sound hC os s1 s' K h hk)

theorem evF_sound {P : Program} {C : Orac} (hC : ∀ g as ob r ob', C g as ob = some (r, ob') → VCall P g as ob r ob') (L : Nat) : ∀ (fs : List Fr) (e : VX) (s : St) (e' : VX) (s' : St) (Q : VX → St → Prop), evF C L fs e s = some (e', s') → Q e' s' → kont P fs Q e s
  | [], e, s, e', s', Q, h, hQ => by
    change some (e, s) = some (e', s') at h
    simp only [Option.some.injEq, Prod.mk.injEq] at h
    obtain ⟨rfl, rfl⟩ := h
    exact hQ
  | .seq b :: fs, e, s, e', s', Q, h, hQ => by
    cases e with
    | normal =>
      change (match ev C L b s with | some (e, s') => evF C L fs e s' | none => none) = some (e', s') at h
      split at h <;> try (cases h; done)
      rename_i e1 s1 h1
      exact ev_sound hC L b s e1 s1 _ h1 (evF_sound hC L fs e1 s1 e' s' Q h hQ)
    | exit i => exact evF_sound hC L fs (.exit i) s e' s' Q h hQ
    | ret => exact evF_sound hC L fs .ret s e' s' Q h hQ
  | .block id :: fs, e, s, e', s', Q, h, hQ => by
    cases e with
    | normal => exact evF_sound hC L fs .normal s e' s' Q h hQ
    | ret => exact evF_sound hC L fs .ret s e' s' Q h hQ
    | exit i =>
      change (match Nat.beq i id with | true => evF C L fs .normal s | false => evF C L fs (.exit i) s) = some (e', s') at h
      show (if i = id then kont P fs Q .normal s else kont P fs Q (.exit i) s)
      split at h
      · rename_i hb
        rw [if_pos (Nat.eq_of_beq_eq_true hb)]
        exact evF_sound hC L fs .normal s e' s' Q h hQ
      · rename_i hb
        rw [if_neg (Nat.ne_of_beq_eq_false hb)]
        exact evF_sound hC L fs (.exit i) s e' s' Q h hQ

theorem vkRun_sound {P : Program} {C : Orac} (hC : ∀ g as ob r ob', C g as ob = some (r, ob') → VCall P g as ob r ob') {L : Nat} {os : List (Option (Bool × Bool) × VOper)} {c : VC} {fs : List Fr} {s : St} {e : VX} {s' : St} {Q : VX → St → Prop} (h : vkRun C L os c fs s = some (e, s')) (hQ : Q e s') : vk P os c fs Q s := by
  unfold vkRun at h
  split at h <;> try (cases h; done)
  rename_i s1 h1
  split at h <;> try (cases h; done)
  rename_i e2 s2 h2
  exact evM_sound hC os s s1 _ h1 (ev_sound hC L c s1 e2 s2 _ h2 (evF_sound hC L fs e2 s2 e s' Q h hQ))

/-- Does it end, and say true? -/
def isT (rs : List RV) : Option (VX × St) → Bool
  | some (.exit _, _) => false
  | some (_, s) => match resV s rs with | some (.bool b) => b | _ => false
  | none => false

theorem vk_ev {P : Program} {T : List (Nat × FE)} (hT : TOk P T) (L D : Nat) {os : List (Option (Bool × Bool) × VOper)} {c : VC} {fs : List Fr} {rs : List RV} {s : St} (h : isT rs (vkRun (run T L D) L os c fs s) = true) : vk P os c fs (RetV rs (.bool true)) s := by
  unfold isT at h
  split at h <;> try (cases h; done)
  rename_i e s' hne he
  split at h <;> try (cases h; done)
  rename_i b hb
  subst h
  refine vkRun_sound (run_sound hT L D) he ?_
  cases e with
  | exit i => exact absurd rfl (hne i)
  | normal => exact ⟨_, _, hb, rfl, .refl _⟩
  | ret => exact ⟨_, _, hb, rfl, .refl _⟩

/-- A function without parameters that says true. -/
def runT (T : List (Nat × FE)) (L D : Nat) (f : FuncId) (args : List V) : Bool := match run T L D f args [] with | some (.bool b, _) => b | _ => false

theorem runT_sound {P : Program} {T : List (Nat × FE)} (hT : TOk P T) (L D : Nat) {f : FuncId} {args : List V} (h : runT T L D f args = true) : VFn P f args (.bool true) := by
  unfold runT at h
  split at h <;> try (cases h; done)
  rename_i b ob' hb
  subst h
  exact (run_sound hT L D _ _ _ _ _ hb).lent rfl

/-- What a call comes to, its own objects lent. -/
def runV (T : List (Nat × FE)) (L D : Nat) (f : FuncId) (args : List V) : Option V := match run T L D f args [] with | some (r, ob') => lendV ob' r | none => none
theorem runV_sound {P : Program} {T : List (Nat × FE)} (hT : TOk P T) (L D : Nat) {f : FuncId} {args : List V} {y : V} (h : runV T L D f args = some y) : VFn P f args y := by
  unfold runV at h
  split at h <;> try (cases h; done)
  rename_i r ob' hb
  exact (run_sound hT L D _ _ _ _ _ hb).lent h

end
end Go.Proofs.VL

namespace Go.Proofs.VL
open Go Go.RowKit
set_option linter.unusedSimpArgs false
set_option linter.unusedVariables false
noncomputable section

/-! ### carrying out, with own arrays given up where an operation wants that -/
def vopsF (P : Program) : List VOper → St → (St → Prop) → Prop
  | [], s, K => K s
  | o :: os, s, K => (o.step P s fun s' => vopsF P os s' K) ∨ ∃ s1, s.fg s1 ∧ o.step P s1 fun s' => vopsF P os s' K

theorem vopsF_sound {fo : List Nat} {P : Program} {ops : Array Oper} {nt : Nat} {w0 : World} {E0 : Env} {Q : Exit → Act → World → Prop} {K : St → Prop} (hQ : ∀ a w, Good w0 E0 nt K a w → Q .normal a w) :
    ∀ (os : List Oper) (vs : List VOper), cOpers fo P nt ops.toList os = some vs → ∀ (s : St) (a : Act) (w : World) (E : Env), Rel w0 E0 nt s a w E → vopsF P vs s K → wpList P ops Q os a w
  | [], vs, hc, s, a, w, E, hr, h => by
    simp only [cOpers, Option.some.injEq] at hc; subst hc
    exact hQ a w ⟨s, E, h, hr⟩
  | o :: os, vs, hc, s, a, w, E, hr, h => by
    simp only [cOpers] at hc
    split at hc <;> simp only [reduceCtorEq, Option.some.injEq] at hc
    rename_i v vs' h1 h2
    subst hc
    have go : ∀ (s : St) (E : Env), Rel w0 E0 nt s a w E → (v.step P s fun s' => vopsF P vs' s' K) → wpList P ops Q (o :: os) a w := by
      intro s E hr h
      refine wpList_step fun K' hK' => ?_
      have := vop_sound (ops := ops) (Q := Q) h1 hr h
      split at this
      · rename_i hw
        rw [if_pos hw]
        exact Oper.wp_mono (fun a w ⟨s', E', hk, hr'⟩ => hK' a w (vopsF_sound hQ os vs' h2 s' a w E' hr' hk)) this
      · rename_i hw
        rw [if_neg hw]
        obtain ⟨s', E', hk, hr'⟩ := this
        exact hK' _ _ (vopsF_sound hQ os vs' h2 s' _ w E' hr' hk)
    simp only [vopsF] at h
    rcases h with h | ⟨s1, hfg, h⟩
    · exact go s E hr h
    · obtain ⟨E1, hr1⟩ := hr.forget hfg
      exact go s1 E1 hr1 h

def vwpF (P : Program) : VC → (VX → St → Prop) → St → Prop
  | .skip, Q, s => Q .normal s
  | .reg ops, Q, s => vopsF P ops s (Q .normal)
  | .dreg ops wc, Q, s => ∃ s1, (s = s1 ∨ s.fg s1) ∧ dvops P true ops wc s1 (Q .normal)
  | .dregF ops wc sp, Q, s => ∃ s1, (s = s1 ∨ s.fg s1) ∧ dvops P false ops wc s1 fun s' => chkS sp s' = true ∧ Q .normal s'
  | .areg _ _ _, _, _ => False
  | .chk sp, Q, s => chkS sp s = true ∧ Q .normal s
  | .seq a b, Q, s => vwpF P a (fun e s' => match e with | .normal => vwpF P b Q s' | e => Q e s') s
  | .seqc a b, Q, s => vwpF P a (fun e s' => match e with | .normal => vwpF P b Q s' | e => Q e s') s
  | .cond x a b, Q, s => match s.x x with | .bool c => if c = true then vwpF P a Q s else vwpF P b Q s | _ => False
  | .block id c, Q, s => vwpF P c (fun e s' => match e with | .exit i => if i = id then Q .normal s' else Q (.exit i) s' | e => Q e s') s
  | .loop c, Q, s => ∃ (I : Nat → St → Prop) (n : Nat), (∃ s1, s.thin s1 ∧ I n s1) ∧ ∀ n s, I n s → vwpF P c (fun e s' => match e with | .normal => ∃ m s1, m < n ∧ s'.thin s1 ∧ I m s1 | e => Q e s') s
  | .exit id, Q, s => Q (.exit id) s
  | .ret, Q, s => Q .ret s

theorem vwpF_sound {fo : List Nat} {P : Program} {nt : Nat} {w0 : World} {E0 : Env} : ∀ (c : Code) (vc : VC), comp fo P nt c = some vc → ∀ (Q : VX → St → Prop) (s : St) (a : Act) (w : World) (E : Env), Rel w0 E0 nt s a w E → vwpF P vc Q s → c.wp P (lift w0 E0 nt Q) a w
  | .skip, vc, hc, Q, s, a, w, E, hr, h => by
    simp only [comp, Option.some.injEq] at hc; subst hc
    exact wp_skip ⟨s, E, h, hr⟩
  | .exit id, vc, hc, Q, s, a, w, E, hr, h => by
    simp only [comp, Option.some.injEq] at hc; subst hc
    exact wp_exit ⟨s, E, h, hr⟩
  | .ret, vc, hc, Q, s, a, w, E, hr, h => by
    simp only [comp, Option.some.injEq] at hc; subst hc
    exact wp_ret ⟨s, E, h, hr⟩
  | .region id ops draw, vc, hc, Q, s, a, w, E, hr, h => by
    cases draw with
    | false =>
      simp only [comp] at hc
      obtain ⟨vs, hvs, rfl⟩ := opt_bind hc
      exact wp_region_list (vopsF_sound (fun a w hg => hg) _ _ hvs s a w E hr h)
    | true =>
      simp only [comp] at hc
      obtain ⟨vs, hvs, hc⟩ := Option.bind_eq_some_iff.1 hc
      by_cases hany : anyO fo vs = true
      · rw [if_pos hany] at hc
        split at hc <;> simp only [reduceCtorEq, Option.some.injEq] at hc
        subst hc
        exact h.elim
      rw [if_neg hany] at hc
      split at hc <;> simp only [reduceCtorEq, Option.some.injEq] at hc
      rename_i hok
      subst hc
      simp only [Bool.and_eq_true] at hok
      have less : ∀ s1, (s = s1 ∨ s.fg s1) → ∃ E1, Rel w0 E0 nt s1 a w E1 := by
        rintro s1 (rfl | hfg)
        · exact ⟨E, hr⟩
        · exact hr.forget hfg
      split at h
      · rename_i he
        obtain ⟨s1, hs1, h⟩ := h
        obtain ⟨E1, hr⟩ := less s1 hs1
        obtain ⟨S, h1, h2, h3⟩ := dvops_chain h
        rw [he] at hok
        exact dreg_sound hok.1 (dOk_of hok.2) hvs h2 (fun a w E hr => ⟨_, E, h3, hr⟩) (fun _ => rfl) rfl (h1 ▸ hr)
      · obtain ⟨s1, hs1, h⟩ := h
        obtain ⟨E1, hr⟩ := less s1 hs1
        obtain ⟨S, h1, h2, h3⟩ := dvops_chain h
        exact dreg_sound hok.1 (dOk_of hok.2) hvs h2 (fun a w E hr => ⟨_, E, h3.2, hr⟩) (fun e => by cases e) h3.1 (h1 ▸ hr)
  | .seq x y, vc, hc, Q, s, a, w, E, hr, h => by
    simp only [comp] at hc
    split at hc <;> simp only [reduceCtorEq, Option.some.injEq] at hc
    rename_i vx vy hx hy
    have h' : vwpF P (.seq vx vy) Q s := by
      subst hc
      unfold mkSeq at h
      split at h
      · split at h
        · exact h
        · exact h
      · exact h
    simp only [vwpF] at h'
    refine wp_seq (wp_mono (vwpF_sound x vx hx _ s a w E hr h') ?_)
    intro e a' w' hl
    cases e <;> simp only [lift, Exit.then] at hl ⊢
    · obtain ⟨s', E', hk, hr'⟩ := hl
      exact vwpF_sound y vy hy Q s' a' w' E' hr' hk
    all_goals exact hl
  | .cond c x y, vc, hc, Q, s, a, w, E, hr, h => by
    simp only [comp] at hc
    split at hc <;> simp only [reduceCtorEq, Option.some.injEq] at hc
    rename_i X vx vy hX hx hy
    subst hc
    simp only [vwpF] at h
    split at h <;> try (exact h.elim)
    rename_i b hb
    have hv := hr.x hX
    rw [hb] at hv
    simp only [Rep] at hv
    refine wp_cond hv ?_
    cases b
    · simp only [Bool.false_eq_true, if_false] at h ⊢
      exact vwpF_sound y vy hy Q s a w E hr h
    · simp only [if_true] at h ⊢
      exact vwpF_sound x vx hx Q s a w E hr h
  | .block id c, vc, hc, Q, s, a, w, E, hr, h => by
    simp only [comp] at hc
    obtain ⟨v, hv, rfl⟩ := opt_bind hc
    simp only [vwpF] at h
    refine wp_block (wp_mono (vwpF_sound c v hv _ s a w E hr h) ?_)
    intro e a' w' hl
    cases e with
    | exit i =>
      simp only [lift, Exit.inBlock] at hl ⊢
      split
      · rename_i hi
        simp only [hi, if_true] at hl
        exact hl
      · rename_i hi
        simp only [hi, if_false] at hl
        exact hl
    | _ => exact hl
  | .loop c, vc, hc, Q, s, a, w, E, hr, h => by
    simp only [comp] at hc
    obtain ⟨v, hv, rfl⟩ := opt_bind hc
    simp only [vwpF] at h
    obtain ⟨I, n, ⟨s1, hth, h0⟩, hround⟩ := h
    have key : ∀ n s a w E, I n s → Rel w0 E0 nt s a w E → (Code.loop c).wp P (lift w0 E0 nt Q) a w := by
      intro n0 s0 a0 w0' E0' hI0 hr0
      refine wp_loop_ghost (fun m a w => ∃ s E, I m s ∧ Rel w0 E0 nt s a w E) n0 ⟨s0, E0', hI0, hr0⟩ ?_
      rintro m a w ⟨s, E, hI, hr⟩
      refine wp_mono (vwpF_sound c v hv _ s a w E hr (hround m s hI)) ?_
      intro e a' w' hl
      cases e <;> simp only [lift, Exit.then] at hl ⊢
      · obtain ⟨s', E', ⟨m', s2, hm, hth', hI'⟩, hr'⟩ := hl
        exact ⟨m', hm, s2, E', hI', hr'.thin hth'⟩
      all_goals exact hl
    exact key n s1 a w E h0 (hr.thin hth)
  | .rangeFunc _ _ _ _, vc, hc, Q, s, a, w, E, hr, h => by simp [comp] at hc
  | .scope _, vc, hc, Q, s, a, w, E, hr, h => by simp [comp] at hc
  | .label _, vc, hc, Q, s, a, w, E, hr, h => by simp [comp] at hc
  | .goto _, vc, hc, Q, s, a, w, E, hr, h => by simp [comp] at hc
  | .refuse _, vc, hc, Q, s, a, w, E, hr, h => by simp [comp] at hc

theorem VCall.introF {fo : List Nat} {P : Program} {f : FuncId} {fn : Func} {vc : VC} {rs : List RV} (hok : FnOkF fo P f fn vc rs) {args : List V} {r : V} {ob ob' : Obs} (hn : args.length ≤ fn.ntmps) (h : vwpF P vc (RetE rs r ob') (St.init args ob)) : VCall P f args ob r ob' := by
  refine ⟨hok.enter, fun w E vs hdom hob hf hr => ?_⟩
  obtain ⟨c, hb, hc⟩ := Option.bind_eq_some_iff.1 hok.body
  refine calls_of_wp hok.func hb ?_
  refine wp_mono (vwpF_sound c vc hc _ _ _ _ _ (Rel.init hn hdom hob hf hr) h) ?_
  intro e a w' hl
  have fin : (∃ s E', (resV s rs = some r ∧ s.ob = ob') ∧ Rel w E.dry fn.ntmps s a w' E') → a.defers = [] ∧ ∃ v, (results fn a.tmps).run P w' = .ok v w' ∧ ∃ v_1 E', Ending.returned v = .returned v_1 ∧ WRes E w r ob' v_1 w' E' := by
    rintro ⟨s, E', ⟨hx, rfl⟩, hrel⟩
    obtain ⟨v, h1, h2⟩ := res_sound hok.res hrel hx
    exact ⟨hrel.defers, v, h1, v, E', rfl, hrel.ext.ofBare, hrel.dom, h2, hrel.objs, hrel.fresh⟩
  cases e with
  | normal => exact fin hl
  | ret => exact fin hl
  | exit id => obtain ⟨s, E', hk, _⟩ := hl; exact hk.elim
  | goto l => exact hl.elim
  | panic ch => exact hl.elim
  | outgrown => exact hl.elim

/-! #### giving own arrays up -/
abbrev Fz := Nat → Option (Nat × List (List V))
mutual
def frzV (z : Fz) (n : Nat) : V → V
  | .ref k m => match z k with
    | some (sz, rows) => if m ≤ rows.length then .sl sz (rows.take m) else .junk
    | none => if k < n then .ref k m else .junk
  | .ptr k o => if k < n then .ptr k o else .junk
  | .eptr k i s o => match z k with | some _ => .junk | none => if k < n then .eptr k i s o else .junk
  | .agg cs => .agg (frzL z n cs)
  | .tup cs => .tup (frzL z n cs)
  | .fn f a b => .fn f (frzL z n a) (frzL z n b)
  | .mapr k => if k < n then .mapr k else .junk
  | .refs k s o m => match z k with | some _ => .junk | none => if k < n then .refs k s o m else .junk
  | v => v
def frzL (z : Fz) (n : Nat) : List V → List V
  | [] => []
  | x :: xs => frzV z n x :: frzL z n xs
end

mutual
theorem frzV_sub {z : Fz} {n : Nat} {m : FM} (hz : ∀ k p, z k = some p → m.fz k = some p) (hm : ∀ k, k < n → m.ms[k]? = some (some k)) : (x : V) → SubM m x (frzV z n x)
  | .ref k q => by
    simp only [frzV]
    split
    · rename_i sz rows hk
      split
      · rename_i hle; exact .lent (hz _ _ hk) hle rfl
      · exact .junk _
    · split
      · rename_i h; exact .ref (hm _ h)
      · exact .junk _
  | .ptr k o => by
    simp only [frzV]
    split
    · rename_i h; exact .ptr (hm _ h)
    · exact .junk _
  | .eptr k i s o => by
    simp only [frzV]
    split
    · exact .junk _
    · split
      · rename_i h; exact .eptr (hm _ h)
      · exact .junk _
  | .agg cs => by simp only [frzV]; exact .agg (frzL_sub hz hm cs)
  | .tup cs => by simp only [frzV]; exact .tup (frzL_sub hz hm cs)
  | .fn f a b => by simp only [frzV]; exact .fn (frzL_sub hz hm a) (frzL_sub hz hm b)
  | .mapr k => by
    simp only [frzV]
    split
    · rename_i h; exact .mapr (hm _ h)
    · exact .junk _
  | .refs k s o q => by
    simp only [frzV]
    split
    · exact .junk _
    · split
      · rename_i h; exact .refs (hm _ h)
      · exact .junk _
  | .bool _ => by simp only [frzV]; exact .same _ rfl
  | .int _ _ => by simp only [frzV]; exact .same _ rfl
  | .str _ => by simp only [frzV]; exact .same _ rfl
  | .nils => by simp only [frzV]; exact .same _ rfl
  | .sl _ _ => by simp only [frzV]; exact .same _ rfl
  | .iptr _ => by simp only [frzV]; exact .same _ rfl
  | .nilp => by simp only [frzV]; exact .same _ rfl
  | .nilm => by simp only [frzV]; exact .same _ rfl
  | .nilf => by simp only [frzV]; exact .same _ rfl
  | .nili => by simp only [frzV]; exact .same _ rfl
  | .junk => by simp only [frzV]; exact .same _ rfl
theorem frzL_sub {z : Fz} {n : Nat} {m : FM} (hz : ∀ k p, z k = some p → m.fz k = some p) (hm : ∀ k, k < n → m.ms[k]? = some (some k)) : (xs : List V) → SubML m xs (frzL z n xs)
  | [] => by simp only [frzL]; exact .nil
  | x :: xs => by simp only [frzL]; exact .cons (frzV_sub hz hm x) (frzL_sub hz hm xs)
end

def frzO (z : Fz) (n : Nat) : VObj → Option VObj
  | .box cs => some (.box (frzL z n cs))
  | .miter (some j) a b c => if j < n then some (.miter (some j) a b c) else none
  | o => some o

def idL (i : Nat) : Nat → List (Option Nat)
  | 0 => []
  | n + 1 => some i :: idL (i + 1) n

/-- The objects, those of some names given up. -/
def frzOb (z : Fz) (n i : Nat) : List (Option VObj) → List (Option VObj)
  | [] => []
  | o :: os => (match z i with | some _ => none | none => o.bind (frzO z n)) :: frzOb z n (i + 1) os

theorem idL_get : ∀ (n i k : Nat), k < n → (idL i n)[k]? = some (some (i + k))
  | n + 1, i, 0, _ => rfl
  | n + 1, i, k + 1, h => by
    simp only [idL, List.getElem?_cons_succ]
    rw [idL_get n (i + 1) k (by omega)]
    congr 2; omega
theorem idL_B : ∀ (b n i : Nat), b ≤ n → fgB b i (idL i n) = true
  | 0, n, i, _ => by simp [fgB]
  | b + 1, n + 1, i, h => by simp only [idL, fgB, beq_self_eq_true, Bool.true_and]; exact idL_B b n (i + 1) (by omega)
theorem idL_L : ∀ (n i N : Nat), i + n ≤ N → fgL N (idL i n) = true
  | 0, i, N, _ => rfl
  | n + 1, i, N, h => by
    simp only [idL, fgL, Bool.and_eq_true, decide_eq_true_eq]
    exact ⟨by omega, idL_L n (i + 1) N (by omega)⟩
theorem fgU_ge : ∀ (n i : Nat) (obs : List (Option VObj)) (k : Nat), k ∈ fgU (idL i n) obs → i ≤ k ∧ ∃ o, obs[k - i]? = some (some o)
  | 0, i, obs, k, h => by simp [idL, fgU] at h
  | n + 1, i, [], k, h => by simp [idL, fgU] at h
  | n + 1, i, none :: obs, k, h => by
    simp only [idL, fgU] at h
    obtain ⟨h1, o, h2⟩ := fgU_ge n (i + 1) obs k h
    refine ⟨by omega, o, ?_⟩
    have e : k - i = (k - (i + 1)) + 1 := by omega
    rw [e, List.getElem?_cons_succ]; exact h2
  | n + 1, i, some o :: obs, k, h => by
    simp only [idL, fgU, List.mem_cons] at h
    rcases h with rfl | h
    · exact ⟨Nat.le_refl _, o, by simp⟩
    · obtain ⟨h1, o', h2⟩ := fgU_ge n (i + 1) obs k h
      refine ⟨by omega, o', ?_⟩
      have e : k - i = (k - (i + 1)) + 1 := by omega
      rw [e, List.getElem?_cons_succ]; exact h2
theorem fgU_nodup : ∀ (n i : Nat) (obs : List (Option VObj)), nodupB (fgU (idL i n) obs) = true
  | 0, i, obs => by simp [idL, fgU, nodupB]
  | n + 1, i, [] => by simp [idL, fgU, nodupB]
  | n + 1, i, none :: obs => by simp only [idL, fgU]; exact fgU_nodup n (i + 1) obs
  | n + 1, i, some o :: obs => by
    simp only [idL, fgU, nodupB, Bool.and_eq_true, Bool.not_eq_true', List.contains_eq_mem, decide_eq_false_iff_not]
    refine ⟨fun h => ?_, fgU_nodup n (i + 1) obs⟩
    have := (fgU_ge n (i + 1) obs i h).1
    omega
theorem frzOb_get (z : Fz) (n : Nat) : ∀ (l : List (Option VObj)) (i k : Nat), (frzOb z n i l)[k]? = (l[k]?).map fun o => match z (i + k) with | some _ => none | none => o.bind (frzO z n)
  | [], i, k => by simp [frzOb]
  | o :: l, i, 0 => by simp [frzOb]
  | o :: l, i, k + 1 => by
    simp only [frzOb, List.getElem?_cons_succ]
    rw [frzOb_get z n l (i + 1) k]
    have e : i + 1 + k = i + (k + 1) := by omega
    rw [e]
theorem frzOb_len (z : Fz) (n : Nat) : ∀ (l : List (Option VObj)) (i : Nat), (frzOb z n i l).length = l.length
  | [], i => rfl
  | o :: l, i => by simp [frzOb, frzOb_len z n l (i + 1)]

theorem subR_refl : (a : List (List V)) → SubR a a
  | [] => .nil
  | x :: a => .cons (SubL.refl x) (subR_refl a)

theorem frzO_m {z : Fz} {n : Nat} {m : FM} (hz : ∀ k p, z k = some p → m.fz k = some p) (hm : ∀ k, k < n → m.ms[k]? = some (some k)) {o o1 : VObj} (h : frzO z n o = some o1) : ObjM m o o1 := by
  cases o with
  | box cs =>
    simp only [frzO, Option.some.injEq] at h
    subst h
    exact .box (frzL_sub hz hm cs)
  | arr e sz rows =>
    simp only [frzO, Option.some.injEq] at h
    subst h
    exact .arr (subR_refl _)
  | fro sz rows =>
    simp only [frzO, Option.some.injEq] at h
    subst h
    exact .fro
  | map es c =>
    simp only [frzO, Option.some.injEq] at h
    subst h
    exact .map (SubE.refl _)
  | miter q a b c =>
    cases q with
    | none =>
      simp only [frzO, Option.some.injEq] at h
      subst h
      exact .miter0
    | some j =>
      simp only [frzO] at h
      split at h <;> simp only [reduceCtorEq, Option.some.injEq] at h
      rename_i hj
      subst h
      exact .miter (hm j hj)

theorem frzOb_O {z : Fz} {N : Nat} {s : St} {m : FM} (hz : ∀ k p, z k = some p → m.fz k = some p) (hm : ∀ k, k < N → m.ms[k]? = some (some k)) : ∀ (l : List (Option VObj)) (i : Nat), (∀ k, l[k]? = s.ob[i + k]?) → fgO s m (idL i l.length) (frzOb z N i l)
  | [], i, h => trivial
  | o :: l, i, h => by
    have IH := frzOb_O hz hm l (i + 1) (fun k => by have := h (k + 1); rw [List.getElem?_cons_succ] at this; rw [this]; congr 1; omega)
    have h0 := h 0
    simp only [List.getElem?_cons_zero, Nat.add_zero] at h0
    show fgO s m (some i :: idL (i + 1) l.length) ((match z i with | some _ => none | none => o.bind (frzO z N)) :: frzOb z N (i + 1) l)
    generalize hq : (match z i with | some _ => none | none => o.bind (frzO z N)) = q
    cases q with
    | none => exact IH
    | some o1 =>
      refine ⟨?_, IH⟩
      split at hq
      · cases hq
      · cases o with
        | none => cases hq
        | some o' =>
          exact ⟨o', h0.symm, frzO_m hz hm hq⟩

theorem dd_mem (t : Nat) (v : V) : ∀ (l : List (Nat × V)) (seen : List Nat), (t, v) ∈ dd l seen → t ∉ seen ∧ gt t l = v
  | [], seen, h => by cases h
  | p :: l, seen, h => by
    change (t, v) ∈ (match seen.any (Nat.beq p.1) with | true => dd l seen | false => p :: dd l (p.1 :: seen)) at h
    show _ ∧ (match Nat.beq t p.1 with | true => p.2 | false => gt t l) = v
    cases hs : seen.any (Nat.beq p.1) with
    | true =>
      rw [hs] at h
      obtain ⟨h1, h2⟩ := dd_mem t v l seen h
      refine ⟨h1, ?_⟩
      have hm : p.1 ∈ seen := by
        obtain ⟨x, hx, hb⟩ := List.any_eq_true.1 hs
        have : p.1 = x := Nat.eq_of_beq_eq_true hb
        exact this ▸ hx
      cases hq : Nat.beq t p.1 with
      | false => exact h2
      | true => exact absurd (Nat.eq_of_beq_eq_true hq ▸ hm) h1
    | false =>
      rw [hs] at h
      rcases List.mem_cons.1 h with e | h
      · subst e
        refine ⟨fun hm => ?_, by simp⟩
        have : seen.any (Nat.beq t) = true := List.any_eq_true.2 ⟨t, hm, by simp⟩
        rw [hs] at this; cases this
      · obtain ⟨h1, h2⟩ := dd_mem t v l _ h
        refine ⟨fun hm => h1 (List.mem_cons_of_mem _ hm), ?_⟩
        cases hq : Nat.beq t p.1 with
        | false => exact h2
        | true => exact absurd (Nat.eq_of_beq_eq_true hq ▸ List.mem_cons_self) h1

def frzT (z : Fz) (n : Nat) (l : List (Nat × V)) : List (Nat × V) := l.map fun p => (p.1, frzV z n p.2)
theorem fgT_of {s : St} {z : Fz} {n : Nat} {m : FM} (hz : ∀ k p, z k = some p → m.fz k = some p) (hm : ∀ k, k < n → m.ms[k]? = some (some k)) : ∀ l : List (Nat × V), (∀ p ∈ l, s.get p.1 = p.2) → fgT s m (frzT z n l)
  | [], _ => trivial
  | p :: l, h => by
    refine ⟨?_, fgT_of hz hm l fun q hq => h q (List.mem_cons_of_mem _ hq)⟩
    show SubM m (s.get p.1) (frzV z n p.2)
    rw [h p List.mem_cons_self]
    exact frzV_sub hz hm p.2

/-- Own arrays of some names, given up. -/
def frzZ (s : St) (ks : List Nat) : Fz := fun k => match ks.any (Nat.beq k) with
  | true => match s.ob[k]? with | some (some (.arr _ sz rows)) => some (sz, rows) | _ => none
  | false => none
def frzS (s : St) (ks : List Nat) : St := { tm := frzT (frzZ s ks) s.ob.length (dd s.tm []), ob := frzOb (frzZ s ks) s.ob.length 0 s.ob, base := s.base }

theorem frzS_fg (s : St) (ks : List Nat) (hb : s.base ≤ s.ob.length) : s.fg (frzS s ks) := by
  have hm : ∀ k, k < s.ob.length → (idL 0 s.ob.length)[k]? = some (some k) := fun k hk => by rw [idL_get _ 0 k hk]; simp
  have hz : ∀ k p, frzZ s ks k = some p → s.frz (fgU (idL 0 s.ob.length) (frzS s ks).ob) k = some p := by
    intro k p hk
    have hk0 := hk
    unfold frzZ at hk
    split at hk
    · split at hk <;> simp only [reduceCtorEq, Option.some.injEq] at hk
      rename_i e sz rows ho
      subst hk
      have hn : k ∉ fgU (idL 0 s.ob.length) (frzS s ks).ob := by
        intro hmem
        obtain ⟨_, o, h2⟩ := fgU_ge _ _ _ _ hmem
        have h2' : (frzOb (frzZ s ks) s.ob.length 0 s.ob)[k]? = some (some o) := by simpa [frzS] using h2
        rw [frzOb_get, Nat.zero_add, hk0, ho] at h2'
        simp at h2'
      unfold St.frz
      have hc : (!(fgU (idL 0 s.ob.length) (frzS s ks).ob).contains k) = true := by
        simp only [Bool.not_eq_true', List.contains_eq_mem, decide_eq_false_iff_not]; exact hn
      rw [hc]
      simp only [ho]
    · cases hk
  refine ⟨idL 0 s.ob.length, rfl, idL_B _ _ _ hb, idL_L _ _ _ (by omega), fgU_nodup _ _ _, ?_, ?_⟩
  · refine fgT_of hz hm _ ?_
    rintro ⟨t, v⟩ hp
    obtain ⟨_, h⟩ := dd_mem t v _ _ hp
    show (s.tm.lookup t).getD .junk = v
    rw [← gt_eq]; exact h
  · exact frzOb_O hz hm s.ob 0 (fun k => by rw [Nat.zero_add])

/-- What an operation wants given up. -/
def fzX : VO → List X
  | .bsl _ _ _ _ _ parts => parts.map (·.2)
  | .upd _ _ _ x => [x]
  | .store _ _ x => [x]
  | .slc _ x _ _ _ => [x]
  | .boxI x => [x]
  | _ => []
mutual
def refsV : V → List Nat
  | .ref k _ => [k]
  | .agg cs => refsL cs
  | .tup cs => refsL cs
  | _ => []
def refsL : List V → List Nat
  | [] => []
  | x :: xs => refsV x ++ refsL xs
end
def evGF (C : Orac) (o : VOper) (s : St) : Option St :=
  match evG (evO C) o s with
  | some s' => some s'
  | none => match fzX o.op with
    | [] => none
    | xs => match Nat.ble s.base s.ob.length with
      | true => evG (evO C) o (frzS s ((refsL (xs.map (gx s.tm))).filter fun k => Nat.ble s.base k))
      | false => none
def evOpsF (C : Orac) (os : List VOper) : St → Option St :=
  List.rec (motive := fun _ => St → Option St) (fun s => some s) (fun o _ ih s => match evGF C o s with | some s' => ih s' | none => none) os

/-- What the first operation that does not go wants given up. -/
def badD (C : Orac) (fl : Bool) (os : List VOper) : List Bool → St → List Nat :=
  List.rec (motive := fun _ => List Bool → St → List Nat) (fun _ _ => []) (fun o _ ih wc s => match evG (evOD C fl (wc.headD false)) o s with | some s' => ih wc.tail s' | none => refsL ((fzX o.op).map (gx s.tm))) os
def evRD (C : Orac) (fl : Bool) (os : List VOper) (wc : List Bool) (s : St) : Option St :=
  match evOpsD C fl os wc s with
  | some s' => some s'
  | none => match (badD C fl os wc s).filter fun k => Nat.ble s.base k with
    | [] => none
    | ks => match Nat.ble s.base s.ob.length with
      | true => evOpsD C fl os wc (frzS s ks)
      | false => none
theorem evRD_sound {P : Program} {C : Orac} (hC : ∀ g as ob r ob', C g as ob = some (r, ob') → VCall P g as ob r ob') {fl : Bool} {os : List VOper} {wc : List Bool} {s s' : St} {K : St → Prop} (h : evRD C fl os wc s = some s') (hk : K s') : ∃ s1, (s = s1 ∨ s.fg s1) ∧ dvops P fl os wc s1 K := by
  unfold evRD at h
  split at h
  · rename_i s1 h1
    simp only [Option.some.injEq] at h
    subst h
    exact ⟨s, .inl rfl, evOpsD_sound hC os wc s _ K h1 hk⟩
  · split at h
    · cases h
    · split at h
      · rename_i hb
        exact ⟨_, .inr (frzS_fg s _ (Nat.le_of_ble_eq_true hb)), evOpsD_sound hC os wc _ _ K h hk⟩
      · cases h

def evf (C : Orac) (L : Nat) (c : VC) : St → Option (VX × St) :=
  VC.rec (motive := fun _ => St → Option (VX × St))
    (fun s => some (.normal, s))
    (fun ops s => match evOpsF C ops s with | some s' => some (.normal, s') | none => none)
    (fun ops wc s => match evRD C true ops wc s with | some s' => some (.normal, s') | none => none)
    (fun ops wc sp s => match evRD C false ops wc s with | some s' => if chkS sp s' = true then some (.normal, s') else none | none => none)
    (fun _ _ _ _ => none)
    (fun sp s => if chkS sp s = true then some (.normal, s) else none)
    (fun _ _ iha ihb s => match iha s with | some (.normal, s') => ihb s' | r => r)
    (fun _ _ iha ihb s => match iha s with | some (.normal, s') => ihb s' | r => r)
    (fun x _ _ iha ihb s => match gx s.tm x with | .bool c => (match c with | true => iha s | false => ihb s) | _ => none)
    (fun id _ ih s => match ih s with | some (.exit i, s') => (match Nat.beq i id with | true => some (.normal, s') | false => some (.exit i, s')) | r => r)
    (fun _ ih s => iter ih L (tidy s))
    (fun id s => some (.exit id, s))
    (fun s => some (.ret, s))
    c

theorem evGF_step {P : Program} {C : Orac} (hC : ∀ g as ob r ob', C g as ob = some (r, ob') → VCall P g as ob r ob') {o : VOper} {s s' : St} {K : St → Prop} (h : evGF C o s = some s') (hk : K s') : o.step P s K ∨ ∃ s1, s.fg s1 ∧ o.step P s1 K := by
  have go : ∀ s, evG (evO C) o s = some s' → o.step P s K := fun s h => evG_step (P := P) (S := fun o ρ ob K => o.step P ρ ob K) (fun o ρ ob v ob' K hf hk => evO_step hC hf hk) h hk
  unfold evGF at h
  split at h
  · rename_i s1 h1
    simp only [Option.some.injEq] at h
    subst h
    exact .inl (go s h1)
  · split at h
    · cases h
    · split at h
      · rename_i hb
        exact .inr ⟨_, frzS_fg s _ (Nat.le_of_ble_eq_true hb), go _ h⟩
      · cases h

theorem evOpsF_sound {P : Program} {C : Orac} (hC : ∀ g as ob r ob', C g as ob = some (r, ob') → VCall P g as ob r ob') : ∀ (os : List VOper) (s s' : St) (K : St → Prop), evOpsF C os s = some s' → K s' → vopsF P os s K
  | [], s, s', K, h, hk => by
    change some s = some s' at h
    simp only [Option.some.injEq] at h
    subst h
    exact hk
  | o :: os, s, s', K, h, hk => by
    change (match evGF C o s with | some s' => evOpsF C os s' | none => none) = some s' at h
    split at h <;> try (cases h; done)
    rename_i s1 h1
    exact evGF_step (P := P) (K := fun s' => vopsF P os s' K) hC h1 (evOpsF_sound hC os s1 s' K h hk)

theorem iterF_sound {P : Program} {c : VC} {f : St → Option (VX × St)} (hf : ∀ s e s' (Q : VX → St → Prop), f s = some (e, s') → Q e s' → vwpF P c Q s) (n : Nat) (s : St) (e : VX) (s' : St) (Q : VX → St → Prop) (h : iter f n (tidy s) = some (e, s')) (hQ : Q e s') : vwpF P (.loop c) Q s := by
  refine ⟨fun n s => iter f n s = some (e, s'), n, ⟨tidy s, tidy_thin s, h⟩, ?_⟩
  intro n s h
  cases n with
  | zero => cases h
  | succ n =>
    change (match f s with | some (.normal, s') => iter f n (tidy s') | r => r) = some (e, s') at h
    split at h
    · rename_i s1 h1
      refine hf _ _ _ _ h1 ?_
      exact ⟨n, tidy s1, Nat.lt_succ_self n, tidy_thin s1, h⟩
    · rename_i hne
      refine hf _ _ _ _ h ?_
      cases e with
      | normal => exact absurd h (hne _)
      | exit i => exact hQ
      | ret => exact hQ

theorem evf_sound {P : Program} {C : Orac} (hC : ∀ g as ob r ob', C g as ob = some (r, ob') → VCall P g as ob r ob') (L : Nat) (c : VC) : ∀ (s : St) (e : VX) (s' : St) (Q : VX → St → Prop), evf C L c s = some (e, s') → Q e s' → vwpF P c Q s := by
  induction c with
  | skip =>
    intro s e s' Q h hQ
    change some (VX.normal, s) = some (e, s') at h
    simp only [Option.some.injEq, Prod.mk.injEq] at h
    obtain ⟨rfl, rfl⟩ := h
    exact hQ
  | exit id =>
    intro s e s' Q h hQ
    change some (VX.exit id, s) = some (e, s') at h
    simp only [Option.some.injEq, Prod.mk.injEq] at h
    obtain ⟨rfl, rfl⟩ := h
    exact hQ
  | ret =>
    intro s e s' Q h hQ
    change some (VX.ret, s) = some (e, s') at h
    simp only [Option.some.injEq, Prod.mk.injEq] at h
    obtain ⟨rfl, rfl⟩ := h
    exact hQ
  | reg ops =>
    intro s e s' Q h hQ
    change (match evOpsF C ops s with | some s' => some (VX.normal, s') | none => none) = some (e, s') at h
    split at h <;> simp only [reduceCtorEq, Option.some.injEq, Prod.mk.injEq] at h
    rename_i s1 h1
    obtain ⟨rfl, rfl⟩ := h
    exact evOpsF_sound hC ops s s1 _ h1 hQ
  | dreg ops wc =>
    intro s e s' Q h hQ
    change (match evRD C true ops wc s with | some s' => some (VX.normal, s') | none => none) = some (e, s') at h
    split at h <;> simp only [reduceCtorEq, Option.some.injEq, Prod.mk.injEq] at h
    rename_i s1 h1
    obtain ⟨rfl, rfl⟩ := h
    exact evRD_sound hC h1 hQ
  | dregF ops wc sp =>
    intro s e s' Q h hQ
    change (match evRD C false ops wc s with | some s' => if chkS sp s' = true then some (VX.normal, s') else none | none => none) = some (e, s') at h
    split at h <;> try (cases h; done)
    rename_i s1 h1
    split at h <;> simp only [reduceCtorEq, Option.some.injEq, Prod.mk.injEq] at h
    rename_i hc
    obtain ⟨rfl, rfl⟩ := h
    exact evRD_sound hC h1 ⟨hc, hQ⟩
  | areg ops dirs done => intro s e s' Q h hQ; cases h
  | chk sp =>
    intro s e s' Q h hQ
    change (if chkS sp s = true then some (VX.normal, s) else none) = some (e, s') at h
    split at h <;> simp only [reduceCtorEq, Option.some.injEq, Prod.mk.injEq] at h
    rename_i hc
    obtain ⟨rfl, rfl⟩ := h
    exact ⟨hc, hQ⟩
  | seq a b iha ihb =>
    intro s e s' Q h hQ
    change (match evf C L a s with | some (.normal, s') => evf C L b s' | r => r) = some (e, s') at h
    split at h
    · rename_i s1 h1
      exact iha _ _ _ _ h1 (ihb _ _ _ _ h hQ)
    · rename_i hne
      refine iha _ _ _ _ h ?_
      cases e with
      | normal => exact absurd h (hne _)
      | exit i => exact hQ
      | ret => exact hQ
  | seqc a b iha ihb =>
    intro s e s' Q h hQ
    change (match evf C L a s with | some (.normal, s') => evf C L b s' | r => r) = some (e, s') at h
    split at h
    · rename_i s1 h1
      exact iha _ _ _ _ h1 (ihb _ _ _ _ h hQ)
    · rename_i hne
      refine iha _ _ _ _ h ?_
      cases e with
      | normal => exact absurd h (hne _)
      | exit i => exact hQ
      | ret => exact hQ
  | cond x a b iha ihb =>
    intro s e s' Q h hQ
    change (match gx s.tm x with | .bool c => (match c with | true => evf C L a s | false => evf C L b s) | _ => none) = some (e, s') at h
    rw [gx_eq] at h
    simp only [vwpF]
    split at h <;> try (cases h; done)
    rename_i c hc
    cases c
    · rw [if_neg (by decide)]; exact ihb _ _ _ _ h hQ
    · rw [if_pos rfl]; exact iha _ _ _ _ h hQ
  | block id c ih =>
    intro s e s' Q h hQ
    change (match evf C L c s with | some (.exit i, s') => (match Nat.beq i id with | true => some (.normal, s') | false => some (.exit i, s')) | r => r) = some (e, s') at h
    split at h
    · rename_i i s1 h1
      refine ih _ _ _ _ h1 ?_
      simp only
      split at h
      · rename_i hb
        rw [if_pos (Nat.eq_of_beq_eq_true hb)]
        simp only [Option.some.injEq, Prod.mk.injEq] at h
        obtain ⟨rfl, rfl⟩ := h
        exact hQ
      · rename_i hb
        rw [if_neg (Nat.ne_of_beq_eq_false hb)]
        simp only [Option.some.injEq, Prod.mk.injEq] at h
        obtain ⟨rfl, rfl⟩ := h
        exact hQ
    · rename_i hne
      refine ih _ _ _ _ h ?_
      cases e with
      | normal => exact hQ
      | exit i => exact absurd h (hne _ _)
      | ret => exact hQ
  | loop c ih =>
    intro s e s' Q h hQ
    exact iterF_sound ih L s e s' Q h hQ

def lentF (ih : Orac) (L : Nat) (nt : Nat) (vc : VC) (rs : List RV) (args : List V) : Option V :=
  match lendL [] args with
  | none => none
  | some as => match Nat.ble as.length nt with
    | false => none
    | true => match evf ih L vc (St.init as []) with
      | some (.exit _, _) => none
      | some (_, s) => match resV s rs with | some x => lendV s.ob x | none => none
      | none => none
theorem lentF_sound {P : Program} {ih : Orac} (hih : ∀ g as ob r ob', ih g as ob = some (r, ob') → VCall P g as ob r ob') {L : Nat} {f : FuncId} {fo : List Nat} {fn : Func} {vc : VC} {rs : List RV} (hok : FnOkF fo P f fn vc rs) {args : List V} {y : V} (h : lentF ih L fn.ntmps vc rs args = some y) (ob : Obs) : VCall P f args ob y ob := by
  unfold lentF at h
  split at h <;> try (cases h; done)
  rename_i as hl
  split at h <;> try (cases h; done)
  rename_i hle
  have go : ∀ e s, evf ih L vc (St.init as []) = some (e, s) → (∀ i, e ≠ .exit i) → (match resV s rs with | some x => lendV s.ob x | none => none) = some y → VCall P f args ob y ob := by
    intro e s he hne h
    split at h <;> try (cases h; done)
    rename_i x hx
    refine CallR.call ⟨as, .inl hl, VCall.lent (VCall.introF (ob' := s.ob) hok (Nat.le_of_ble_eq_true hle) (evf_sound hih L vc _ e s _ he ?_)) h⟩
    cases e with
    | normal => exact ⟨hx, rfl⟩
    | exit i => exact absurd rfl (hne i)
    | ret => exact ⟨hx, rfl⟩
  split at h <;> try (cases h; done)
  rename_i e s hne he
  exact go e s he (fun i hi => hne i hi) h
def callF (ih : Orac) (L : Nat) (f : FuncId) (args : List V) (ob : Obs) (T : List (Nat × FE)) : Option (V × Obs) :=
  List.rec none (fun p _ rest => match Nat.beq f p.1 with
    | false => rest
    | true => match p.2 with
      | .lent nt vc rs => match lentF ih L nt vc rs args with | some y => some (y, ob) | none => rest
      | .spec F => match F args ob with
        | some r => some r
        | none => rest
      | .code nt vc rs => match Nat.ble args.length nt with
        | true => match evf ih L vc (St.init args ob) with
          | some (.exit _, _) => none
          | some (_, s) => match resV s rs with | some x => some (trimR ob.length x s.ob) | none => none
          | none => none
        | false => none) T

def runF (T : List (Nat × FE)) (L : Nat) (n : Nat) : Orac :=
  Nat.rec (motive := fun _ => Orac) (fun _ _ _ => none) (fun _ ih f args ob => callF ih L f args ob T) n

theorem callF_sound {P : Program} {ih : Orac} (hih : ∀ g as ob r ob', ih g as ob = some (r, ob') → VCall P g as ob r ob') (L : Nat) {f : FuncId} {args : List V} {ob : Obs} {r : V} {ob' : Obs} {T : List (Nat × FE)} (hT : TOk P T) : callF ih L f args ob T = some (r, ob') → VCall P f args ob r ob' := by
  induction hT with
  | nil => intro h; cases h
  | @spec g F T h1 _ IH =>
    intro h
    change (match Nat.beq f g with
      | false => callF ih L f args ob T
      | true => match F args ob with
        | some r => some r
        | none => callF ih L f args ob T) = some (r, ob') at h
    split at h
    · exact IH h
    · rename_i hb
      have := Nat.eq_of_beq_eq_true hb
      subst this
      split at h
      · rename_i q hq
        rw [h] at hq
        exact h1 _ _ _ _ hq
      · exact IH h
  | @lent g fo fn vc rs T hok _ IH =>
    intro h
    change (match Nat.beq f g with
      | false => callF ih L f args ob T
      | true => match lentF ih L fn.ntmps vc rs args with | some y => some (y, ob) | none => callF ih L f args ob T) = some (r, ob') at h
    split at h
    · exact IH h
    · rename_i hb
      have := Nat.eq_of_beq_eq_true hb
      subst this
      split at h
      · rename_i y hy
        simp only [Option.some.injEq, Prod.mk.injEq] at h
        obtain ⟨rfl, rfl⟩ := h
        exact lentF_sound hih hok hy ob
      · exact IH h
  | @code g fo fn vc rs T hok _ IH =>
    intro h
    change (match Nat.beq f g with
      | false => callF ih L f args ob T
      | true => match Nat.ble args.length fn.ntmps with
        | true => match evf ih L vc (St.init args ob) with
          | some (.exit _, _) => none
          | some (_, s) => match resV s rs with | some x => some (trimR ob.length x s.ob) | none => none
          | none => none
        | false => none) = some (r, ob') at h
    split at h
    · exact IH h
    · rename_i hb
      have := Nat.eq_of_beq_eq_true hb
      subst this
      split at h <;> try (cases h; done)
      rename_i hle
      have go : ∀ e s, evf ih L vc (St.init args ob) = some (e, s) → (∀ i, e ≠ .exit i) → (match resV s rs with | some x => some (trimR ob.length x s.ob) | none => none) = some (r, ob') → VCall P f args ob r ob' := by
        intro e s he hne h
        split at h <;> simp only [reduceCtorEq, Option.some.injEq] at h
        rename_i x hx
        refine trim_ok (VCall.introF hok (Nat.le_of_ble_eq_true hle) (evf_sound hih L vc _ e s _ he ?_)) h
        cases e with
        | normal => exact ⟨hx, rfl⟩
        | exit i => exact absurd rfl (hne i)
        | ret => exact ⟨hx, rfl⟩
      split at h <;> try (cases h; done)
      rename_i e s hne he
      exact go e s he (fun i hi => hne i hi) h

theorem runF_sound {P : Program} {T : List (Nat × FE)} (hT : TOk P T) (L : Nat) : ∀ (n : Nat) (f : FuncId) (args : List V) (ob : Obs) (r : V) (ob' : Obs), runF T L n f args ob = some (r, ob') → VCall P f args ob r ob'
  | 0, f, args, ob, r, ob', h => by cases h
  | n + 1, f, args, ob, r, ob', h => callF_sound (runF_sound hT L n) L hT h

def runFT (T : List (Nat × FE)) (L D : Nat) (f : FuncId) (args : List V) : Bool := match runF T L D f args [] with | some (.bool b, _) => b | _ => false
theorem runFT_sound {P : Program} {T : List (Nat × FE)} (hT : TOk P T) (L D : Nat) {f : FuncId} {args : List V} (h : runFT T L D f args = true) : VFn P f args (.bool true) := by
  unfold runFT at h
  split at h <;> try (cases h; done)
  rename_i b ob' hb
  subst h
  exact (runF_sound hT L D _ _ _ _ _ hb).lent rfl

theorem vk_evF {P : Program} {T : List (Nat × FE)} (hT : TOk P T) (L D : Nat) {os : List (Option (Bool × Bool) × VOper)} {c : VC} {fs : List Fr} {rs : List RV} {s : St} (h : isT rs (vkRun (runF T L D) L os c fs s) = true) : vk P os c fs (RetV rs (.bool true)) s := by
  unfold isT at h
  split at h <;> try (cases h; done)
  rename_i e s' hne he
  split at h <;> try (cases h; done)
  rename_i b hb
  subst h
  refine vkRun_sound (runF_sound hT L D) he ?_
  cases e with
  | exit i => exact absurd rfl (hne i)
  | normal => exact ⟨_, _, hb, rfl, .refl _⟩
  | ret => exact ⟨_, _, hb, rfl, .refl _⟩
/-- What a call comes to, its own objects lent. -/
def runFV (T : List (Nat × FE)) (L D : Nat) (f : FuncId) (args : List V) : Option V := match runF T L D f args [] with | some (r, ob') => lendV ob' r | none => none
theorem runFV_sound {P : Program} {T : List (Nat × FE)} (hT : TOk P T) (L D : Nat) {f : FuncId} {args : List V} {y : V} (h : runFV T L D f args = some y) : VFn P f args y := by
  unfold runFV at h
  split at h <;> try (cases h; done)
  rename_i r ob' hb
  exact (runF_sound hT L D _ _ _ _ _ hb).lent h

end
end Go.Proofs.VL

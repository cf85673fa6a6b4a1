/- Contracts of functions of the program, for what calls them, and the law that its name tells. -/
import Derived.Test.YthlmgkfipbphmaaAR
import Derived.Test.YthlmgkfipbphmaaCarena
import Derived.Test.YthlmgkfipbphmaaCslices
import Derived.WalkKit
namespace Go.Proofs.VL
open Go Go.RowKit Go.MapKept
set_option maxRecDepth 100000
set_option maxHeartbeats 4000000
set_option linter.unusedSimpArgs false
set_option linter.unusedVariables false
attribute [local irreducible] vwp vk

/-- An operation that gives a value. -/
theorem wpList_val {P : Program} {ops : Array Oper} {Q : Exit → Act → World → Prop} {o : Oper} {os : List Oper} {a : Act} {w w' : World} {v : Value} (hg : o.guard = none) (h : (execOp a.eval o).run P w = .ok (.value v) w') (hk : wpList P ops Q os (a.put o.dst v) w') : wpList P ops Q (o :: os) a w := by
  refine wpList_step fun K' hK' => ?_
  have hw : Region.wanted o (yielded ops a.tmps) = true := by simp [Region.wanted, hg]
  rw [if_pos hw]
  unfold Oper.wp
  rw [h]
  exact hK' _ _ hk
theorem clone_calls (b : Nat) (ms : Array MapEntry) (clock : Nat) (w : World) (h : w.heap[b]? = some (.map ms clock)) :
    Calls Try.prog 43 #[.map (some b)] w fun e w' => e = .returned (.map (some w.heap.size)) ∧ w' = w.alloc (.map ms clock) := by
  refine calls_of_wp Try.func43 rfl ?_
  have e0 : (#[Value.map (some b)] : Array Value) ++ Array.replicate (Try.f43.ntmps - (#[Value.map (some b)] : Array Value).size) undef = #[.map (some b), undef, undef, undef, undef, undef, undef, undef, undef] := by rw [Try.ntmps43]; rfl
  rw [e0]
  have hu : Try.prog.underlying 44 = some (.map 3 37) := by kernel_rfl
  refine wp_seq ?_
  refine wp_region_list (wpList_val rfl rfl ?_)
  refine wp_seq (wp_seq (wp_region_list (wpList_val rfl (v := .map (some b)) (w' := w) rfl (wpList_val rfl (v := .bool false) (w' := w) ?_ (wp_cond_false rfl (wp_skip ?_))))))
  · exact exec_value rfl (ps_eqn (kd := .m) (t := 44) ⟨_, _, hu⟩ false (.tmp 3) (.const (.map none)) (w := w) (E := ⟨fun _ => True, fun _ => .imm, fun _ => b, fun _ => 0, fun _ => false⟩) (x := .mapr 0) (y := .nilm) (a := false) (b := true) ⟨trivial, rfl⟩ rfl rfl rfl rfl)
  · refine wp_seq (wp_region_list (wpList_val rfl (v := .map (some b)) (w' := w) rfl (wpList_val rfl (w' := w) (v := .iface 44 (.map (some b))) ?_ (wpList_val rfl (v := .iface 44 (.map (some w.heap.size))) (w' := w.alloc (.map ms clock)) ?_ (wpList_val rfl (w' := w.alloc (.map ms clock)) (v := .map (some w.heap.size)) ?_ (wpList_val rfl (v := .map (some w.heap.size)) (w' := w.alloc (.map ms clock)) rfl (wp_ret ?_)))))))
    · refine exec_value rfl ?_
      show (Instr.makeInterface 44 (.map (some b))).run Try.prog w = _
      simp [Instr.makeInterface, run_underlying hu]
    · have hf : Try.prog.funcs[65]? = some Try.f65 := Try.func65
      have hb : Try.f65.body = none := by kernel_rfl
      have hn0 : (Try.f65.name == "runtime.NumGoroutine") = false := by kernel_rfl
      have hn : ¬ Try.f65.name = "runtime.NumGoroutine" := by simpa using hn0
      have hx : Extern.findNext Try.f65 = none := by kernel_rfl
      have hy : Extern.find Try.f65 = some Extern.MapsClone.clone := by kernel_rfl
      show (do let d ← resolve (fun o => _) ⟨.value (.func 65), #[.tmp 6], #[20]⟩ 20; invoke d.target d.args : Sem Next).run Try.prog w = _
      have hc : Extern.MapsClone.clone #[.iface 44 (.map (some b))] = (do
          let .map entries clock ← getObj b | stuck "maps.clone: a map expected"
          pure (.iface 44 (.map (some (← newObj (.map entries clock)))))) := rfl
      have hv : ∀ (ρ : Operand → Value), ρ (.func 65) = .func (.func 65) #[] #[] → ρ (.tmp 6) = .iface 44 (.map (some b)) → (do let d ← resolve ρ ⟨.value (.func 65), #[.tmp 6], #[20]⟩ 20; invoke d.target d.args : Sem Next).run Try.prog w = .ok (.value (.iface 44 (.map (some w.heap.size)))) (w.alloc (.map ms clock)) := by
        intro ρ h1 h2
        simp [resolve, h1, h2, Deferred.ofValue, invoke, callFunc, hf, hb, hn, hx, hy, hc, MapKept.run_getObj_map h]
      exact hv _ rfl rfl
    · have hv : ∀ (ρ : Operand → Value) (w : World) (q : Nat) (d p a g), ρ (.tmp 7) = .iface 44 (.map (some q)) → (execOp ρ ⟨d, .typeAssert (.tmp 7) 20 44 false, 44, p, a, g⟩).run Try.prog w = .ok (.value (.map (some q))) w := by
        intro ρ w q d p a g h1
        simp [execOp, h1, Instr.typeAssert, run_underlying hu]
      exact hv _ _ _ _ _ _ _ (by simp [Act.eval, Act.put])
    · have hr : Try.f43.results = #[.tmp 2] := by kernel_rfl
      have hres : ∀ t : Array Value, t.getD 2 undef = .map (some w.heap.size) → (results Try.f43 t).run Try.prog (w.alloc (.map ms clock)) = .ok (.map (some w.heap.size)) (w.alloc (.map ms clock)) := by
        intro t ht
        rw [results_eq, hr]
        simp [resFn, ht]
      refine And.intro (by simp [Act.put]) ⟨_, hres _ (by simp [Act.put]), rfl, rfl⟩

theorem maps_clone (es : List (Nat × V × V)) (c : Nat) : VCall Try.prog 43 [.mapr 0] [some (.map es c)] (.mapr 1) [some (.map es c), some (.map es c)] := by
  refine ⟨⟨_, Try.func43, by kernel_rfl, by kernel_rfl⟩, fun w E vs hdom hob hf hv => ?_⟩
  simp only [RepL, Rep] at hv
  obtain ⟨v, vs', rfl, ⟨hd, rfl⟩, rfl⟩ := hv
  have hor := hob 0 _ rfl
  simp only [ObjRep] at hor
  obtain ⟨hl, ms, hh, hm⟩ := hor
  refine (clone_calls (E.blk 0) ms c w hh).mono ?_
  rintro e w' ⟨rfl, rfl⟩
  have hk : ¬ E.dom 1 := by rw [hdom]; simp
  have hres : RRes Try.prog E w [some (.map es c)] (.mapr 1) [.map es c] (.map (some w.heap.size)) (w.alloc (.map ms c)) (E.new 1 w.heap.size (.obj 1) 0 false) :=
    RRes.obj (ob := [some (.map es c)]) (.map ms c) hk hf (by simp [Rep, Env.new]) (by
      simp only [ObjRep]
      refine ⟨by simp [Env.new], ms, by simp only [Env.new, List.length_singleton, if_true]; exact push_get w _, ?_⟩
      exact MapRep.iext (RExt.new hk _ _ _ _).ext.pure.i hm)
  exact ⟨_, _, rfl, hres.w hdom hob⟩
end Go.Proofs.VL

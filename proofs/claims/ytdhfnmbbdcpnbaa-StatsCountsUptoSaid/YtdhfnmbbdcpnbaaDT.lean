/- Contracts of functions of the program, for what calls them, and the law that its name tells. -/
import Derived.Test.YtdhfnmbbdcpnbaaV3
import Derived.Conc.MuLone
import Derived.Test.YtdhfnmbbdcpnbaaProg
namespace Go.Proofs.VL
open Go Go.RowKit Go.Proofs Go.MuLone
set_option maxRecDepth 100000
set_option maxHeartbeats 1600000
set_option linter.unusedSimpArgs false
set_option linter.unusedVariables false

/-! ### the library's locks and atomic numbers -/
abbrev muLink : Go.Conc.Locks.MuLink := { lock := 55, unlock := 56, ilock := 101, iunlock := 102, lockSlow := 139, unlockSlow := 142, disable := 135, enable := 137, acquire := 138, relMerge := 140, cas32 := 136, add32 := 141, tMutex := 54, tIMutex := 52, tPMutex := 168, tPIMutex := 206, tPI32 := 208, tUP := 210, tNoCopy := 49, tU32 := 50 }
theorem muLib : Go.Conc.Locks.MuLib Try.prog muLink := by
  constructor
  all_goals first | kernel_rfl | (intro w; kernel_rfl) | (intros; rfl)

theorem load64 (w : World) (b off : Nat) (n : Int) (hc : w.cell? ⟨b, off, none⟩ = some (.int .i64 n)) : Calls Try.prog 57 #[.pointer (some ⟨b, off, none⟩)] w fun e w' => e = .returned (.int .i64 n) ∧ w' = w := by
  have hl := run_call_load (P := Try.prog) Try.func103 (by kernel_rfl) (by kernel_rfl) (by kernel_rfl) .i64 (by kernel_rfl) hc
  go_enter Try.func57, Try.ntmps57
  go_wp2
  go_ret
  exact ⟨rfl, rfl⟩

theorem add64 (w : World) (b off : Nat) (n d : Int) (hc : w.cell? ⟨b, off, none⟩ = some (.int .i64 n)) (hz : w.frozen? ⟨b, off, none⟩ = false) :
    Calls Try.prog 100 #[.pointer (some ⟨b, off, none⟩), .int .i64 d] w fun e w' => e = .returned (.int .i64 (IntKind.i64.wrap (n + d))) ∧ w' = w.setCell ⟨b, off, none⟩ (.int .i64 (IntKind.i64.wrap (n + d))) := by
  have ha := run_call_add (P := Try.prog) Try.func134 (by kernel_rfl) (by kernel_rfl) (by kernel_rfl) .i64 (by kernel_rfl) (y := d) (s := IntKind.i64.wrap (n + d)) hc hz rfl
  go_enter Try.func100, Try.ntmps100
  go_wp2
  go_ret
  simp [IntKind.wrap_i64, wrap64]

theorem loadB (w : World) (b off : Nat) (n : Int) (hc : w.cell? ⟨b, off, none⟩ = some (.int .u32 n)) : Calls Try.prog 98 #[.pointer (some ⟨b, off, none⟩)] w fun e w' => e = .returned (.bool (n != 0)) ∧ w' = w := by
  have hl := run_call_load (P := Try.prog) Try.func132 (by kernel_rfl) (by kernel_rfl) (by kernel_rfl) .u32 (by kernel_rfl) hc
  go_enter Try.func98, Try.ntmps98
  go_wp2
  go_ret
  exact ⟨rfl, rfl⟩

theorem storeB (w : World) (a : Addr) (x : Value) (u : FrameMode) (hc : w.cell? a = some x) (hz : w.frozen? a = false) :
    CallsD Try.prog 133 #[.pointer (some a), .bool true] u w fun e u' w' => u' = u ∧ (e = .returned (.tuple #[]) ∧ w' = w.drew.setCell a (.int .u32 1)) := by
  have hc' : w.drew.cell? a = some x := by go_simp
  have hz' : w.drew.frozen? a = false := by go_simp
  have hst := run_call_store (P := Try.prog) Try.func170 (by kernel_rfl) (by kernel_rfl) (by kernel_rfl) (by kernel_rfl) (k := .u32) (y := 1) hc' hz'
  go_enter_d Try.func133, Try.ntmps133
  go_wp2
  go_region_calls
  all_goals (go_end0; exact ⟨rfl, rfl⟩)

theorem repT {w : World} {E : Env} : Rep w E (.tup []) (.tuple #[]) := by simp only [Rep]; exact ⟨[], rfl, by simp [RepL]⟩
theorem repN {w : World} {E : Env} {us : List Value} (h : RepL w E [] us) : us = [] := by simpa only [RepL] using h

theorem en55 : Enter Try.prog 55 := ⟨_, Try.func55, by kernel_rfl, by kernel_rfl⟩
theorem en56 : Enter Try.prog 56 := ⟨_, Try.func56, by kernel_rfl, by kernel_rfl⟩
theorem en57 : Enter Try.prog 57 := ⟨_, Try.func57, by kernel_rfl, by kernel_rfl⟩
theorem en98 : Enter Try.prog 98 := ⟨_, Try.func98, by kernel_rfl, by kernel_rfl⟩
theorem en100 : Enter Try.prog 100 := ⟨_, Try.func100, by kernel_rfl, by kernel_rfl⟩
theorem en133 : Enter Try.prog 133 := ⟨_, Try.func133, by kernel_rfl, by kernel_rfl⟩

section
variable {B : List (Option VObj)} {k off : Nat} {cs : List V}
theorem lockC (hk : B[k]? = some (some (.box cs))) (hx : cs[off]? = some (.int .i32 0)) : VCall Try.prog 55 [.ptr k off] B (.tup []) (B.set k (some (.box (cs.set off (.int .i32 1))))) :=
  cell_call en55 (args := []) (avs := []) (fun _ _ _ => repN) (vr := .tuple #[]) (fun _ _ => repT) (fun w b hc hz => (lock_free muLib ⟨b, off, none⟩ w hc hz).mono (by rintro e w' ⟨rfl, rfl⟩; exact ⟨rfl, w.drawn, rfl⟩)) hk hx
theorem unlockD (hk : B[k]? = some (some (.box cs))) (hx : cs[off]? = some (.int .i32 1)) : VCallD Try.prog 56 [.ptr k off] B (B.set k (some (.box (cs.set off (.int .i32 0))))) :=
  cell_callD en56 (args := []) (avs := []) (fun _ _ _ => repN) (vr := .tuple #[]) (fun w b hc hz c cs hm => by
    obtain ⟨e, u', w', fr, ⟨h1, h2, h3⟩, h4⟩ := unlock_deferred muLib ⟨b, off, none⟩ .returning w hc hz c cs hm
    exact ⟨e, u', w', fr, ⟨h1, h2, w.drawn, h3⟩, h4⟩) hk hx
theorem addC {n d : Int} (hk : B[k]? = some (some (.box cs))) (hx : cs[off]? = some (.int .i64 n)) : VCall Try.prog 100 [.ptr k off, .int .i64 d] B (.int .i64 (IntKind.i64.wrap (n + d))) (B.set k (some (.box (cs.set off (.int .i64 (IntKind.i64.wrap (n + d))))))) :=
  cell_call en100 (args := [.int .i64 d]) (avs := [.int .i64 d]) (fun _ _ us h => by simp only [RepL, Rep] at h; obtain ⟨v, vs, rfl, rfl, rfl⟩ := h; rfl) (vr := .int .i64 (IntKind.i64.wrap (n + d))) (fun _ _ => by simp [Rep]) (fun w b hc hz => (add64 w b off n d hc hz).mono (by rintro e w' ⟨rfl, rfl⟩; exact ⟨rfl, w.drawn, rfl⟩)) hk hx
theorem loadC {n : Int} (hk : B[k]? = some (some (.box cs))) (hx : cs[off]? = some (.int .i64 n)) : VCall Try.prog 57 [.ptr k off] B (.int .i64 n) B :=
  cell_look en57 (args := []) (avs := []) (fun _ _ _ => repN) (vr := .int .i64 n) (fun _ _ => by simp [Rep]) (fun w b hc hz => load64 w b off n hc) hk hx
theorem loadBC {n : Int} (hk : B[k]? = some (some (.box cs))) (hx : cs[off]? = some (.int .u32 n)) : VCall Try.prog 98 [.ptr k off] B (.bool (n != 0)) B :=
  cell_look en98 (args := []) (avs := []) (fun _ _ _ => repN) (vr := .bool (n != 0)) (fun _ _ => by simp [Rep]) (fun w b hc hz => loadB w b off n hc) hk hx
theorem storeD {n : Int} (hk : B[k]? = some (some (.box cs))) (hx : cs[off]? = some (.int .u32 n)) : VCallD Try.prog 133 [.ptr k off, .bool true] B (B.set k (some (.box (cs.set off (.int .u32 1))))) :=
  cell_callD en133 (args := [.bool true]) (avs := [.bool true]) (fun _ _ us h => by simp only [RepL, Rep] at h; obtain ⟨v, vs, rfl, rfl, rfl⟩ := h; rfl) (vr := .tuple #[]) (fun w b hc hz c cs hm => by
    obtain ⟨e, u', w', fr, ⟨h1, h2, h3⟩, h4⟩ := storeB w ⟨b, off, none⟩ _ .returning hc hz c cs hm
    exact ⟨e, u', w', fr, ⟨h1, h2, w.drew.drawn, h3⟩, h4⟩) hk hx
end
end Go.Proofs.VL

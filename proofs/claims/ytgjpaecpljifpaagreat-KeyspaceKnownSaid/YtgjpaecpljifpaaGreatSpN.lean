/- A space in memory: what is answered where none is; New refuses. -/
import Derived.Test.YtgjpaecpljifpaaGreatSpK
namespace Go.Proofs.YtgjpaecpljifpaaGreat
open Go Go.RowKit Go.Proofs.YtgjpaecpljifpaaGreat Go.Maps Go.WideMaps

set_option maxRecDepth 100000 in
set_option maxHeartbeats 1000000 in
theorem met_nil (key : ByteArray) (w : World) :
    Calls Tryz.prog 45 #[.pointer none, .string key] w fun en w' => en = .returned (.tuple #[.pointer none, .bool false]) ∧ w = w' := by
  go_enter Tryz.func45, Tryz.ntmps45
  go_wp2_with fail
  go_ret2
  exact ⟨rfl, rfl⟩

set_option maxRecDepth 100000 in
set_option maxHeartbeats 1000000 in
theorem Get_nil (key : ByteArray) (w : World) :
    Calls Tryz.prog 13 #[.pointer none, .string key] w fun en w' => en = .returned (.tuple #[.pointer none, .bool false]) ∧ w = w' := by
  go_enter Tryz.func13, Tryz.ntmps13
  go_wp2_with (go_at_call 45; refine (met_nil _ _).mono ?_; rintro e w' ⟨rfl, rfl⟩)
  go_ret2
  exact ⟨rfl, rfl⟩

set_option maxRecDepth 100000 in
set_option maxHeartbeats 1000000 in
theorem Look_nil (key : ByteArray) (w : World) :
    Calls Tryz.prog 14 #[.pointer none, .string key] w fun en w' => en = .returned (.tuple #[.pointer none, .bool false]) ∧ w = w' := by
  go_enter Tryz.func14, Tryz.ntmps14
  go_wp2_with (go_at_call 45; refine (met_nil _ _).mono ?_; rintro e w' ⟨rfl, rfl⟩)
  go_ret2
  exact ⟨rfl, rfl⟩

set_option maxRecDepth 100000 in
set_option maxHeartbeats 1000000 in
theorem Stamp_nil (key : ByteArray) (w : World) :
    Calls Tryz.prog 12 #[.pointer none, .string key] w fun en w' => en = .returned (.tuple #[.int .u64 0, .bool false]) ∧ w = w' := by
  go_enter Tryz.func12, Tryz.ntmps12
  go_wp2_with (go_at_call 45; refine (met_nil _ _).mono ?_; rintro e w' ⟨rfl, rfl⟩)
  go_ret2
  exact ⟨rfl, rfl⟩

set_option maxRecDepth 100000 in
set_option maxHeartbeats 1000000 in
theorem Delete_nil (key : ByteArray) (w : World) :
    Calls Tryz.prog 29 #[.pointer none, .string key] w fun en w' => en = .returned (.bool false) ∧ w = w' := by
  go_enter Tryz.func29, Tryz.ntmps29
  go_wp2_with (go_at_call 45; refine (met_nil _ _).mono ?_; rintro e w' ⟨rfl, rfl⟩)
  go_ret
  exact ⟨rfl, rfl⟩

set_option maxRecDepth 100000 in
set_option maxHeartbeats 1000000 in
theorem Tick_nil (now : Int) (w : World) :
    Calls Tryz.prog 15 #[.pointer none, .int .i64 now] w fun en w' => en = .returned (.int .i64 1) ∧ w = w' := by
  go_enter Tryz.func15, Tryz.ntmps15
  go_wp2_with fail
  go_ret
  exact ⟨rfl, rfl⟩

set_option maxRecDepth 100000 in
set_option maxHeartbeats 1000000 in
theorem Put_nil (key : ByteArray) (v : Value) (w : World) :
    Calls Tryz.prog 10 #[.pointer none, .string key, v] w fun en w' => en = .returned (.int .i64 1) ∧ w = w' := by
  go_enter Tryz.func10, Tryz.ntmps10
  go_wp2_with fail
  go_ret
  exact ⟨rfl, rfl⟩

set_option maxRecDepth 100000 in
set_option maxHeartbeats 1000000 in
theorem Used_nil (w : World) :
    Calls Tryz.prog 27 #[.pointer none] w fun en w' => en = .returned (.int .i64 0) ∧ w = w' := by
  go_enter Tryz.func27, Tryz.ntmps27
  go_wp2_with fail
  go_ret
  exact ⟨rfl, rfl⟩

set_option maxRecDepth 100000 in
set_option maxHeartbeats 1000000 in
theorem Now_nil (w : World) :
    Calls Tryz.prog 25 #[.pointer none] w fun en w' => en = .returned (.int .i64 0) ∧ w = w' := by
  go_enter Tryz.func25, Tryz.ntmps25
  go_wp2_with fail
  go_ret
  exact ⟨rfl, rfl⟩

set_option maxRecDepth 100000 in
set_option maxHeartbeats 1000000 in
theorem Sweep_nil (n : Int) (w : World) :
    Calls Tryz.prog 30 #[.pointer none, .int .i64 n] w fun en w' => en = .returned (.int .i64 0) ∧ Keeps (fun _ => False) w w' := by
  go_enter Tryz.func30, Tryz.ntmps30
  go_wp2_with fail
  go_ret
  exact ⟨rfl, (Keeps.refl _ w).alloc _⟩

set_option maxRecDepth 100000 in
set_option maxHeartbeats 1000000 in
theorem all_nil (w : World) :
    Calls Tryz.prog 55 #[.pointer none] w fun en w' => en = .returned (.bool false) ∧ Keeps (fun _ => False) w w' := by
  go_enter Tryz.func55, Tryz.ntmps55
  go_wp2_with (go_at_call 30; refine (Sweep_nil _ _).mono ?_; rintro e w' ⟨rfl, hk⟩)
  go_ret
  exact ⟨rfl, hk⟩

set_option maxRecDepth 100000 in
set_option maxHeartbeats 1000000 in
theorem Len_nil (w : World) :
    Calls Tryz.prog 18 #[.pointer none] w fun en w' => en = .returned (.int .i64 0) ∧ Keeps (fun _ => False) w w' := by
  go_enter Tryz.func18, Tryz.ntmps18
  go_wp2_with (go_at_call 55; refine (all_nil _).mono ?_; rintro e w' ⟨rfl, hk⟩)
  go_ret
  exact ⟨rfl, hk⟩

set_option maxHeartbeats 1000000 in
theorem Put_none (b : Nat) (key : ByteArray) (w : World) :
    Calls Tryz.prog 10 #[.pointer (some ⟨b, 0, none⟩), .string key, .pointer none] w fun en w' => en = .returned (.int .i64 1) ∧ w = w' := by
  go_enter Tryz.func10, Tryz.ntmps10
  go_wp2_with fail
  go_ret
  exact ⟨rfl, rfl⟩

end Go.Proofs.YtgjpaecpljifpaaGreat

namespace Go.Proofs.YtgjpaecpljifpaaGreat
open Go Go.RowKit Go.Proofs.YtgjpaecpljifpaaGreat Go.Maps Go.WideMaps

set_option maxHeartbeats 4000000 in
theorem New_bad (c : Cfg) (w : World) (hc : c.bad = true) :
    Calls Tryz.prog 9 #[.agg (cfgCells c)] w
      fun en w' => en = .returned (.tuple #[.pointer none, .int .i64 3]) ∧ Keeps (fun _ => False) w w' := by
  have cs : ∀ (i : Nat), (w.alloc (.cells (cfgCells c) 29)).cell? ⟨w.heap.size, i, none⟩ = (cfgCells c)[i]? := fun i => (Blk.new w _ _).cell i
  have c0 : (w.alloc (.cells (cfgCells c) 29)).cell? ⟨w.heap.size, 0, none⟩ = some (.int .u64 c.seed) := cs 0
  have c1 : (w.alloc (.cells (cfgCells c) 29)).cell? ⟨w.heap.size, 1, none⟩ = some (.int .i64 c.most) := cs 1
  have c2 : (w.alloc (.cells (cfgCells c) 29)).cell? ⟨w.heap.size, 2, none⟩ = some (.int .i64 c.policy) := cs 2
  have c3 : (w.alloc (.cells (cfgCells c) 29)).cell? ⟨w.heap.size, 3, none⟩ = some (.int .i64 c.samples) := cs 3
  clear cs
  simp only [cfgCells] at c0 c1 c2 c3 ⊢
  have HC := Lib.hid hc
  clear hc
  go_enter Tryz.func9, Tryz.ntmps9
  go_upto_region 8 with fail
  all_goals first
    | (exfalso; have h := HC.out; simp only [Cfg.bad, Bool.or_eq_true, Bool.and_eq_true, decide_eq_true_eq] at h; simp_all; omega)
    | (go_ret2; exact ⟨rfl, (Keeps.refl _ w).alloc _⟩)

set_option maxHeartbeats 1000000 in
theorem Clear_nil (w : World) :
    Calls Tryz.prog 26 #[.pointer none] w fun en w' => en = .returned (.tuple #[]) ∧ Keeps (fun _ => False) w w' := by
  go_enter Tryz.func26, Tryz.ntmps26
  have hb : Keeps (fun _ => False) w (w.alloc (.cells #[.pointer none] 23)) := (Keeps.refl _ w).alloc _
  have HB := Lib.hid hb
  clear hb
  go_wp2_with fail
  go_at_call 55
  refine (all_nil _).mono ?_
  rintro en w1 ⟨rfl, hk⟩
  go_wp2_with fail
  refine bodyPost_ret (results_none rfl _ _ _) rfl ?_
  exact ⟨rfl, HB.out.trans hk⟩

set_option maxHeartbeats 1000000 in
theorem Stored_nil (w : World) :
    Calls Tryz.prog 28 #[.pointer none] w fun en w' => en = .returned (.slice none 0 0) ∧ Keeps (fun _ => False) w w' := by
  go_enter Tryz.func28, Tryz.ntmps28
  go_wp2_with fail
  go_ret
  exact ⟨rfl, Keeps.refl _ w⟩

set_option maxHeartbeats 1000000 in
theorem Config_nil (w : World) :
    Calls Tryz.prog 31 #[.pointer none] w fun en w' => en = .returned (.agg (cfgCells ⟨0, 0, 0, 0⟩)) ∧ Keeps (fun _ => False) w w' := by
  go_enter Tryz.func31, Tryz.ntmps31
  go_wp2_with fail
  have hres : Tryz.f31.results = #[.cell 2 29] := by kernel_rfl
  refine bodyPost_ret (v := .agg (cfgCells ⟨0, 0, 0, 0⟩)) ?_ rfl ⟨rfl, ?_⟩
  · simp only [results, hres]
    go_simp
    rfl
  · exact (Keeps.refl _ w).alloc _
end Go.Proofs.YtgjpaecpljifpaaGreat

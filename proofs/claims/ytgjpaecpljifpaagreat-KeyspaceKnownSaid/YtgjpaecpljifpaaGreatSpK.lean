/- A space in memory: New. -/
import Derived.Test.YtgjpaecpljifpaaGreatSpH
import Derived.Deep.RegionHeld3
namespace Go.Proofs.YtgjpaecpljifpaaGreat
open Go Go.RowKit Go.Proofs.YtgjpaecpljifpaaGreat Go.Maps Go.WideMaps

def dictCells (seed : Int) : Array Value := #[.int .u64 seed, .slice none 0 0, .slice none 0 0, .int .i64 0, .int .i64 0]
theorem New_dict (seed : Int) (w : World) :
    Calls Tryz.prog 44 #[.int .u64 seed] w fun e w' => e = .returned (.pointer (some ⟨w.heap.size, 0, none⟩)) ∧ w.alloc (.cells (dictCells seed) 184) = w' := by
  go_enter Tryz.func44, Tryz.ntmps44
  go_wp2
  go_ret
  exact ⟨rfl, rfl⟩

def cfgCells (c : Cfg) : Array Value := #[.int .u64 c.seed, .int .i64 c.most, .int .i64 c.policy, .int .i64 c.samples]
/-- Is a configuration refused? -/
def Cfg.bad (c : Cfg) : Bool := decide (c.most < 0) || decide (c.policy < 0) || decide (2 < c.policy) || decide (c.samples < 0) || decide (16 < c.samples) || (decide (c.samples = 0) && decide (c.policy ≠ 0))
def AS.empty (c : Cfg) : AS := ⟨c, 0, 0, 0, fun _ => none, fun _ => false, []⟩

theorem newD_ok (s : Int) (hash : ByteArray → Nat) (cap : Nat) : (DE.newD s).Ok hash cap := clear_ok (DE.newD s)
theorem newD_dict {w : World} {b : Nat} {s : Int} (h : Blk w b (dictCells s) 184) : DE.Good w b (DE.newD s) mostKeys :=
  ⟨⟨h, fun h => absurd rfl h, fun h => absurd rfl h, fun h => absurd rfl h⟩, newD_ok _ _ _, fun e he => absurd he (by simp [DE.newD, DM.ents, ents]), Nat.le_refl _⟩

theorem new_end {w w' : World} {c : Cfg} {b mB lB tB : Nat} {s2 : Int} (hk : Keeps (fun _ => False) w w') (hmB : w.heap.size ≤ mB) (hlB : w.heap.size ≤ lB) (htB : w.heap.size ≤ tB) (hb : w.heap.size ≤ b) (hne : mB ≠ lB)
    (h1 : Blk w' b #[.int .u64 c.seed, .int .i64 c.most, .int .i64 c.policy, .int .i64 c.samples, .int .i64 0, .int .u64 0, .int .i64 0, .pointer (some ⟨mB, 0, none⟩), .pointer (some ⟨lB, 0, none⟩), .map (some tB), .slice none 0 0] 100)
    (h2 : Blk w' mB (dictCells c.seed) 184) (h3 : Blk w' lB (dictCells s2) 184) (h4 : w'.heap[tB]? = some (.map #[] 0)) :
    ∃ L, SpaceAt w' b (AS.empty c) L [] ∧ Keeps (fun _ => False) w w' ∧ ∀ r, sfp b L r → w.heap.size ≤ r := by
  have hfp : ∀ (x : Nat) (s : Int) (r : Nat), DE.fp x (DE.newD s) r → r = x := by
    rintro x s r (h | ⟨h, _⟩ | ⟨h, _⟩ | ⟨e, he, _⟩)
    · exact h
    · exact absurd rfl h
    · exact absurd rfl h
    · exact absurd he (by simp [DE.newD, DM.ents, ents])
  refine ⟨⟨mB, lB, tB, DE.newD c.seed, DE.newD s2, fun _ => ⟨0, 0, 0, 0⟩, .slice none 0 0, .map []⟩, ⟨⟨h1, newD_dict h2, newD_dict h3, fun r hr hr' => ?_, fun e ⟨k, he⟩ => ?_, ?_, World.ownsRow_nil _ _ _ _⟩, fun _ => rfl, fun _ => rfl, fun k k' e he => ?_, fun _ _ => rfl, fun k hk => ?_, Nat.le_refl _, ?_, Int.le_refl _, fun k hk => ?_⟩, hk, ?_⟩
  · exact hne ((hfp _ _ _ hr).symm.trans (hfp _ _ _ hr'))
  · cases he
  · exact ⟨#[], 0, h4, ⟨by simp, MapKept.stamped_empty 0, by simp⟩, Nat.le_refl _, rfl⟩
  · cases he
  · rcases hk with hk | hk <;> cases hk
  · unfold mostKeys; simp
  · cases hk
  · rintro r (h | h | h | ⟨k, h⟩ | h | h)
    · rw [h]; exact hb
    · rw [hfp _ _ _ h]; exact hmB
    · rw [hfp _ _ _ h]; exact hlB
    · cases h
    · rw [h]; exact htB
    · cases h

theorem blk_at {w : World} (n : Nat) (hn : w.heap.size = n) (cs : Array Value) (t : TypeId) : Blk (w.alloc (.cells cs t)) n cs t := by subst hn; exact Blk.new w cs t
theorem map_at {w : World} (n : Nat) (hn : w.heap.size = n) (o : Obj) : (w.alloc o).heap[n]? = some o := by subst hn; exact World.alloc_heap_new w o
theorem map_up {w : World} {n : Nat} {o : Obj} (h : w.heap[n]? = some o) (o' : Obj) : (w.alloc o').heap[n]? = some o := (Below.heap_alloc w o' n (Array.getElem?_eq_some_iff.1 h).1).trans h

set_option maxHeartbeats 4000000 in
theorem New_good (c : Cfg) (w : World) (hc : c.bad = false) :
    Calls Tryz.prog 9 #[.agg (cfgCells c)] w
      fun en w' => ∃ b L, en = .returned (.tuple #[.pointer (some ⟨b, 0, none⟩), .int .i64 0]) ∧ SpaceAt w' b (AS.empty c) L [] ∧ Keeps (fun _ => False) w w' ∧ ∀ r, sfp b L r → w.heap.size ≤ r := by
  simp only [Cfg.bad, Bool.or_eq_false_iff, Bool.and_eq_false_iff, decide_eq_false_iff_not] at hc
  obtain ⟨⟨⟨⟨⟨h1, h2⟩, h3⟩, h4⟩, h5⟩, h6⟩ := hc
  have cs : ∀ (i : Nat), (w.alloc (.cells (cfgCells c) 29)).cell? ⟨w.heap.size, i, none⟩ = (cfgCells c)[i]? := fun i => (Blk.new w _ _).cell i
  have c0 : (w.alloc (.cells (cfgCells c) 29)).cell? ⟨w.heap.size, 0, none⟩ = some (.int .u64 c.seed) := cs 0
  have c1 : (w.alloc (.cells (cfgCells c) 29)).cell? ⟨w.heap.size, 1, none⟩ = some (.int .i64 c.most) := cs 1
  have c2 : (w.alloc (.cells (cfgCells c) 29)).cell? ⟨w.heap.size, 2, none⟩ = some (.int .i64 c.policy) := cs 2
  have c3 : (w.alloc (.cells (cfgCells c) 29)).cell? ⟨w.heap.size, 3, none⟩ = some (.int .i64 c.samples) := cs 3
  clear cs
  simp only [cfgCells] at c0 c1 c2 c3 ⊢
  obtain ⟨hz, hzz⟩ : ∃ hz, (c.samples == 0) = hz := ⟨_, rfl⟩
  have h6' : hz = true → c.policy = 0 := fun h => by
    rw [h] at hzz
    have : c.samples = 0 := by simpa using hzz
    rcases h6 with h6 | h6
    · exact absurd this h6
    · simpa using h6
  have H6 := Lib.hid h6'
  clear h6 h6'
  obtain ⟨bx, hbx⟩ : ∃ bx, w.heap.size = bx := ⟨_, rfl⟩
  obtain ⟨wB, hwB⟩ : ∃ wB, w.alloc (.cells #[.int .u64 c.seed, .int .i64 c.most, .int .i64 c.policy, .int .i64 c.samples] 29) = wB := ⟨_, rfl⟩
  have hlt : bx < wB.heap.size := by rw [← hwB, ← hbx]; simp
  rw [hbx, hwB] at c0 c1 c2 c3
  have hall : ∀ W, Keeps (fun _ => False) wB W → W.cell? ⟨bx, 0, none⟩ = some (.int .u64 c.seed) ∧ W.cell? ⟨bx, 1, none⟩ = some (.int .i64 c.most) ∧ W.cell? ⟨bx, 2, none⟩ = some (.int .i64 c.policy) ∧ W.cell? ⟨bx, 3, none⟩ = some (.int .i64 c.samples) := by
    intro W hW
    have he : W.heap[bx]? = wB.heap[bx]? := hW.same bx hlt id
    have hcell : ∀ i, W.cell? ⟨bx, i, none⟩ = wB.cell? ⟨bx, i, none⟩ := fun i => World.cell?_of_block (a := ⟨bx, i, none⟩) he
    exact ⟨(hcell 0).trans c0, (hcell 1).trans c1, (hcell 2).trans c2, (hcell 3).trans c3⟩
  have HAll := Lib.hid hall
  clear hall
  have hk : Keeps (fun _ => False) w wB := by rw [← hwB]; exact (Keeps.refl _ w).alloc _
  have hsz : w.heap.size ≤ wB.heap.size := hk.size
  have HK := Lib.hid hk
  have HS := Lib.hid hsz
  clear hlt hk hsz
  have hmm := @run_makeMap Tryz.prog
  cases hz
  case false =>
    go_enter Tryz.func9, Tryz.ntmps9
    go_upto_region 8 with fail
    go_region_held3 (fun w' => w'.cell? ⟨bx, 0, none⟩ = some (.int .u64 c.seed) ∧ w'.cell? ⟨bx, 1, none⟩ = some (.int .i64 c.most) ∧ w'.cell? ⟨bx, 2, none⟩ = some (.int .i64 c.policy) ∧ w'.cell? ⟨bx, 3, none⟩ = some (.int .i64 c.samples)) ((refine HAll.out _ ?_; repeat (first | exact Keeps.refl _ _ | apply Keeps.drew | apply Keeps.alloc | apply Keeps.drewN))) ((go_at_call 44; refine (New_dict _ _).mono ?_; rintro en w' ⟨rfl, rfl⟩))
    all_goals go_wp2_with fail
    all_goals go_ret2
    · obtain ⟨L, hL⟩ := new_end (c := c) (b := wB.heap.size + 1 + 1 + 1) (mB := wB.heap.size) (lB := wB.heap.size + 1) (tB := wB.heap.size + 1 + 1) (s2 := IntKind.u64.wrap (c.seed + 1)) (((((HK.out.alloc _).alloc _).alloc _).alloc _).drew) HS.out (by have := HS.out; omega) (by have := HS.out; omega) (by have := HS.out; omega) (by omega)
        (blk_at _ (by simp) _ _).drew ((((Blk.new _ _ _).alloc _).alloc _).alloc _).drew (((blk_at _ (by simp) _ _).alloc _).alloc _).drew (map_up (map_at _ (by simp) _) _)
      exact ⟨_, L, rfl, hL⟩
    · obtain ⟨L, hL⟩ := new_end (c := c) (b := wB.heap.size + 1 + 1 + 1) (mB := wB.heap.size) (tB := wB.heap.size + 1) (lB := wB.heap.size + 1 + 1) (s2 := IntKind.u64.wrap (c.seed + 1)) (((((HK.out.alloc _).alloc _).alloc _).alloc _).drew) HS.out (by have := HS.out; omega) (by have := HS.out; omega) (by have := HS.out; omega) (by omega)
        (blk_at _ (by simp) _ _).drew ((((Blk.new _ _ _).alloc _).alloc _).alloc _).drew ((blk_at _ (by simp) _ _).alloc _).drew (map_up (map_up (map_at _ (by simp) _) _) _)
      exact ⟨_, L, rfl, hL⟩
    · obtain ⟨L, hL⟩ := new_end (c := c) (b := wB.heap.size + 1 + 1 + 1) (tB := wB.heap.size) (mB := wB.heap.size + 1) (lB := wB.heap.size + 1 + 1) (s2 := IntKind.u64.wrap (c.seed + 1)) (((((HK.out.alloc _).alloc _).alloc _).alloc _).drew) (by have := HS.out; omega) (by have := HS.out; omega) HS.out (by have := HS.out; omega) (by omega)
        (blk_at _ (by simp) _ _).drew (((blk_at _ (by simp) _ _).alloc _).alloc _).drew ((blk_at _ (by simp) _ _).alloc _).drew (map_up (map_up (map_up (map_at _ (by simp) _) _) _) _)
      exact ⟨_, L, rfl, hL⟩
  case true =>
    have hp := H6.out rfl
    have hp' : (c.policy == 0) = true := by simpa using hp
    clear hp
    go_enter Tryz.func9, Tryz.ntmps9
    go_upto_region 8 with fail
    go_region_held3 (fun w' => w'.cell? ⟨bx, 0, none⟩ = some (.int .u64 c.seed) ∧ w'.cell? ⟨bx, 1, none⟩ = some (.int .i64 c.most) ∧ w'.cell? ⟨bx, 2, none⟩ = some (.int .i64 c.policy) ∧ w'.cell? ⟨bx, 3, none⟩ = some (.int .i64 c.samples)) ((refine HAll.out _ ?_; repeat (first | exact Keeps.refl _ _ | apply Keeps.drew | apply Keeps.alloc | apply Keeps.drewN))) ((go_at_call 44; refine (New_dict _ _).mono ?_; rintro en w' ⟨rfl, rfl⟩))
    all_goals go_wp2_with fail
    all_goals go_ret2
    · obtain ⟨L, hL⟩ := new_end (c := c) (b := wB.heap.size + 1 + 1 + 1) (mB := wB.heap.size) (lB := wB.heap.size + 1) (tB := wB.heap.size + 1 + 1) (s2 := IntKind.u64.wrap (c.seed + 1)) (((((HK.out.alloc _).alloc _).alloc _).alloc _).drew) HS.out (by have := HS.out; omega) (by have := HS.out; omega) (by have := HS.out; omega) (by omega)
        (blk_at _ (by simp) _ _).drew ((((Blk.new _ _ _).alloc _).alloc _).alloc _).drew (((blk_at _ (by simp) _ _).alloc _).alloc _).drew (map_up (map_at _ (by simp) _) _)
      exact ⟨_, L, rfl, hL⟩
    · obtain ⟨L, hL⟩ := new_end (c := c) (b := wB.heap.size + 1 + 1 + 1) (mB := wB.heap.size) (tB := wB.heap.size + 1) (lB := wB.heap.size + 1 + 1) (s2 := IntKind.u64.wrap (c.seed + 1)) (((((HK.out.alloc _).alloc _).alloc _).alloc _).drew) HS.out (by have := HS.out; omega) (by have := HS.out; omega) (by have := HS.out; omega) (by omega)
        (blk_at _ (by simp) _ _).drew ((((Blk.new _ _ _).alloc _).alloc _).alloc _).drew ((blk_at _ (by simp) _ _).alloc _).drew (map_up (map_up (map_at _ (by simp) _) _) _)
      exact ⟨_, L, rfl, hL⟩
    · obtain ⟨L, hL⟩ := new_end (c := c) (b := wB.heap.size + 1 + 1 + 1) (tB := wB.heap.size) (mB := wB.heap.size + 1) (lB := wB.heap.size + 1 + 1) (s2 := IntKind.u64.wrap (c.seed + 1)) (((((HK.out.alloc _).alloc _).alloc _).alloc _).drew) (by have := HS.out; omega) (by have := HS.out; omega) HS.out (by have := HS.out; omega) (by omega)
        (blk_at _ (by simp) _ _).drew (((blk_at _ (by simp) _ _).alloc _).alloc _).drew ((blk_at _ (by simp) _ _).alloc _).drew (map_up (map_up (map_up (map_at _ (by simp) _) _) _) _)
      exact ⟨_, L, rfl, hL⟩
end Go.Proofs.YtgjpaecpljifpaaGreat

/- A space in memory: the order of those that are due. -/
import Derived.Test.YtgjpaecpljifpaaGreatSpH
import Derived.Test.YtgjpaecpljifpaaGreatValT
import Derived.Deep.RegionHeld3
import Derived.Sort.Grow
namespace Go.Proofs.YtgjpaecpljifpaaGreat
open Go Go.RowKit Go.Proofs.YtgjpaecpljifpaaGreat Go.Maps Go.WideMaps Go.Sort

def dueVal (k : ByteArray) (e : Nat) : Array Value := #[.string k, .pointer (some ⟨e, 0, none⟩)]
/-- The order of those that are due: by their deadlines, then by their keys. -/
def dueCmp (ax ay : Int) (kx ky : ByteArray) : Int := orInt (cmpInt ax ay) (cmpText kx ky)

theorem three_grown (W : World) (a b c : Obj) : (((W.alloc a).alloc b).alloc c).drew = Go.Sort.grow (W.drewN 1) (#[a] ++ #[b] ++ #[c]) := by
  rw [alloc_eq_grow, alloc_eq_grow, alloc_eq_grow, grow_grow, grow_grow]; rfl

set_option maxRecDepth 100000 in
set_option maxHeartbeats 4000000 in
theorem due_cmp (ex ey : Nat) (rx ry : Rec) (kx ky : ByteArray) (W : World) (hx : Blk W ex (recCells rx) 106) (hy : Blk W ey (recCells ry) 106) :
    Calls Tryz.prog 82 #[.agg (dueVal kx ex), .agg (dueVal ky ey)] W fun e w' => e = .returned (.int .i64 (dueCmp rx.at_ ry.at_ kx ky)) ∧ ∃ q os', w' = Go.Sort.grow (W.drewN q) os' := by
  obtain ⟨W2, hW2⟩ : ∃ W2, (W.alloc (.cells (dueVal kx ex) 154)).alloc (.cells (dueVal ky ey) 154) = W2 := ⟨_, rfl⟩
  have hk : Keeps (fun _ => False) W W2 := by rw [← hW2]; exact ((Keeps.refl _ W).alloc _).alloc _
  have hb1 : Blk W2 W.heap.size (dueVal kx ex) 154 := by rw [← hW2]; exact (Blk.new W _ _).alloc _
  have hb2 : Blk W2 (W.heap.size + 1) (dueVal ky ey) 154 := by
    rw [← hW2]; have := Blk.new (W.alloc (.cells (dueVal kx ex) 154)) (dueVal ky ey) 154
    simpa using this
  have hall : ∀ w', Keeps (fun _ => False) W2 w' → w'.cell? ⟨W.heap.size, 0, none⟩ = some (.string kx) ∧ w'.cell? ⟨W.heap.size, 1, none⟩ = some (.pointer (some ⟨ex, 0, none⟩)) ∧ w'.cell? ⟨W.heap.size + 1, 0, none⟩ = some (.string ky) ∧ w'.cell? ⟨W.heap.size + 1, 1, none⟩ = some (.pointer (some ⟨ey, 0, none⟩)) ∧
      w'.cell? ⟨ex, 3, none⟩ = some (.int .i64 rx.at_) ∧ w'.cell? ⟨ey, 3, none⟩ = some (.int .i64 ry.at_) := fun w' h =>
    ⟨(h.blk hb1 id).cell 0, (h.blk hb1 id).cell 1, (h.blk hb2 id).cell 0, (h.blk hb2 id).cell 1, ((hk.trans h).blk hx id).cell 3, ((hk.trans h).blk hy id).cell 3⟩
  have HAll := Lib.hid hall
  clear hall hk hb1 hb2 hx hy
  simp only [dueVal] at hW2 ⊢
  go_enter Tryz.func82, Tryz.ntmps82
  go_upto_region 1 with fail
  try rw [hW2]
  go_region_held3 (fun w' => w'.cell? ⟨W.heap.size, 0, none⟩ = some (.string kx) ∧ w'.cell? ⟨W.heap.size, 1, none⟩ = some (.pointer (some ⟨ex, 0, none⟩)) ∧ w'.cell? ⟨W.heap.size + 1, 0, none⟩ = some (.string ky) ∧ w'.cell? ⟨W.heap.size + 1, 1, none⟩ = some (.pointer (some ⟨ey, 0, none⟩)) ∧ w'.cell? ⟨ex, 3, none⟩ = some (.int .i64 rx.at_) ∧ w'.cell? ⟨ey, 3, none⟩ = some (.int .i64 ry.at_))
    ((refine HAll.out _ ?_; repeat (first | exact Keeps.refl _ _ | apply Keeps.drew | apply Keeps.alloc | apply Keeps.drewN)))
    ((first
      | (go_at_call 84; refine (Compare_int _ _ _).mono ?_; rintro en w' ⟨rfl, rfl⟩)
      | (go_at_call 79; refine (Compare_text _ _ _).mono ?_; rintro en w' ⟨rfl, rfl⟩)
      | (go_at_call 83; refine (Or_two _ _ _ _ ((Blk.new _ _ _).cell 0) ((Blk.new _ _ _).cell 1)).mono ?_; rintro en w' ⟨rfl, rfl⟩)))
  go_wp2_with fail
  go_ret
  rw [← hW2]
  exact ⟨rfl, 1, _, three_grown W _ _ _⟩
end Go.Proofs.YtgjpaecpljifpaaGreat

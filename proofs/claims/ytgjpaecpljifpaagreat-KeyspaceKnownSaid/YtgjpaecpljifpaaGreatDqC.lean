/- A chunk in memory: cut. -/
import Derived.Test.YtgjpaecpljifpaaGreatDqB
namespace Go.Proofs.YtgjpaecpljifpaaGreat
open Go Go.RowKit Go.Proofs.YtgjpaecpljifpaaGreat

theorem zeroText (w : World) : (zeroValue 9).run Tryz.prog w = .ok (.string ByteArray.empty) w := by kernel_rfl
/-- The texts from place p on are cleared; the count is as it was. -/
theorem ck_clear {w : World} {c : Nat} {cs : Array Value} {p n1 : Nat} (h : Blk w c cs 204) (hs : cs.size = 33) (hp : p + n1 ≤ 32) (hn : 0 < n1) :
    ∃ W1, (∀ ty c1, (Builtin.clear_ #[38] ty #[.slice (some ⟨c, p, none⟩) n1 c1]).run Tryz.prog w = .ok (.tuple #[]) W1) ∧
      Blk W1 c (putAt cs p (List.replicate n1 (.string ByteArray.empty))) 204 ∧ Keeps (fun r => r = c) w W1 := by
  refine ⟨w.setCells c p (List.replicate n1 (.string ByteArray.empty)), fun ty c1 => ?_, h.setCells _ _, Keeps.setCells (S := fun r => r = c) _ (Keeps.refl _ _) (fun _ => rfl) _⟩
  refine Lib.run_clear_slice w _ _ ty _ Tryz.underlying38 zeroText rfl rfl c p n1 c1 hn (fun j hj => ?_) (fun j hj => h.frozen _)
  rw [h.cell, Array.getElem?_eq_getElem (by omega)]; rfl

/-- A chunk without the texts from .. to-1. -/
theorem putAt_cut {l : List ByteArray} {a b : Nat} (hl : l.length ≤ 32) (hab : a < b) (hb : b ≤ l.length) :
    (putAt (putAt (ckCells l) a ((l.drop b).map Value.string)) (a + (l.length - b)) (List.replicate (b - a) (.string ByteArray.empty))).setIfInBounds 32 (.int .i64 ((a + (l.length - b) : Nat) : Int)) = ckCells (l.take a ++ l.drop b) := by
  have hlen : (l.take a ++ l.drop b).length = a + (l.length - b) := by simp; omega
  have hsz := ckCells_size (l := l) (by omega)
  have hfit : a + ((l.drop b).map Value.string).length ≤ (ckCells l).size := by rw [hsz]; simp; omega
  have hfit2 : a + (l.length - b) + (List.replicate (b - a) (Value.string ByteArray.empty)).length ≤ (putAt (ckCells l) a ((l.drop b).map Value.string)).size := by rw [putAt_size, hsz]; simp; omega
  apply ck_ext (by omega)
  · simp [putAt_size, hsz]
  · intro i hi
    rw [Array.getElem?_setIfInBounds_ne (by omega), putAt_get _ _ _ _ hfit2, putAt_get _ _ _ _ hfit, ck_get (by omega), if_pos hi]
    simp only [List.length_replicate, List.length_map, List.length_drop, List.getD]
    by_cases h1 : i < a
    · rw [if_neg (by omega), if_neg (by omega), List.getElem?_append_left (by simp; omega), List.getElem?_take_of_lt h1]
    · rw [List.getElem?_append_right (by simp; omega), List.length_take, Nat.min_eq_left (by omega : a ≤ l.length), List.getElem?_drop]
      by_cases h2 : i < a + (l.length - b)
      · rw [if_neg (by omega), if_pos (by omega), List.getElem?_map, List.getElem?_drop, List.getElem?_eq_getElem (by omega : b + (i - a) < l.length)]
        rfl
      · rw [List.getElem?_eq_none (by omega : l.length ≤ b + (i - a))]
        by_cases h3 : i < l.length
        · rw [if_pos (by omega), List.getElem?_replicate, if_pos (by omega)]
          rfl
        · rw [if_neg (by omega), if_neg (by omega), List.getElem?_eq_none (by omega : l.length ≤ i)]
  · rw [Array.getElem?_setIfInBounds_self_of_lt (by simp [putAt_size, hsz]), hlen]

set_option maxRecDepth 100000 in
set_option maxHeartbeats 1000000 in
theorem ck_cut {w : World} {c : Nat} {l : List ByteArray} (a b : Nat) (h : Blk w c (ckCells l) 204) (hl : l.length ≤ 32) (hab : a < b) (hb : b ≤ l.length) :
    Calls Tryz.prog 255 #[.pointer (some ⟨c, 0, none⟩), .int .i64 a, .int .i64 b] w fun e w' => e = .returned (.tuple #[]) ∧ Blk w' c (ckCells (l.take a ++ l.drop b)) 204 ∧ Keeps (fun r => r = c) w w' := by
  have c1 : w.drew.cell? ⟨c, 32, none⟩ = some (.int .i64 l.length) := (h.drew.cell 32).trans (ckCells_n (by omega))
  have hsz := ckCells_size (l := l) (by omega)
  have hpost := Lib.hid (putAt_cut hl hab hb)
  obtain ⟨x, hx⟩ : ∃ x : Addr, (if 32 = b then ⟨c, 0, none⟩ else ⟨c, b, none⟩) = x := ⟨_, rfl⟩
  obtain ⟨W1, hcp, hb1, hk1⟩ := ck_copy (w := w.drew) (o := a) (p := b) (n1 := 32 - a) (n2 := l.length - b) h.drew (by omega) (by simp only [Nat.min_def]; split <;> omega) (by omega) ⟨c, a, none⟩ x (fun _ => rfl) (fun h => by rw [← hx, if_neg (by omega)])
  obtain ⟨W2, hcl, hb2, hk2⟩ := ck_clear (w := W1.drew) (p := a + (l.length - b)) (n1 := b - a) hb1.drew (by rw [putAt_size, hsz]) (by omega) (by omega)
  have c2 : W1.drew.cell? ⟨c, 32, none⟩ = some (.int .i64 l.length) := by
    rw [hb1.drew.cell, putAt_get _ _ _ _ (by rw [hsz]; simp; omega), if_neg (by simp; omega)]
    exact ckCells_n (by omega)
  have c3 : ∃ u, W2.cell? ⟨c, 32, none⟩ = some u := ⟨_, (hb2.cell 32).trans (Array.getElem?_eq_getElem (by rw [putAt_size, putAt_size, hsz]; omega))⟩
  obtain ⟨u, c3⟩ := c3
  have f3 : W2.frozen? ⟨c, 32, none⟩ = false := hb2.frozen 32
  have HB0 := Lib.hid (And.intro hb2 ((((Keeps.refl (fun r => r = c) w).drew.trans hk1).drew).trans hk2))
  have HB1 := HB0.out
  clear HB0
  have h1 : (a : Int) ≤ 32 := by omega
  have h2 : (b : Int) ≤ (l.length : Int) := by omega
  have h3 : (l.length : Int) ≤ 32 := by omega
  have h4 : ¬ (32 = a) := by omega
  obtain ⟨left, hleft⟩ : ∃ left, a + (l.length - b) = left := ⟨_, rfl⟩
  have h5 : (left : Int) ≤ (l.length : Int) := by omega
  have h6 : ¬ (32 = left) := by omega
  have h7 : IntKind.i64.wrap (((l.length - b : Nat) : Int) + (a : Int)) = (left : Int) := by rw [IntKind.wrap_i64]; omega
  have h8 : l.length - left = b - a := by omega
  rw [hleft] at hcl hpost HB1
  have HB := Lib.hid HB1
  clear HB1
  rw [← h8] at hcl
  by_cases hb32 : b = 32
  · subst hb32
    have hl32 : l.length = 32 := by omega
    obtain rfl : left = a := by omega
    rw [if_pos rfl] at hx
    subst hx
    rw [hl32] at hcp hcl c1 c2 h5 h7
    have h10 : IntKind.i64.wrap ((0 : Int) + (left : Int)) = (left : Int) := by rw [IntKind.wrap_i64]; omega
    rw [show (32 : Nat) - 32 = 0 from rfl] at hcp h7
    clear h hl hab hb hsz hb1 hk1 hb2 hk2 hleft h8 h2 h3 hl32
    go_enter Tryz.func255, Tryz.ntmps255
    go_wp2_with fail
    go_region
    go_wp2_with fail
    go_region
    go_wp2_with fail
    go_end0
    refine ⟨rfl, ?_, HB.out.2.set _ (fun _ => rfl)⟩
    have := HB.out.1.set 32 (.int .i64 (left : Int))
    rw [hpost.out] at this
    exact this
  · have h9 : ¬ (32 = b) := by omega
    rw [if_neg h9] at hx
    subst hx
    clear h hl hab hb hsz hb1 hk1 hb2 hk2 hleft h8 hb32
    go_enter Tryz.func255, Tryz.ntmps255
    go_wp2_with fail
    go_region
    go_wp2_with fail
    go_region
    go_wp2_with fail
    go_end0
    refine ⟨rfl, ?_, HB.out.2.set _ (fun _ => rfl)⟩
    have := HB.out.1.set 32 (.int .i64 (left : Int))
    rw [hpost.out] at this
    exact this
end Go.Proofs.YtgjpaecpljifpaaGreat

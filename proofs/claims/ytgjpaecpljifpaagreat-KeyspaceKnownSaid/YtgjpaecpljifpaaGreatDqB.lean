/- A chunk in memory: put, cut. -/
import Derived.Test.YtgjpaecpljifpaaGreatDqA
import Derived.Deep.RegionLaw
import Derived.Deep.DeepCutAuto
import Derived.Deep.CutBlock
namespace Go.Proofs.YtgjpaecpljifpaaGreat
open Go Go.RowKit Go.Proofs.YtgjpaecpljifpaaGreat

theorem infoText : (Tryz.prog.info? 9).map (·.size) = some 1 := by kernel_rfl
theorem ck_get {l : List ByteArray} (hl : l.length ≤ 32) (i : Nat) : (ckCells l)[i]? = if i < 32 then some (.string (l.getD i ByteArray.empty)) else if i = 32 then some (.int .i64 l.length) else none := by
  by_cases h1 : i < 32
  · rw [if_pos h1]
    by_cases h2 : i < l.length
    · rw [ckCells_text (List.getElem?_eq_getElem h2)]
      simp [List.getD, h2]
    · unfold ckCells
      rw [List.getElem?_toArray, List.append_assoc, List.getElem?_append_right (by simpa using h2), List.getElem?_append_left (by simp; omega)]
      rw [List.length_map, List.getElem?_replicate, if_pos (by omega), List.getD, List.getElem?_eq_none (Nat.le_of_not_lt h2)]
      rfl
  · rw [if_neg h1]
    by_cases h3 : i = 32
    · subst h3; rw [if_pos rfl]; exact ckCells_n hl
    · rw [if_neg h3, Array.getElem?_eq_none (by rw [ckCells_size hl]; omega)]
/-- A block of 33 cells that reads as a chunk is one. -/
theorem ck_ext {cs : Array Value} {l : List ByteArray} (hl : l.length ≤ 32) (h3 : cs.size = 33) (h1 : ∀ i, i < 32 → cs[i]? = some (.string (l.getD i ByteArray.empty))) (h2 : cs[32]? = some (.int .i64 l.length)) : cs = ckCells l := by
  apply Array.ext_getElem?
  intro i
  rw [ck_get hl]
  by_cases c1 : i < 32
  · rw [if_pos c1]; exact h1 i c1
  · rw [if_neg c1]
    by_cases c2 : i = 32
    · subst c2; rw [if_pos rfl]; exact h2
    · rw [if_neg c2, Array.getElem?_eq_none (by omega)]

/-- The texts from place p on, copied to place o. -/
theorem ck_copy {w : World} {c : Nat} {l : List ByteArray} {p o n1 n2 : Nat} (h : Blk w c (ckCells l) 204) (hl : l.length ≤ 32) (h1 : Nat.min n2 n1 = l.length - p) (ho : o + (l.length - p) ≤ 32) (a x : Addr) (ha : p < l.length → a = ⟨c, o, none⟩) (hx : p < l.length → x = ⟨c, p, none⟩) :
    ∃ W1, (∀ ty c1 c2, (Builtin.copy_ #[38, 38] ty #[.slice (some a) n1 c1, .slice (some x) n2 c2]).run Tryz.prog w = .ok (goInt ((l.length - p : Nat) : Int)) W1) ∧
      Blk W1 c (putAt (ckCells l) o ((l.drop p).map Value.string)) 204 ∧ Keeps (fun r => r = c) w W1 := by
  by_cases h0 : p < l.length
  · obtain rfl := ha h0
    obtain rfl := hx h0
    refine ⟨w.setCells c o ((l.drop p).map Value.string), fun ty c1 c2 => ?_, h.setCells _ _, Keeps.setCells (S := fun r => r = c) _ (Keeps.refl _ _) (fun _ => rfl) _⟩
    rw [run_copy_cells w _ _ ty _ c o _ c1 ⟨c, p, none⟩ _ c2 ((l.drop p).map Value.string) Tryz.underlying38 infoText (by rw [h1]; simp) ?_ ?_ ?_ ?_]
    · rw [List.length_map, List.length_drop]
    · intro j v hj
      rw [Addr.add_lit, h.cell]
      rw [List.getElem?_map] at hj
      obtain ⟨s, hs, rfl⟩ := Option.map_eq_some_iff.1 hj
      rw [List.getElem?_drop] at hs
      exact ckCells_text hs
    · intro j hj
      rw [h.cell, Array.getElem?_eq_getElem (by rw [ckCells_size hl]; simp at hj; omega)]; rfl
    · intro j hj
      exact h.frozen _
    · intro v hv
      obtain ⟨s, _, rfl⟩ := List.mem_map.1 hv
      rfl
  · refine ⟨w, fun ty c1 c2 => ?_, ?_, Keeps.refl _ _⟩
    · rw [run_copy_none w _ _ ty _ _ _ _ _ _ _ Tryz.underlying38 infoText (by rw [h1]; omega)]
      rw [show l.length - p = 0 by omega]; rfl
    · rw [List.drop_eq_nil_of_le (by omega)]; exact h

/-- A chunk with one more text. -/
theorem putAt_put {l : List ByteArray} {p : Nat} (s : ByteArray) (hl : l.length < 32) (hp : p ≤ l.length) :
    ((putAt (ckCells l) (p + 1) ((l.drop p).map Value.string)).setIfInBounds p (.string s)).setIfInBounds 32 (.int .i64 ((l.length : Int) + 1)) = ckCells (l.take p ++ s :: l.drop p) := by
  have hlen : (l.take p ++ s :: l.drop p).length = l.length + 1 := by simp; omega
  have hsz := ckCells_size (l := l) (by omega)
  have hfit : p + 1 + ((l.drop p).map Value.string).length ≤ (ckCells l).size := by rw [hsz]; simp; omega
  apply ck_ext (by omega)
  · simp [putAt_size, hsz]
  · intro i hi
    rw [Array.getElem?_setIfInBounds_ne (by omega)]
    by_cases h1 : i = p
    · subst h1
      rw [Array.getElem?_setIfInBounds_self_of_lt (by rw [putAt_size, hsz]; omega)]
      simp [List.getD, List.length_take, Nat.min_eq_left hp]
    · rw [Array.getElem?_setIfInBounds_ne (fun e => h1 e.symm), putAt_get _ _ _ _ hfit, ck_get (by omega), if_pos hi]
      by_cases h2 : i < p
      · rw [if_neg (by omega)]
        simp only [List.getD]
        rw [List.getElem?_append_left (by simp; omega), List.getElem?_take_of_lt h2]
      · have h3 : (l.take p ++ s :: l.drop p)[i]? = l[i - 1]? := by
          rw [List.getElem?_append_right (by simp; omega), List.length_take, Nat.min_eq_left hp, show i - p = (i - p - 1) + 1 by omega, List.getElem?_cons_succ, List.getElem?_drop, show p + (i - p - 1) = i - 1 by omega]
        simp only [List.getD, h3]
        by_cases h4 : i < l.length + 1
        · rw [if_pos (by simp; omega), List.getElem?_map, List.getElem?_drop, show p + (i - (p + 1)) = i - 1 by omega, List.getElem?_eq_getElem (by omega)]
          rfl
        · rw [if_neg (by simp; omega), List.getElem?_eq_none (l := l) (by omega), List.getElem?_eq_none (l := l) (by omega)]
  · rw [Array.getElem?_setIfInBounds_self_of_lt (by simp [putAt_size, hsz]), hlen]
    rfl

set_option maxRecDepth 100000 in
set_option maxHeartbeats 1000000 in
theorem ck_put {w : World} {c : Nat} {l : List ByteArray} (s : ByteArray) (p : Nat) (h : Blk w c (ckCells l) 204) (hl : l.length < 32) (hp : p ≤ l.length) :
    Calls Tryz.prog 232 #[.pointer (some ⟨c, 0, none⟩), .int .i64 p, .string s] w fun e w' => e = .returned (.tuple #[]) ∧ Blk w' c (ckCells (l.take p ++ s :: l.drop p)) 204 ∧ Keeps (fun r => r = c) w w' := by
  have c1 : w.drew.cell? ⟨c, 32, none⟩ = some (.int .i64 l.length) := (h.drew.cell 32).trans (ckCells_n (by omega))
  have hsz := ckCells_size (l := l) (by omega)
  have hpost := Lib.hid (putAt_put (p := p) s hl hp)
  have facts : ∀ W1, Blk W1 c (putAt (ckCells l) (p + 1) ((l.drop p).map Value.string)) 204 →
      (∃ u, W1.cell? ⟨c, p, none⟩ = some u) ∧ W1.frozen? ⟨c, p, none⟩ = false ∧ (∀ v, (W1.setCell ⟨c, p, none⟩ v).cell? ⟨c, 32, none⟩ = some (.int .i64 l.length)) ∧ (∀ v, (W1.setCell ⟨c, p, none⟩ v).frozen? ⟨c, 32, none⟩ = false) := by
    intro W1 hb
    refine ⟨⟨_, (hb.cell p).trans (Array.getElem?_eq_getElem (by rw [putAt_size, hsz]; omega))⟩, hb.frozen _, fun v => ?_, fun v => (hb.set p v).frozen _⟩
    rw [(hb.set p v).cell, Array.getElem?_setIfInBounds_ne (by omega), putAt_get _ _ _ _ (by rw [hsz]; simp; omega), if_neg (by simp; omega)]
    exact ckCells_n (by omega)
  have HF := Lib.hid facts
  have HK := Lib.hid (Keeps.refl (fun r => r = c) w).drew
  clear facts
  by_cases h32 : p = 31
  · subst h32
    have hl31 : l.length = 31 := by omega
    obtain ⟨W1, hcp, hb, hk⟩ := ck_copy (w := w.drew) (o := 32) (p := 31) (n1 := 0) (n2 := 0) h.drew (by omega) (by rw [hl31]; rfl) (by omega) ⟨c, 0, none⟩ ⟨c, 31, none⟩ (fun h => by omega) (fun _ => rfl)
    obtain ⟨⟨u, f1⟩, f2, f3, f4⟩ := HF.out W1 hb
    have HB := Lib.hid (And.intro hb (HK.out.trans hk))
    rw [hl31] at c1 hcp f3 hpost
    clear hp hl h hl31 hsz hb hk
    go_enter Tryz.func232, Tryz.ntmps232
    go_wp2_with fail
    go_region
    go_wp2_with fail
    go_end0
    refine ⟨rfl, ?_, (HB.out.2.set _ (fun _ => rfl)).set _ (fun _ => rfl)⟩
    have := (HB.out.1.set 31 (.string s)).set 32 (.int .i64 (((31 : Nat) : Int) + 1))
    rw [hpost.out] at this
    exact this
  · have h1 : (0 : Int) ≤ (p : Int) + 1 := by omega
    have h2 : (p : Int) ≤ (l.length : Int) := by omega
    have h3 : (l.length : Int) + 1 ≤ 32 := by omega
    have h4 : (l.length : Int) ≤ 32 := by omega
    have w1 : IntKind.i64.wrap ((p : Int) + 1) = (p : Int) + 1 := by rw [IntKind.wrap_i64]; omega
    have w2 : IntKind.i64.wrap ((l.length : Int) + 1) = (l.length : Int) + 1 := by rw [IntKind.wrap_i64]; omega
    have w3 : ((p : Int) + 1).toNat = p + 1 := by omega
    have w4 : ((l.length : Int) + 1).toNat = l.length + 1 := by omega
    have w5 : ¬ (32 = p) := by omega
    have w6 : ¬ (32 = p + 1) := by omega
    obtain ⟨W1, hcp, hb, hk⟩ := ck_copy (w := w.drew) (o := p + 1) (p := p) (n1 := l.length - p) (n2 := l.length - p) h.drew (by omega) (by simp) (by omega) ⟨c, p + 1, none⟩ ⟨c, p, none⟩ (fun _ => rfl) (fun _ => rfl)
    obtain ⟨⟨u, f1⟩, f2, f3, f4⟩ := HF.out W1 hb
    have HB := Lib.hid (And.intro hb (HK.out.trans hk))
    clear hp hl h h32 hsz hb hk
    go_enter Tryz.func232, Tryz.ntmps232
    go_wp2_with fail
    go_region
    go_wp2_with fail
    go_end0
    refine ⟨rfl, ?_, (HB.out.2.set _ (fun _ => rfl)).set _ (fun _ => rfl)⟩
    have := (HB.out.1.set p (.string s)).set 32 (.int .i64 ((l.length : Int) + 1))
    rw [hpost.out] at this
    exact this
end Go.Proofs.YtgjpaecpljifpaaGreat

/- Why plain data makes no value: the closures. -/
import Derived.Test.YtgjpaecpljifpaaGreatValT
import Derived.Deep.RegionWith
import Derived.Deep.QuietTactic
import Derived.BigQuiet
import Derived.WalkLawsBesides
namespace Go.Proofs.YtgjpaecpljifpaaGreat
open Go Go.RowKit Go.Proofs.YtgjpaecpljifpaaGreat Go.Maps Go.WideMaps

theorem ret_bool {a b : Bool} (h : a = b) : Ending.returned (.bool a) = .returned (.bool b) := by rw [h]

/-- Does a kind belong to what is given? -/
def belongsB (K n : Int) (ks : List Int) : Bool := ks.contains K || (n == 0)

set_option maxRecDepth 100000 in
set_option maxHeartbeats 1000000 in
theorem belongs_any (K n : Int) (ks : List Int) (kb c pb : Nat) (w : World) (hlen : ks.length ≤ 5) (hp : w.cell? ⟨pb, 0, none⟩ = some (.int .i64 K)) (hk : ∀ j x, ks[j]? = some x → w.cell? ⟨kb, j, none⟩ = some (.int .i64 x)) :
    Calls Tryz.prog 128 #[.int .i64 n, .slice (some ⟨kb, 0, none⟩) ks.length c, .pointer (some ⟨pb, 0, none⟩)] w fun e w' => e = .returned (.bool (belongsB K n ks)) ∧ w = w' := by
  have hl' : (ks.length : Int) ≤ 5 := by omega
  have HK := Lib.hid hk
  clear hk hlen
  go_enter Tryz.func128, Tryz.ntmps128
  go_wp2_with fail
  go_loop [7, 10] (fun _ i => ∃ j : Nat, j ≤ ks.length ∧ i = .int .i64 j ∧ Hid (∀ t x, t < j → ks[t]? = some x → x ≠ K)) (fun _ i => ks.length - (intOf i).toNat)
  case atStart => exact ⟨0, Nat.zero_le _, rfl, Lib.hid fun t x ht => by omega⟩
  case round =>
    obtain ⟨j, hj, rfl, hno⟩ := hrel
    by_cases hlt : j < ks.length
    · obtain ⟨x, hx⟩ : ∃ x, ks[j]? = some x := ⟨_, List.getElem?_eq_getElem hlt⟩
      have c0 := HK.out j x hx
      by_cases hxk : x = K
      · subst hxk
        have HX := Lib.hid hx
        clear hx
        go_wp2_with fail
        go_ret
        refine ⟨ret_bool ?_, rfl⟩
        show true = (ks.contains x || (n == 0))
        rw [List.contains_iff_mem.2 (List.mem_of_getElem? HX.out)]; rfl
      · have g1 : (x == K) = false := by simpa using hxk
        have HX := Lib.hid hx
        have HXK := Lib.hid hxk
        clear hx hxk
        go_wp2_with fail
        go_round
        case rel =>
          refine ⟨j + 1, hlt, by go_num, Lib.hid fun t y ht hy => ?_⟩
          by_cases e : t = j
          · subst e
            rw [HX.out] at hy
            injection hy with hy
            rw [← hy]; exact HXK.out
          · exact hno.out t y (by omega) hy
        case measure => simp [intOf]; omega
    · obtain rfl : j = ks.length := by omega
      have hnc : ks.contains K = false := by
        rw [← Bool.not_eq_true, List.contains_iff_mem]
        intro hm
        obtain ⟨t, ht, e⟩ := List.getElem_of_mem hm
        exact hno.out t K ht (by rw [List.getElem?_eq_getElem ht, e]) rfl
      have HNC := Lib.hid hnc
      clear hnc hlt
      go_wp2_with fail
      go_ret
      exact ⟨ret_bool (by show (n == 0) = (ks.contains K || (n == 0)); rw [HNC.out]; rfl), rfl⟩
end Go.Proofs.YtgjpaecpljifpaaGreat

namespace Go.Proofs.YtgjpaecpljifpaaGreat
open Go Go.RowKit Go.Proofs.YtgjpaecpljifpaaGreat Go.Maps Go.WideMaps

/-- A slice of texts. -/
structure Strs (w : World) (v : Value) (l : List ByteArray) : Prop where
  lies : ∃ a c, v = .slice a l.length c ∧ l.length ≤ c ∧ (l.length : Int) ≤ 9223372036854775807 ∧ ∀ j s, l[j]? = some s → ∃ g o, a = some ⟨g, o, none⟩ ∧ w.cell? ⟨g, o + j, none⟩ = some (.string s)

theorem belongs_yes {K n : Int} {ks : List Int} {kb pb : Nat} {w : World} {cs : Array Value} {t : TypeId} {c : Nat} (hlen : ks.length ≤ 5) (hb : belongsB K n ks = true) (hp : Blk w pb cs t) (hK : cs[0]? = some (.int .i64 K)) (hk : Blk w kb (ks.map (Value.int .i64)).toArray 3) :
    Calls Tryz.prog 128 #[.int .i64 n, .slice (some ⟨kb, 0, none⟩) ks.length c, .pointer (some ⟨pb, 0, none⟩)] w fun e w' => e = .returned (.bool true) ∧ w = w' := by
  have := belongs_any K n ks kb c pb w hlen ((hp.cell 0).trans hK) (fun j x hx => by rw [hk.cell]; simp [hx])
  rwa [hb] at this

/-- The longest text's size. -/
def longest (n : Nat) (l : List ByteArray) : Nat := l.foldl (fun m s => max m s.size) n
theorem longest_snoc (n : Nat) (l : List ByteArray) (s : ByteArray) : longest n (l ++ [s]) = max (longest n l) s.size := by simp [longest]
theorem longest_ge (n : Nat) (l : List ByteArray) : n ≤ longest n l := by
  unfold longest
  induction l generalizing n with
  | nil => exact Nat.le_refl _
  | cons s l ih => rw [List.foldl_cons]; exact Nat.le_trans (Nat.le_max_left _ _) (ih _)
/-- Why a text or a list is refused. -/
def wrongTL (s : ByteArray) (l : List ByteArray) : Int := if 1048576 < longest s.size l then 2 else if 1048576 < l.length then 4 else 0

def plainTL (K : Int) (s : ByteArray) (iv : Value) (pa ra : Option Addr) (pc rc : Nat) : Array Value := #[.int .i64 K, .string s, iv, .slice pa 0 pc, .slice ra 0 rc]

set_option maxRecDepth 100000 in
set_option maxHeartbeats 2000000 in
theorem wrong_TL (K : Int) (s : ByteArray) (l : List ByteArray) (iv : Value) (pa ra : Option Addr) (pc rc : Nat) (w : World) (hK : (K = 1 ∧ l = []) ∨ (K = 2 ∧ s.size = 0)) (hi : Strs w iv l) (hs : s.size ≤ maxLen) (hls : ∀ x ∈ l, x.size ≤ maxLen) :
    Calls Tryz.prog 57 #[.agg (plainTL K s iv pa ra pc rc)] w fun e w' => e = .returned (.int .i64 (wrongTL s l)) ∧ Keeps (fun _ => False) w w' := by
  have b1 : belongsB K s.size [1] = true := by rcases hK with ⟨rfl, _⟩ | ⟨rfl, h⟩ <;> simp [belongsB, *]
  have b2 : belongsB K l.length [2, 4] = true := by rcases hK with ⟨rfl, rfl⟩ | ⟨rfl, h⟩ <;> simp [belongsB]
  have b3 : belongsB K 0 [3] = true := by simp [belongsB]
  have b4 : belongsB K 0 [5] = true := by simp [belongsB]
  have k1 : decide (K < 1) = false := by rcases hK with ⟨rfl, _⟩ | ⟨rfl, _⟩ <;> decide
  have k2 : decide ((5 : Int) < K) = false := by rcases hK with ⟨rfl, _⟩ | ⟨rfl, _⟩ <;> decide
  have k4 : (K == 4) = false := by rcases hK with ⟨rfl, _⟩ | ⟨rfl, _⟩ <;> decide
  have hmm := @run_makeMap Tryz.prog
  obtain ⟨a, c, rfl, hlc, hlm, hcell⟩ := hi.lies
  have H1 := Lib.hid b1
  have H2 := Lib.hid b2
  have H3 := Lib.hid b3
  have H4 := Lib.hid b4
  have HC := Lib.hid hcell
  have HLS := Lib.hid hls
  unfold maxLen at hs
  have hs' : (s.size : Int) ≤ 9223372036854775807 := by omega
  clear b1 b2 b3 b4 hcell hls hi hK hs hlc
  simp only [plainTL]
  go_enter Tryz.func57, Tryz.ntmps57
  go_wp2_with fail
  go_at_call 128
  refine (belongs_yes (K := K) (ks := [1]) (by decide) H1.out ((Blk.new w _ _).alloc _) rfl (by simpa using Blk.new (w.alloc _) _ _)).mono ?_
  rintro e w' ⟨rfl, rfl⟩
  go_wp2_with fail
  go_at_call 128
  refine (belongs_yes (K := K) (ks := [2, 4]) (by decide) H2.out (((Blk.new w _ _).alloc _).alloc _) rfl (by simpa using Blk.new ((w.alloc _).alloc _) _ _)).mono ?_
  rintro e w' ⟨rfl, rfl⟩
  go_wp2_with fail
  go_at_call 128
  refine (belongs_yes (K := K) (ks := [3]) (by decide) H3.out ((((Blk.new w _ _).alloc _).alloc _).alloc _) rfl (by simpa using Blk.new (((w.alloc _).alloc _).alloc _) _ _)).mono ?_
  rintro e w' ⟨rfl, rfl⟩
  go_wp2_with fail
  go_at_call 128
  refine (belongs_yes (K := K) (ks := [5]) (by decide) H4.out (((((Blk.new w _ _).alloc _).alloc _).alloc _).alloc _) rfl (by simpa using Blk.new ((((w.alloc _).alloc _).alloc _).alloc _) _ _)).mono ?_
  rintro e w' ⟨rfl, rfl⟩
  go_wp2_with fail
  have hp : ∀ o1 o2 o3 o4 o5 o6 o7, Blk ((((((((w.alloc (.cells (plainTL K s (.slice a l.length c) pa ra pc rc) 50)).alloc o1).alloc o2).alloc o3).alloc o4).alloc o5).alloc o6).alloc o7) w.heap.size (plainTL K s (.slice a l.length c) pa ra pc rc) 50 := fun _ _ _ _ _ _ _ => ((((((((Blk.new w _ _).alloc _).alloc _).alloc _).alloc _).alloc _).alloc _).alloc _)
  have ht : ∀ o0 o1 o2 o3 o4 o6 o7, Blk ((((((((w.alloc o0).alloc o1).alloc o2).alloc o3).alloc o4).alloc (.cells #[.bool false] 4)).alloc o6).alloc o7) (w.heap.size + 1 + 1 + 1 + 1 + 1) #[.bool false] 4 := fun o0 o1 o2 o3 o4 o6 o7 => by
    have := ((Blk.new (((((w.alloc o0).alloc o1).alloc o2).alloc o3).alloc o4) #[.bool false] 4).alloc o6).alloc o7
    simpa using this
  have hk : ∀ o0 o1 o2 o3 o4 o5 o6 o7, Keeps (fun _ => False) w ((((((((w.alloc o0).alloc o1).alloc o2).alloc o3).alloc o4).alloc o5).alloc o6).alloc o7) := fun _ _ _ _ _ _ _ _ => ((((((((Keeps.refl _ w).alloc _).alloc _).alloc _).alloc _).alloc _).alloc _).alloc _).alloc _
  have hP := hp (.cells #[.int .i64 1] 3) (.cells #[.int .i64 2, .int .i64 4] 3) (.cells #[.int .i64 3] 3) (.cells #[.int .i64 5] 3) (.cells #[.bool false] 4) (.map #[] 0) (.cells #[.map (some (w.heap.size + 1 + 1 + 1 + 1 + 1 + 1))] 196)
  have hT := ht (.cells (plainTL K s (.slice a l.length c) pa ra pc rc) 50) (.cells #[.int .i64 1] 3) (.cells #[.int .i64 2, .int .i64 4] 3) (.cells #[.int .i64 3] 3) (.cells #[.int .i64 5] 3) (.map #[] 0) (.cells #[.map (some (w.heap.size + 1 + 1 + 1 + 1 + 1 + 1))] 196)
  have hKw := hk (.cells (plainTL K s (.slice a l.length c) pa ra pc rc) 50) (.cells #[.int .i64 1] 3) (.cells #[.int .i64 2, .int .i64 4] 3) (.cells #[.int .i64 3] 3) (.cells #[.int .i64 5] 3) (.cells #[.bool false] 4) (.map #[] 0) (.cells #[.map (some (w.heap.size + 1 + 1 + 1 + 1 + 1 + 1))] 196)
  simp only [plainTL] at hP hT hKw
  generalize ((((((((w.alloc _).alloc _).alloc _).alloc _).alloc _).alloc _).alloc _).alloc _) = W1 at *
  have p0 : W1.cell? ⟨w.heap.size, 0, none⟩ = some (.int .i64 K) := hP.cell 0
  have p2 : W1.cell? ⟨w.heap.size, 2, none⟩ = some (.slice a l.length c) := hP.cell 2
  have p3 : W1.cell? ⟨w.heap.size, 3, none⟩ = some (.slice pa 0 pc) := hP.cell 3
  have p4 : W1.cell? ⟨w.heap.size, 4, none⟩ = some (.slice ra 0 rc) := hP.cell 4
  have t0 : W1.cell? ⟨w.heap.size + 1 + 1 + 1 + 1 + 1, 0, none⟩ = some (.bool false) := hT.cell 0
  have HKw := Lib.hid hKw
  clear hP hT hKw hp ht hk
  go_loop [4, 9, 67] (fun lg _ i => ∃ j : Nat, j ≤ l.length ∧ i = .int .i64 j ∧ lg = .int .i64 (longest s.size (l.take j) : Nat)) (fun _ _ i => l.length - (intOf i).toNat)
  case atStart => exact ⟨0, Nat.zero_le _, rfl, rfl⟩
  case round =>
    obtain ⟨j, hj, rfl, rfl⟩ := hrel
    by_cases hlt : j < l.length
    · obtain ⟨x, hx⟩ : ∃ x, l[j]? = some x := ⟨_, List.getElem?_eq_getElem hlt⟩
      obtain ⟨g, o, rfl, hcx⟩ := HC.out j x hx
      have hcx1 : W1.cell? ⟨g, o + j, none⟩ = some (.string x) := by
        have hlt9 : g < w.heap.size := by
          rcases Nat.lt_or_ge g w.heap.size with h | h
          · exact h
          · simp [World.cell?, Array.getElem?_eq_none h] at hcx
        rw [World.cell?_of_block (HKw.out.same g hlt9 id)]; exact hcx
      have hxs := HLS.out x (List.mem_of_getElem? hx)
      unfold maxLen at hxs
      have hxs' : (x.size : Int) ≤ 9223372036854775807 := by omega
      have hsn : longest s.size (l.take (j + 1)) = max (longest s.size (l.take j)) x.size := by rw [List.take_add_one, hx]; exact longest_snoc _ _ _
      have HSn := Lib.hid hsn
      clear hsn hx hcx hxs
      go_wp2_with fail
      go_round
      case rel => exact ⟨j + 1, hlt, by go_num, by rw [HSn.out]; congr 1; omega⟩
      case measure => simp [intOf]; omega
    · obtain rfl : j = l.length := by omega
      rw [List.take_length]
      clear hlt hj
      generalize hlg : longest s.size l = lg
      have HLg := Lib.hid hlg
      clear hlg
      go_wp2_with fail
      go_loop [4, 85] (fun g i => g = .int .i64 lg ∧ i = .int .i64 0) (fun _ _ => 0)
      case atStart => exact ⟨rfl, rfl⟩
      case round =>
        obtain ⟨rfl, rfl⟩ := hrel
        go_wp2_with fail
        go_loop [4, 105] (fun g i => g = .int .i64 lg ∧ i = .int .i64 0) (fun _ _ => 0)
        case atStart => exact ⟨rfl, rfl⟩
        case round =>
          obtain ⟨rfl, rfl⟩ := hrel
          have hmx : max (max (l.length : Int) 0) 0 = l.length := by omega
          have hmx2 : max (l.length : Int) 0 = l.length := by omega
          by_cases h1 : 1048576 < lg
          · have g1 : decide ((1048576 : Int) < (lg : Int)) = true := by simp; omega
            have hw : wrongTL s l = 2 := by unfold wrongTL; rw [HLg.out, if_pos h1]
            have HW := Lib.hid hw
            clear h1 hw
            go_wp2_with fail
            go_ret
            exact ⟨by rw [HW.out]; rfl, HKw.out⟩
          · have g1 : decide ((1048576 : Int) < (lg : Int)) = false := by simp; omega
            by_cases h2 : 1048576 < l.length
            · have g2 : decide ((1048576 : Int) < (l.length : Int)) = true := by simp; omega
              have hw : wrongTL s l = 4 := by unfold wrongTL; rw [HLg.out, if_neg h1, if_pos h2]
              have HW := Lib.hid hw
              clear h1 h2 hw
              go_wp2_with fail
              go_ret
              exact ⟨by rw [HW.out]; rfl, HKw.out⟩
            · have g2 : decide ((1048576 : Int) < (l.length : Int)) = false := by simp; omega
              have hw : wrongTL s l = 0 := by unfold wrongTL; rw [HLg.out, if_neg h1, if_neg h2]
              have HW := Lib.hid hw
              clear h1 h2 hw
              go_wp2_with fail
              go_ret
              exact ⟨by rw [HW.out]; rfl, HKw.out⟩
end Go.Proofs.YtgjpaecpljifpaaGreat

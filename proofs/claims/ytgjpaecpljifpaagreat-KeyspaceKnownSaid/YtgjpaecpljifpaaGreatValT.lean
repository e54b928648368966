/- A value that is a text. -/
import Derived.Test.YtgjpaecpljifpaaGreatSpH
import Derived.Test.YtgjpaecpljifpaaGreatProg
import Derived.Test.YtgjpaecpljifpaaGreatHeap
import Derived.WalkKit
import Derived.Lib.Hide
import Derived.Laws.Cover1
namespace Go.Proofs.YtgjpaecpljifpaaGreat
open Go Go.RowKit Go.Proofs.YtgjpaecpljifpaaGreat Go.Maps Go.WideMaps

def textCells (s : ByteArray) : Array Value := #[.iface 110 (.string s)]

theorem Text_any (s : ByteArray) (w : World) :
    Calls Tryz.prog 11 #[.string s] w fun en w' => en = .returned (.pointer (some ⟨w.heap.size, 0, none⟩)) ∧ w.alloc (.cells (textCells s) 114) = w' := by
  go_enter Tryz.func11, Tryz.ntmps11
  go_wp2
  go_ret
  exact ⟨rfl, rfl⟩

theorem text_Cost (s : ByteArray) (w : World) : Calls Tryz.prog 362 #[.string s] w fun en w' => en = .returned (.int .i64 s.size) ∧ w = w' := by
  go_enter Tryz.func362, Tryz.ntmps362
  go_wp2
  go_ret
  exact ⟨rfl, rfl⟩
theorem text_empty (s : ByteArray) (w : World) : Calls Tryz.prog 363 #[.string s] w fun en w' => en = .returned (.bool false) ∧ w = w' := by
  go_enter Tryz.func363, Tryz.ntmps363
  go_wp2
  go_ret
  exact ⟨rfl, rfl⟩

theorem in_text (vb : Nat) (cs : Value) (w : World) (hb : Blk w vb #[cs] 114) (hc : ∃ t v, cs = .iface t v) :
    Calls Tryz.prog 70 #[.pointer (some ⟨vb, 0, none⟩)] w fun en w' => en = .returned cs ∧ w = w' := by
  have c0 : w.cell? ⟨vb, 0, none⟩ = some cs := hb.cell 0
  obtain ⟨t, v, rfl⟩ := hc
  go_enter Tryz.func70, Tryz.ntmps70
  go_wp2
  go_ret
  exact ⟨rfl, rfl⟩

theorem assert_text (s : ByteArray) (w : World) : (Instr.typeAssert (.iface 110 (.string s)) 112 110 true).run Tryz.prog w = .ok (.tuple #[.string s, .bool true]) w := by kernel_rfl
theorem method_empty_text (s : ByteArray) (w : World) : (method 560 110 (.string s) "pantry/value.empty").run Tryz.prog w = .ok (363, .string s) w := by kernel_rfl
theorem method_cost_text (s : ByteArray) (w : World) : (method 560 110 (.string s) "Cost").run Tryz.prog w = .ok (362, .string s) w := by kernel_rfl

set_option maxRecDepth 100000 in
set_option maxHeartbeats 1000000 in
theorem text_AsText (vb : Nat) (s : ByteArray) (w : World) (hb : Blk w vb (textCells s) 114) :
    Calls Tryz.prog 43 #[.pointer (some ⟨vb, 0, none⟩)] w fun en w' => en = .returned (.tuple #[.string s, .bool true]) ∧ w = w' := by
  have hta := assert_text s
  go_enter Tryz.func43, Tryz.ntmps43
  go_wp2_with (go_at_call 70; refine (in_text vb _ w hb ⟨_, _, rfl⟩).mono ?_; rintro e w' ⟨rfl, rfl⟩)
  go_ret2
  exact ⟨rfl, rfl⟩

set_option maxRecDepth 100000 in
set_option maxHeartbeats 1000000 in
theorem text_Empty (vb : Nat) (s : ByteArray) (w : World) (hb : Blk w vb (textCells s) 114) :
    Calls Tryz.prog 46 #[.pointer (some ⟨vb, 0, none⟩)] w fun en w' => en = .returned (.bool false) ∧ w = w' := by
  have c0 : w.cell? ⟨vb, 0, none⟩ = some (.iface 110 (.string s)) := hb.cell 0
  have hm := method_empty_text s
  go_enter Tryz.func46, Tryz.ntmps46
  go_wp2_with (go_at_call 363; refine (text_empty _ _).mono ?_; rintro e w' ⟨rfl, rfl⟩)
  go_ret
  exact ⟨rfl, rfl⟩

set_option maxRecDepth 100000 in
set_option maxHeartbeats 1000000 in
theorem text_Costs (vb : Nat) (s : ByteArray) (w : World) (hb : Blk w vb (textCells s) 114) :
    Calls Tryz.prog 50 #[.pointer (some ⟨vb, 0, none⟩)] w fun en w' => en = .returned (.int .i64 s.size) ∧ w = w' := by
  have c0 : w.cell? ⟨vb, 0, none⟩ = some (.iface 110 (.string s)) := hb.cell 0
  have hm := method_cost_text s
  go_enter Tryz.func50, Tryz.ntmps50
  go_wp2_with (go_at_call 362; refine (text_Cost _ _).mono ?_; rintro e w' ⟨rfl, rfl⟩)
  go_ret
  exact ⟨rfl, rfl⟩

/-- A text tells what Put asks. -/
theorem text_at {w : World} {vb : Nat} {s : ByteArray} (hb : Blk w vb (textCells s) 114) : ValAt w vb s false s.size :=
  ⟨(text_AsText vb s w hb).mono fun _ _ ⟨h1, h2⟩ => ⟨⟨_, h1⟩, h2⟩, (text_Empty vb s w hb).mono fun _ _ ⟨h1, h2⟩ => ⟨h1, h2 ▸ Keeps.refl _ _⟩, text_Costs vb s w hb⟩
end Go.Proofs.YtgjpaecpljifpaaGreat

namespace Go.Proofs.YtgjpaecpljifpaaGreat
open Go Go.RowKit Go.Proofs.YtgjpaecpljifpaaGreat

/-- cmp.Compare at integers. -/
def cmpInt (x y : Int) : Int := if x < y then -1 else if y < x then 1 else 0

theorem isNaN_int (x : Int) (w : World) : Calls Tryz.prog 158 #[.int .i64 x] w fun e w' => e = .returned (.bool false) ∧ w = w' := by
  go_enter Tryz.func158, Tryz.ntmps158
  go_wp2
  go_ret
  exact ⟨by simp, rfl⟩
theorem Compare_int (x y : Int) (w : World) : Calls Tryz.prog 84 #[.int .i64 x, .int .i64 y] w fun e w' => e = .returned (.int .i64 (cmpInt x y)) ∧ w = w' := by
  by_cases h1 : x < y
  · have HE := Lib.hid (show cmpInt x y = -1 from if_pos h1)
    go_enter Tryz.func84, Tryz.ntmps84
    go_wp2_with (go_at_call 158; refine (isNaN_int _ _).mono ?_; rintro e w' ⟨rfl, rfl⟩)
    go_ret
    exact ⟨by rw [HE.out]; rfl, rfl⟩
  · by_cases h2 : y < x
    · have HE := Lib.hid (show cmpInt x y = 1 by unfold cmpInt; rw [if_neg h1, if_pos h2])
      go_enter Tryz.func84, Tryz.ntmps84
      go_wp2_with (go_at_call 158; refine (isNaN_int _ _).mono ?_; rintro e w' ⟨rfl, rfl⟩)
      go_ret
      exact ⟨by rw [HE.out]; rfl, rfl⟩
    · have HE := Lib.hid (show cmpInt x y = 0 by unfold cmpInt; rw [if_neg h1, if_neg h2])
      go_enter Tryz.func84, Tryz.ntmps84
      go_wp2_with (go_at_call 158; refine (isNaN_int _ _).mono ?_; rintro e w' ⟨rfl, rfl⟩)
      go_ret
      exact ⟨by rw [HE.out]; rfl, rfl⟩

/-- cmp.Or at two numbers. -/
def orInt (x y : Int) : Int := if x = 0 then y else x
set_option maxHeartbeats 1000000 in
theorem Or_two (g : Nat) (x y : Int) (w : World) (h0 : w.cell? ⟨g, 0, none⟩ = some (.int .i64 x)) (h1 : w.cell? ⟨g, 1, none⟩ = some (.int .i64 y)) :
    Calls Tryz.prog 83 #[.slice (some ⟨g, 0, none⟩) 2 2] w fun e w' => e = .returned (.int .i64 (orInt x y)) ∧ w = w' := by
  by_cases hx : x = 0
  · subst hx
    have HE := Lib.hid (show orInt 0 y = y from if_pos rfl)
    by_cases hy : y = 0
    · subst hy
      go_enter Tryz.func83, Tryz.ntmps83
      go_wp2_with fail
      refine wp_loop_rounds 3 ?_
      rw [rounds_succ]
      go_wp2_with fail
      rw [rounds_succ]
      go_wp2_with fail
      rw [rounds_succ]
      go_wp2_with fail
      go_ret
      exact ⟨by rw [HE.out]; rfl, rfl⟩
    · go_enter Tryz.func83, Tryz.ntmps83
      go_wp2_with fail
      refine wp_loop_rounds 2 ?_
      rw [rounds_succ]
      go_wp2_with fail
      rw [rounds_succ]
      go_wp2_with fail
      go_ret
      exact ⟨by rw [HE.out]; rfl, rfl⟩
  · have HE := Lib.hid (show orInt x y = x from if_neg hx)
    go_enter Tryz.func83, Tryz.ntmps83
    go_wp2_with fail
    refine wp_loop_rounds 1 ?_
    rw [rounds_succ]
    go_wp2_with fail
    go_ret
    exact ⟨by rw [HE.out]; rfl, rfl⟩

theorem isNaN_text (x : ByteArray) (w : World) : Calls Tryz.prog 156 #[.string x] w fun e w' => e = .returned (.bool false) ∧ w = w' := by
  go_enter Tryz.func156, Tryz.ntmps156
  go_wp2
  go_ret
  exact ⟨by simp, rfl⟩
/-- cmp.Compare at texts. -/
def cmpText (x y : ByteArray) : Int := if Op.bytesLess x.toList y.toList = true then -1 else if (x.toList == y.toList) = true then 0 else 1
theorem Compare_text (x y : ByteArray) (w : World) : Calls Tryz.prog 79 #[.string x, .string y] w fun e w' => e = .returned (.int .i64 (cmpText x y)) ∧ w = w' := by
  obtain ⟨p, hp⟩ : ∃ p, Op.bytesLess x.toList y.toList = p := ⟨_, rfl⟩
  obtain ⟨q, hq⟩ : ∃ q, (x.toList == y.toList) = q := ⟨_, rfl⟩
  have HE := Lib.hid (show cmpText x y = if p = true then -1 else if q = true then 0 else 1 by unfold cmpText; rw [hp, hq])
  cases p
  · cases q
    · go_enter Tryz.func79, Tryz.ntmps79
      go_wp2_with (go_at_call 156; refine (isNaN_text _ _).mono ?_; rintro e w' ⟨rfl, rfl⟩)
      go_ret
      exact ⟨by rw [HE.out]; rfl, rfl⟩
    · go_enter Tryz.func79, Tryz.ntmps79
      go_wp2_with (go_at_call 156; refine (isNaN_text _ _).mono ?_; rintro e w' ⟨rfl, rfl⟩)
      go_ret
      exact ⟨by rw [HE.out]; rfl, rfl⟩
  · go_enter Tryz.func79, Tryz.ntmps79
    go_wp2_with (go_at_call 156; refine (isNaN_text _ _).mono ?_; rintro e w' ⟨rfl, rfl⟩)
    go_ret
    exact ⟨by rw [HE.out]; rfl, rfl⟩
end Go.Proofs.YtgjpaecpljifpaaGreat

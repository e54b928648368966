/- A value that is a list. -/
import Derived.Test.YtgjpaecpljifpaaGreatValW
import Derived.Test.YtgjpaecpljifpaaGreatDqK
namespace Go.Proofs.YtgjpaecpljifpaaGreat
open Go Go.RowKit Go.Proofs.YtgjpaecpljifpaaGreat Go.Maps Go.WideMaps

def listCells (q : Nat) : Array Value := #[.iface 139 (.agg #[.pointer (some ⟨q, 0, none⟩)])]

theorem List_any (q : Nat) (w : World) :
    Calls Tryz.prog 60 #[.pointer (some ⟨q, 0, none⟩)] w fun en w' => en = .returned (.pointer (some ⟨w.heap.size, 0, none⟩)) ∧ w.alloc (.cells (listCells q) 114) = w' := by
  go_enter Tryz.func60, Tryz.ntmps60
  go_wp2
  go_ret
  exact ⟨rfl, rfl⟩

theorem assert_text_list (q : Nat) (w : World) : (Instr.typeAssert (.iface 139 (.agg #[.pointer (some ⟨q, 0, none⟩)])) 112 110 true).run Tryz.prog w = .ok (.tuple #[.string ByteArray.empty, .bool false]) w := by kernel_rfl
theorem assert_list (q : Nat) (w : World) : (Instr.typeAssert (.iface 139 (.agg #[.pointer (some ⟨q, 0, none⟩)])) 112 139 true).run Tryz.prog w = .ok (.tuple #[.agg #[.pointer (some ⟨q, 0, none⟩)], .bool true]) w := by kernel_rfl
theorem assert_list_text (s : ByteArray) (w : World) : (Instr.typeAssert (.iface 110 (.string s)) 112 139 true).run Tryz.prog w = .ok (.tuple #[.agg #[.pointer none], .bool false]) w := by kernel_rfl
theorem method_empty_list (q : Nat) (w : World) : (method 560 139 (.agg #[.pointer (some ⟨q, 0, none⟩)]) "pantry/value.empty").run Tryz.prog w = .ok (370, .agg #[.pointer (some ⟨q, 0, none⟩)]) w := by kernel_rfl
theorem method_cost_list (q : Nat) (w : World) : (method 560 139 (.agg #[.pointer (some ⟨q, 0, none⟩)]) "Cost").run Tryz.prog w = .ok (361, .pointer (some ⟨q, 0, none⟩)) w := by kernel_rfl

set_option maxRecDepth 100000 in
set_option maxHeartbeats 1000000 in
theorem list_AsText (vb q : Nat) (w : World) (hb : Blk w vb (listCells q) 114) :
    Calls Tryz.prog 43 #[.pointer (some ⟨vb, 0, none⟩)] w fun en w' => en = .returned (.tuple #[.string ByteArray.empty, .bool false]) ∧ w = w' := by
  have hta := assert_text_list q
  go_enter Tryz.func43, Tryz.ntmps43
  go_wp2_with (go_at_call 70; refine (in_text vb _ w hb ⟨_, _, rfl⟩).mono ?_; rintro e w' ⟨rfl, rfl⟩)
  go_ret2
  exact ⟨rfl, rfl⟩

set_option maxRecDepth 100000 in
set_option maxHeartbeats 1000000 in
theorem list_AsList (vb q : Nat) (w : World) (hb : Blk w vb (listCells q) 114) :
    Calls Tryz.prog 22 #[.pointer (some ⟨vb, 0, none⟩)] w fun en w' => en = .returned (.tuple #[.pointer (some ⟨q, 0, none⟩), .bool true]) ∧ Keeps (fun _ => False) w w' := by
  have hta := assert_list q
  go_enter Tryz.func22, Tryz.ntmps22
  go_wp2_with (go_at_call 70; refine (in_text vb _ w hb ⟨_, _, rfl⟩).mono ?_; rintro e w' ⟨rfl, rfl⟩)
  go_ret2
  exact ⟨rfl, (Keeps.refl _ _).alloc _⟩

set_option maxRecDepth 100000 in
set_option maxHeartbeats 1000000 in
theorem text_AsList (vb : Nat) (s : ByteArray) (w : World) (hb : Blk w vb (textCells s) 114) :
    Calls Tryz.prog 22 #[.pointer (some ⟨vb, 0, none⟩)] w fun en w' => en = .returned (.tuple #[.pointer none, .bool false]) ∧ Keeps (fun _ => False) w w' := by
  have hta := assert_list_text s
  go_enter Tryz.func22, Tryz.ntmps22
  go_wp2_with (go_at_call 70; refine (in_text vb _ w hb ⟨_, _, rfl⟩).mono ?_; rintro e w' ⟨rfl, rfl⟩)
  go_ret2
  exact ⟨rfl, (Keeps.refl _ _).alloc _⟩

set_option maxRecDepth 100000 in
set_option maxHeartbeats 1000000 in
theorem list_empty {w : World} {q : Nat} {d : DQ} (h : DqAt w q d) :
    Calls Tryz.prog 370 #[.agg #[.pointer (some ⟨q, 0, none⟩)]] w fun en w' => en = .returned (.bool d.texts.isEmpty) ∧ Keeps (fun _ => False) w w' := by
  have hl := fun o => dq_Len (h.keeps ((Keeps.refl (fun _ => False) w).alloc o) fun _ _ => id)
  have HL := Lib.hid hl
  have he : ((d.texts.length : Int) == 0) = d.texts.isEmpty := by cases d.texts <;> simp; omega
  have HE := Lib.hid he
  clear hl h he
  go_enter Tryz.func370, Tryz.ntmps370
  go_wp2_with (go_at_call 71; refine (HL.out _).mono ?_; rintro e w' ⟨rfl, rfl⟩)
  go_ret
  exact ⟨ret_bool HE.out, (Keeps.refl _ _).alloc _⟩

set_option maxRecDepth 100000 in
set_option maxHeartbeats 1000000 in
theorem list_Empty {w : World} {vb q : Nat} {d : DQ} (hb : Blk w vb (listCells q) 114) (h : DqAt w q d) :
    Calls Tryz.prog 46 #[.pointer (some ⟨vb, 0, none⟩)] w fun en w' => en = .returned (.bool d.texts.isEmpty) ∧ Keeps (fun _ => False) w w' := by
  have c0 : w.cell? ⟨vb, 0, none⟩ = some (.iface 139 (.agg #[.pointer (some ⟨q, 0, none⟩)])) := hb.cell 0
  have hm := method_empty_list q
  have HE := Lib.hid (list_empty h)
  clear h hb
  go_enter Tryz.func46, Tryz.ntmps46
  go_wp2_with (go_at_call 370; refine HE.out.mono ?_; rintro e w' ⟨rfl, hk⟩; have HK := Lib.hid hk; clear hk)
  go_ret
  exact ⟨rfl, HK.out⟩

set_option maxRecDepth 100000 in
set_option maxHeartbeats 1000000 in
theorem list_Costs {w : World} {vb q : Nat} {d : DQ} (hb : Blk w vb (listCells q) 114) (h : DqAt w q d) :
    Calls Tryz.prog 50 #[.pointer (some ⟨vb, 0, none⟩)] w fun en w' => en = .returned (.int .i64 (weigh d.texts)) ∧ w = w' := by
  have c0 : w.cell? ⟨vb, 0, none⟩ = some (.iface 139 (.agg #[.pointer (some ⟨q, 0, none⟩)])) := hb.cell 0
  have hm := method_cost_list q
  have HE := Lib.hid (dq_Cost h)
  clear h hb
  go_enter Tryz.func50, Tryz.ntmps50
  go_wp2_with (go_at_call 361; refine HE.out.mono ?_; rintro e w' ⟨rfl, rfl⟩)
  go_ret
  exact ⟨rfl, rfl⟩
end Go.Proofs.YtgjpaecpljifpaaGreat

namespace Go.Proofs.YtgjpaecpljifpaaGreat
open Go Go.RowKit Go.Proofs.YtgjpaecpljifpaaGreat Go.Maps Go.WideMaps

/-- A list tells what Put asks. -/
theorem list_at {w : World} {vb q : Nat} {d : DQ} (hb : Blk w vb (listCells q) 114) (h : DqAt w q d) : ValAt w vb ByteArray.empty d.texts.isEmpty (weigh d.texts) :=
  ⟨(list_AsText vb q w hb).mono fun _ _ ⟨h1, h2⟩ => ⟨⟨_, h1⟩, h2⟩, list_Empty hb h, list_Costs hb h⟩

set_option maxRecDepth 100000 in
set_option maxHeartbeats 2000000 in
theorem Of_bad (K seed : Int) (s : ByteArray) (l : List ByteArray) (iv : Value) (pa ra : Option Addr) (pc rc : Nat) (w : World) (hK : (K = 1 ∧ l = []) ∨ (K = 2 ∧ s.size = 0)) (hi : Strs w iv l) (hs : s.size ≤ maxLen) (hls : ∀ x ∈ l, x.size ≤ maxLen) (hw : wrongTL s l ≠ 0) :
    Calls Tryz.prog 21 #[.agg (plainTL K s iv pa ra pc rc), .int .u64 seed] w fun e w' => e = .returned (.tuple #[.pointer none, .int .i64 (wrongTL s l)]) ∧ Keeps (fun _ => False) w w' := by
  obtain ⟨a, c, rfl, hlc, hlm, hcell⟩ := hi.lies
  have hk0 : ∀ o, Keeps (fun _ => False) w (w.alloc o) := fun o => (Keeps.refl _ w).alloc o
  have hi0 : ∀ o, Strs (w.alloc o) (.slice a l.length c) l := fun o => ⟨a, c, rfl, hlc, hlm, fun j x hx => by
    obtain ⟨g, o', h1, h2⟩ := hcell j x hx
    exact ⟨g, o', h1, Lib.cell?_alloc_some _ h2⟩⟩
  have hwr := fun o => wrong_TL K s l (.slice a l.length c) pa ra pc rc (w.alloc o) hK (hi0 o) hs hls
  generalize wrongTL s l = r at *
  have g1 : (r != 0) = true := by simpa using hw
  have HW := Lib.hid hwr
  have HK0 := Lib.hid hk0
  clear hwr hk0 hi0 hcell hlc hlm hK hi hs hls hw
  simp only [plainTL] at HW ⊢
  go_enter Tryz.func21, Tryz.ntmps21
  go_wp2_with fail
  go_at_call 57
  refine (HW.out _).mono ?_
  rintro e w1 ⟨rfl, hk1⟩
  have HK1 := Lib.hid ((HK0.out _).trans hk1)
  clear hk1
  go_wp2_with fail
  go_ret2
  exact ⟨rfl, HK1.out⟩

/-- A value made of a text. -/
theorem Of_text (seed : Int) (s : ByteArray) (iv : Value) (pa ra : Option Addr) (pc rc : Nat) (w : World) (hi : Strs w iv []) (hs : s.size ≤ maxLen) (hw : wrongTL s [] = 0) :
    Calls Tryz.prog 21 #[.agg (plainTL 1 s iv pa ra pc rc), .int .u64 seed] w fun e w' => ∃ vb, e = .returned (.tuple #[.pointer (some ⟨vb, 0, none⟩), .int .i64 0]) ∧ w.heap.size ≤ vb ∧ Blk w' vb (textCells s) 114 ∧ Keeps (fun _ => False) w w' := by
  obtain ⟨a, c, rfl, hlc, hlm, hcell⟩ := hi.lies
  have hk0 : ∀ o, Keeps (fun _ => False) w (w.alloc o) := fun o => (Keeps.refl _ w).alloc o
  have hi0 : ∀ o, Strs (w.alloc o) (.slice a ([] : List ByteArray).length c) [] := fun o => ⟨a, c, rfl, hlc, hlm, fun j x hx => by simp at hx⟩
  have hwr := fun o => wrong_TL 1 s [] (.slice a ([] : List ByteArray).length c) pa ra pc rc (w.alloc o) (.inl ⟨rfl, rfl⟩) (hi0 o) hs (fun x hx => by cases hx)
  rw [hw] at hwr
  have hB : ∀ o : Array Value, Blk (w.alloc (.cells o 50)) w.heap.size o 50 := fun o => Blk.new _ _ _
  have HW := Lib.hid hwr
  have HK0 := Lib.hid hk0
  have HB := Lib.hid hB
  clear hwr hk0 hi0 hcell hlc hlm hi hs hw hB
  simp only [plainTL, List.length_nil] at HW ⊢
  go_enter Tryz.func21, Tryz.ntmps21
  go_wp2_with fail
  go_at_call 57
  refine (HW.out _).mono ?_
  rintro e w1 ⟨rfl, hk1⟩
  have hb1 := hk1.blk (HB.out _) id
  have p0 : w1.cell? ⟨w.heap.size, 0, none⟩ = some (.int .i64 1) := hb1.cell 0
  have p1 : w1.cell? ⟨w.heap.size, 1, none⟩ = some (.string s) := hb1.cell 1
  have HK1 := Lib.hid ((HK0.out _).trans hk1)
  clear hk1 hb1
  go_wp2_with fail
  go_at_call 11
  refine (Text_any _ _).mono ?_
  rintro e w2 ⟨rfl, rfl⟩
  go_wp2_with fail
  go_ret2
  exact ⟨w1.heap.size, rfl, HK1.out.size, Blk.new _ _ _, HK1.out.alloc _⟩

theorem wrongTL_zero {s : ByteArray} {l : List ByteArray} (h : wrongTL s l = 0) : l.length ≤ 1048576 ∧ ∀ x ∈ l, x.size ≤ 1048576 := by
  unfold wrongTL at h
  split at h
  · cases h
  · rename_i h1
    split at h
    · cases h
    · refine ⟨by omega, fun x hx => ?_⟩
      have : ∀ (l : List ByteArray) (n : Nat), x ∈ l → x.size ≤ longest n l := by
        intro l
        induction l with
        | nil => intro n hx; cases hx
        | cons y l ih =>
          intro n hx
          rcases List.mem_cons.1 hx with rfl | hx
          · exact Nat.le_trans (Nat.le_max_right n _) (longest_ge _ l)
          · exact ih _ hx
      have := this l s.size hx
      omega

set_option maxRecDepth 100000 in
set_option maxHeartbeats 4000000 in
/-- A value made of a list. -/
theorem Of_list (seed : Int) (l : List ByteArray) (iv : Value) (pa ra : Option Addr) (pc rc : Nat) (w : World) (hi : Strs w iv l) (hls : ∀ x ∈ l, x.size ≤ maxLen) (hw : wrongTL ByteArray.empty l = 0) :
    Calls Tryz.prog 21 #[.agg (plainTL 2 ByteArray.empty iv pa ra pc rc), .int .u64 seed] w fun e w' => ∃ vb q d, e = .returned (.tuple #[.pointer (some ⟨vb, 0, none⟩), .int .i64 0]) ∧ w.heap.size ≤ vb ∧ Blk w' vb (listCells q) 114 ∧
      DqAt w' q d ∧ d.Tight ∧ d.texts = l ∧ (∀ r, dfp q d r → w.heap.size ≤ r) ∧ Keeps (fun _ => False) w w' := by
  obtain ⟨hn, hx1⟩ := wrongTL_zero hw
  obtain ⟨a, c, rfl, hlc, hlm, hcell⟩ := hi.lies
  have hk0 : ∀ o, Keeps (fun _ => False) w (w.alloc o) := fun o => (Keeps.refl _ w).alloc o
  have hi0 : ∀ o, Strs (w.alloc o) (.slice a l.length c) l := fun o => ⟨a, c, rfl, hlc, hlm, fun j x hx => by
    obtain ⟨g, o', h1, h2⟩ := hcell j x hx
    exact ⟨g, o', h1, Lib.cell?_alloc_some _ h2⟩⟩
  have hwr := fun o => wrong_TL 2 ByteArray.empty l (.slice a l.length c) pa ra pc rc (w.alloc o) (.inr ⟨rfl, rfl⟩) (hi0 o) (by decide) hls
  rw [hw] at hwr
  have hB : ∀ o : Array Value, Blk (w.alloc (.cells o 50)) w.heap.size o 50 := fun o => Blk.new _ _ _
  have hcell2 : ∀ W, Keeps (fun _ => False) w W → ∀ j x, l[j]? = some x → ∃ g o, a = some ⟨g, o, none⟩ ∧ W.cell? ⟨g, o + j, none⟩ = some (.string x) := by
    intro W hk j x hx
    obtain ⟨g, o, h1, h2⟩ := hcell j x hx
    refine ⟨g, o, h1, ?_⟩
    have hlt9 : g < w.heap.size := by
      rcases Nat.lt_or_ge g w.heap.size with h | h
      · exact h
      · simp [World.cell?, Array.getElem?_eq_none h] at h2
    rw [World.cell?_of_block (hk.same g hlt9 id)]; exact h2
  have hn' : (l.length : Int) ≤ 1048576 := by omega
  have HW := Lib.hid hwr
  have HK0 := Lib.hid hk0
  have HB := Lib.hid hB
  have HC := Lib.hid hcell2
  have HX := Lib.hid hx1
  have HN := Lib.hid hn
  clear hwr hk0 hi0 hcell hlc hlm hi hls hw hB hcell2 hx1 hn
  simp only [plainTL] at HW ⊢
  go_enter Tryz.func21, Tryz.ntmps21
  go_wp2_with fail
  go_at_call 57
  refine (HW.out _).mono ?_
  rintro e w1 ⟨rfl, hk1⟩
  have hb1 := hk1.blk (HB.out _) id
  have hk1' := (HK0.out _).trans hk1
  have p0 : w1.cell? ⟨w.heap.size, 0, none⟩ = some (.int .i64 2) := hb1.cell 0
  have HB1 := Lib.hid hb1
  have HK1 := Lib.hid hk1'
  clear hk1 hb1 hk1'
  go_wp2_with fail
  go_at_call 58
  refine (dq_New w1).mono ?_
  rintro e w2 ⟨rfl, hw2⟩
  have hd2 : DqAt w2 w1.heap.size ⟨[], .slice none 0 0⟩ := by rw [← hw2]; exact dq_new_at w1
  have hk2 : Keeps (fun _ => False) w1 w2 := by rw [← hw2]; exact (Keeps.refl _ _).alloc _
  have p2 : w2.cell? ⟨w.heap.size, 2, none⟩ = some (.slice a l.length c) := (hk2.blk HB1.out id).cell 2
  have HD2 := Lib.hid hd2
  have HK2 := Lib.hid hk2
  clear hd2 hk2 hw2 p0
  go_wp2_with fail
  go_loopw [9, 37] (fun _ i wr => ∃ j : Nat, j ≤ l.length ∧ i = .int .i64 j ∧ Hid (∃ d, DqAt wr w1.heap.size d ∧ d.Tight ∧ d.texts = l.take j ∧ Keeps (fun _ => False) w1 wr ∧ ∀ r, dfp w1.heap.size d r → w1.heap.size ≤ r)) (fun _ i _ => l.length - (intOf i).toNat)
  case atStart =>
    refine ⟨0, Nat.zero_le _, rfl, Lib.hid ⟨_, HD2.out, (fun c hc => by cases hc), rfl, HK2.out, fun r hr => ?_⟩⟩
    rcases hr with rfl | hr | ⟨c, hc, _⟩
    · exact Nat.le_refl _
    · cases hr
    · cases hc
  case round =>
    obtain ⟨j, hj, rfl, hI⟩ := hrel
    by_cases hlt : j < l.length
    · obtain ⟨x, hx⟩ : ∃ x, l[j]? = some x := ⟨_, List.getElem?_eq_getElem hlt⟩
      obtain ⟨d, g1, g2, g3, g4, g5⟩ := hI.out
      obtain ⟨g, o, rfl, hcx⟩ := HC.out wr (HK1.out.trans g4) j x hx
      have hxs := HX.out x (List.mem_of_getElem? hx)
      have hnn := HN.out
      have hr : dqRefused d.texts x = 0 := by
        unfold dqRefused
        rw [if_neg (by omega), if_neg (by rw [g3, List.length_take]; omega)]
      have hpush := dq_Push_back x g1 g2 hr
      have HPush := Lib.hid hpush
      have HG := Lib.hid (And.intro g2 (And.intro g3 (And.intro g4 g5)))
      have HXx := Lib.hid hx
      clear hI g1 g2 g3 g4 g5 hx hxs hnn hr hpush
      go_wp2_with fail
      go_at_call 59
      refine HPush.out.mono ?_
      rintro e w3 ⟨rfl, d', h1, h2, h3⟩
      have HR := Lib.hid (And.intro h1 (And.intro h2 h3))
      clear h1 h2 h3 hcx
      go_wp2_with fail
      go_roundw
      case rel =>
        obtain ⟨g2, g3, g4, g5⟩ := HG.out
        obtain ⟨h1, h2, h3⟩ := HR.out
        refine ⟨j + 1, hlt, by go_num, Lib.hid ⟨d', h1, h2.tight g2, ?_, g4.trans' h3.keeps (fun r hr hs => by have := g5 r hs; omega), fun r hr => ?_⟩⟩
        · rw [h2.texts, g3, List.take_add_one, HXx.out]; rfl
        · rcases h3.fps r hr with hr | hr
          · exact g5 r hr
          · have := g4.size; omega
      case measure => simp [intOf]; omega
    · obtain rfl : j = l.length := by omega
      clear hlt hj
      go_wp2_with fail
      go_at_call 60
      refine (List_any _ _).mono ?_
      rintro e w3 ⟨rfl, rfl⟩
      go_wp2_with fail
      go_ret2
      obtain ⟨d, g1, g2, g3, g4, g5⟩ := hI.out
      refine ⟨wr.heap.size, w1.heap.size, d, rfl, ?_, Blk.new _ _ _, g1.keeps ((Keeps.refl (fun _ => False) wr).alloc _) (fun _ _ => id), g2, ?_, fun r hr => ?_, (HK1.out.trans g4).alloc _⟩
      · have := HK1.out.size; have := g4.size; omega
      · rw [g3, List.take_length]
      · have := g5 r hr; have := HK1.out.size; omega
end Go.Proofs.YtgjpaecpljifpaaGreat

/- The law's own helpers: sameTexts. -/
import Derived.Test.YtgjpaecpljifpaaGreatValL
import Derived.Test.YtgjpaecpljifpaaGreatSpL
import Derived.Test.YtgjpaecpljifpaaGreatSpI
import Derived.Test.YtgjpaecpljifpaaGreatSpJ
import Derived.Test.YtgjpaecpljifpaaGreatSpK
import Derived.Test.YtgjpaecpljifpaaGreatSpN
import Derived.Test.YtgjpaecpljifpaaGreatSpW
import Derived.KernelRfl
namespace Go.Proofs.YtgjpaecpljifpaaGreat
open Go Go.RowKit Go.Proofs.YtgjpaecpljifpaaGreat

theorem Strs.at_ {w : World} {v : Value} {l : List ByteArray} (h : Strs w v l) : ∃ a c, v = .slice a l.length c ∧ l.length ≤ c ∧ (l.length : Int) ≤ 9223372036854775807 ∧ ∀ j s, l[j]? = some s → ∃ g o, a = some ⟨g, o, none⟩ ∧ w.cell? ⟨g, o + j, none⟩ = some (.string s) := h.lies

set_option maxRecDepth 100000 in
set_option maxHeartbeats 2000000 in
theorem sameTexts_any {w : World} {v1 v2 : Value} {l1 l2 : List ByteArray} (h1 : Strs w v1 l1) (h2 : Strs w v2 l2) :
    Calls Tryz.prog 20 #[v1, v2] w fun e w' => e = .returned (.bool (decide (l1 = l2))) ∧ ∃ n, w.drewN n = w' := by
  obtain ⟨a1, c1, rfl, _, hm1, hc1⟩ := h1.lies
  obtain ⟨a2, c2, rfl, _, hm2, hc2⟩ := h2.lies
  clear h1 h2
  by_cases hlen : l1.length = l2.length
  · have g1 : ((l1.length : Int) != (l2.length : Int)) = false := by simp [hlen]
    have HC1 := Lib.hid hc1
    have HC2 := Lib.hid hc2
    have HLen := Lib.hid hlen
    rw [← hlen] at hm2 ⊢
    clear hc1 hc2 hlen g1
    have g1 : (l1.length != l1.length) = false := by simp
    go_enter Tryz.func20, Tryz.ntmps20
    go_wp2_with fail
    go_loopw [5, 13] (fun _ i wr => ∃ j : Nat, j ≤ l1.length ∧ i = .int .i64 j ∧ Hid (l1.take j = l2.take j) ∧ ∃ n, w.drewN n = wr) (fun _ i _ => l1.length - (intOf i).toNat)
    case atStart => exact ⟨0, Nat.zero_le _, rfl, Lib.hid rfl, 0, rfl⟩
    case round =>
      obtain ⟨j, hj, rfl, hsame, n, rfl⟩ := hrel
      by_cases hlt : j < l1.length
      · obtain ⟨x, hx⟩ : ∃ x, l1[j]? = some x := ⟨_, List.getElem?_eq_getElem hlt⟩
        obtain ⟨y, hy⟩ : ∃ y, l2[j]? = some y := ⟨_, List.getElem?_eq_getElem (by rw [← HLen.out]; exact hlt)⟩
        obtain ⟨k1, o1, rfl, d1⟩ := HC1.out j x hx
        obtain ⟨k2, o2, rfl, d2⟩ := HC2.out j y hy
        have HX := Lib.hid hx
        have HY := Lib.hid hy
        have e1 : (w.drewN n).cell? ⟨k1, o1 + j, none⟩ = some (.string x) := d1
        have e2 : (w.drewN n).cell? ⟨k2, o2 + j, none⟩ = some (.string y) := d2
        clear hx hy
        have b0 : (0 : Int) ≤ (j : Int) := by omega
        have b1 : (j : Int) < (l1.length : Int) := by omega
        by_cases hxy : x = y
        · subst hxy
          go_wp2_with fail
          go_quiet (fail)
          go_wp2_with fail
          go_roundw
          case rel => exact ⟨j + 1, hlt, by go_num, Lib.hid (by rw [List.take_add_one, List.take_add_one, hsame.out, HX.out, HY.out]), n + nq, by simp [World.drewN]⟩
          case measure => simp [intOf]; omega
        · have t1 := text_bne hxy
          have t2 : (x.toList != y.toList) = true := by simp [bne, t1]
          have HXY := Lib.hid hxy
          clear hxy
          go_wp2_with fail
          go_quiet (fail)
          go_wp2_with fail
          go_ret
          refine ⟨ret_bool ?_, n + nq, by simp [World.drewN, Nat.add_assoc]⟩
          symm
          rw [decide_eq_false_iff_not]
          intro e
          subst e
          exact HXY.out (by have := HX.out.symm.trans HY.out; injection this)
      · obtain rfl : j = l1.length := by omega
        clear hlt hj
        go_wp2_with fail
        go_ret
        refine ⟨ret_bool ?_, n, rfl⟩
        symm
        rw [decide_eq_true_iff]
        have := hsame.out
        rwa [List.take_length, HLen.out, List.take_length] at this
  · have g1 : (l1.length != l2.length) = true := by simp [hlen]
    have HLen := Lib.hid hlen
    clear hlen hc1 hc2
    go_enter Tryz.func20, Tryz.ntmps20
    go_wp2_with fail
    go_ret
    refine ⟨ret_bool ?_, 0, rfl⟩
    symm
    rw [decide_eq_false_iff_not]
    rintro rfl
    exact HLen.out rfl

/-- A row of steps, as the law reads it. -/
structure Stps (w : World) (v : Value) (l : List (Int × ByteArray)) : Prop where
  lies : ∃ a c, v = .slice a l.length c ∧ (l.length : Int) ≤ 4611686018427387904 ∧ ∀ j s, l[j]? = some s → ∃ g, a = some ⟨g, 0, none⟩ ∧ w.cell? ⟨g, j * 2, none⟩ = some (.int .i64 s.1) ∧ w.cell? ⟨g, j * 2 + 1, none⟩ = some (.string s.2)

set_option maxRecDepth 100000 in
set_option maxHeartbeats 2000000 in
theorem sameSteps_any {w : World} {v1 v2 : Value} {l1 l2 : List (Int × ByteArray)} (h1 : Stps w v1 l1) (h2 : Stps w v2 l2) :
    Calls Tryz.prog 36 #[v1, v2] w fun e w' => e = .returned (.bool (decide (l1 = l2))) ∧ ∃ n, w.drewN n = w' := by
  obtain ⟨a1, c1, rfl, hm1, hc1⟩ := h1.lies
  obtain ⟨a2, c2, rfl, hm2, hc2⟩ := h2.lies
  clear h1 h2
  by_cases hlen : l1.length = l2.length
  · have HC1 := Lib.hid hc1
    have HC2 := Lib.hid hc2
    have HLen := Lib.hid hlen
    rw [← hlen] at hm2 ⊢
    clear hc1 hc2 hlen
    have g1 : (l1.length != l1.length) = false := by simp
    go_enter Tryz.func36, Tryz.ntmps36
    go_wp2_with fail
    go_loopw [5, 13] (fun _ i wr => ∃ j : Nat, j ≤ l1.length ∧ i = .int .i64 j ∧ Hid (l1.take j = l2.take j) ∧ ∃ n, w.drewN n = wr) (fun _ i _ => l1.length - (intOf i).toNat)
    case atStart => exact ⟨0, Nat.zero_le _, rfl, Lib.hid rfl, 0, rfl⟩
    case round =>
      obtain ⟨j, hj, rfl, hsame, n, rfl⟩ := hrel
      by_cases hlt : j < l1.length
      · obtain ⟨⟨x1, x2⟩, hx⟩ : ∃ x, l1[j]? = some x := ⟨_, List.getElem?_eq_getElem hlt⟩
        obtain ⟨⟨y1, y2⟩, hy⟩ : ∃ y, l2[j]? = some y := ⟨_, List.getElem?_eq_getElem (by rw [← HLen.out]; exact hlt)⟩
        obtain ⟨k1, rfl, d1, d2⟩ := HC1.out j _ hx
        obtain ⟨k2, rfl, d3, d4⟩ := HC2.out j _ hy
        have HX := Lib.hid hx
        have HY := Lib.hid hy
        obtain ⟨W, hW⟩ : ∃ W, w.drewN n = W := ⟨_, rfl⟩
        have e1 : W.drew.cell? ⟨k1, j * 2, none⟩ = some (.int .i64 x1) := by rw [← hW]; exact d1
        have e2 : W.drew.cell? ⟨k1, j * 2 + 1, none⟩ = some (.string x2) := by rw [← hW]; exact d2
        have e3 : W.drew.cell? ⟨k2, j * 2, none⟩ = some (.int .i64 y1) := by rw [← hW]; exact d3
        have e4 : W.drew.cell? ⟨k2, j * 2 + 1, none⟩ = some (.string y2) := by rw [← hW]; exact d4
        have HWW := Lib.hid hW
        rw [hW]
        clear hW
        clear hx hy d1 d2 d3 d4
        have b0 : (0 : Int) ≤ (j : Int) := by omega
        have b1 : (j : Int) < (l1.length : Int) := by omega
        by_cases hx1 : x1 = y1
        · subst hx1
          by_cases hx2 : x2 = y2
          · subst hx2
            go_wp2_with fail
            go_region
            go_wp2_with fail
            go_roundw
            case rel => exact ⟨j + 1, hlt, by go_num, Lib.hid (by rw [List.take_add_one, List.take_add_one, hsame.out, HX.out, HY.out]), n + 1, by rw [← HWW.out]; rfl⟩
            case measure => simp [intOf]; omega
          · have t3 : ¬ (x2.toList = y2.toList) := fun e => hx2 (text_eq (by rw [e]; simp))
            have HXY := Lib.hid hx2
            clear hx2
            go_wp2_with fail
            go_region
            go_wp2_with fail
            go_ret
            refine ⟨ret_bool ?_, n + 1, by rw [← HWW.out]; rfl⟩
            symm
            rw [decide_eq_false_iff_not]
            intro e
            subst e
            have := HX.out.symm.trans HY.out
            injection this with this
            injection this with h1 h2
            exact HXY.out h2
        · have HXY := Lib.hid hx1
          go_wp2_with fail
          go_region
          go_wp2_with fail
          go_ret
          refine ⟨ret_bool ?_, n + 1, by rw [← HWW.out]; rfl⟩
          symm
          rw [decide_eq_false_iff_not]
          intro e
          subst e
          have := HX.out.symm.trans HY.out
          injection this with this
          injection this with h1 h2
          exact HXY.out h1
      · obtain rfl : j = l1.length := by omega
        clear hlt hj
        go_wp2_with fail
        go_ret
        refine ⟨ret_bool ?_, n, rfl⟩
        symm
        rw [decide_eq_true_iff]
        have := hsame.out
        rwa [List.take_length, HLen.out, List.take_length] at this
  · have g1 : (l1.length != l2.length) = true := by simp [hlen]
    have HLen := Lib.hid hlen
    clear hlen hc1 hc2
    go_enter Tryz.func36, Tryz.ntmps36
    go_wp2_with fail
    go_ret
    refine ⟨ret_bool ?_, 0, rfl⟩
    symm
    rw [decide_eq_false_iff_not]
    rintro rfl
    exact HLen.out rfl
end Go.Proofs.YtgjpaecpljifpaaGreat

namespace Go.Proofs.YtgjpaecpljifpaaGreat
open Go Go.RowKit Go.Proofs.YtgjpaecpljifpaaGreat Go.Maps Go.WideMaps

/-- A space that has been told of at most n keys, and blocks X that are none of its own; since the world w0 nothing else has turned. -/
structure SpIn (w0 w : World) (b : Nat) (A : AS) (n : Nat) (X : Nat → Prop) (L : Lay) (U : List ByteArray) : Prop where
  space : SpaceAt w b A L U
  few : U.length ≤ n
  apart : ∀ r, X r → ¬ sfp b L r ∧ r < w.heap.size
  new : ∀ r, sfp b L r → w0.heap.size ≤ r
  keeps : Keeps (fun _ => False) w0 w
def Sp (w0 w : World) (b : Nat) (A : AS) (n : Nat) (X : Nat → Prop) : Prop := ∃ L U, SpIn w0 w b A n X L U
/-- The blocks X are as they were. -/
structure Same (X : Nat → Prop) (w w' : World) : Prop where
  size : w.heap.size ≤ w'.heap.size
  same : ∀ r, X r → w'.heap[r]? = w.heap[r]?
theorem Same.refl (X : Nat → Prop) (w : World) : Same X w w := ⟨Nat.le_refl _, fun _ _ => rfl⟩
theorem Same.trans {X : Nat → Prop} {w w1 w2 : World} (h : Same X w w1) (k : Same X w1 w2) : Same X w w2 := ⟨Nat.le_trans h.size k.size, fun r hr => (k.same r hr).trans (h.same r hr)⟩
theorem Same.less {X Y : Nat → Prop} {w w' : World} (h : Same X w w') (hs : ∀ r, Y r → X r) : Same Y w w' := ⟨h.size, fun r hr => h.same r (hs r hr)⟩

section
variable {w0 w w' : World} {b n : Nat} {A : AS} {X : Nat → Prop}
theorem Sp.base (h : Sp w0 w b A n X) : Keeps (fun _ => False) w0 w := by
  obtain ⟨L, U, h⟩ := h
  exact h.keeps
theorem Sp.keeps (h : Sp w0 w b A n X) {S : Nat → Prop} (k : Keeps S w w') (hS : ∀ r, S r → X r ∧ w0.heap.size ≤ r) : Sp w0 w' b A n X := by
  obtain ⟨L, U, h⟩ := h
  exact ⟨L, U, h.space.keeps k fun r hr hs => (h.apart r (hS r hs).1).1 hr, h.few, fun r hr => ⟨(h.apart r hr).1, Nat.lt_of_lt_of_le (h.apart r hr).2 k.size⟩, h.new, h.keeps.trans' k fun r hr hs => by have := (hS r hs).2; omega⟩
theorem Sp.fresh (h : Sp w0 w b A n X) (k : Keeps (fun _ => False) w w') : Sp w0 w' b A n X ∧ Same X w w' := by
  refine ⟨h.keeps k fun _ h => h.elim, k.size, fun r hr => ?_⟩
  obtain ⟨L, U, h⟩ := h
  exact k.same r (h.apart r hr).2 id
/-- New blocks are none of a space's. -/
theorem Sp.more (h : Sp w0 w b A n X) (k : Keeps (fun _ => False) w w') {Y : Nat → Prop} (hY : ∀ r, Y r → w.heap.size ≤ r ∧ r < w'.heap.size) : Sp w0 w' b A n (fun r => X r ∨ Y r) := by
  obtain ⟨L, U, h⟩ := h
  refine ⟨L, U, h.space.keeps k fun _ _ => id, h.few, fun r hr => ?_, h.new, h.keeps.trans k⟩
  rcases hr with hr | hr
  · exact ⟨(h.apart r hr).1, Nat.lt_of_lt_of_le (h.apart r hr).2 k.size⟩
  · exact ⟨fun hs => by have := h.space.parts.lt hs; have := (hY r hr).1; omega, (hY r hr).2⟩
theorem Sp.less (h : Sp w0 w b A n X) {Y : Nat → Prop} (hY : ∀ r, Y r → X r) : Sp w0 w b A n Y := by
  obtain ⟨L, U, h⟩ := h
  exact ⟨L, U, h.space, h.few, fun r hr => h.apart r (hY r hr), h.new, h.keeps⟩
theorem Sp.lt (h : Sp w0 w b A n X) {r : Nat} (hr : X r) : r < w.heap.size := by
  obtain ⟨_, _, h⟩ := h
  exact (h.apart r hr).2
theorem SpIn.step {A' : AS} {L : Lay} {U U' : List ByteArray} {n' : Nat} (h : SpIn w0 w b A n X L U) (hm : ∃ L', SpaceAt w' b A' L' U' ∧ Moved w w' b L L') (hn : U'.length ≤ n') : Sp w0 w' b A' n' X ∧ Same X w w' := by
  obtain ⟨L', h1, h2⟩ := hm
  refine ⟨⟨L', U', h1, hn, fun r hr => ⟨fun hs => ?_, Nat.lt_of_lt_of_le (h.apart r hr).2 h2.keeps.size⟩, fun r hr => ?_, h.keeps.trans' h2.keeps fun r hr hs => by have := h.new r hs; omega⟩, h2.keeps.size, fun r hr => h2.keeps.same r (h.apart r hr).2 (h.apart r hr).1⟩
  · rcases h2.fps r hs with hs | hs
    · exact (h.apart r hr).1 hs
    · have := (h.apart r hr).2; omega
  · rcases h2.fps r hr with hr | hr
    · exact h.new r hr
    · have := h.keeps.size; omega

theorem sp_New (c : Cfg) (w : World) (hc : c.bad = false) :
    Calls Tryz.prog 9 #[.agg (cfgCells c)] w fun en w' => ∃ b, en = .returned (.tuple #[.pointer (some ⟨b, 0, none⟩), .int .i64 0]) ∧ Sp w w' b (AS.empty c) 0 (fun _ => False) :=
  (New_good c w hc).mono fun _ _ ⟨b, L, h1, h2, h3, h4⟩ => ⟨b, h1, L, [], h2, Nat.le_refl _, fun _ h => h.elim, h4, h3⟩

theorem sp_Put {key : ByteArray} {vb : Nat} {text : ByteArray} {empty : Bool} {cost : Int} (h : Sp w0 w b A n X) (hs : key.size ≤ maxLen) (hn : n + 1 < mostKeys) (hv : ∀ w' : World, (∀ r, X r → w'.heap[r]? = w.heap[r]?) → ValAt w' vb text empty cost) :
    Calls Tryz.prog 10 #[.pointer (some ⟨b, 0, none⟩), .string key, .pointer (some ⟨vb, 0, none⟩)] w
      fun en w' => en = .returned (.int .i64 (A.put key vb text empty cost).2) ∧ Sp w0 w' b (A.put key vb text empty cost).1 (n + 1) X ∧ Same X w w' := by
  obtain ⟨L, U, h⟩ := h
  have h1 := h.space
  exact (Put_any b A L U key vb text empty cost w h1 hs (by have := h.few; omega) X h.apart hv).mono fun en w' ⟨h4, h5⟩ => ⟨h5, h.step h4 (by simpa using h.few)⟩
theorem sp_Changed {key : ByteArray} {text : ByteArray} {empty : Bool} {cost : Int} (h : Sp w0 w b A n X) (hs : key.size ≤ maxLen) (hv : ∀ (w' : World) (r : Rec), (A.met key).get key = some r → (∀ r, X r → w'.heap[r]? = w.heap[r]?) → ValAt w' r.vb text empty cost) :
    Calls Tryz.prog 24 #[.pointer (some ⟨b, 0, none⟩), .string key] w
      fun en w' => en = .returned (.bool (A.changed key empty cost).2) ∧ Sp w0 w' b (A.changed key empty cost).1 n X ∧ Same X w w' := by
  obtain ⟨L, U, h⟩ := h
  have h1 := h.space
  exact (Changed_any b A L U key text empty cost w h1 hs X h.apart hv).mono fun en w' ⟨h4, h5⟩ => ⟨h5, h.step h4 h.few⟩
theorem sp_Look {key : ByteArray} (h : Sp w0 w b A n X) (hs : key.size ≤ maxLen) :
    Calls Tryz.prog 14 #[.pointer (some ⟨b, 0, none⟩), .string key] w
      fun en w' => en = tellEnd (A.met key) key (fun r => .pointer (some ⟨r.vb, 0, none⟩)) (.pointer none) ∧ Sp w0 w' b (A.met key) n X ∧ Same X w w' := by
  obtain ⟨L, U, h⟩ := h
  have h1 := h.space
  exact (Look_any b A L U key w h1 hs).mono fun en w' ⟨h4, h5⟩ => ⟨h5, h.step h4 h.few⟩
theorem sp_Get {key : ByteArray} (h : Sp w0 w b A n X) (hs : key.size ≤ maxLen) :
    Calls Tryz.prog 13 #[.pointer (some ⟨b, 0, none⟩), .string key] w
      fun en w' => en = tellEnd (A.met key) key (fun r => .pointer (some ⟨r.vb, 0, none⟩)) (.pointer none) ∧ Sp w0 w' b (A.got key) n X ∧ Same X w w' := by
  obtain ⟨L, U, h⟩ := h
  have h1 := h.space
  exact (Get_any b A L U key w h1 hs).mono fun en w' ⟨h4, h5⟩ => ⟨h5, h.step h4 h.few⟩
theorem sp_Stamp {key : ByteArray} (h : Sp w0 w b A n X) (hs : key.size ≤ maxLen) :
    Calls Tryz.prog 12 #[.pointer (some ⟨b, 0, none⟩), .string key] w
      fun en w' => en = tellEnd (A.met key) key (fun r => .int .u64 r.stamp) (.int .u64 0) ∧ Sp w0 w' b (A.met key) n X ∧ Same X w w' := by
  obtain ⟨L, U, h⟩ := h
  have h1 := h.space
  exact (Stamp_any b A L U key w h1 hs).mono fun en w' ⟨h4, h5⟩ => ⟨h5, h.step h4 h.few⟩
theorem sp_Tick (now : Int) (h : Sp w0 w b A n X) :
    Calls Tryz.prog 15 #[.pointer (some ⟨b, 0, none⟩), .int .i64 now] w
      fun en w' => en = .returned (.int .i64 (AS.tickCode now)) ∧ Sp w0 w' b (A.tick now) n X ∧ Same X w w' := by
  obtain ⟨L, U, h⟩ := h
  have h1 := h.space
  exact (Tick_any b A L U now w h1).mono fun en w' ⟨h4, h5⟩ => ⟨h5, h.step h4 h.few⟩
theorem sp_SetDeadline {key : ByteArray} (at_ : Int) (h : Sp w0 w b A n X) (hs : key.size ≤ maxLen) :
    Calls Tryz.prog 17 #[.pointer (some ⟨b, 0, none⟩), .string key, .int .i64 at_] w
      fun en w' => en = .returned (.bool (A.setDue key at_).2) ∧ Sp w0 w' b (A.setDue key at_).1 n X ∧ Same X w w' := by
  obtain ⟨L, U, h⟩ := h
  have h1 := h.space
  exact (SetDeadline_any b A L U key at_ w h1 hs).mono fun en w' ⟨h4, h5⟩ => ⟨h5, h.step h4 h.few⟩
theorem sp_Used (h : Sp w0 w b A n X) : Calls Tryz.prog 27 #[.pointer (some ⟨b, 0, none⟩)] w fun en w' => en = .returned (.int .i64 A.used) ∧ w = w' := by
  obtain ⟨L, U, h⟩ := h
  have h1 := h.space
  exact (Used_any b A L U w h1).mono fun en w' ⟨h4, h5⟩ => ⟨h5, h4⟩
theorem sp_Now (h : Sp w0 w b A n X) : Calls Tryz.prog 25 #[.pointer (some ⟨b, 0, none⟩)] w fun en w' => en = .returned (.int .i64 A.now) ∧ w = w' := by
  obtain ⟨L, U, h⟩ := h
  have h1 := h.space
  exact (Now_any b A L U w h1).mono fun en w' ⟨h4, h5⟩ => ⟨h5, h4⟩

theorem stps_of {w : World} {v : Value} {l : List (Int × ByteArray)} (h : StepsIn w v l) (hl : l.length ≤ 4398046511104) : Stps w v l := by
  have hcells : ∀ (l : List (Int × ByteArray)) (j : Nat) (s : Int × ByteArray), l[j]? = some s → (stepCells l)[j * 2]? = some (.int .i64 s.1) ∧ (stepCells l)[j * 2 + 1]? = some (.string s.2) := by
    intro l
    induction l with
    | nil => intro j s hs; simp at hs
    | cons x l ih =>
      intro j s hs
      cases j with
      | zero => simp at hs; subst hs; exact ⟨rfl, rfl⟩
      | succ j =>
        rw [List.getElem?_cons_succ] at hs
        have := ih j s hs
        rw [show (j + 1) * 2 = j * 2 + 2 by omega]
        exact this
  rcases h.2 with ⟨hv, h0⟩ | ⟨g, cap, cur, hv, _, hb, _⟩
  · have hl0 : l = [] := List.eq_nil_of_length_eq_zero h0
    subst hl0
    exact ⟨_, _, hv, by simp, fun j s hs => by simp at hs⟩
  · refine ⟨_, _, hv, by omega, fun j s hs => ⟨g, rfl, ?_, ?_⟩⟩
    · have := h.cells (g := g) (by rw [hv]; rfl) (j * 2) _ (hcells l j s hs).1
      rwa [show (⟨g, 0, none⟩ : Addr).add (j * 2) = ⟨g, j * 2, none⟩ by unfold Addr.add; split <;> simp_all] at this
    · have := h.cells (g := g) (by rw [hv]; rfl) (j * 2 + 1) _ (hcells l j s hs).2
      rwa [show (⟨g, 0, none⟩ : Addr).add (j * 2 + 1) = ⟨g, j * 2 + 1, none⟩ by unfold Addr.add; split <;> simp_all] at this

theorem sp_Steps (h : Sp w0 w b A n X) :
    Calls Tryz.prog 19 #[.pointer (some ⟨b, 0, none⟩)] w
      fun en w' => ∃ v, en = .returned v ∧ Stps w' v A.steps ∧ Sp w0 w' b { A with steps := [] } n X ∧ Same X w w' := by
  obtain ⟨L, U, h⟩ := h
  have h1 := h.space
  refine (Steps_any b A L U w h1).mono fun en w' ⟨⟨L', h4, h5, _⟩, h6, h7⟩ => ⟨_, h6, stps_of h7 ?_, h.step ⟨L', h4, h5⟩ h.few⟩
  have := h1.room
  have := h1.small
  unfold mostKeys at this
  omega
theorem sp_Touched (h : Sp w0 w b A n X) :
    Calls Tryz.prog 16 #[.pointer (some ⟨b, 0, none⟩)] w
      fun en w' => ∃ v l, en = .returned v ∧ Told A.touched l ∧ Strs w' v (l.map fun x => ⟨x.toArray⟩) ∧ Sp w0 w' b { A with touched := fun _ => false } n X ∧ Same X w w' := by
  obtain ⟨L, U, h⟩ := h
  have h1 := h.space
  refine (Touched_any b A L U w h1).mono fun en w' ⟨h4, g, cap, l, h6, h7, h8⟩ => ⟨_, l, h6, h7, ?_, h.step h4 h.few⟩
  rcases h8.2 with ⟨h9, _⟩ | ⟨g', cap', cur, hv, _, hb, hc1, hc2, _⟩
  · cases h9
  · cases hv
    unfold maxLen at hc2
    refine ⟨some ⟨g, 0, none⟩, cap, by rw [List.length_map], by rw [List.length_map]; exact hc1, by rw [List.length_map]; omega, fun j s hs => ⟨g, 0, rfl, ?_⟩⟩
    rw [List.getElem?_map] at hs
    obtain ⟨x, hx, rfl⟩ := Option.map_eq_some_iff.1 hs
    have := h8.cells (g := g) rfl j (encStr x) (by rw [List.getElem?_map, hx]; rfl)
    rw [show (⟨g, 0, none⟩ : Addr).add j = ⟨g, 0 + j, none⟩ by rw [Nat.zero_add]; unfold Addr.add; split <;> simp_all] at this
    exact this

/-- No key is past. -/
theorem DueKeys.none {ks : List ByteArray} (h : DueKeys A ks) (hA : ∀ k r, A.get k = some r → A.past r.at_ = false) : ks = [] := by
  cases ks with
  | nil => rfl
  | cons k ks =>
    obtain ⟨r, h1, h2⟩ := (h.all k).1 List.mem_cons_self
    rw [hA k r h1] at h2
    cases h2
theorem sp_Len {l : List ByteArray} (h : Sp w0 w b A n X) (hA : ∀ k r, A.get k = some r → A.past r.at_ = false) (hl : KeysAre A l) :
    Calls Tryz.prog 18 #[.pointer (some ⟨b, 0, none⟩)] w fun en w' => en = .returned (.int .i64 l.length) ∧ Sp w0 w' b A n X ∧ Same X w w' := by
  obtain ⟨L, U, h⟩ := h
  have h1 := h.space
  refine (Len_any b A L U w h1).mono fun en w' ⟨ks, L', ⟨hd, hS, hM⟩, he⟩ => ?_
  obtain rfl := hd.none hA
  have hS' : SpaceAt w' b A L' U := hS
  exact ⟨by rw [he, hS'.main_n hl], h.step ⟨L', hS', hM⟩ h.few⟩
end
end Go.Proofs.YtgjpaecpljifpaaGreat

/- wakes: does a space hold a key, and let it expire? -/
import Derived.Test.YtgjpaecpljifpaaGreatLawA
import Derived.Laws.MakeOwn
import Derived.Laws.IdiomStrings
import Derived.Laws.OwnMore
import Derived.Test.YtgjpaecpljifpaaGreatHeap
import Derived.ChangeSame
namespace Go.Proofs.YtgjpaecpljifpaaGreat
open Go Go.RowKit Go.Proofs.YtgjpaecpljifpaaGreat Go.Maps Go.WideMaps

def kk : ByteArray := ⟨#[107]⟩
def kl : ByteArray := ⟨#[108]⟩
def km : ByteArray := ⟨#[109]⟩
def abc : ByteArray := ⟨#[97, 98, 99]⟩

theorem told_one {T : ByteArray → Bool} {l : List (List UInt8)} (h : Told T l) (key : ByteArray) (hs : key.size ≤ maxLen) (hT : ∀ k, T k = true ↔ k = key) : l = [key.data.toList] := by
  have hm : key.data.toList ∈ l := (h.all key hs).1 ((hT key).2 rfl)
  have hall : ∀ x ∈ l, x = key.data.toList := fun x hx => by
    have hx' : x.length ≤ maxLen := h.short x hx
    have := (h.all ⟨x.toArray⟩ (by simpa [ByteArray.size] using hx')).2 (by simpa using hx)
    rw [hT] at this
    rw [← this]
  match l, hm, hall, h.once with
  | [x], _, hall, _ => rw [hall x List.mem_cons_self]
  | x :: y :: l, _, hall, ho =>
    have h1 := hall x List.mem_cons_self
    have h2 := hall y (List.mem_cons_of_mem _ List.mem_cons_self)
    rw [h1, h2] at ho
    simp at ho

def W1 : AS := AS.empty ⟨0, 0, 0, 0⟩
def W2 (v : Nat) : AS := (W1.put kk v abc false 3).1
def W3 (v : Nat) : AS := ((W2 v).setDue kk 10).1
def W4 (v : Nat) : AS := (W3 v).tick 9
def W5 (v : Nat) : AS := ((W4 v).met kk).tick 10
def W6 (v : Nat) : AS := (W5 v).met kk

theorem stps_new (w : World) (k : Int) (s : ByteArray) (t : TypeId) : Stps (w.alloc (.cells #[.int .i64 k, .string s] t)) (.slice (some ⟨w.heap.size, 0, none⟩) 1 1) [(k, s)] := by
  have hb := Blk.new w #[.int .i64 k, .string s] t
  refine ⟨_, _, rfl, by simp, fun j x hx => ?_⟩
  cases j with
  | zero => simp at hx; subst hx; exact ⟨_, rfl, hb.cell 0, hb.cell 1⟩
  | succ j => simp at hx
theorem strs_new (w : World) (s : ByteArray) (t : TypeId) : Strs (w.alloc (.cells #[.string s] t)) (.slice (some ⟨w.heap.size, 0, none⟩) 1 1) [s] := by
  have hb := Blk.new w #[.string s] t
  refine ⟨_, _, rfl, by simp, by simp, fun j x hx => ?_⟩
  cases j with
  | zero => simp at hx; subst hx; exact ⟨_, 0, rfl, hb.cell 0⟩
  | succ j => simp at hx
theorem Stps.alloc {w : World} {v : Value} {l : List (Int × ByteArray)} (h : Stps w v l) (o : Obj) : Stps (w.alloc o) v l := by
  obtain ⟨a, c, h1, h2, h3⟩ := h.lies
  exact ⟨a, c, h1, h2, fun j s hs => by
    obtain ⟨g, e1, e2, e3⟩ := h3 j s hs
    exact ⟨g, e1, Lib.cell?_alloc_some _ e2, Lib.cell?_alloc_some _ e3⟩⟩
theorem Strs.alloc {w : World} {v : Value} {l : List ByteArray} (h : Strs w v l) (o : Obj) : Strs (w.alloc o) v l := by
  obtain ⟨a, c, h1, h2, h3, h4⟩ := h.lies
  exact ⟨a, c, h1, h2, h3, fun j s hs => by
    obtain ⟨g, o', e1, e2⟩ := h4 j s hs
    exact ⟨g, o', e1, Lib.cell?_alloc_some _ e2⟩⟩

/-- A text, made beside a space. -/
theorem Sp.text {w0 w : World} {b n : Nat} {A : AS} {X : Nat → Prop} (h : Sp w0 w b A n X) (s : ByteArray) :
    Sp w0 (w.alloc (.cells (textCells s) 114)) b A n (fun r => X r ∨ r = w.heap.size) ∧ Same X w (w.alloc (.cells (textCells s) 114)) ∧
      ∀ w', (∀ r, X r ∨ r = w.heap.size → w'.heap[r]? = (w.alloc (.cells (textCells s) 114)).heap[r]?) → ValAt w' w.heap.size s false s.size := by
  have hk : Keeps (fun _ => False) w (w.alloc (.cells (textCells s) 114)) := (Keeps.refl _ w).alloc _
  refine ⟨h.more hk fun r hr => ?_, (h.fresh hk).2, fun w' hw' => text_at ((Blk.new w _ _).of_heap (hw' _ (.inr rfl)))⟩
  subst hr
  exact ⟨Nat.le_refl _, by simp⟩

set_option maxRecDepth 100000 in
set_option maxHeartbeats 4000000 in
theorem wakes_any (w : World) : Calls Tryz.prog 8 #[] w fun e w' => e = .returned (.bool true) ∧ Keeps (fun _ => False) w w' := by
  have hnew := sp_New ⟨0, 0, 0, 0⟩ w (by decide)
  have HNew := Lib.hid hnew
  clear hnew
  go_enter Tryz.func8, Tryz.ntmps8
  go_wp2_with fail
  go_at_call 9
  refine HNew.out.mono ?_
  rintro e w1 ⟨b, rfl, hS⟩
  have HS := Lib.hid hS
  clear hS
  go_wp2_with fail
  go_at_call 11
  refine (Text_any _ _).mono ?_
  rintro e w2 ⟨rfl, hw2⟩
  have hS2 := HS.out.fresh (w' := w2) (by rw [← hw2]; exact (Keeps.refl _ _).alloc _)
  have HS2 := Lib.hid hS2
  clear hS2 hw2
  go_wp2_with fail
  go_at_call 11
  refine (Text_any _ _).mono ?_
  rintro e w3 ⟨rfl, hw3⟩
  obtain ⟨hS3, hm3, hv3⟩ := HS2.out.1.text ⟨#[97, 98, 99]⟩
  rw [hw3] at hS3 hm3 hv3
  obtain ⟨vb, hvb⟩ : ∃ vb, w2.heap.size = vb := ⟨_, rfl⟩
  rw [hvb] at hS3 hv3 ⊢
  have HS3 : Hid (Sp w w3 b W1 0 fun r => r = vb) := hS3.less fun r hr => .inr hr
  have HV3 : Hid (∀ wq : World, (∀ r, r = vb → wq.heap[r]? = w3.heap[r]?) → ValAt wq vb ⟨#[97, 98, 99]⟩ false 3) := fun wq hq => hv3 wq fun r hr => hq r (by simpa using hr)
  clear hS3 hm3 hv3 hw3 hvb
  go_wp2_with fail
  go_at_call 10
  refine (sp_Put (key := kk) (text := abc) (empty := false) (cost := 3) HS3.out (by decide) (by decide) HV3.out).mono ?_
  rintro e w4 ⟨he, hS4, hm4⟩
  obtain rfl : e = .returned (.int .i64 0) := he.trans (by kernel_rfl)
  have HS4 : Hid (Sp w w4 b (W2 vb) 1 fun r => r = vb) := hS4
  have HM4 := Lib.hid hm4
  clear hS4 hm4 he
  go_wp2_with fail
  go_at_call 27
  refine (sp_Used HS4.out).mono ?_
  rintro e w9 ⟨he, rfl⟩
  obtain rfl : e = .returned (.int .i64 52) := he.trans (by kernel_rfl)
  clear he
  go_wp2_with fail
  go_at_call 17
  refine (sp_SetDeadline (key := kk) 10 HS4.out (by decide)).mono ?_
  rintro e w5 ⟨he, hS5, hm5⟩
  obtain rfl : e = .returned (.bool true) := he.trans (by kernel_rfl)
  have HS5 : Hid (Sp w w5 b (W3 vb) 1 fun r => r = vb) := hS5
  have HM5 := Lib.hid hm5
  clear hS5 hm5 he
  go_wp2_with fail
  go_at_call 27
  refine (sp_Used HS5.out).mono ?_
  rintro e w9 ⟨he, rfl⟩
  obtain rfl : e = .returned (.int .i64 68) := he.trans (by kernel_rfl)
  clear he
  go_wp2_with fail
  go_at_call 15
  refine (sp_Tick 9 HS5.out).mono ?_
  rintro e w6 ⟨he, hS6, hm6⟩
  obtain rfl : e = .returned (.int .i64 0) := he.trans (by kernel_rfl)
  have HS6 : Hid (Sp w w6 b (W4 vb) 1 fun r => r = vb) := hS6
  have HM6 := Lib.hid hm6
  clear hS6 hm6 he
  go_wp2_with fail
  go_at_call 14
  refine (sp_Look (key := kk) HS6.out (by decide)).mono ?_
  rintro e w7 ⟨he, hS7, hm7⟩
  obtain rfl : e = .returned (.tuple #[.pointer (some ⟨vb, 0, none⟩), .bool true]) := he.trans (by kernel_rfl)
  have HS7 : Hid (Sp w w7 b ((W4 vb).met kk) 1 fun r => r = vb) := hS7
  have HM7 := Lib.hid hm7
  clear hS7 hm7 he
  go_wp2_with fail
  have hv7 := HV3.out w7 fun r hr => (HM7.out.same r hr).trans ((HM6.out.same r hr).trans ((HM5.out.same r hr).trans (HM4.out.same r hr)))
  have HV7 := Lib.hid hv7
  clear hv7
  go_at_call 43
  refine HV7.out.asText.mono ?_
  rintro e w9 ⟨⟨ok, rfl⟩, rfl⟩
  go_wp2_with fail
  go_at_call 15
  refine (sp_Tick 10 HS7.out).mono ?_
  rintro e w8 ⟨he, hS8, hm8⟩
  obtain rfl : e = .returned (.int .i64 0) := he.trans (by kernel_rfl)
  have HS8 : Hid (Sp w w8 b (W5 vb) 1 fun r => r = vb) := hS8
  have HM8 := Lib.hid hm8
  clear hS8 hm8 he
  go_wp2_with fail
  go_at_call 14
  refine (sp_Look (key := kk) HS8.out (by decide)).mono ?_
  rintro e w9 ⟨he, hS9, hm9⟩
  obtain rfl : e = .returned (.tuple #[.pointer none, .bool false]) := he.trans (by kernel_rfl)
  have HS9 : Hid (Sp w w9 b (W6 vb) 1 fun r => r = vb) := hS9
  have HM9 := Lib.hid hm9
  clear hS9 hm9 he
  go_wp2_with fail
  go_at_call 27
  refine (sp_Used HS9.out).mono ?_
  rintro e wz ⟨he, rfl⟩
  obtain rfl : e = .returned (.int .i64 0) := he.trans (by kernel_rfl)
  clear he
  go_wp2_with fail
  go_at_call 19
  refine (sp_Steps HS9.out).mono ?_
  rintro e w10 ⟨sv, rfl, hst, hS10, hm10⟩
  rw [show (W6 vb).steps = [(1, kk)] by kernel_rfl] at hst
  have HSt := Lib.hid hst
  have HS10 := Lib.hid hS10
  have HM10 := Lib.hid hm10
  clear hst hS10 hm10
  go_wp2_with fail
  go_at_call 36
  refine (sameSteps_any (HSt.out.alloc _) (stps_new w10 1 kk _)).mono ?_
  rintro e w11 ⟨he, n11, hn11⟩
  obtain rfl : e = .returned (.bool true) := he.trans (by kernel_rfl)
  have hS11 := HS10.out.fresh (w' := w11) (by rw [← hn11]; exact ((Keeps.refl _ _).alloc _).drewN _)
  have HS11 := Lib.hid hS11
  clear he hn11 hS11
  go_wp2_with fail
  go_at_call 16
  refine (sp_Touched HS11.out.1).mono ?_
  rintro e w12 ⟨tv, l, rfl, htold, hstr, hS12, _⟩
  have hl := told_one htold kk (by decide) (fun k => by
    show ((((fun _ => false) k || decide (k = kk)) || decide (k = kk)) || decide (k = kk)) = true ↔ k = kk
    simp)
  rw [hl] at hstr
  have HStr : Hid (Strs w12 tv [kk]) := hstr
  have HS12 := Lib.hid hS12
  clear htold hstr hS12 hl
  go_wp2_with fail
  go_at_call 20
  refine (sameTexts_any (HStr.out.alloc _) (strs_new w12 kk _)).mono ?_
  rintro e w13 ⟨he, n13, hn13⟩
  obtain rfl : e = .returned (.bool true) := he.trans (by kernel_rfl)
  have hk13 : Keeps (fun _ => False) w12 w13 := by rw [← hn13]; exact ((Keeps.refl _ _).alloc _).drewN _
  have HK13 := Lib.hid hk13
  clear he hn13 hk13
  go_wp2_with fail
  go_ret
  refine ⟨rfl, ?_⟩
  exact HS12.out.base.trans HK13.out
end Go.Proofs.YtgjpaecpljifpaaGreat

namespace Go.Proofs.YtgjpaecpljifpaaGreat
open Go Go.RowKit Go.Proofs.YtgjpaecpljifpaaGreat Go.Maps Go.WideMaps

theorem infoByte : (Tryz.prog.info? 5).map (fun i => (i.zero, i.size, i.bytes)) = some (some (.int .u8 0), 1, 1) := by kernel_rfl

def Big (BC : Array Value) (big : ByteArray) : Prop := 1048576 < big.size ∧ big.size ≤ maxLen ∧ (∀ W : World, (Instr.makeSlice 57 (.int .i64 1048577) (.int .i64 1048577)).run Tryz.prog W = .ok (.slice (some ⟨W.heap.size, 0, none⟩) 1048577 1048577) (W.alloc (.cells BC 5))) ∧
  ∀ (W : World) (g : Nat), Blk W g BC 5 → (convert 57 9 (.slice (some ⟨g, 0, none⟩) 1048577 1048577)).run Tryz.prog W = .ok (.string big) W

theorem big_of (N : Nat) (hN : 1048576 < N) (hM : N ≤ 281474976710656) : ∃ BC big, big.size = N ∧ (∀ W : World, (Instr.makeSlice 57 (.int .i64 N) (.int .i64 N)).run Tryz.prog W = .ok (.slice (some ⟨W.heap.size, 0, none⟩) N N) (W.alloc (.cells BC 5))) ∧
    ∀ (W : World) (g : Nat), Blk W g BC 5 → (convert 57 9 (.slice (some ⟨g, 0, none⟩) N N)).run Tryz.prog W = .ok (.string big) W := by
  obtain ⟨i0, hi, hz0, hz1, hz2⟩ := info_parts infoByte
  refine ⟨madeCells (Value.cells (.int .u8 0)) N, ⟨(List.replicate N (0 : UInt8)).toArray⟩, by simp [ByteArray.size], fun W => ?_, fun W g hb => ?_⟩
  · have := run_make (P := Tryz.prog) W 57 5 i0 _ Tryz.underlying57 hi hz0 .i64 .i64 N N (by omega) (Int.le_refl _) (by rw [hz2]; omega) (by omega)
    rw [hz1] at this
    simpa using this
  · have := run_convert_bytes_back (P := Tryz.prog) W 57 9 5 ⟨g, 0, none⟩ N (List.replicate N (0 : UInt8)) Tryz.underlying57 Tryz.underlying5 Tryz.underlying9 (fun j hj => ?_)
    · rwa [List.length_replicate] at this
    · rw [show (⟨g, 0, none⟩ : Addr).add j = ⟨g, j, none⟩ by unfold Addr.add; split <;> simp_all, hb.cell]
      have hjN : j < N := by simpa using hj
      have h1 := toList_madeCells_one (Value.int .u8 0) N
      have h2 : (madeCells (Value.cells (.int .u8 0)) N)[j]? = (List.replicate N (Value.int .u8 0))[j]? := by
        rw [← h1, Array.getElem?_toList]; rfl
      rw [h2, List.getElem?_replicate, if_pos hjN]
      simp
theorem big_is : ∃ BC big, Big BC big := by
  obtain ⟨BC, big, h1, h2, h3⟩ := big_of 1048577 (by omega) (by omega)
  exact ⟨BC, big, by omega, by rw [h1]; decide, h2, h3⟩

/-- Put refuses what is too long. -/
theorem put_long {A : AS} {key text : ByteArray} (h : 1048576 < max key.size text.size) (vb : Nat) (empty : Bool) (cost : Int) : A.put key vb text empty cost = (A, 2) := if_pos h
theorem sp_Put_long {w0 w : World} {b n : Nat} {A : AS} {X : Nat → Prop} {key text : ByteArray} {vb : Nat} {empty : Bool} {cost : Int} (h : Sp w0 w b A n X) (hs : key.size ≤ maxLen) (hn : n + 1 < mostKeys) (hl : 1048576 < max key.size text.size) (hv : ∀ w' : World, (∀ r, X r → w'.heap[r]? = w.heap[r]?) → ValAt w' vb text empty cost) :
    Calls Tryz.prog 10 #[.pointer (some ⟨b, 0, none⟩), .string key, .pointer (some ⟨vb, 0, none⟩)] w fun en w' => en = .returned (.int .i64 2) ∧ Sp w0 w' b A (n + 1) X := by
  refine (sp_Put h hs hn hv).mono ?_
  rintro en w' ⟨h1, h2, _⟩
  rw [put_long hl] at h1 h2
  exact ⟨h1, h2⟩

/-- A long key, a text made behind it or ahead of it. -/
theorem put_longA {w0 W : World} {b n : Nat} {A : AS} {X : Nat → Prop} {BC : Array Value} {big : ByteArray} (h : Sp w0 W b A n X) (hB : Big BC big) (hn : n + 1 < mostKeys) :
    Calls Tryz.prog 10 #[.pointer (some ⟨b, 0, none⟩), .string big, .pointer (some ⟨W.heap.size + 1, 0, none⟩)] ((W.alloc (.cells BC 5)).alloc (.cells #[.iface 110 (.string ⟨#[]⟩)] 114)) fun en w' => en = .returned (.int .i64 2) ∧ Sp w0 w' b A (n + 1) (fun _ => False) := by
  have h1 := (h.fresh ((Keeps.refl _ W).alloc (.cells BC 5))).1
  obtain ⟨h2, _, h3⟩ := h1.text ⟨#[]⟩
  have h4 := sp_Put_long (key := big) h2 hB.2.1 hn (by have := hB.1; omega) h3
  rw [show (W.alloc (.cells BC 5)).heap.size = W.heap.size + 1 by simp] at h4
  exact h4.mono fun _ _ ⟨e1, e2⟩ => ⟨e1, e2.less fun _ h => h.elim⟩
theorem put_longB {w0 W : World} {b n : Nat} {A : AS} {X : Nat → Prop} {BC : Array Value} {big : ByteArray} (h : Sp w0 W b A n X) (hB : Big BC big) (hn : n + 1 < mostKeys) :
    Calls Tryz.prog 10 #[.pointer (some ⟨b, 0, none⟩), .string big, .pointer (some ⟨W.heap.size, 0, none⟩)] ((W.alloc (.cells #[.iface 110 (.string ⟨#[]⟩)] 114)).alloc (.cells BC 5)) fun en w' => en = .returned (.int .i64 2) ∧ Sp w0 w' b A (n + 1) (fun _ => False) := by
  obtain ⟨h2, _, h3⟩ := h.text ⟨#[]⟩
  have hk : Keeps (fun _ => False) (W.alloc (.cells (textCells ⟨#[]⟩) 114)) ((W.alloc (.cells (textCells ⟨#[]⟩) 114)).alloc (.cells BC 5)) := (Keeps.refl _ _).alloc _
  obtain ⟨h5, h6⟩ := h2.fresh hk
  have h4 := sp_Put_long (key := big) h5 hB.2.1 hn (by have := hB.1; omega) fun w' hw' => h3 w' fun r hr => (hw' r hr).trans (h6.same r hr)
  exact h4.mono fun _ _ ⟨e1, e2⟩ => ⟨e1, e2.less fun _ h => h.elim⟩
/-- A long text. -/
theorem put_longT {w0 W : World} {b n : Nat} {A : AS} {X : Nat → Prop} {BC : Array Value} {big : ByteArray} (h : Sp w0 W b A n X) (hB : Big BC big) (hn : n + 1 < mostKeys) (key : ByteArray) (hk : key.size ≤ maxLen) :
    Calls Tryz.prog 10 #[.pointer (some ⟨b, 0, none⟩), .string key, .pointer (some ⟨W.heap.size + 1, 0, none⟩)] ((W.alloc (.cells BC 5)).alloc (.cells #[.iface 110 (.string big)] 114)) fun en w' => en = .returned (.int .i64 2) ∧ Sp w0 w' b A (n + 1) (fun _ => False) := by
  have h1 := (h.fresh ((Keeps.refl _ W).alloc (.cells BC 5))).1
  obtain ⟨h2, _, h3⟩ := h1.text big
  have h4 := sp_Put_long (key := key) h2 hk hn (by have := hB.1; omega) h3
  rw [show (W.alloc (.cells BC 5)).heap.size = W.heap.size + 1 by simp] at h4
  exact h4.mono fun _ _ ⟨e1, e2⟩ => ⟨e1, e2.less fun _ h => h.elim⟩

theorem Text_lit (s : ByteArray) (w : World) :
    Calls Tryz.prog 11 #[.string s] w fun en w' => en = .returned (.pointer (some ⟨w.heap.size, 0, none⟩)) ∧ w.alloc (.cells #[.iface 110 (.string s)] 114) = w' := Text_any s w
end Go.Proofs.YtgjpaecpljifpaaGreat

namespace Go.Proofs.YtgjpaecpljifpaaGreat
open Go Go.RowKit Go.WideShapes Go.ChangeShapes

theorem Keeps.frame {W W' : World} (h : Keeps (fun _ => False) W W') (may : MemPlace → Prop) : W.keptBut W' may := by
  refine ⟨h.os, h.output, fun i hi => ?_⟩
  rw [h.same i hi id]
  split <;> simp_all

section
variable {H : Type} {enc : TypeId × Value → H} {P : Program}
theorem post_of_keeps {f : Func} {s : ChangeSpec} {apart fresh handsOn again : Bool} {W W' : World} {args : Array Value} {v : Value} {ds gs : List (DataW H)} {before pa pv : List MemPlace}
    (hW : DataW.Whole enc P f.params.toList s.vars apart W args.toList ds gs before)
    (hres : ∀ (b : Nat) (sp : Nat → Bool) (hd : Bool), DataW.TrodAll enc P W' b sp hd f.resultTypes.toList (v.resultList f.resultTypes.size) (s.fn H (ds ++ gs)).results [])
    (hargs : ∀ sp : Nat → Bool, (∀ p ∈ before, sp p.block = true) → DataW.TrodAll enc P W' 0 sp true f.params.toList args.toList (s.fn H (ds ++ gs)).args pa)
    (hvars : ∀ sp : Nat → Bool, (∀ p ∈ before, sp p.block = true) → DataW.TrodVars enc P W' sp s.vars (s.fn H (ds ++ gs)).vars pv)
    (hps : before = pa ++ pv) (hb : Keeps (fun _ => False) W W')
    (hok : ∀ (j : Nat) (t : TypeId) (r : Value), f.resultTypes[j]? = some t → (v.resultList f.resultTypes.size)[j]? = some r → Value.okWide P W' .any 0 t r) :
    s.post enc P f apart fresh handsOn again W args v W' := by
  have hlt : ∀ p ∈ before, p.block < W.heap.size := fun p hp => hW.lt p hp
  have hold : ∀ p ∈ before, (fun b => decide (b < W.heap.size)) p.block = true := fun p hp => by simpa using hlt p hp
  refine ⟨ds, gs, before, [], pa, pv, hW, hres _ _ _, hargs _ hold, hvars _ hold, World.keptBut_mono (fun p hp => ⟨hp, ?_⟩) (hb.frame (· ∈ before)), fun _ => ?_⟩
  · rw [hps, List.mem_append] at hp
    exact Or.inr hp
  · obtain ⟨_, _, _, _, _, hz, hn⟩ := hW
    refine ⟨hok, _, _, ([] ++ pa) ++ pv, ⟨[] ++ pa, pv, trodAll_append (hargs _ (fun _ _ => rfl)) (hres _ _ _), hvars _ (fun _ _ => rfl), rfl, ?_, ?_⟩, ?_⟩
    · intro b off hp
      have hin : MemPlace.cell b off ∈ before := by rw [hps]; simpa using hp
      rw [World.frozen?_of_block (w := W) (hb.same b (hlt _ hin) id)]
      exact hz b off hin
    · intro ha
      have := hn ha
      rw [hps] at this
      simpa using this
    · intro p hp _
      rw [hps]
      simpa using hp
end
end Go.Proofs.YtgjpaecpljifpaaGreat

/- A deque in memory: Push behind all. -/
import Derived.Test.YtgjpaecpljifpaaGreatDqJ
import Derived.Deep.QuietTactic
import Derived.BigQuiet
namespace Go.Proofs.YtgjpaecpljifpaaGreat
open Go Go.RowKit Go.Proofs.YtgjpaecpljifpaaGreat

theorem dq_Push_refused {w : World} {q : Nat} {d : DQ} (ahead : Bool) (s : ByteArray) (h : DqAt w q d) (hr : dqRefused d.texts s ≠ 0) :
    Calls Tryz.prog 59 #[.pointer (some ⟨q, 0, none⟩), .bool ahead, .string s] w fun e w' => e = .returned (.int .i64 (dqRefused d.texts s)) ∧ w = w' := by
  have hc := dq_refused s h
  generalize dqRefused d.texts s = r at *
  have hr' : (r == 0) = false := by simpa using hr
  have hr2 : (r != 0) = true := by simpa using hr
  have HC := Lib.hid hc
  clear h hc hr
  go_enter Tryz.func59, Tryz.ntmps59
  go_wp2_with (go_at_call 131; refine HC.out.mono ?_; rintro e w' ⟨rfl, rfl⟩)
  go_ret
  exact ⟨rfl, rfl⟩

/-- A deque with one text more, behind all. -/
def PushedBack (w : World) (d : DQ) (s : ByteArray) (d' : DQ) : Prop :=
  (∃ pre c, d.cs = pre ++ [c] ∧ c.2.length < 32 ∧ d'.cs = pre ++ [(c.1, c.2 ++ [s])]) ∨
  ((∀ pre c, d.cs = pre ++ [c] → c.2.length = 32) ∧ ∃ b, w.heap.size ≤ b ∧ d'.cs = d.cs ++ [(b, [s])])

set_option maxRecDepth 100000 in
set_option maxHeartbeats 2000000 in
/-- There is room in the last chunk. -/
theorem dq_Push_room {w : World} {q : Nat} {d : DQ} (s : ByteArray) (h : DqAt w q d) (t : d.Tight) (hr : dqRefused d.texts s = 0) {pre : List Ck} {c : Ck} (hcs : d.cs = pre ++ [c]) (hl : c.2.length < 32) :
    Calls Tryz.prog 59 #[.pointer (some ⟨q, 0, none⟩), .bool false, .string s] w fun e w' => e = .returned (.int .i64 0) ∧ DqAt w' q ⟨pre ++ [(c.1, c.2 ++ [s])], d.sv⟩ ∧ Keeps (fun r => r = q ∨ r = c.1) w w' := by
  have hcall := dq_refused s h
  rw [hr] at hcall
  obtain ⟨g, cap, r1, r2, r3, r4, r5, r6, r7, r8, r9⟩ := h.chunk hcs
  have hs : s.size ≤ 1048576 ∧ d.texts.length < 1048576 := by
    unfold dqRefused at hr
    split at hr
    · cases hr
    · split at hr
      · cases hr
      · omega
  have hlay := dq_lay (post := []) c.2.length s h hcs hl (Nat.le_refl _) hs.2 hs.1
  rw [List.take_length, List.drop_length] at hlay
  have hncs := h.n_cs t
  have hlen : d.cs.length = pre.length + 1 := by rw [hcs]; simp
  rw [hlen] at r1 hncs
  have q0 : w.cell? ⟨q, 0, none⟩ = some d.sv := h.str.cell 0
  have q32 : w.cell? ⟨c.1, 32, none⟩ = some (.int .i64 c.2.length) := (r4.cell 32).trans (ckCells_n r5)
  have g1 : (((pre.length : Int) + 1) == 0) = false := by simp; omega
  have g2 : ((c.2.length : Int) == 32) = false := by simp; omega
  have g3 : (pre.length : Int) ≤ 1048576 := by omega
  have HC := Lib.hid hcall
  have HL := Lib.hid hlay
  clear hcall hlay h hcs hl hr hs hncs hlen r4 r5 r6
  go_enter Tryz.func59, Tryz.ntmps59
  go_wp2_with (go_at_call 131; refine HC.out.mono ?_; rintro e w' ⟨rfl, rfl⟩)
  go_at_call 133
  refine HL.out.mono ?_
  rintro e w1 ⟨rfl, hd1, hk1⟩
  have HD1 := Lib.hid hd1
  have HK1 := Lib.hid hk1
  clear hd1 hk1 r1 r3 q0 q32
  go_wp2_with fail
  go_ret
  exact ⟨rfl, HD1.out, HK1.out⟩

/-- An empty chunk behind all. -/
theorem DqAt.longer {w w' : World} {q : Nat} {d : DQ} (h : DqAt w q d) {b : Nat} {sv' : Value} (hb : w.heap.size ≤ b) (hq : Blk w' q (dqCells ⟨d.cs ++ [(b, [])], sv'⟩) 200) (hc : Blk w' b (ckCells []) 204)
    (hrow : w'.ownsRow 0 205 1 sv' (d.cs ++ [(b, [])]).length ((d.cs ++ [(b, [])]).map ckPtr)) (hk : Keeps (fun r => r = q ∨ d.sv.ownBlock = some r) w w') : DqAt w' q ⟨d.cs ++ [(b, [])], sv'⟩ := by
  have ht : texts (d.cs ++ [(b, [])]) = d.texts := by rw [texts_append]; simp [texts]
  refine ⟨hq, hrow, fun c hc' => ?_, ?_, fun c hc' => ?_, ?_, ?_⟩
  · rw [List.mem_append, List.mem_singleton] at hc'
    rcases hc' with hc' | rfl
    · refine hk.blk (h.ck c hc') ?_
      rintro (e | e)
      · exact h.ne.2 c hc' e
      · exact (h.ne.1 _ e).2 c hc' rfl
    · exact hc
  · rw [List.map_append, List.nodup_append]
    refine ⟨h.once, by simp, fun x hx y hy e => ?_⟩
    obtain ⟨c, hc', rfl⟩ := List.mem_map.1 hx
    have := (h.ck c hc').lt
    simp at hy
    omega
  · rw [List.mem_append, List.mem_singleton] at hc'
    rcases hc' with hc' | rfl
    · exact h.full c hc'
    · simp
  · show (texts (d.cs ++ [(b, [])])).length ≤ _
    rw [ht]; exact h.few
  · show ∀ s ∈ texts (d.cs ++ [(b, [])]), _
    rw [ht]; exact h.short

/-- Behind slices.Insert and the store: an empty chunk behind all. -/
theorem push_mid {w W0 W2 : World} {q : Nat} {d : DQ} (h : DqAt w q d) {u : Value} (hW0 : (w.alloc (.cells (ckCells []) 204)).alloc (.cells #[u] 205) = W0) {sv' : Value}
    (hrow : W2.ownsRow 0 205 1 sv' (d.cs.length + 1) (d.cs.map ckPtr ++ [.pointer (some ⟨w.heap.size, 0, none⟩)])) (hk : Keeps (fun r => d.sv.ownBlock = some r) W0 W2) :
    DqAt (W2.setCell ⟨q, 0, none⟩ sv') q ⟨d.cs ++ [(w.heap.size, [])], sv'⟩ ∧ Keeps (fun r => r = q ∨ d.sv.ownBlock = some r) w (W2.setCell ⟨q, 0, none⟩ sv') ∧
      ∃ g cap, sv' = .slice (some ⟨g, 0, none⟩) (d.cs.length + 1) cap ∧ g ≠ q ∧ W2.cell? ⟨g, d.cs.length, none⟩ = some (.pointer (some ⟨w.heap.size, 0, none⟩)) ∧ W2.cell? ⟨q, 0, none⟩ = some d.sv ∧ W2.frozen? ⟨q, 0, none⟩ = false ∧ W2.cell? ⟨w.heap.size, 32, none⟩ = some (.int .i64 0) := by
  have hsz : W0.heap.size = w.heap.size + 2 := by rw [← hW0]; simp
  have k0 : Keeps (fun _ => False) w W0 := by rw [← hW0]; exact ((Keeps.refl _ w).alloc _).alloc _
  have hb0 : Blk W0 w.heap.size (ckCells []) 204 := by rw [← hW0]; exact (Blk.new w _ _).alloc _
  have k2 : Keeps (fun r => d.sv.ownBlock = some r) w W2 := (k0.mono fun _ _ h => h.elim).trans hk
  have hq2 : Blk W2 q (dqCells d) 200 := k2.blk h.str fun e => (h.ne.1 _ e).1 rfl
  have hb2 : Blk W2 w.heap.size (ckCells []) 204 := hk.blk hb0 fun e => by have := (h.row.lt _ e).2; omega
  have hql := h.str.lt
  have ht : texts (d.cs ++ [(w.heap.size, [])]) = d.texts := by rw [texts_append]; simp [texts]
  obtain ⟨g, cap, hsv, hg2, hcell⟩ : ∃ g cap, sv' = .slice (some ⟨g, 0, none⟩) (d.cs.length + 1) cap ∧ (∃ cur, Blk W2 g cur 205) ∧ W2.cell? ⟨g, d.cs.length, none⟩ = some (.pointer (some ⟨w.heap.size, 0, none⟩)) := by
    rcases hrow.2 with ⟨_, h9⟩ | ⟨g, cap, cur, hv, _, hb, _, _, _, _⟩
    · omega
    · refine ⟨g, cap, hv, ⟨cur, hb⟩, ?_⟩
      have := hrow.cells (g := g) (by rw [hv]; rfl) d.cs.length (.pointer (some ⟨w.heap.size, 0, none⟩)) (by rw [List.getElem?_append_right (by simp)]; simp)
      rwa [show (⟨g, 0, none⟩ : Addr).add d.cs.length = ⟨g, d.cs.length, none⟩ by unfold Addr.add; split <;> simp_all] at this
  obtain ⟨cur, hcur⟩ := hg2
  have hgq : g ≠ q := hcur.ne hq2 (by decide)
  refine ⟨h.longer (Nat.le_refl _) ?_ (hb2.set_ne _ (by show w.heap.size ≠ q; omega)) ?_ ((k2.mono fun _ _ e => .inr e).set _ fun _ => .inl rfl), (k2.mono fun _ _ e => .inr e).set _ fun _ => .inl rfl, g, cap, hsv, hgq, hcell, hq2.cell 0, hq2.frozen 0, hb2.cell 32⟩
  · have h9 := hq2.set 0 sv'
    have h8 : (dqCells d).setIfInBounds 0 sv' = dqCells ⟨d.cs ++ [(w.heap.size, [])], sv'⟩ := by
      unfold dqCells
      show _ = #[sv', Value.int .i64 ((texts (d.cs ++ [(w.heap.size, [])])).length : Int), Value.int .i64 (weigh (texts (d.cs ++ [(w.heap.size, [])])))]
      rw [ht]; rfl
    rw [← h8]; exact h9
  · rw [List.length_append, List.map_append]
    refine ownsRow_of_heap' hrow fun g9 e => ((Keeps.refl (fun r => r = q) W2).set _ (fun _ => rfl)).same g9 (hrow.lt g9 e).2 ?_
    rw [hsv] at e
    injection e with e
    rw [← e]; exact hgq

set_option maxRecDepth 100000 in
set_option maxHeartbeats 2000000 in
/-- The last chunk is full, or there is none. -/
theorem dq_Push_more {w : World} {q : Nat} {d : DQ} (s : ByteArray) (h : DqAt w q d) (t : d.Tight) (hr : dqRefused d.texts s = 0) (hcs : ∀ pre c, d.cs = pre ++ [c] → c.2.length = 32) :
    Calls Tryz.prog 59 #[.pointer (some ⟨q, 0, none⟩), .bool false, .string s] w fun e w' => e = .returned (.int .i64 0) ∧ ∃ sv', DqAt w' q ⟨d.cs ++ [(w.heap.size, [s])], sv'⟩ ∧ Keeps (dfp q d) w w' ∧ (sv'.ownBlock = d.sv.ownBlock ∨ ∃ r, sv'.ownBlock = some r ∧ w.heap.size ≤ r) := by
  have hcall := dq_refused s h
  rw [hr] at hcall
  have hs : s.size ≤ 1048576 ∧ d.texts.length < 1048576 := by
    unfold dqRefused at hr
    split at hr
    · cases hr
    · split at hr
      · cases hr
      · omega
  have hncs := h.n_cs t
  have q0 : w.cell? ⟨q, 0, none⟩ = some d.sv := h.str.cell 0
  have HC := Lib.hid hcall
  have H := Lib.hid h
  have HS := Lib.hid hs
  by_cases h0 : d.cs = []
  · obtain ⟨a, cap, r1⟩ : ∃ a cap, d.sv = .slice a 0 cap := by
      have hrow := h.row
      rw [h0] at hrow
      rcases hrow.2 with ⟨h9, _⟩ | ⟨g, cap, cur, h9, _⟩
      · exact ⟨_, _, h9⟩
      · exact ⟨_, _, h9⟩
    have hlen : d.cs.length = 0 := by rw [h0]; rfl
    obtain ⟨W0, hW0⟩ : ∃ W0, (w.alloc (.cells (ckCells []) 204)).alloc (.cells #[.pointer (some ⟨w.heap.size, 0, none⟩)] 205) = W0 := ⟨_, rfl⟩
    have hW0c : W0.cell? ⟨w.heap.size + 1, 0, none⟩ = some (.pointer (some ⟨w.heap.size, 0, none⟩)) := by
      rw [← hW0]
      simp
    have hrow0 : W0.ownsRow 0 205 1 d.sv d.cs.length (d.cs.map ckPtr) := by rw [← hW0]; exact (H.out.row.alloc _).alloc _
    have hins := dq_Insert_end (w.heap.size + 1) _ hrow0 hW0c rfl (by omega)
    rw [r1, hlen] at hins
    have HLen := Lib.hid hlen
    have HIns := Lib.hid hins
    have HW0 := Lib.hid hW0
    clear hW0c hrow0 hins hcall h hcs hr hs hncs hlen h0
    go_enter Tryz.func59, Tryz.ntmps59
    go_wp2_with (go_at_call 131; refine HC.out.mono ?_; rintro e w' ⟨rfl, rfl⟩)
    go_at_call 132
    change Calls _ _ _ ((w.alloc (.cells (ckCells []) 204)).alloc (.cells #[.pointer (some ⟨w.heap.size, 0, none⟩)] 205)) _
    rw [HW0.out]
    refine HIns.out.mono ?_
    rintro e W2 ⟨sv', rfl, hrow2, hk2, hat2⟩
    rw [← r1] at hk2 hat2
    have hrow2 : W2.ownsRow 0 205 1 sv' (d.cs.length + 1) (d.cs.map ckPtr ++ [.pointer (some ⟨w.heap.size, 0, none⟩)]) := by rw [HLen.out]; exact hrow2
    obtain ⟨hd3, hk3, g3', cap3, hsv, hgq, hcell, q0', f0', p2⟩ := push_mid H.out HW0.out hrow2 hk2
    have hsz0 : W0.heap.size = w.heap.size + 2 := by rw [← HW0.out]; simp
    have hlay := dq_lay (pre := d.cs) (post := []) (c := (w.heap.size, [])) 0 s hd3 rfl (by show 0 < 32; decide) (Nat.le_refl _) (by show (texts (d.cs ++ [(w.heap.size, [])])).length < _; rw [texts_append]; simpa [texts] using HS.out.2) HS.out.1
    rw [HLen.out] at hsv hcell
    rw [HLen.out] at hlay
    subst hsv
    have hgq' : ¬ (q = g3') := fun e => hgq e.symm
    obtain ⟨W3, hW3⟩ : ∃ W3, W2.setCell ⟨q, 0, none⟩ (.slice (some ⟨g3', 0, none⟩) 1 cap3) = W3 := ⟨_, rfl⟩
    rw [hW3] at hd3 hk3 hlay
    have HW3 := Lib.hid hW3
    have HLay := Lib.hid hlay
    have HK3 := Lib.hid hk3
    have HAt := Lib.hid hat2
    have HSz0 := Lib.hid hsz0
    clear hd3 hk3 hlay hrow2 hk2 hat2 hsz0 hW3
    go_wp2_with fail
    rw [HW3.out]
    go_at_call 133
    refine HLay.out.mono ?_
    rintro e W4 ⟨rfl, hd4, hk4⟩
    have HD4 := Lib.hid hd4
    have HK4 := Lib.hid hk4
    clear hd4 hk4 hcell p2 q0' f0'
    go_wp2_with fail
    go_ret
    refine ⟨rfl, _, HD4.out, ?_, ?_⟩
    · refine (HK3.out.mono fun r _ e => ?_).trans' HK4.out fun r hr e => ?_
      · exact e.imp id fun e => .inl e
      · exact e.elim .inl fun e => by omega
    · rcases HAt.out with a | a
      · exact .inl a
      · exact .inr ⟨_, a, by have := HSz0.out; omega⟩
  · obtain ⟨pre, c, hpc⟩ : ∃ pre c, d.cs = pre ++ [c] := ⟨_, _, (List.dropLast_concat_getLast h0).symm⟩
    have hfull := hcs pre c hpc
    obtain ⟨g, cap, r1, r2, r3, r4, r5, r6, r7, r8, r9⟩ := h.chunk hpc
    have hlen : d.cs.length = pre.length + 1 := by rw [hpc]; simp
    rw [hlen] at r1
    have q32 : w.cell? ⟨c.1, 32, none⟩ = some (.int .i64 32) := by have := (r4.cell 32).trans (ckCells_n r5); rw [hfull] at this; exact this
    have g1 : (((pre.length : Int) + 1) == 0) = false := by simp; omega
    have g3 : (pre.length : Int) ≤ 1048576 := by omega
    obtain ⟨W0, hW0⟩ : ∃ W0, (w.alloc (.cells (ckCells []) 204)).alloc (.cells #[.pointer (some ⟨w.heap.size, 0, none⟩)] 205) = W0 := ⟨_, rfl⟩
    have hW0c : W0.cell? ⟨w.heap.size + 1, 0, none⟩ = some (.pointer (some ⟨w.heap.size, 0, none⟩)) := by
      rw [← hW0]
      simp
    have hrow0 : W0.ownsRow 0 205 1 d.sv d.cs.length (d.cs.map ckPtr) := by rw [← hW0]; exact (H.out.row.alloc _).alloc _
    have hins := dq_Insert_end (w.heap.size + 1) _ hrow0 hW0c rfl (by omega)
    rw [r1, hlen, Int.natCast_add] at hins
    have HLen := Lib.hid hlen
    have HIns := Lib.hid hins
    have HW0 := Lib.hid hW0
    clear hW0c hrow0 hins hcall h hcs hr hs hncs hlen r4 r5 r6 hfull h0
    go_enter Tryz.func59, Tryz.ntmps59
    go_wp2_with (go_at_call 131; refine HC.out.mono ?_; rintro e w' ⟨rfl, rfl⟩)
    go_at_call 132
    change Calls _ _ _ ((w.alloc (.cells (ckCells []) 204)).alloc (.cells #[.pointer (some ⟨w.heap.size, 0, none⟩)] 205)) _
    rw [HW0.out]
    refine HIns.out.mono ?_
    rintro e W2 ⟨sv', rfl, hrow2, hk2, hat2⟩
    rw [← r1] at hk2 hat2
    rw [← HLen.out] at hrow2
    obtain ⟨hd3, hk3, g3', cap3, hsv, hgq, hcell, q0', f0', p2⟩ := push_mid H.out HW0.out hrow2 hk2
    have hsz0 : W0.heap.size = w.heap.size + 2 := by rw [← HW0.out]; simp
    have hlay := dq_lay (pre := d.cs) (post := []) (c := (w.heap.size, [])) 0 s hd3 rfl (by show 0 < 32; decide) (Nat.le_refl _) (by show (texts (d.cs ++ [(w.heap.size, [])])).length < _; rw [texts_append]; simpa [texts] using HS.out.2) HS.out.1
    rw [HLen.out] at hsv hcell
    rw [HLen.out, Int.natCast_add] at hlay
    subst hsv
    have hgq' : ¬ (q = g3') := fun e => hgq e.symm
    obtain ⟨W3, hW3⟩ : ∃ W3, W2.setCell ⟨q, 0, none⟩ (.slice (some ⟨g3', 0, none⟩) (pre.length + 1 + 1) cap3) = W3 := ⟨_, rfl⟩
    rw [hW3] at hd3 hk3 hlay
    have HW3 := Lib.hid hW3
    have HLay := Lib.hid hlay
    have HK3 := Lib.hid hk3
    have HAt := Lib.hid hat2
    have HSz0 := Lib.hid hsz0
    clear hd3 hk3 hlay hrow2 hk2 hat2 hsz0 hW3
    go_wp2_with fail
    rw [HW3.out]
    go_at_call 133
    refine HLay.out.mono ?_
    rintro e W4 ⟨rfl, hd4, hk4⟩
    have HD4 := Lib.hid hd4
    have HK4 := Lib.hid hk4
    clear hd4 hk4 hcell p2 q0' f0'
    go_wp2_with fail
    go_ret
    refine ⟨rfl, _, HD4.out, ?_, ?_⟩
    · refine (HK3.out.mono fun r _ e => ?_).trans' HK4.out fun r hr e => ?_
      · exact e.imp id fun e => .inl e
      · exact e.elim .inl fun e => by omega
    · rcases HAt.out with a | a
      · exact .inl a
      · exact .inr ⟨_, a, by have := HSz0.out; omega⟩
end Go.Proofs.YtgjpaecpljifpaaGreat

namespace Go.Proofs.YtgjpaecpljifpaaGreat
open Go Go.RowKit Go.Proofs.YtgjpaecpljifpaaGreat

theorem PushedBack.texts {w : World} {d d' : DQ} {s : ByteArray} (h : PushedBack w d s d') : d'.texts = d.texts ++ [s] := by
  rcases h with ⟨pre, c, h1, _, h3⟩ | ⟨_, b, _, h3⟩
  · rw [DQ.texts, h3, DQ.texts, h1, texts_append, texts_append]; simp [Go.Proofs.YtgjpaecpljifpaaGreat.texts]
  · rw [DQ.texts, h3, texts_append]; simp [Go.Proofs.YtgjpaecpljifpaaGreat.texts]
theorem PushedBack.tight {w : World} {d d' : DQ} {s : ByteArray} (h : PushedBack w d s d') (t : d.Tight) : d'.Tight := by
  intro x hx
  rcases h with ⟨pre, c, h1, _, h3⟩ | ⟨_, b, _, h3⟩
  · rw [h3, List.mem_append, List.mem_singleton] at hx
    rcases hx with hx | rfl
    · exact t x (by rw [h1]; simp [hx])
    · simp
  · rw [h3, List.mem_append, List.mem_singleton] at hx
    rcases hx with hx | rfl
    · exact t x hx
    · simp

/-- What a call does to a deque's blocks. -/
structure DqMoved (w w' : World) (q : Nat) (d d' : DQ) : Prop where
  keeps : Keeps (dfp q d) w w'
  fps : ∀ r, dfp q d' r → dfp q d r ∨ w.heap.size ≤ r

theorem dq_Push_back {w : World} {q : Nat} {d : DQ} (s : ByteArray) (h : DqAt w q d) (t : d.Tight) (hr : dqRefused d.texts s = 0) :
    Calls Tryz.prog 59 #[.pointer (some ⟨q, 0, none⟩), .bool false, .string s] w fun e w' => e = .returned (.int .i64 0) ∧ ∃ d', DqAt w' q d' ∧ PushedBack w d s d' ∧ DqMoved w w' q d d' := by
  by_cases hl : ∃ pre c, d.cs = pre ++ [c] ∧ c.2.length < 32
  · obtain ⟨pre, c, hcs, hl⟩ := hl
    refine (dq_Push_room s h t hr hcs hl).mono ?_
    rintro e w' ⟨rfl, h1, h2⟩
    have hcm : c ∈ d.cs := by rw [hcs]; simp
    refine ⟨rfl, _, h1, .inl ⟨pre, c, hcs, hl, rfl⟩, ⟨h2.mono fun r _ e => ?_, fun r hr => ?_⟩⟩
    · rcases e with e | e
      · exact .inl e
      · exact .inr (.inr ⟨c, hcm, e⟩)
    · rcases hr with hr | hr | ⟨x, hx, hr⟩
      · exact .inl (.inl hr)
      · exact .inl (.inr (.inl hr))
      · dsimp only at hx
        rw [List.mem_append, List.mem_singleton] at hx
        rcases hx with hx | rfl
        · exact .inl (.inr (.inr ⟨x, by rw [hcs]; simp [hx], hr⟩))
        · exact .inl (.inr (.inr ⟨c, hcm, hr⟩))
  · have hfull : ∀ pre c, d.cs = pre ++ [c] → c.2.length = 32 := fun pre c e => by
      have h1 := h.full c (by rw [e]; simp)
      have h2 : ¬ c.2.length < 32 := fun h9 => hl ⟨pre, c, e, h9⟩
      omega
    refine (dq_Push_more s h t hr hfull).mono ?_
    rintro e w' ⟨rfl, sv', h1, h2, h3⟩
    refine ⟨rfl, _, h1, .inr ⟨hfull, _, Nat.le_refl _, rfl⟩, ⟨h2, fun r hr => ?_⟩⟩
    rcases hr with hr | hr | ⟨x, hx, hr⟩
    · exact .inl (.inl hr)
    · rcases h3 with h3 | ⟨r', h3, h4⟩
      · exact .inl (.inr (.inl (h3 ▸ hr)))
      · dsimp only at hr
        rw [h3] at hr
        injection hr with hr
        exact .inr (by omega)
    · dsimp only at hx
      rw [List.mem_append, List.mem_singleton] at hx
      rcases hx with hx | rfl
      · exact .inl (.inr (.inr ⟨x, hx, hr⟩))
      · exact .inr (by dsimp only at hr; omega)
end Go.Proofs.YtgjpaecpljifpaaGreat

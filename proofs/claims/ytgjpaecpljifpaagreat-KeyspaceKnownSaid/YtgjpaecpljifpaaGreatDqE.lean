/- A deque in memory: lay. -/
import Derived.Test.YtgjpaecpljifpaaGreatDqD
import Derived.Test.YtgjpaecpljifpaaGreatSpA
import Derived.Deep.RegionWith
namespace Go.Proofs.YtgjpaecpljifpaaGreat
open Go Go.RowKit Go.Proofs.YtgjpaecpljifpaaGreat

theorem weigh_split (pre post : List Ck) (b : Nat) (l : List ByteArray) : weigh (texts (pre ++ (b, l) :: post)) = weigh (texts pre) + weigh l + weigh (texts post) := by
  rw [texts_split, weigh_append, weigh_append]; omega
theorem weigh_put (l : List ByteArray) (p : Nat) (s : ByteArray) : weigh (l.take p ++ s :: l.drop p) = weigh l + (16 + (s.size : Int)) := by
  have := weigh_append (l.take p) (l.drop p)
  rw [List.take_append_drop] at this
  rw [weigh_append, weigh_cons]
  omega

set_option maxRecDepth 100000 in
set_option maxHeartbeats 1000000 in
theorem dq_lay {w : World} {q : Nat} {d : DQ} (p : Nat) (s : ByteArray) (h : DqAt w q d) {pre post : List Ck} {c : Ck} (hcs : d.cs = pre ++ c :: post) (hl : c.2.length < 32) (hp : p ≤ c.2.length) (hn : d.texts.length < 1048576) (hs : s.size ≤ 1048576) :
    Calls Tryz.prog 133 #[.pointer (some ⟨q, 0, none⟩), .int .i64 pre.length, .int .i64 p, .string s] w fun e w' => e = .returned (.tuple #[]) ∧
      DqAt w' q ⟨pre ++ (c.1, c.2.take p ++ s :: c.2.drop p) :: post, d.sv⟩ ∧ Keeps (fun r => r = q ∨ r = c.1) w w' := by
  obtain ⟨g, cap, r1, r2, r3, r4, r5, r6, r7, r8, r9⟩ := h.chunk hcs
  have c0 : w.cell? ⟨q, 0, none⟩ = some d.sv := h.str.cell 0
  have hwb := h.weight_bd
  have hqb := h.str
  have he : d.texts = texts pre ++ (c.2 ++ texts post) := by rw [DQ.texts, hcs]; exact texts_split pre post c.1 c.2
  have hnew : texts (pre ++ (c.1, c.2.take p ++ s :: c.2.drop p) :: post) = texts pre ++ ((c.2.take p ++ s :: c.2.drop p) ++ texts post) := texts_split _ _ _ _
  have hnl : (texts (pre ++ (c.1, c.2.take p ++ s :: c.2.drop p) :: post)).length = d.texts.length + 1 := by rw [hnew, he]; simp; omega
  have hnw : weigh (texts (pre ++ (c.1, c.2.take p ++ s :: c.2.drop p) :: post)) = weigh d.texts + (16 + (s.size : Int)) := by
    rw [weigh_split, weigh_put, he, weigh_append, weigh_append]; omega
  have hfin : ∀ w', Blk w' q ((dqCells d).setIfInBounds 1 (.int .i64 ((d.texts.length : Int) + 1)) |>.setIfInBounds 2 (.int .i64 (weigh d.texts + (16 + (s.size : Int))))) 200 → Blk w' c.1 (ckCells (c.2.take p ++ s :: c.2.drop p)) 204 → Keeps (fun r => r = q ∨ r = c.1) w w' →
      DqAt w' q ⟨pre ++ (c.1, c.2.take p ++ s :: c.2.drop p) :: post, d.sv⟩ := by
    intro w' h1 h2 h3
    refine h.relaid hcs _ ?_ h2 h3 (by simp; omega) (by rw [hnl]; omega) ?_
    · have : ((dqCells d).setIfInBounds 1 (.int .i64 ((d.texts.length : Int) + 1))).setIfInBounds 2 (.int .i64 (weigh d.texts + (16 + (s.size : Int)))) = dqCells ⟨pre ++ (c.1, c.2.take p ++ s :: c.2.drop p) :: post, d.sv⟩ := by
        show _ = #[_, Value.int .i64 ((texts (pre ++ (c.1, c.2.take p ++ s :: c.2.drop p) :: post)).length : Int), Value.int .i64 (weigh (texts (pre ++ (c.1, c.2.take p ++ s :: c.2.drop p) :: post)))]
        rw [hnl, hnw]; rfl
      rw [← this]; exact h1
    · intro x hx
      rw [hnew] at hx
      have hsh := h.short
      rw [he] at hsh
      simp only [List.mem_append, List.mem_cons] at hx hsh
      rcases hx with hx | (hx | rfl | hx) | hx
      · exact hsh x (.inl hx)
      · exact hsh x (.inr (.inl (List.mem_of_mem_take hx)))
      · exact hs
      · exact hsh x (.inr (.inl (List.mem_of_mem_drop hx)))
      · exact hsh x (.inr (.inr hx))
  have hput := ck_put s p r4 hl hp
  have hwrap : IntKind.i64.wrap (weigh d.texts + (16 + (s.size : Int))) = weigh d.texts + (16 + (s.size : Int)) := by rw [IntKind.wrap_i64]; omega
  have hn' : (d.texts.length : Int) ≤ 1048576 := by omega
  have HFin := Lib.hid hfin
  have HPut := Lib.hid hput
  have HW := Lib.hid hwrap
  have HQ := Lib.hid hqb
  clear hfin hput hwrap hqb he hnew hnl hnw h r4 r5 r6 hl hp hn hcs hwb
  go_enter Tryz.func133, Tryz.ntmps133
  go_wp2_with fail
  go_at_call 232
  refine HPut.out.mono ?_
  rintro e w1 ⟨rfl, hb1, hk1⟩
  have hq1 : Blk w1 q (dqCells d) 200 := hk1.blk HQ.out (fun e => r9 e.symm)
  have d1 : w1.cell? ⟨q, 1, none⟩ = some (.int .i64 d.texts.length) := hq1.cell 1
  have f1 : w1.frozen? ⟨q, 1, none⟩ = false := hq1.frozen 1
  have HB1 := Lib.hid hb1
  have HK1 := Lib.hid hk1
  have HQ1 := Lib.hid hq1
  clear hb1 hk1 hq1
  go_wp2_with fail
  obtain ⟨w2, hw2⟩ : ∃ w2, w1.setCell ⟨q, 1, none⟩ (.int .i64 ((d.texts.length : Int) + 1)) = w2 := ⟨_, rfl⟩
  rw [hw2]
  have hq2 : Blk w2 q ((dqCells d).setIfInBounds 1 (.int .i64 ((d.texts.length : Int) + 1))) 200 := by rw [← hw2]; exact HQ1.out.set 1 _
  have hb2 : Blk w2 c.1 (ckCells (c.2.take p ++ s :: c.2.drop p)) 204 := by rw [← hw2]; exact HB1.out.set_ne _ r9
  have hk2 : Keeps (fun r => r = q ∨ r = c.1) w w2 := by rw [← hw2]; exact (HK1.out.mono fun _ _ e => .inr e).set _ fun _ => .inl rfl
  have d2 : w2.drew.cell? ⟨q, 2, none⟩ = some (.int .i64 (weigh d.texts)) := hq2.drew.cell 2
  have f2 : w2.drew.frozen? ⟨q, 2, none⟩ = false := hq2.drew.frozen 2
  have HQ2 := Lib.hid hq2
  have HB2 := Lib.hid hb2
  have HK2 := Lib.hid hk2
  have hwr := HW.out
  clear hq2 hb2 hk2 hw2 d1 f1
  apply wp_cut (w2.drew.setCell ⟨q, 2, none⟩ (.int .i64 (weigh d.texts + (16 + (s.size : Int)))))
  case h =>
    go_region_with (go_at_call 233; refine (dq_weight _ _ hs).mono ?_; rintro en w' ⟨rfl, rfl⟩)
    all_goals exact ⟨rfl, rfl⟩
  case hk =>
    go_wp2_with fail
    go_end0
    refine ⟨rfl, HFin.out _ ?_ ?_ ?_, ?_⟩
    · exact HQ2.out.drew.set 2 _
    · exact HB2.out.drew.set_ne _ r9
    · exact HK2.out.drew.set _ fun _ => .inl rfl
    · exact HK2.out.drew.set _ fun _ => .inl rfl
end Go.Proofs.YtgjpaecpljifpaaGreat

/- A deque in memory: take. -/
import Derived.Test.YtgjpaecpljifpaaGreatDqE
namespace Go.Proofs.YtgjpaecpljifpaaGreat
open Go Go.RowKit Go.Proofs.YtgjpaecpljifpaaGreat

theorem weigh_cutout {l : List ByteArray} {a b : Nat} (hab : a ≤ b) : weigh l = weigh (l.take a ++ l.drop b) + weigh ((l.drop a).take (b - a)) := by
  have h1 := weigh_append (l.take a) (l.drop a)
  have h2 := weigh_append ((l.drop a).take (b - a)) ((l.drop a).drop (b - a))
  rw [List.take_append_drop] at h1 h2
  rw [List.drop_drop, show a + (b - a) = b by omega] at h2
  rw [weigh_append]
  omega

/-- The end of take, in plain words. -/
theorem take_end {w : World} {q : Nat} {d : DQ} (h : DqAt w q d) {pre post : List Ck} {c : Ck} (hcs : d.cs = pre ++ c :: post) {a b : Nat} (hab : a ≤ b) (hb : b ≤ c.2.length) {w' : World}
    (h1 : Blk w' q #[d.sv, .int .i64 ((d.texts.length : Int) - ((b - a : Nat) : Int)), .int .i64 (weigh d.texts - weigh ((c.2.drop a).take (b - a)))] 200) (h2 : Blk w' c.1 (ckCells (c.2.take a ++ c.2.drop b)) 204) (h3 : Keeps (fun r => r = q ∨ r = c.1) w w') :
    DqAt w' q ⟨pre ++ (c.1, c.2.take a ++ c.2.drop b) :: post, d.sv⟩ := by
  have he : d.texts = texts pre ++ (c.2 ++ texts post) := by rw [DQ.texts, hcs]; exact texts_split pre post c.1 c.2
  have hnew : texts (pre ++ (c.1, c.2.take a ++ c.2.drop b) :: post) = texts pre ++ ((c.2.take a ++ c.2.drop b) ++ texts post) := texts_split _ _ _ _
  have hcm : c ∈ d.cs := by rw [hcs]; simp
  have hfull := h.full c hcm
  have hnl : (texts (pre ++ (c.1, c.2.take a ++ c.2.drop b) :: post)).length + (b - a) = d.texts.length := by rw [hnew, he]; simp; omega
  have hnw : weigh (texts (pre ++ (c.1, c.2.take a ++ c.2.drop b) :: post)) = weigh d.texts - weigh ((c.2.drop a).take (b - a)) := by
    have := weigh_cutout (l := c.2) hab
    have e2 := weigh_append (texts pre) (c.2 ++ texts post)
    have e3 := weigh_append c.2 (texts post)
    rw [weigh_split, he, e2, e3]; omega
  have hfew := h.few
  refine h.relaid hcs _ ?_ h2 h3 (by simp; omega) (by omega) ?_
  · have : #[d.sv, .int .i64 ((d.texts.length : Int) - ((b - a : Nat) : Int)), .int .i64 (weigh d.texts - weigh ((c.2.drop a).take (b - a)))] = dqCells ⟨pre ++ (c.1, c.2.take a ++ c.2.drop b) :: post, d.sv⟩ := by
      show _ = #[_, Value.int .i64 ((texts (pre ++ (c.1, c.2.take a ++ c.2.drop b) :: post)).length : Int), Value.int .i64 (weigh (texts (pre ++ (c.1, c.2.take a ++ c.2.drop b) :: post)))]
      rw [hnw, show ((d.texts.length : Int) - ((b - a : Nat) : Int)) = ((texts (pre ++ (c.1, c.2.take a ++ c.2.drop b) :: post)).length : Int) by omega]
    rw [← this]; exact h1
  · intro x hx
    rw [hnew] at hx
    have hsh := h.short
    rw [he] at hsh
    simp only [List.mem_append] at hx hsh
    rcases hx with hx | (hx | hx) | hx
    · exact hsh x (.inl hx)
    · exact hsh x (.inr (.inl (List.mem_of_mem_take hx)))
    · exact hsh x (.inr (.inl (List.mem_of_mem_drop hx)))
    · exact hsh x (.inr (.inr hx))

theorem take_weigh {l : List ByteArray} {a j : Nat} {s : ByteArray} (hs : l[a + j]? = some s) : weigh ((l.drop a).take (j + 1)) = weigh ((l.drop a).take j) + (16 + (s.size : Int)) := by
  rw [List.take_add_one, List.getElem?_drop, hs, weigh_append]
  simp [weigh]

set_option maxRecDepth 100000 in
set_option maxHeartbeats 2000000 in
theorem dq_take {w : World} {q : Nat} {d : DQ} (a b : Nat) (h : DqAt w q d) {pre post : List Ck} {c : Ck} (hcs : d.cs = pre ++ c :: post) (hab : a < b) (hb : b ≤ c.2.length) :
    Calls Tryz.prog 150 #[.pointer (some ⟨q, 0, none⟩), .int .i64 pre.length, .int .i64 a, .int .i64 b] w fun e w' => e = .returned (.tuple #[]) ∧
      DqAt w' q ⟨pre ++ (c.1, c.2.take a ++ c.2.drop b) :: post, d.sv⟩ ∧ Keeps (fun r => r = q ∨ r = c.1) w w' := by
  obtain ⟨g, cap, r1, r2, r3, r4, r5, r6, r7, r8, r9⟩ := h.chunk hcs
  have c0 : w.cell? ⟨q, 0, none⟩ = some d.sv := h.str.cell 0
  have hwb := h.weight_bd
  have hqb := h.str
  have hfew := h.few
  have he : d.texts = texts pre ++ (c.2 ++ texts post) := by rw [DQ.texts, hcs]; exact texts_split pre post c.1 c.2
  have hcl : c.2.length ≤ d.texts.length := by rw [he]; simp; omega
  have hshc : ∀ s ∈ c.2, s.size ≤ 1048576 := fun s hs => h.short s (by rw [he]; simp [hs])
  have hwt : ∀ j, 0 ≤ weigh ((c.2.drop a).take j) ∧ weigh ((c.2.drop a).take j) ≤ weigh d.texts := by
    intro j
    have g1 : weigh d.texts = weigh (texts pre) + (weigh (c.2.take a) + (weigh ((c.2.drop a).take j) + weigh ((c.2.drop a).drop j)) + weigh (texts post)) := by
      rw [← weigh_append ((c.2.drop a).take j), List.take_append_drop, ← weigh_append (c.2.take a), List.take_append_drop, ← weigh_append c.2, ← weigh_append, ← he]
    have hb : ∀ l : List ByteArray, (∀ s ∈ l, s ∈ d.texts) → 0 ≤ weigh l := fun l hl => (weigh_bd fun s hs => h.short s (hl s hs)).1
    have b1 := hb (texts pre) fun s hs => by rw [he]; simp [hs]
    have b2 := hb (c.2.take a) fun s hs => by rw [he]; simp [List.mem_of_mem_take hs]
    have b3 := hb ((c.2.drop a).take j) fun s hs => by rw [he]; simp [List.mem_of_mem_drop (List.mem_of_mem_take hs)]
    have b4 := hb ((c.2.drop a).drop j) fun s hs => by rw [he]; simp [List.mem_of_mem_drop (List.mem_of_mem_drop hs)]
    have b5 := hb (texts post) fun s hs => by rw [he]; simp [hs]
    omega
  have hfin := fun w' h1 h2 h3 => take_end h hcs (Nat.le_of_lt hab) hb (w' := w') h1 h2 h3
  have ha' : (a : Int) ≤ (b : Int) := by omega
  have hb' : (b : Int) ≤ 32 := by omega
  have ha32 : ¬ (32 = a) := by omega
  have hn' : (d.texts.length : Int) ≤ 1048576 := by omega
  have HFin := Lib.hid hfin
  have HQ := Lib.hid hqb
  have HR4 := Lib.hid r4
  have HWT := Lib.hid hwt
  have HSh := Lib.hid hshc
  have HBl := Lib.hid hb
  have HWB := Lib.hid hwb
  have HAB := Lib.hid hab
  have HCl := Lib.hid hcl
  clear hfin hqb he hwt hshc h r4 r6 hcs hfew hwb hcl hb hab
  go_enter Tryz.func150, Tryz.ntmps150
  go_wp2_with fail
  go_loopw [10, 25] (fun _ i wr => ∃ j : Nat, j ≤ b - a ∧ i = .int .i64 j ∧ Hid (Blk wr q #[d.sv, .int .i64 d.texts.length, .int .i64 (weigh d.texts - weigh ((c.2.drop a).take j))] 200 ∧ Keeps (fun r => r = q) w wr)) (fun _ i _ => b - a - (intOf i).toNat)
  case atStart => exact ⟨0, Nat.zero_le _, rfl, Lib.hid ⟨by rw [List.take_zero, weigh_nil, Int.sub_zero]; exact HQ.out, Keeps.refl _ _⟩⟩
  case round =>
    obtain ⟨j, hj, rfl, hI⟩ := hrel
    by_cases hlt : j < b - a
    · obtain ⟨s, hs⟩ : ∃ s, c.2[a + j]? = some s := ⟨_, List.getElem?_eq_getElem (by have := HBl.out; omega)⟩
      have cs : wr.cell? ⟨c.1, a + j, none⟩ = some (.string s) := ((hI.out.2.blk HR4.out (fun e => r9 e)).cell _).trans (ckCells_text hs)
      have hss := HSh.out s (List.mem_of_getElem? hs)
      have d2 : wr.drew.cell? ⟨q, 2, none⟩ = some (.int .i64 (weigh d.texts - weigh ((c.2.drop a).take j))) := hI.out.1.drew.cell 2
      have f2 : wr.drew.frozen? ⟨q, 2, none⟩ = false := hI.out.1.drew.frozen 2
      have hstep := take_weigh hs
      have h1 := HWT.out j
      have h2 := HWT.out (j + 1)
      have h3 := HWB.out
      have hwr : IntKind.i64.wrap (weigh d.texts - weigh ((c.2.drop a).take j) - (16 + (s.size : Int))) = weigh d.texts - weigh ((c.2.drop a).take (j + 1)) := by rw [IntKind.wrap_i64]; omega
      have HI := Lib.hid hI
      clear hs hI hstep h1 h2 h3
      go_wp2_with fail
      apply wp_cut (wr.drew.setCell ⟨q, 2, none⟩ (.int .i64 (weigh d.texts - weigh ((c.2.drop a).take (j + 1)))))
      case h =>
        go_region_with (go_at_call 233; refine (dq_weight _ _ hss).mono ?_; rintro en w' ⟨rfl, rfl⟩)
        all_goals exact ⟨rfl, rfl⟩
      case hk =>
        clear hwr d2 f2 cs
        go_wp2_with fail
        go_roundw
        case rel => exact ⟨j + 1, hlt, by go_num, Lib.hid ⟨HI.out.out.1.drew.set 2 _, HI.out.out.2.drew.set _ fun _ => rfl⟩⟩
        case measure => simp [intOf]; omega
    · obtain rfl : j = b - a := by omega
      have d1 : wr.cell? ⟨q, 1, none⟩ = some (.int .i64 d.texts.length) := hI.out.1.cell 1
      have f1 : wr.frozen? ⟨q, 1, none⟩ = false := hI.out.1.frozen 1
      have hw1 : IntKind.i64.wrap ((b : Int) - (a : Int)) = ((b - a : Nat) : Int) := by rw [IntKind.wrap_i64]; omega
      have hbd : (((b - a : Nat) : Int)) ≤ 32 := by omega
      clear hj hlt
      go_wp2_with fail
      go_at_call 255
      refine (ck_cut (l := c.2) a b ?_ r5 HAB.out HBl.out).mono ?_
      · exact (hI.out.2.blk HR4.out (fun e => r9 e)).set_ne _ (fun e => r9 e)
      rintro e w2 ⟨rfl, hb2, hk2⟩
      have hq2 := hk2.blk (hI.out.1.set 1 (.int .i64 ((d.texts.length : Int) - ((b - a : Nat) : Int)))) (fun e => r9 e.symm)
      have hkk : Keeps (fun r => r = q ∨ r = c.1) w w2 := ((hI.out.2.mono fun _ _ e => .inl e).set _ fun _ => .inl rfl).trans (hk2.mono fun _ _ e => .inr e)
      have HE := Lib.hid (HFin.out w2 hq2 hb2 hkk)
      have HK := Lib.hid hkk
      clear hI hb2 hk2 hq2 hkk d1 f1
      go_wp2_with fail
      go_end0
      exact ⟨rfl, HE.out, HK.out⟩
end Go.Proofs.YtgjpaecpljifpaaGreat

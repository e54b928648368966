/- A deque in memory: Remove, Pop. -/
import Derived.Test.YtgjpaecpljifpaaGreatDqG
namespace Go.Proofs.YtgjpaecpljifpaaGreat
open Go Go.RowKit Go.Proofs.YtgjpaecpljifpaaGreat

/-- The chunks without the text at place p of one. -/
def restCs (pre : List Ck) (c : Ck) (post : List Ck) (p : Nat) : List Ck := if c.2.length = 1 then pre ++ post else pre ++ (c.1, c.2.take p ++ c.2.drop (p + 1)) :: post

theorem Found.at_ {d : DQ} {i : Nat} {pre post : List Ck} {c : Ck} (hf : Found d.cs i pre c post) (hi : i < d.texts.length) : i - (texts pre).length < c.2.length ∧ d.texts = texts pre ++ (c.2 ++ texts post) := by
  have he : d.texts = texts pre ++ (c.2 ++ texts post) := by rw [DQ.texts, hf.eq]; exact texts_split pre post c.1 c.2
  refine ⟨?_, he⟩
  have := hf.le
  rcases hf.lt with h9 | h9
  · omega
  · have h8 : d.texts.length = (texts pre).length + c.2.length := by rw [he, h9]; simp [texts]
    omega

theorem rest_texts {d : DQ} {i : Nat} {pre post : List Ck} {c : Ck} (hf : Found d.cs i pre c post) (hi : i < d.texts.length) : texts (restCs pre c post (i - (texts pre).length)) = d.texts.eraseIdx i := by
  obtain ⟨h1, h2⟩ := hf.at_ hi
  have hle := hf.le
  have h3 : d.texts.eraseIdx i = texts pre ++ ((c.2.take (i - (texts pre).length) ++ c.2.drop (i - (texts pre).length + 1)) ++ texts post) := by
    rw [h2, List.eraseIdx_append_of_length_le hle, List.eraseIdx_append_of_lt_length h1, List.eraseIdx_eq_take_drop_succ]
  rw [h3]
  unfold restCs
  split
  · rename_i h4
    rw [texts_append, show i - (texts pre).length = 0 by omega, List.take_zero, List.drop_eq_nil_of_le (by omega)]
    simp
  · rw [texts_split]
theorem rest_tight {d : DQ} (t : d.Tight) {i : Nat} {pre post : List Ck} {c : Ck} (hf : Found d.cs i pre c post) {p : Nat} (hp : p < c.2.length) {sv : Value} : DQ.Tight ⟨restCs pre c post p, sv⟩ := by
  intro x hx
  have ht : ∀ x, x ∈ pre ∨ x ∈ post → x.2 ≠ [] := fun x hx => t x (by rw [hf.eq]; simp; rcases hx with hx | hx <;> simp [hx])
  unfold restCs at hx
  dsimp only at hx
  split at hx
  · exact ht x (List.mem_append.1 hx)
  · rename_i h1
    rw [List.mem_append, List.mem_cons] at hx
    rcases hx with hx | rfl | hx
    · exact ht x (.inl hx)
    · intro e
      have := congrArg List.length e
      simp only [List.length_append, List.length_take, List.length_drop, List.length_nil] at this
      omega
    · exact ht x (.inr hx)

theorem dq_take1 {w : World} {q : Nat} {d : DQ} (p : Nat) (h : DqAt w q d) {pre post : List Ck} {c : Ck} (hcs : d.cs = pre ++ c :: post) (hp : p < c.2.length) :
    Calls Tryz.prog 150 #[.pointer (some ⟨q, 0, none⟩), .int .i64 pre.length, .int .i64 p, .int .i64 ((p : Int) + 1)] w fun e w' => e = .returned (.tuple #[]) ∧
      DqAt w' q ⟨pre ++ (c.1, c.2.take p ++ c.2.drop (p + 1)) :: post, d.sv⟩ ∧ Keeps (fun r => r = q ∨ r = c.1) w w' := by
  have := dq_take p (p + 1) h hcs (by omega) hp
  rwa [Int.natCast_add] at this

/-- A chunk without texts, taken out of the row. -/
theorem DqAt.dropped {w w' : World} {q b : Nat} {pre post : List Ck} {sv sv' : Value} (h : DqAt w q ⟨pre ++ (b, []) :: post, sv⟩) (hq : Blk w' q (dqCells ⟨pre ++ post, sv'⟩) 200) (hrow : w'.ownsRow 0 205 1 sv' (pre ++ post).length ((pre ++ post).map ckPtr))
    (hk : Keeps (fun r => r = q ∨ sv.ownBlock = some r) w w') : DqAt w' q ⟨pre ++ post, sv'⟩ := by
  have hsub : (pre ++ post).Sublist (pre ++ (b, []) :: post) := (List.Sublist.refl pre).append (List.sublist_cons_self _ _)
  have ht : texts (pre ++ post) = texts (pre ++ (b, []) :: post) := by rw [texts_append, texts_split]; rfl
  refine ⟨hq, hrow, fun c hc => hk.blk (h.ck c (hsub.subset hc)) ?_, h.once.sublist (hsub.map _), fun c hc => h.full c (hsub.subset hc), ?_, ?_⟩
  · rintro (e | e)
    · exact h.ne.2 c (hsub.subset hc) e
    · exact (h.ne.1 _ e).2 c (hsub.subset hc) rfl
  · show (texts (pre ++ post)).length ≤ _
    rw [ht]; exact h.few
  · show ∀ s ∈ texts (pre ++ post), _
    rw [ht]; exact h.short

theorem dq_Remove_out {w : World} {q : Nat} {d : DQ} (i : Int) (h : DqAt w q d) (hi : i < 0 ∨ d.texts.length ≤ i) :
    Calls Tryz.prog 73 #[.pointer (some ⟨q, 0, none⟩), .int .i64 i] w fun e w' => e = .returned (.bool false) ∧ w = w' := by
  by_cases h0 : i < 0
  · clear hi
    go_enter Tryz.func73, Tryz.ntmps73
    go_wp2_with fail
    go_ret
    exact ⟨rfl, rfl⟩
  · obtain ⟨n, rfl⟩ := Int.eq_ofNat_of_zero_le (Int.not_lt.1 h0)
    have g1 : decide (d.texts.length ≤ n) = true := by simp; omega
    have g0 : decide ((n : Int) < 0) = false := by simp
    have H := Lib.hid h
    have hfew := h.few
    clear h h0 hi hfew
    go_enter Tryz.func73, Tryz.ntmps73
    go_wp2_with (go_at_call 71; refine (dq_Len H.out).mono ?_; rintro e w' ⟨rfl, rfl⟩)
    go_ret
    exact ⟨rfl, rfl⟩

set_option maxRecDepth 100000 in
set_option maxHeartbeats 2000000 in
theorem dq_Remove {w : World} {q : Nat} {d : DQ} (i : Nat) (h : DqAt w q d) (t : d.Tight) (hi : i < d.texts.length) :
    Calls Tryz.prog 73 #[.pointer (some ⟨q, 0, none⟩), .int .i64 i] w fun e w' => e = .returned (.bool true) ∧
      ∃ pre c post sv', Found d.cs i pre c post ∧ DqAt w' q ⟨restCs pre c post (i - (texts pre).length), sv'⟩ ∧ sv'.ownBlock = d.sv.ownBlock ∧ Keeps (dfp q d) w w' := by
  have g1 : decide (d.texts.length ≤ i) = false := by simp; omega
  have g0 : decide ((i : Int) < 0) = false := by simp
  have hne : d.cs ≠ [] := by
    intro e
    have : d.texts.length = 0 := by simp [DQ.texts, e, texts]
    omega
  have hfew := h.few
  have hii : (i : Int) ≤ 1048576 := by omega
  have hncs := h.n_cs t
  have hfind := dq_find i h t hne (by omega)
  have H := Lib.hid h
  have HF := Lib.hid hfind
  have HI := Lib.hid hi
  clear h hfind hi hfew hne
  go_enter Tryz.func73, Tryz.ntmps73
  go_wp2_with (go_at_call 71; refine (dq_Len H.out).mono ?_; rintro e w' ⟨rfl, rfl⟩)
  go_at_call 149
  refine HF.out.mono ?_
  rintro e w' ⟨⟨pre, c, post, hfo, rfl⟩, rfl⟩
  have hy := (hfo.at_ HI.out).1
  obtain ⟨g, cap, r1, r2, r3, r4, r5, r6, r7, r8, r9⟩ := H.out.chunk hfo.eq
  have HFo := Lib.hid hfo
  obtain ⟨y, hyy⟩ : ∃ y, i - (texts pre).length = y := ⟨_, rfl⟩
  rw [hyy] at hy ⊢
  have hy3 : (y : Int) ≤ 32 := by omega
  have HY := Lib.hid hy
  have HYY := Lib.hid hyy
  have HR1 := Lib.hid r1
  clear hfo hy hyy r4 r6 r1 r3
  go_wp2_with fail
  go_at_call 150
  refine (dq_take1 y H.out HFo.out.eq HY.out).mono ?_
  rintro e w1 ⟨rfl, hd1, hk1⟩
  obtain ⟨g', cap', s1, s2, s3, s4, s5, s6, s7, s8, s9⟩ := hd1.chunk rfl
  obtain ⟨rfl, rfl⟩ : g' = g ∧ cap' = cap := by
    have := s1
    dsimp only at this
    rw [HR1.out] at this
    injection this with a b c
    injection a with a
    injection a with a
    exact ⟨a.symm, c.symm⟩
  have hlen : (c.2.take y ++ c.2.drop (y + 1)).length = c.2.length - 1 := by have := HY.out; simp; omega
  dsimp only at s1 s2 s3 s4 s5
  have q0 : w1.cell? ⟨q, 0, none⟩ = some d.sv := hd1.str.cell 0
  have q32 : w1.cell? ⟨c.1, 32, none⟩ = some (.int .i64 (c.2.length - 1 : Nat)) := by rw [← hlen]; exact (s4.cell 32).trans (ckCells_n s5)
  have HD1 := Lib.hid hd1
  have HK1 := Lib.hid hk1
  have HS4 := Lib.hid s4
  have HS1 := Lib.hid s1
  clear hd1 hk1 s4 s5 s6 hlen
  have r1 := HR1.out
  by_cases hone : c.2.length = 1
  · have hnil : c.2.take y ++ c.2.drop (y + 1) = [] := by
      have := HY.out
      obtain rfl : y = 0 := by omega
      rw [List.take_zero, List.drop_eq_nil_of_le (by omega)]; rfl
    have hd2 := HD1.out
    rw [hnil] at hd2
    have q32' : w1.cell? ⟨c.1, 32, none⟩ = some (.int .i64 0) := by rw [q32, hone]; rfl
    have hlen2 : d.cs.length = (pre ++ (c.1, []) :: post).length := by rw [HFo.out.eq]; simp
    have hrow := hd2.row
    dsimp only at hrow
    rw [r1, hlen2] at hrow
    have hcapm : cap' ≤ 9223372036854775807 := by
      rcases hrow.2 with ⟨h0, _⟩ | ⟨g9, cap9, cur, hv, _, _, _, hm, _⟩
      · cases h0
      · cases hv; unfold maxLen at hm; exact hm
    have hdel := dq_Delete1 hrow hcapm
    rw [← hlen2, Int.natCast_add] at hdel
    obtain ⟨m, hm⟩ : ∃ m, (pre ++ post).length = m := ⟨_, rfl⟩
    rw [hm] at hdel
    have HM := Lib.hid hm
    clear hm
    have HDel := Lib.hid hdel
    have HD2 := Lib.hid hd2
    have HOne := Lib.hid hone
    have HNil := Lib.hid hnil
    clear hd2 hrow hcapm hdel hlen2 hnil q32 hone s1 s2
    go_wp2_with fail
    go_at_call 151
    refine HDel.out.mono ?_
    rintro e w2 ⟨rfl, hrow2, hk2⟩
    have hq2 := hk2.blk HD2.out.str (fun e => r7 e.symm)
    have d0 : w2.cell? ⟨q, 0, none⟩ = some d.sv := hq2.cell 0
    have f0 : w2.frozen? ⟨q, 0, none⟩ = false := hq2.frozen 0
    have HRow2 := Lib.hid hrow2
    have HK2 := Lib.hid hk2
    have HQ2 := Lib.hid hq2
    clear hrow2 hk2 hq2
    go_wp2_with fail
    go_ret
    refine ⟨rfl, pre, c, post, .slice (some ⟨g', 0, none⟩) m cap', HFo.out, ?_, by rw [HR1.out]; rfl, ?_⟩
    · have hrest : restCs pre c post (i - (texts pre).length) = pre ++ post := if_pos HOne.out
      rw [hrest]
      have hkq : Keeps (fun r => r = q ∨ d.sv.ownBlock = some r) w1 (w2.setCell ⟨q, 0, none⟩ (.slice (some ⟨g', 0, none⟩) m cap')) := by
        refine (HK2.out.mono fun r _ e => .inr ?_).set _ fun _ => .inl rfl
        rw [HR1.out, e]; rfl
      refine HD2.out.dropped ?_ ?_ hkq
      · have h9 := HQ2.out.set 0 (.slice (some ⟨g', 0, none⟩) m cap')
        have h8 : (dqCells ⟨pre ++ (c.1, []) :: post, d.sv⟩).setIfInBounds 0 (.slice (some ⟨g', 0, none⟩) m cap') = dqCells ⟨pre ++ post, .slice (some ⟨g', 0, none⟩) m cap'⟩ := by
          have ht : texts (pre ++ post) = texts (pre ++ (c.1, []) :: post) := by rw [texts_append, texts_split]; rfl
          unfold dqCells DQ.texts
          dsimp only
          rw [ht]; rfl
        rw [← h8]; exact h9
      · rw [HM.out]
        exact ownsRow_of_heap' HRow2.out fun g9 e => ((Keeps.refl (fun r => r = q) w2).set _ (fun _ => rfl)).same g9 (HRow2.out.lt g9 e).2 (by injection e with e; rw [← e]; exact r7)
    · refine (HK1.out.mono fun r _ e => ?_).trans ((HK2.out.mono fun r _ e => ?_).set _ fun _ => .inl rfl)
      · rcases e with e | e
        · exact .inl e
        · exact .inr (.inr ⟨c, by rw [HFo.out.eq]; simp, e⟩)
      · exact .inr (.inl (by rw [HR1.out, e]; rfl))
  · have g2 : (((c.2.length - 1 : Nat) : Int) == 0) = false := by have := HY.out; simp; omega
    have HOne := Lib.hid hone
    clear hone s1 s2
    go_wp2_with fail
    go_ret
    refine ⟨rfl, pre, c, post, d.sv, HFo.out, ?_, rfl, HK1.out.mono fun r _ e => ?_⟩
    · have hrest : restCs pre c post (i - (texts pre).length) = pre ++ (c.1, c.2.take y ++ c.2.drop (y + 1)) :: post := by rw [HYY.out]; exact if_neg HOne.out
      rw [hrest]; exact HD1.out
    · rcases e with e | e
      · exact .inl e
      · exact .inr (.inr ⟨c, by rw [HFo.out.eq]; simp, e⟩)
end Go.Proofs.YtgjpaecpljifpaaGreat

namespace Go.Proofs.YtgjpaecpljifpaaGreat
open Go Go.RowKit Go.Proofs.YtgjpaecpljifpaaGreat

set_option maxRecDepth 100000 in
set_option maxHeartbeats 1000000 in
theorem dq_Pop_none {w : World} {q : Nat} {d : DQ} (first : Bool) (h : DqAt w q d) (t : d.Tight) (h0 : d.texts = []) :
    Calls Tryz.prog 23 #[.pointer (some ⟨q, 0, none⟩), .bool first] w fun e w' => e = .returned (.tuple #[.string ByteArray.empty, .bool false]) ∧ w = w' := by
  have hl := dq_Len h
  have hat0 := dq_At 0 h t
  have hat1 := dq_At (-1) h t
  have hr0 := dq_Remove_out 0 h (.inr (by rw [h0]; decide))
  have hr1 := dq_Remove_out (-1) h (.inl (by decide))
  rw [h0] at hl hat0 hat1
  have e0 : (([] : List ByteArray).getD (0 : Int).toNat ByteArray.empty) = ByteArray.empty := rfl
  rw [if_pos (by decide), e0] at hat0
  rw [if_neg (by decide)] at hat1
  have HL := Lib.hid hl
  have H0 := Lib.hid hat0
  have H1 := Lib.hid hat1
  have R0 := Lib.hid hr0
  have R1 := Lib.hid hr1
  clear hl hat0 hat1 hr0 hr1 h h0 e0
  cases first
  · go_enter Tryz.func23, Tryz.ntmps23
    go_wp2_with (first | (go_at_call 71; refine HL.out.mono ?_; rintro e w' ⟨rfl, rfl⟩) | (go_at_call 72; refine H1.out.mono ?_; rintro e w' ⟨rfl, rfl⟩) | (go_at_call 73; refine R1.out.mono ?_; rintro e w' ⟨rfl, rfl⟩))
    go_ret2
    exact ⟨rfl, rfl⟩
  · go_enter Tryz.func23, Tryz.ntmps23
    go_wp2_with (first | (go_at_call 71; refine HL.out.mono ?_; rintro e w' ⟨rfl, rfl⟩) | (go_at_call 72; refine H0.out.mono ?_; rintro e w' ⟨rfl, rfl⟩) | (go_at_call 73; refine R0.out.mono ?_; rintro e w' ⟨rfl, rfl⟩))
    go_ret2
    exact ⟨rfl, rfl⟩

/-- A text has gone from a deque. -/
def Gone (w : World) (q : Nat) (d : DQ) (i : Nat) (w' : World) : Prop :=
  ∃ pre c post sv', Found d.cs i pre c post ∧ DqAt w' q ⟨restCs pre c post (i - (texts pre).length), sv'⟩ ∧ sv'.ownBlock = d.sv.ownBlock ∧ Keeps (dfp q d) w w'

def popAt (first : Bool) (n : Nat) : Nat := if first = true then 0 else n - 1

set_option maxRecDepth 100000 in
set_option maxHeartbeats 1000000 in
theorem dq_Pop {w : World} {q : Nat} {d : DQ} (first : Bool) (h : DqAt w q d) (t : d.Tight) (h0 : d.texts ≠ []) :
    Calls Tryz.prog 23 #[.pointer (some ⟨q, 0, none⟩), .bool first] w fun e w' => e = .returned (.tuple #[.string (d.texts.getD (popAt first d.texts.length) ByteArray.empty), .bool true]) ∧ Gone w q d (popAt first d.texts.length) w' := by
  have hn := List.length_pos_iff.2 h0
  have hfew := h.few
  have hi : popAt first d.texts.length < d.texts.length := by unfold popAt; split <;> omega
  have hl := dq_Len h
  have hat := dq_At (popAt first d.texts.length : Nat) h t
  have hr := dq_Remove (popAt first d.texts.length) h t hi
  rw [if_pos (by omega), Int.toNat_natCast, show (decide ((0 : Int) ≤ (popAt first d.texts.length : Nat)) && decide (((popAt first d.texts.length : Nat) : Int) < (d.texts.length : Int))) = true by simp; omega] at hat
  obtain ⟨i, hii⟩ : ∃ i, popAt first d.texts.length = i := ⟨_, rfl⟩
  rw [hii] at hat hr ⊢
  have hsub : IntKind.i64.wrap ((d.texts.length : Int) - 1) = (d.texts.length : Int) - 1 := by rw [IntKind.wrap_i64]; omega
  have hfew' : (d.texts.length : Int) ≤ 1048576 := by omega
  have HL := Lib.hid hl
  have HA := Lib.hid hat
  have HR := Lib.hid hr
  cases first
  · have e1 : (d.texts.length : Int) - 1 = (i : Int) := by unfold popAt at hii; rw [if_neg (by decide)] at hii; omega
    clear hl hat hr h h0 hn hi hii hfew hsub
    go_enter Tryz.func23, Tryz.ntmps23
    go_wp2_with (first | (go_at_call 71; refine HL.out.mono ?_; rintro e w' ⟨rfl, rfl⟩) | (go_at_call 72; refine HA.out.mono ?_; rintro e w' ⟨rfl, rfl⟩) | (go_at_call 73; refine HR.out.mono ?_; rintro e w' ⟨rfl, hg⟩; have HG := Lib.hid hg; clear hg))
    go_ret2
    exact ⟨rfl, HG.out⟩
  · obtain rfl : (0 : Nat) = i := by unfold popAt at hii; rwa [if_pos rfl] at hii
    clear hl hat hr h h0 hn hi hii hfew hsub
    go_enter Tryz.func23, Tryz.ntmps23
    go_wp2_with (first | (go_at_call 71; refine HL.out.mono ?_; rintro e w' ⟨rfl, rfl⟩) | (go_at_call 72; refine HA.out.mono ?_; rintro e w' ⟨rfl, rfl⟩) | (go_at_call 73; refine HR.out.mono ?_; rintro e w' ⟨rfl, hg⟩; have HG := Lib.hid hg; clear hg))
    go_ret2
    exact ⟨rfl, HG.out⟩
end Go.Proofs.YtgjpaecpljifpaaGreat

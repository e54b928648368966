/- The dict in memory (values: *pantry/keyspace.entry): Delete. -/
import Derived.Test.YtgjpaecpljifpaaGreatDictXE
namespace Go.Proofs.YtgjpaecpljifpaaGreat.DE
open Go Go.RowKit Go.Proofs.YtgjpaecpljifpaaGreat

theorem del_eq_some {d : DM V} {cap : Nat} (h : d.Ok (hashD d) cap) {key : ByteArray} {x : E} (hf : d.find (hashD d) key = some x) (tb : Nat) :
    d.del (hashD d) key tb = ((DM.less (d.step (hashD d)) key).shrink tb, true) := by
  unfold DM.del
  rw [step_find h key, hf]
  rfl
theorem del_eq_none {d : DM V} {cap : Nat} (h : d.Ok (hashD d) cap) {key : ByteArray} (hf : d.find (hashD d) key = none) (tb : Nat) :
    d.del (hashD d) key tb = (d.step (hashD d), false) := by
  unfold DM.del
  rw [step_find h key, hf]
theorem Good.del_some {w w' : World} {b : Nat} {d : DM V} {cap : Nat} (h : Good w b d cap) {key : ByteArray} {x : E} (hf : d.find (hashD d) key = some x) {tb : Nat}
    (hD : IsDict w' b (d.del (hashD d) key tb).1) : Good w' b (d.del (hashD d) key tb).1 cap := by
  obtain ⟨h1, h2⟩ := Go.Proofs.YtgjpaecpljifpaaGreat.del_some h.ok tb (by rw [step_find h.ok key]; exact hf)
  refine ⟨hD, by unfold hashD; rw [del_seed]; exact h1, fun e he => ?_, h.small⟩
  exact h.keys e (List.mem_filter.1 (h2.mem_iff.1 he)).1
theorem fp_shrink {b : Nat} {d : DM V} {tb r : Nat} (h : fp b (d.shrink tb) r) : fp b d r ∨ r = tb := by
  unfold DM.shrink at h
  split at h
  · rcases h with rfl | ⟨h1, rfl⟩ | ⟨_, rfl⟩ | ⟨x, hx, rfl⟩
    · exact .inl (.inl rfl)
    · exact .inl (fp_old h1)
    · exact .inr rfl
    · refine .inl (fp_ent ?_)
      simp only [DM.ents, replicate_ents, List.append_nil] at hx
      exact List.mem_append_left _ hx
  · exact .inl h
theorem fp_less {b : Nat} {d : DM V} {key : ByteArray} {r : Nat} (h : fp b (DM.less d key) r) : fp b d r := by
  rcases h with rfl | ⟨h1, rfl⟩ | ⟨h1, rfl⟩ | ⟨x, hx, rfl⟩
  · exact .inl rfl
  · exact fp_old (fun h2 => h1 ((nil_of_length (without_length _ _)).2 h2))
  · exact fp_young (fun h2 => h1 ((nil_of_length (without_length _ _)).2 h2))
  · simp only [DM.less, DM.ents, without_ents, ← drop_append] at hx
    exact fp_ent (List.mem_filter.1 hx).1
theorem fp_del {b : Nat} {d : DM V} {cap : Nat} (h : d.Ok (hashD d) cap) {key : ByteArray} {x : E} (hf : d.find (hashD d) key = some x) (tb : Nat) {r : Nat} (hr : fp b (d.del (hashD d) key tb).1 r) : fp b d r ∨ r = tb := by
  rw [del_eq_some h hf] at hr
  exact (fp_shrink hr).imp (fun h1 => fp_step h (fp_less h1)) id
theorem shrink_b {w : World} {b : Nat} {d : DM V} (h : IsDict w b d) (hy : d.young = []) (h4 : 4 < d.old.length) (h8 : 8 * d.n ≤ d.old.length) (s : Nat) (hs : grow 64 4 d.n = s) (hpos : 0 < s) :
    IsDict ((w.setCell ⟨b, 2, none⟩ (.slice (some ⟨w.heap.size, 0, none⟩) s s)).alloc (.cells (tabCells (List.replicate s [])) 187)) b (d.shrink w.heap.size) := by
  unfold DM.shrink
  rw [if_pos ⟨hy, h4, h8⟩, hs]
  have hne : List.replicate s ([] : List E) ≠ [] := by
    intro h0
    have := congrArg List.length h0
    simp at this; omega
  refine ⟨?_, fun h0 => ((h.old h0).setStr h.str 2 _).alloc _, fun _ => Table.fresh w _ b 2 _, ?_⟩
  · have h1 := (h.str.set 2 (.slice (some ⟨w.heap.size, 0, none⟩) s s)).alloc (.cells (tabCells (List.replicate s [])) 187)
    dsimp only
    rw [tabVal_some hne, List.length_replicate]
    exact h1
  · intro h0 _
    exact Nat.ne_of_lt (h.old h0).row.lt
theorem shrink_c {d : DM V} (h : ¬ (d.young = [] ∧ 4 < d.old.length ∧ 8 * d.n ≤ d.old.length)) (tb : Nat) : d.shrink tb = d := by
  unfold DM.shrink
  rw [if_neg h]
theorem pow_small {j n : Nat} (h : 4 * 2 ^ j < n) (hn : n ≤ 4398046511104) : j < 40 := by
  apply Nat.lt_of_not_le
  intro h40
  have : 2 ^ 40 ≤ 2 ^ j := Nat.pow_le_pow_right (by omega) h40
  omega

set_option maxRecDepth 100000 in
set_option maxHeartbeats 2000000 in
theorem Delete_some (b : Nat) (d : DM V) (key : ByteArray) (w : World) {cap : Nat} (hG : Good w b d cap) (hs : key.size ≤ maxLen) {x : E} (hf : d.find (hashD d) key = some x) :
    Calls Tryz.prog 49 #[.pointer (some ⟨b, 0, none⟩), .string key] w
      fun e w' => e = .returned (.bool true) ∧ ∃ tb, w.heap.size ≤ tb ∧ Good w' b (d.del (hashD d) key tb).1 cap ∧ Keeps (fp b d) w w' := by
  have hst := step_any b d w hG.ok hG.small hG.keys hG.dict
  have hfs : (d.step (hashD d)).find (hashD (d.step (hashD d))) key = some x := by rw [hashD_step, step_find hG.ok key]; exact hf
  have HS := Lib.hid hst
  clear hst
  go_enter Tryz.func49, Tryz.ntmps49
  go_wp2_with fail
  refine HS.out.mono ?_
  rintro e w1 ⟨rfl, hD1, hk1⟩
  have hG1 := hG.step hD1
  have hfind := find_any b (d.step (hashD d)) key w1 hG1.ok hG1.small hs hD1
  have HF := Lib.hid hfs
  have HF0 := Lib.hid hf
  have HK := Lib.hid hk1
  have HG1 := Lib.hid hG1
  have HG := Lib.hid hG
  clear hf hfs hk1 hG hG1 hD1
  go_wp2_with fail
  refine hfind.mono ?_
  rintro e w' ⟨hp, rfl⟩
  obtain ⟨ob, t, pre, post, hL, rfl⟩ := find_led HG1.out.dict HF.out hp
  obtain ⟨hxm, hxk⟩ := find_some HF.out
  obtain ⟨d1, hd1⟩ : ∃ d1, d.step (hashD d) = d1 := ⟨_, rfl⟩
  rw [hd1] at HG1 HF hL hxm ⊢
  have hpos1 : 0 < d1.n := by
    have e1 := HG1.out.ok.count
    have e2 := List.length_pos_of_mem hxm
    simp only [DM.ents, List.length_append] at e2
    omega
  have hc := hL.cell
  have hcf := hL.frozen
  have hxe := mem_of_getD (i := hashD d1 key % t.length) (by rw [hL.split]; exact List.mem_append_right _ List.mem_cons_self)
  have hch := hL.table.chain (hashD d1 key % t.length)
  rw [hL.split] at hch
  have hb := (Chain.suffix (p := pre) hch).1
  have hnx : w1.cell? ⟨x.blk, 2, none⟩ = some (.pointer (headA post)) := hb.cell 2
  have hcap := HG1.out.small
  have hcd := HG1.out.ok.capped
  have hR := less_dict HG1.out.dict HG1.out.ok hxk hL ((d1.n : Int) - 1) (by omega)
  have h4 := hR.2.2.cell 4
  have h4f := hR.2.2.frozen 4
  rw [place_plain] at hc hcf hR h4 h4f ⊢
  have h4' : (w1.setCell ⟨(place ob (hashD d1 key % t.length) pre).block, (place ob (hashD d1 key % t.length) pre).off, none⟩ (.pointer (headA post))).cell? ⟨b, 4, none⟩ = some (.int .i64 d1.n) := h4
  have HD1 := Lib.hid hd1
  have HXK := Lib.hid hxk
  have HXM := Lib.hid hxm
  have HR := Lib.hid hR
  clear hp hL hb hxe hfind hxk hxm hR h4 hch hd1
  go_upto_region 9 with fail
  obtain ⟨w2, hw2⟩ : ∃ w2, (w1.setCell ⟨(place ob (hashD d1 key % t.length) pre).block, (place ob (hashD d1 key % t.length) pre).off, none⟩ (.pointer (headA post))).setCell ⟨b, 4, none⟩ (.int .i64 ((d1.n : Int) - 1)) = w2 := ⟨_, rfl⟩
  rw [hw2] at HR ⊢
  clear hw2 hc hcf h4' h4f hnx
  obtain ⟨hD2, hk2, _⟩ := HR.out
  obtain ⟨hok2, hp2⟩ := And.intro (withouts_ok HG1.out.ok ⟨x, HXM.out, HXK.out⟩) True.intro
  obtain ⟨d2, hd2⟩ : ∃ d2, DM.less d1 key = d2 := ⟨_, rfl⟩
  have hok2 : d2.Ok (hashD d1) cap := by rw [← hd2]; exact hok2
  rw [hd2] at hD2
  have hl2 := hok2.oldLen
  have hc2 := hok2.capped
  have hsm := hok2.some_
  have HD2 := Lib.hid hd2
  have HOk2 := Lib.hid hok2
  have HDi := Lib.hid hD2
  have HK2 := Lib.hid (show Keeps (fp b d) w w2 from HK.out.trans' hk2 (fun r _ h => fp_step HG.out.ok (by rw [HD1.out]; exact h)))
  have g1 := hD2.c1
  have g2 := hD2.c2
  have g4 := hD2.c4
  have f2 : w2.frozen? ⟨b, 2, none⟩ = false := hD2.str.frozen 2
  have hmvq : ∀ n : Nat, Calls Tryz.prog 124 #[.pointer (some ⟨b, 0, none⟩)] (w2.drewN n) fun e w' => e = .returned (.bool (decide (d2.young ≠ []))) ∧ w' = w2.drewN n :=
    fun n => (moving_any b d2 (w2.drewN n) (hD2.drewN n)).mono fun e w' ⟨h1, h2⟩ => ⟨h1, h2.symm⟩
  have hcx : ∀ n o, ((w2.drewN n).alloc o).cell? ⟨b, 2, none⟩ = some (tabVal d2.young d2.youngB) := fun n o => ((hD2.str.drewN n).alloc o).cell 2
  have hfx : ∀ n o, ((w2.drewN n).alloc o).frozen? ⟨b, 2, none⟩ = false := fun n o => ((hD2.str.drewN n).alloc o).frozen 2
  have g4q : ∀ n, (w2.drewN n).cell? ⟨b, 4, none⟩ = some (.int .i64 d2.n) := fun n => (hD2.str.drewN n).cell 4
  have HMQ := Lib.hid hmvq
  have hfin : ∀ tb, DM.shrink d2 tb = (d.del (hashD d) key tb).1 := by intro tb; rw [del_eq_some HG.out.ok HF0.out, HD1.out, HD2.out]
  have HFin := Lib.hid hfin
  clear hD2 hk2 hok2 hd2 hp2 hmvq HR hfin
  have ho : d2.old ≠ [] := by
    intro h0
    have h1 := HOk2.out.some_ h0
    have h2 : d1.old = [] := by rw [← HD2.out] at h0; exact (nil_of_length (without_length _ _)).1 h0
    have h3 := HXM.out
    simp only [DM.ents, h2, HG1.out.ok.some_ h2] at h3
    simp [ents] at h3
  rw [tabVal_some ho] at g1
  have HO := Lib.hid ho
  clear ho hsm
  by_cases hm : d2.young = []
  · have hmd : decide (d2.young ≠ []) = false := by simpa using hm
    rw [hmd] at HMQ
    have HM := Lib.hid hm
    clear hm hmd
    by_cases h4 : 4 < d2.old.length
    · have t4 : decide ((4 : Int) < (d2.old.length : Int)) = true := by simp; omega
      have H4 := Lib.hid h4
      by_cases h8 : 8 * d2.n ≤ d2.old.length
      · have t8 : decide (8 * (d2.n : Int) ≤ (d2.old.length : Int)) = true := by simp; omega
        have H8 := Lib.hid h8
        clear h4 h8
        go_quiet ((go_at_call 124; exact Calls.quiet_of_same (HMQ.out _)))
        go_wp2_with fail
        go_loopg [6] (d2.n - 4) (fun g p wr => w2.drewN nq = wr ∧ ∃ j s : Nat, s = 4 * 2 ^ j ∧ p = .int .i64 s ∧ s ≤ 2 * d2.n + 4 ∧ Hid (grow 64 4 d2.n = grow (64 - j) s d2.n) ∧ j ≤ 60 ∧ d2.n - s = g)
        case atStart => exact ⟨rfl, 0, 4, rfl, rfl, by omega, rfl, by omega, rfl⟩
        case round =>
          obtain ⟨rfl, j, sz, hsz, rfl, hsl, HGr, hj, hg⟩ := hrel
          have hspos : 0 < sz := by rw [hsz]; have := Nat.pow_pos (n := j) (show 0 < 2 by omega); omega
          have HSz := Lib.hid hsz
          have HGg := Lib.hid hg
          clear hsz hg
          by_cases hlt : sz < d2.n
          · have tl : decide (sz < d2.n) = true := by simpa using hlt
            go_wp2_with fail
            have hj40 : j < 40 := pow_small (by rw [← HSz.out]; exact hlt) (by omega)
            go_roundg (d2.n - sz * 2)
            case measure => have := HGg.out; omega
            case rel =>
              refine ⟨rfl, j + 1, sz * 2, by rw [HSz.out, Nat.pow_succ]; omega, by go_num, by omega, ?_, by omega, rfl⟩
              have hgr : grow (64 - j) sz d2.n = grow (64 - (j + 1)) (sz * 2) d2.n := by
                rw [show 64 - j = (64 - (j + 1)) + 1 by omega]
                rw [grow, if_pos hlt]
              exact HGr.out.trans hgr
          · have tl : decide (sz < d2.n) = false := by simpa using hlt
            have hmk := run_make sz (by omega)
            have hgs : grow 64 4 d2.n = sz := by
              rw [HGr.out]
              cases h64 : 64 - j with
              | zero => rfl
              | succ k => rw [grow, if_neg hlt]
            have HGs := Lib.hid hgs
            clear hgs
            go_wp2_with fail
            go_ret
            refine ⟨rfl, w2.heap.size, HK2.out.size, HG.out.del_some HF0.out ?_, ((HK2.out.drewN nq).alloc _).set _ (fun _ => .inl rfl)⟩
            rw [← HFin.out, World.setCell_alloc_past _ _ _ _ (show b < (w2.drewN nq).heap.size from HDi.out.str.lt)]
            exact shrink_b (HDi.out.drewN nq) HM.out H4.out H8.out sz HGs.out hspos
      · have t8 : decide (8 * (d2.n : Int) ≤ (d2.old.length : Int)) = false := by simp; omega
        have H8 := Lib.hid h8
        clear h4 h8
        go_quiet ((go_at_call 124; exact Calls.quiet_of_same (HMQ.out _)))
        go_wp2_with fail
        go_ret
        exact ⟨rfl, w.heap.size, Nat.le_refl _, HG.out.del_some HF0.out (by rw [← HFin.out, shrink_c (fun h => H8.out h.2.2)]; exact HDi.out.drewN nq), HK2.out.drewN nq⟩
    · have t4 : decide ((4 : Int) < (d2.old.length : Int)) = false := by simp; omega
      have H4 := Lib.hid h4
      clear h4
      go_quiet ((go_at_call 124; exact Calls.quiet_of_same (HMQ.out _)))
      go_wp2_with fail
      go_ret
      exact ⟨rfl, w.heap.size, Nat.le_refl _, HG.out.del_some HF0.out (by rw [← HFin.out, shrink_c (fun h => H4.out h.2.1)]; exact HDi.out.drewN nq), HK2.out.drewN nq⟩
  · have hmd : decide (d2.young ≠ []) = true := by simpa using hm
    rw [hmd] at HMQ
    have HM := Lib.hid hm
    clear hm hmd
    go_quiet ((go_at_call 124; exact Calls.quiet_of_same (HMQ.out _)))
    go_wp2_with fail
    go_ret
    exact ⟨rfl, w.heap.size, Nat.le_refl _, HG.out.del_some HF0.out (by rw [← HFin.out, shrink_c (fun h => HM.out h.1)]; exact HDi.out.drewN nq), HK2.out.drewN nq⟩

set_option maxRecDepth 100000 in
set_option maxHeartbeats 1000000 in
theorem Delete_none (b : Nat) (d : DM V) (key : ByteArray) (w : World) {cap : Nat} (hG : Good w b d cap) (hs : key.size ≤ maxLen) (hf : d.find (hashD d) key = none) :
    Calls Tryz.prog 49 #[.pointer (some ⟨b, 0, none⟩), .string key] w
      fun e w' => e = .returned (.bool false) ∧ Good w' b (d.step (hashD d)) cap ∧ Keeps (fp b d) w w' := by
  have hst := step_any b d w hG.ok hG.small hG.keys hG.dict
  have hfs : (d.step (hashD d)).find (hashD (d.step (hashD d))) key = none := by rw [hashD_step, step_find hG.ok key]; exact hf
  have HS := Lib.hid hst
  clear hst
  go_enter Tryz.func49, Tryz.ntmps49
  go_wp2_with fail
  refine HS.out.mono ?_
  rintro e w1 ⟨rfl, hD1, hk1⟩
  have hG1 := hG.step hD1
  have hfind := find_any b (d.step (hashD d)) key w1 hG1.ok hG1.small hs hD1
  have HF := Lib.hid hfs
  have HK := Lib.hid hk1
  have HG1 := Lib.hid hG1
  clear hf hfs hk1 hG hG1 hD1
  go_wp2_with fail
  refine hfind.mono ?_
  rintro e w' ⟨hp, rfl⟩
  obtain rfl := find_no HF.out hp
  clear hp hfind
  go_wp2_with fail
  go_ret
  exact ⟨rfl, HG1.out, HK.out⟩

/-- **Delete.** -/
theorem Delete_any (b : Nat) (d : DM V) (key : ByteArray) (w : World) {cap : Nat} (hG : Good w b d cap) (hs : key.size ≤ maxLen) :
    Calls Tryz.prog 49 #[.pointer (some ⟨b, 0, none⟩), .string key] w
      fun e w' => e = .returned (.bool (d.find (hashD d) key).isSome) ∧ ∃ tb, Good w' b (d.del (hashD d) key tb).1 cap ∧ Keeps (fp b d) w w' ∧ ∀ r, fp b (d.del (hashD d) key tb).1 r → fp b d r ∨ w.heap.size ≤ r := by
  cases hf : d.find (hashD d) key with
  | some x =>
    refine (Delete_some b d key w hG hs hf).mono ?_
    rintro e w' ⟨rfl, tb, k1, h1, h2⟩
    exact ⟨rfl, tb, h1, h2, fun r hr => (fp_del hG.ok hf tb hr).imp id (fun h => by rw [h]; exact k1)⟩
  | none =>
    refine (Delete_none b d key w hG hs hf).mono ?_
    rintro e w' ⟨rfl, h1, h2⟩
    exact ⟨rfl, 0, by rw [del_eq_none hG.ok hf]; exact h1, h2, fun r hr => .inl (by rw [del_eq_none hG.ok hf] at hr; exact fp_step hG.ok hr)⟩
end Go.Proofs.YtgjpaecpljifpaaGreat.DE

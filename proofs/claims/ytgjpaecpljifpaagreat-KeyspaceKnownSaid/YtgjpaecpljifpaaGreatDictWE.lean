/- The dict in memory (values: *pantry/keyspace.entry): Set of a new key. -/
import Derived.Test.YtgjpaecpljifpaaGreatDictGE
namespace Go.Proofs.YtgjpaecpljifpaaGreat.DE
open Go Go.RowKit Go.Proofs.YtgjpaecpljifpaaGreat

set_option maxRecDepth 100000 in
set_option maxHeartbeats 2000000 in
theorem Set_new (b : Nat) (d : DM V) (key : ByteArray) (v : V) (w : World) {cap : Nat} (hG : Good w b d cap) (hs : key.size ≤ maxLen) (hn : d.n < cap) (hf : d.find (hashD d) key = none) :
    Calls Tryz.prog 51 #[.pointer (some ⟨b, 0, none⟩), .string key, .pointer (some ⟨v, 0, none⟩)] w
      fun e w' => e = .returned (.bool true) ∧ ∃ blk tb, w.heap.size ≤ blk ∧ w.heap.size ≤ tb ∧ Good w' b (d.set (hashD d) key v blk tb) cap ∧ Keeps (fp b d) w w' := by
  have hst := step_any b d w hG.ok hG.small hG.keys hG.dict
  have hfs : (d.step (hashD d)).find (hashD (d.step (hashD d))) key = none := by rw [hashD_step, step_find hG.ok key]; exact hf
  have HS := Lib.hid hst
  clear hst
  have hmk4 : ∀ w : World, (Instr.makeSlice 182 (.int .i64 4) (.int .i64 4)).run Tryz.prog w = .ok (.slice (some ⟨w.heap.size, 0, none⟩) 4 4) (w.alloc (.cells (tabCells (List.replicate 4 [])) 187)) := fun w => run_make 4 (by omega) w
  go_enter Tryz.func51, Tryz.ntmps51
  go_wp2_with fail
  refine HS.out.mono ?_
  rintro e w1 ⟨rfl, hD1, hk1⟩
  have hG1 := hG.step hD1
  have hfind := find_any b (d.step (hashD d)) key w1 hG1.ok hG1.small hs hD1
  have HF := Lib.hid hfs
  have HF0 := Lib.hid hf
  have HK := Lib.hid hk1
  have HG1 := Lib.hid hG1
  have HG := Lib.hid hG
  clear hf hfs hk1 hG hG1 hD1
  go_wp2_with fail
  refine hfind.mono ?_
  rintro e w' ⟨hp, rfl⟩
  obtain rfl := find_no HF.out hp
  clear hp hfind
  obtain ⟨d1, hd1⟩ : ∃ d1, d.step (hashD d) = d1 := ⟨_, rfl⟩
  rw [hd1] at HG1 HF
  have HD1 := Lib.hid hd1
  clear hd1
  have hmvq : ∀ n : Nat, Calls Tryz.prog 124 #[.pointer (some ⟨b, 0, none⟩)] (w1.drewN n) fun e w' => e = .returned (.bool (decide (d1.young ≠ []))) ∧ w' = w1.drewN n :=
    fun n => (moving_any b d1 (w1.drewN n) (HG1.out.dict.drewN n)).mono fun e w' ⟨h1, h2⟩ => ⟨h1, h2.symm⟩
  have HMQ := Lib.hid hmvq
  clear hmvq
  go_upto_block 0 with fail
  go_cut [] (fun w' => ∃ tb, w.heap.size ≤ tb ∧ IsDict w' b (d1.room tb) ∧ Keeps (fp b d) w w')
  case first =>
    have g1 := HG1.out.dict.c1
    have f1 : w1.frozen? ⟨b, 1, none⟩ = false := HG1.out.dict.str.frozen 1
    have f2 : w1.frozen? ⟨b, 2, none⟩ = false := HG1.out.dict.str.frozen 2
    have hb : b < w1.heap.size := HG1.out.dict.str.lt
    have hcx : ∀ n o, ((w1.drewN n).alloc o).cell? ⟨b, 2, none⟩ = some (tabVal d1.young d1.youngB) := fun n o => ((HG1.out.dict.str.drewN n).alloc o).cell 2
    have hfx : ∀ n o, ((w1.drewN n).alloc o).frozen? ⟨b, 2, none⟩ = false := fun n o => ((HG1.out.dict.str.drewN n).alloc o).frozen 2
    by_cases ho : d1.old = []
    · rw [ho, tabVal_nil] at g1
      have HO := Lib.hid ho
      clear ho
      go_wp2_with fail
      go_meet
      exact ⟨w1.heap.size, HK.out.size, room_a HG1.out.dict HO.out (HG1.out.ok.some_ HO.out), (HK.out.set _ (fun _ => .inl rfl)).alloc _⟩
    · rw [tabVal_some ho] at g1
      have hpos : 0 < d1.old.length := List.length_pos_iff.2 ho
      have t0 : ((d1.old.length : Int) == 0) = false := by simp; exact ho
      have g2 := HG1.out.dict.c2
      have g4 := HG1.out.dict.c4
      have hl := HG1.out.ok.oldLen
      have hc := HG1.out.ok.capped
      have hcap := HG1.out.small
      have HO := Lib.hid ho
      clear ho
      by_cases hm : d1.young = []
      · have hmd : decide (d1.young ≠ []) = false := by simpa using hm
        rw [hmd] at HMQ
        have HM := Lib.hid hm
        clear hm hmd
        by_cases hge : d1.old.length ≤ d1.n
        · have t1 : decide (d1.old.length ≤ d1.n) = true := by simpa using hge
          have HGe := Lib.hid hge
          have hmk := run_make (2 * d1.old.length) (by omega)
          have e2 : ((2 * d1.old.length : Nat) : Int) = 2 * (d1.old.length : Int) := by omega
          rw [e2] at hmk
          clear hge e2
          go_wp2_with fail
          go_quiet ((go_at_call 124; exact Calls.quiet_of_same (HMQ.out _)))
          go_wp2_with fail
          go_meet
          exact ⟨w1.heap.size, HK.out.size, by rw [World.setCell_alloc_past _ _ _ _ (show b < (w1.drewN nq).heap.size from hb)]; exact room_b (HG1.out.dict.drewN nq) HO.out HM.out HGe.out, ((HK.out.drewN nq).alloc _).set _ (fun _ => .inl rfl)⟩
        · have t1 : decide (d1.old.length ≤ d1.n) = false := by simpa using hge
          have HGe := Lib.hid hge
          clear hge
          go_wp2_with fail
          go_quiet ((go_at_call 124; exact Calls.quiet_of_same (HMQ.out _)))
          go_wp2_with fail
          go_meet
          exact ⟨w1.heap.size, HK.out.size, by rw [room_c HO.out (fun h => HGe.out h.2)]; exact HG1.out.dict.drewN nq, HK.out.drewN nq⟩
      · have hmd : decide (d1.young ≠ []) = true := by simpa using hm
        rw [hmd] at HMQ
        have HM := Lib.hid hm
        clear hm hmd
        go_wp2_with fail
        go_quiet ((go_at_call 124; exact Calls.quiet_of_same (HMQ.out _)))
        go_wp2_with fail
        go_meet
        exact ⟨w1.heap.size, HK.out.size, by rw [room_c HO.out (fun h => HM.out h.1)]; exact HG1.out.dict.drewN nq, HK.out.drewN nq⟩
  case rest =>
    obtain ⟨tb, htb, hD2, hk2⟩ := hcut
    obtain ⟨q1, q2, q3⟩ := room_ok HG1.out.ok tb
    obtain ⟨d2, hd2⟩ : ∃ d2, d1.room tb = d2 := ⟨_, rfl⟩
    rw [hd2] at hD2 q1 q2 q3
    have hseed : d2.seed = d1.seed := by rw [← hd2]; exact room_seed d1 tb
    have hhash : hashD d2 = hashD d1 := by unfold hashD; rw [hseed]
    have hkeys : ∀ x ∈ d2.ents, x.key ≠ key := by rw [q2]; exact find_none HG1.out.ok HF.out
    have HD2 := Lib.hid hd2
    have g1 := hD2.c1
    have g2 := hD2.c2
    rw [tabVal_some q3] at g1
    have hmv := moving_any b d2 wc hD2
    have HK2 := Lib.hid hk2
    have HQ := Lib.hid (show d2.Ok (hashD d2) cap from by rw [hhash]; exact q1)
    have HKe := Lib.hid hkeys
    have hwc : w.heap.size ≤ wc.heap.size := hk2.size
    have h0c := (hD2.str.alloc (.cells (cellsOf ⟨wc.heap.size, key, v⟩ (.pointer none)) 189)).cell 0
    have hTo := (hD2.old q3).alloc (.cells (cellsOf ⟨wc.heap.size, key, v⟩ (.pointer none)) 189)
    have heb := Blk.new wc (cellsOf ⟨wc.heap.size, key, v⟩ (.pointer none)) 189
    have hcap := HG1.out.small
    have hn2 : d2.n < cap := by
      have e1 := (step_ok HG.out.ok).2.length_eq
      have e2 := HG.out.ok.count
      have e3 := HQ.out.count
      rw [HD1.out, ← q2] at e1
      simp only [DM.ents, List.length_append] at e1
      omega
    have b4 : (d2.n : Int) < 4398046511104 := by omega
    have HHash := Lib.hid (show hashD d2 = hashD d from by rw [hhash, ← HD1.out, hashD_step])
    clear hk2 hd2 q1 hkeys hhash hseed
    by_cases hm : d2.young = []
    · have hmd : decide (d2.young ≠ []) = false := by simpa using hm
      rw [hmd] at hmv
      have HMv := Lib.hid hmv
      clear hmv hmd
      have hcall := hang_any b d2.oldB d2.seed d2.old ⟨wc.heap.size, key, v⟩ (.pointer none) _ HQ.out.old q3 (by have := HQ.out.oldLen; omega) hs h0c hTo heb
      have hAdd := add_old (key := key) (v := v) hD2 q3 hm ((d2.n : Int) + 1) (by omega)
      have a4 := hAdd.2.2.cell 4
      have a4f := hAdd.2.2.frozen 4
      obtain ⟨wh, hwh⟩ : ∃ wh, hangW (wc.alloc (.cells (cellsOf ⟨wc.heap.size, key, v⟩ (.pointer none)) 189)) d2.oldB (hashD d2 key % d2.old.length) d2.old ⟨wc.heap.size, key, v⟩ = wh := ⟨_, rfl⟩
      rw [hwh] at hAdd a4 a4f hcall
      have a4' : wh.cell? ⟨b, 4, none⟩ = some (.int .i64 d2.n) := a4
      have HCall := Lib.hid hcall
      have HAdd := Lib.hid hAdd
      clear hwh a4
      clear hcall hAdd hTo heb h0c hD2
      go_wp2_with (go_at_call 124; refine HMv.out.mono ?_; rintro r w' ⟨rfl, rfl⟩)
      refine HCall.out.mono ?_
      rintro r w' ⟨rfl, rfl⟩
      go_wp2_with fail
      go_ret
      refine ⟨rfl, wc.heap.size, tb, hwc, htb, ?_, ?_⟩
      · refine HG.out.set_new hs HF0.out hn ?_
        rw [set_eq_new HG.out.ok HF0.out, HD1.out, HD2.out, ← HHash.out]
        exact HAdd.out.1
      · refine HK2.out.trans' HAdd.out.2.1 ?_
        intro r hr hfp
        rw [← HD2.out, ← HD1.out] at hfp
        rcases fp_room hfp with h1 | h1
        · exact fp_step HG.out.ok h1
        · omega
    · have hmd : decide (d2.young ≠ []) = true := by simpa using hm
      rw [hmd] at hmv
      rw [tabVal_some hm] at g2
      have HMv := Lib.hid hmv
      clear hmv hmd
      have hTy := (hD2.young hm).alloc (.cells (cellsOf ⟨wc.heap.size, key, v⟩ (.pointer none)) 189)
      have hcall := hang_any b d2.youngB d2.seed d2.young ⟨wc.heap.size, key, v⟩ (.pointer none) _ HQ.out.young hm (by have := HQ.out.youngLen; omega) hs h0c hTy heb
      have hAdd := add_young (key := key) (v := v) hD2 q3 hm ((d2.n : Int) + 1) (by omega)
      have a4 := hAdd.2.2.cell 4
      have a4f := hAdd.2.2.frozen 4
      obtain ⟨wh, hwh⟩ : ∃ wh, hangW (wc.alloc (.cells (cellsOf ⟨wc.heap.size, key, v⟩ (.pointer none)) 189)) d2.youngB (hashD d2 key % d2.young.length) d2.young ⟨wc.heap.size, key, v⟩ = wh := ⟨_, rfl⟩
      rw [hwh] at hAdd a4 a4f hcall
      have a4' : wh.cell? ⟨b, 4, none⟩ = some (.int .i64 d2.n) := a4
      have HCall := Lib.hid hcall
      have HAdd := Lib.hid hAdd
      clear hwh a4
      clear hcall hAdd hTo hTy heb h0c hD2
      go_wp2_with (go_at_call 124; refine HMv.out.mono ?_; rintro r w' ⟨rfl, rfl⟩)
      refine HCall.out.mono ?_
      rintro r w' ⟨rfl, rfl⟩
      go_wp2_with fail
      go_ret
      refine ⟨rfl, wc.heap.size, tb, hwc, htb, ?_, ?_⟩
      · refine HG.out.set_new hs HF0.out hn ?_
        rw [set_eq_new HG.out.ok HF0.out, HD1.out, HD2.out, ← HHash.out]
        exact HAdd.out.1
      · refine HK2.out.trans' HAdd.out.2.1 ?_
        intro r hr hfp
        rw [← HD2.out, ← HD1.out] at hfp
        rcases fp_room hfp with h1 | h1
        · exact fp_step HG.out.ok h1
        · omega
end Go.Proofs.YtgjpaecpljifpaaGreat.DE

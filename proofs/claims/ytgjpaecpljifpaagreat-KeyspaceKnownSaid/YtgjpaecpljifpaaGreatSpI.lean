/- A space in memory: Put. -/
import Derived.Test.YtgjpaecpljifpaaGreatSpH
namespace Go.Proofs.YtgjpaecpljifpaaGreat
open Go Go.RowKit Go.Proofs.YtgjpaecpljifpaaGreat Go.Maps Go.WideMaps

set_option maxRecDepth 100000 in
set_option maxHeartbeats 4000000 in
theorem Put_any (b : Nat) (A : AS) (L : Lay) (U : List ByteArray) (key : ByteArray) (vb : Nat) (text : ByteArray) (empty : Bool) (cost : Int) (w : World) (h : SpaceAt w b A L U) (hs : key.size ≤ maxLen) (hU : U.length + 1 < mostKeys)
    (VF : Nat → Prop) (hVF : ∀ r, VF r → ¬ sfp b L r ∧ r < w.heap.size) (hv : ∀ w', (∀ r, VF r → w'.heap[r]? = w.heap[r]?) → ValAt w' vb text empty cost) :
    Calls Tryz.prog 10 #[.pointer (some ⟨b, 0, none⟩), .string key, .pointer (some ⟨vb, 0, none⟩)] w
      fun en w' => (∃ L', SpaceAt w' b (A.put key vb text empty cost).1 L' (key :: U) ∧ Moved w w' b L L') ∧ en = .returned (.int .i64 (A.put key vb text empty cost).2) := by
  have HA := Lib.hid h
  have HV := Lib.hid hv
  have HVF := Lib.hid hVF
  clear h hv hVF
  have hmore : SpaceAt w b A L (key :: U) := HA.out.more (fun k hk => List.mem_cons_of_mem _ hk) (by simp) (by simpa using hU)
  have HMo := Lib.hid hmore
  clear hmore
  go_enter Tryz.func10, Tryz.ntmps10
  go_wp2_with fail
  go_at_call 43
  refine ((HV.out w fun _ _ => rfl).asText).mono ?_
  rintro en w' ⟨⟨ok, rfl⟩, rfl⟩
  go_upto_region 4 with fail
  go_cut [27] (fun s w' => w = w' ∧ s = .bool (decide ((1048576 : Int) < max (key.size : Int) text.size)))
  case first =>
    go_wp2_with fail
    all_goals go_meet
    all_goals exact ⟨rfl, by congr 1; simp only [decide_eq_decide]; omega⟩
  case rest =>
    obtain ⟨rfl, rfl⟩ := hcut
    by_cases hlong : 1048576 < max key.size text.size
    · have E2 := Lib.hid (show A.put key vb text empty cost = (A, 2) from if_pos hlong)
      have hl : decide ((1048576 : Int) < max (key.size : Int) text.size) = true := by simp; omega
      rw [hl]
      clear hl hlong
      go_wp2_with fail
      go_ret
      exact ⟨⟨L, by rw [E2.out]; exact HMo.out, Moved.refl _ _ _⟩, by rw [E2.out]; rfl⟩
    have hl : decide ((1048576 : Int) < max (key.size : Int) text.size) = false := by simp; omega
    rw [hl]
    have HLong := Lib.hid hlong
    clear hl hlong
    go_wp2_with fail
    go_at_call 45
    refine (met_any b A L U key w HA.out hs).mono ?_
    rintro en w1 ⟨L1, h1, m1, he⟩
    rw [metEnd_eq] at he
    subst he
    have hg := h1.get key
    have hv1 : ValAt w1 vb text empty cost := HV.out w1 fun r hr => m1.keeps.same r (HVF.out r hr).2 (HVF.out r hr).1
    have hVF1 : ∀ r, VF r → ¬ sfp b L1 r ∧ r < w1.heap.size := fun r hr => ⟨fun hs => (m1.fps r hs).elim (HVF.out r hr).1 fun h => by have := (HVF.out r hr).2; omega, Nat.lt_of_lt_of_le (HVF.out r hr).2 m1.keeps.size⟩
    have H1 := Lib.hid h1
    have M1 := Lib.hid m1
    have HG := Lib.hid hg
    have HV1 := Lib.hid hv1
    have HVF1 := Lib.hid hVF1
    clear h1 m1 hg hv1 hVF1
    obtain ⟨o, ho⟩ : ∃ o, DE.look L1.main key = o := ⟨_, rfl⟩
    rw [ho]
    have HO := Lib.hid ho
    clear ho
    go_wp2_with fail
    go_at_call 46
    refine HV1.out.isEmpty.mono ?_
    rintro en wX ⟨rfl, hk9⟩
    have h1x := H1.out.keeps hk9 (fun _ _ => id)
    have m1x : Moved w wX b L L1 := ⟨M1.out.keeps.trans (hk9.mono fun _ _ h => h.elim), M1.out.fps⟩
    have hVFx : ∀ r, VF r → ¬ sfp b L1 r ∧ r < wX.heap.size := fun r hr => ⟨(HVF1.out r hr).1, Nat.lt_of_lt_of_le (HVF1.out r hr).2 hk9.size⟩
    clear H1 M1 HV1 HVF1 hk9
    have H1 := Lib.hid h1x
    have M1 := Lib.hid m1x
    have HVF1 := Lib.hid hVFx
    clear h1x m1x hVFx
    cases empty with
    | true =>
      have E2 := Lib.hid (show A.put key vb text true cost = (A.deleted key, 0) by unfold AS.put; rw [if_neg HLong.out]; rfl)
      cases o with
      | none =>
        have E3 := Lib.hid (show A.deleted key = A.met key by unfold AS.deleted; rw [HG.out, HO.out]; rfl)
        simp only [ptrOf, Option.isSome_none]
        go_wp2_with fail
        go_ret
        exact ⟨⟨L1, by rw [E2.out]; show SpaceAt _ _ (A.deleted key) _ _; rw [E3.out]; exact H1.out.more (fun k hk => List.mem_cons_of_mem _ hk) (by simp) (by simpa using hU), M1.out⟩, by rw [E2.out]; rfl⟩
      | some e =>
        have E3 := Lib.hid (show A.deleted key = (A.met key).gone key (L1.rc e) by unfold AS.deleted; rw [HG.out, HO.out]; rfl)
        simp only [ptrOf, Option.isSome_some]
        go_wp2_with fail
        go_at_call 47
        refine (goes_any b (A.met key) L1 U key e wX H1.out HO.out).mono ?_
        rintro en w2 ⟨rfl, L2, h2, m2, _⟩
        have H2 := Lib.hid h2
        have M2 := Lib.hid m2
        clear h2 m2
        go_wp2_with fail
        go_ret
        exact ⟨⟨L2, by rw [E2.out]; show SpaceAt _ _ (A.deleted key) _ _; rw [E3.out]; exact H2.out.more (fun k hk => List.mem_cons_of_mem _ hk) (by simp) (by simpa using hU), M1.out.trans M2.out⟩, by rw [E2.out]; rfl⟩
    | false =>
      have E2 := Lib.hid (show A.put key vb text false cost = (((((A.met key).unused key).laid key ⟨vb, cost, 0, 0⟩).use key ⟨vb, cost, 0, 0⟩).touch key, 0) by unfold AS.put; rw [if_neg HLong.out]; rfl)
      go_upto_if 41 with fail
      go_cut [] (fun w3 => ∃ d3, (∀ k, DE.look d3 k = if k = key then none else DE.look L1.late k) ∧ Parts w3 b (spaceCells ((A.met key).unused key) L1) { L1 with late := d3 } (liveOf L1) (A.met key).steps ∧ Keeps (sfp b L1) wX w3 ∧ ∀ r, DE.fp L1.lB d3 r → DE.fp L1.lB L1.late r ∨ wX.heap.size ≤ r)
      case first =>
        cases o with
        | none =>
          have e3 : (A.met key).unused key = A.met key := by unfold AS.unused; rw [HG.out, HO.out]; rfl
          have h3 : ∀ k, DE.look L1.late k = if k = key then none else DE.look L1.late k := by
            intro k
            split
            · rename_i hk; rw [hk, H1.out.due, HO.out]; rfl
            · rfl
          have E3 := Lib.hid e3
          have H3 := Lib.hid h3
          clear e3 h3
          simp only [ptrOf, Option.isSome_none]
          go_wp2_with fail
          go_meet
          exact ⟨L1.late, H3.out, by rw [E3.out]; exact H1.out.parts, Keeps.refl _ _, fun r hr => .inl hr⟩
        | some e =>
          have e3 : (A.met key).unused key = { A.met key with used := IntKind.i64.wrap ((A.met key).used - costOf (L1.rc e) key) } := by unfold AS.unused; rw [HG.out, HO.out]; rfl
          have E3 := Lib.hid e3
          have HLive := Lib.hid (show liveOf L1 e from ⟨key, HO.out⟩)
          have c6 : wX.drew.cell? ⟨b, 6, none⟩ = some (.int .i64 (A.met key).used) := H1.out.parts.str.cell 6
          have f6 : wX.drew.frozen? ⟨b, 6, none⟩ = false := H1.out.parts.str.frozen 6
          have HE := Lib.hid (show Blk wX.drew e (recCells (L1.rc e)) 106 from H1.out.parts.ent e HLive.out)
          clear e3
          simp only [ptrOf, Option.isSome_some]
          go_wp2_with fail
          apply wp_cut ((wX.setCell ⟨b, 6, none⟩ (.int .i64 (IntKind.i64.wrap ((A.met key).used - costOf (L1.rc e) key)))).drew)
          case h =>
            go_region_with (go_at_call 48; refine (costs_any _ _ _ _ HE.out).mono ?_; rintro en w' ⟨rfl, rfl⟩)
            all_goals exact ⟨rfl, rfl⟩
          case hk =>
            obtain ⟨w2, hw2⟩ : ∃ w2, (wX.setCell ⟨b, 6, none⟩ (.int .i64 (IntKind.i64.wrap ((A.met key).used - costOf (L1.rc e) key)))).drew = w2 := ⟨_, rfl⟩
            rw [hw2]
            have hP2 : Parts w2 b (spaceCells ((A.met key).unused key) L1) L1 (liveOf L1) (A.met key).steps := by
              rw [← hw2, E3.out]; exact (H1.out.parts.set_b 6 _).of_heap fun _ _ => rfl
            have k2 : Keeps (sfp b L1) wX w2 := by rw [← hw2]; exact ((Keeps.refl (sfp b L1) wX).set _ (fun _ => .inl rfl)).drew
            have c3 : w2.cell? ⟨e, 3, none⟩ = some (.int .i64 (L1.rc e).at_) := (hP2.ent e HLive.out).cell 3
            have c8 : w2.cell? ⟨b, 8, none⟩ = some (.pointer (some ⟨L1.lB, 0, none⟩)) := hP2.str.cell 8
            have HP2 := Lib.hid hP2
            have HK2 := Lib.hid k2
            clear hP2 k2 hw2 c6 f6
            by_cases hat : 0 < (L1.rc e).at_
            · go_wp2_with fail
              go_at_call 49
              refine (DE.Delete_look _ _ _ _ HP2.out.late hs).mono ?_
              rintro en w3 ⟨rfl, d3, t3⟩
              have HT3 := Lib.hid t3
              clear t3 c8 c3
              go_wp2_with fail
              go_meet
              exact ⟨d3, HT3.out.look, HP2.out.late_turned HT3.out, HK2.out.trans (HT3.out.keeps.mono fun r _ hr => .inr (.inr (.inl hr))), fun r hr => (HT3.out.fps r hr).imp id fun h => by have := HK2.out.size; omega⟩
            · have h3 : ∀ k, DE.look L1.late k = if k = key then none else DE.look L1.late k := by
                intro k
                split
                · rename_i hk; rw [hk, H1.out.due, HO.out, Option.filter_some]; simp; omega
                · rfl
              have H3 := Lib.hid h3
              clear h3
              go_wp2_with fail
              go_meet
              exact ⟨L1.late, H3.out, HP2.out, HK2.out, fun r hr => .inl hr⟩
      case rest =>
        obtain ⟨d3, h3, hP, hk, hf⟩ := hcut
        have hvc : ValAt wc vb text false cost := HV.out wc fun r hr => (hk.same r (HVF1.out r hr).2 (HVF1.out r hr).1).trans (M1.out.keeps.same r (HVF.out r hr).2 (HVF.out r hr).1)
        have HVC := Lib.hid hvc
        have H3 := Lib.hid h3
        have HP := Lib.hid hP
        have HK := Lib.hid hk
        have HF := Lib.hid hf
        clear hvc h3 hP hk hf
        go_wp2_with fail
        go_at_call 50
        refine HVC.out.costs.mono ?_
        rintro en wc' ⟨rfl, rfl⟩
        have hPn := HP.out.new_e ⟨vb, cost, 0, 0⟩
        have hkn : Keeps (sfp b L1) wX (wc.alloc (.cells (recCells ⟨vb, cost, 0, 0⟩) 106)) := HK.out.alloc _
        obtain ⟨wn, hwn⟩ : ∃ wn, wc.alloc (.cells #[.pointer (some ⟨vb, 0, none⟩), .int .i64 cost, .int .u64 0, .int .i64 0] 106) = wn := ⟨_, rfl⟩
        have hwn' : wc.alloc (.cells (recCells ⟨vb, cost, 0, 0⟩) 106) = wn := hwn
        rw [hwn'] at hPn hkn
        have c7 : wn.cell? ⟨b, 7, none⟩ = some (.pointer (some ⟨L1.mB, 0, none⟩)) := hPn.str.cell 7
        have hfresh : ¬ liveOf L1 wc.heap.size := fun hl => by have := (HP.out.ent _ hl).lt; omega
        have HPn := Lib.hid hPn
        have HKn := Lib.hid hkn
        have HFr := Lib.hid hfresh
        have HWs := Lib.hid HK.out.size
        clear hPn hkn hwn' hfresh
        go_wp2_with fail
        go_at_call 51
        refine (DE.Set_look L1.mB L1.main key wc.heap.size wn HPn.out.main hs (by have := H1.out.room; have := H1.out.small; omega)).mono ?_
        rintro en w4 ⟨rfl, d2, t2⟩
        have hP4 := HPn.out.main_turned t2
        have k4 : Keeps (sfp b L1) wX w4 := HKn.out.trans (t2.keeps.mono fun r _ hr => .inr (.inl hr))
        have c6 : w4.drew.cell? ⟨b, 6, none⟩ = some (.int .i64 ((A.met key).unused key).used) := hP4.str.cell 6
        have f6 : w4.drew.frozen? ⟨b, 6, none⟩ = false := hP4.str.frozen 6
        have HE := Lib.hid (show Blk w4.drew wc.heap.size (recCells ⟨vb, cost, 0, 0⟩) 106 from Blk.drew (by have := hP4.ent wc.heap.size (.inr rfl); simpa using this))
        have HT2 := Lib.hid t2
        have HP4 := Lib.hid hP4
        have HK4 := Lib.hid k4
        have HWn := Lib.hid (show wX.heap.size ≤ wn.heap.size from HKn.out.size)
        clear hP4 k4 t2 c7
        go_wp2_with fail
        apply wp_cut ((w4.setCell ⟨b, 6, none⟩ (.int .i64 (IntKind.i64.wrap (((A.met key).unused key).used + costOf ⟨vb, cost, 0, 0⟩ key)))).drew)
        case h =>
          go_region_with (go_at_call 48; refine (costs_any _ _ _ _ HE.out).mono ?_; rintro en w' ⟨rfl, rfl⟩)
          all_goals exact ⟨rfl, rfl⟩
        case hk =>
          obtain ⟨w5, hw5⟩ : ∃ w5, (w4.setCell ⟨b, 6, none⟩ (.int .i64 (IntKind.i64.wrap (((A.met key).unused key).used + costOf ⟨vb, cost, 0, 0⟩ key)))).drew = w5 := ⟨_, rfl⟩
          rw [hw5]
          have hP5 : Parts w5 b (spaceCells (((A.met key).unused key).laid key ⟨vb, cost, 0, 0⟩) L1) { L1 with main := d2, late := d3, rc := fun x => if x = wc.heap.size then ⟨vb, cost, 0, 0⟩ else L1.rc x } (fun x => liveOf L1 x ∨ x = wc.heap.size) (A.met key).steps := by
            rw [← hw5]; exact (HP4.out.set_b 6 _).of_heap fun _ _ => rfl
          have k5 : Keeps (sfp b L1) wX w5 := by rw [← hw5]; exact (HK4.out.set _ (fun _ => .inl rfl)).drew
          have hS5 := H1.out.laid (A0 := (A.met key).unused key) hs hU HFr.out rfl HT2.out.look H3.out (by unfold AS.unused; split <;> rfl) (by unfold AS.unused; split <;> rfl) (by unfold AS.unused; split <;> rfl) (by unfold AS.unused; split <;> rfl) hP5
          have hM5 : Moved wX w5 b L1 { L1 with main := d2, late := d3, rc := fun x => if x = wc.heap.size then ⟨vb, cost, 0, 0⟩ else L1.rc x } := by
            refine ⟨k5, ?_⟩
            rintro r (hr | hr | hr | ⟨k, hr⟩ | hr | hr)
            · exact .inl (.inl hr)
            · rcases HT2.out.fps r hr with hr | hr
              · exact .inl (.inr (.inl hr))
              · have := HWn.out; exact .inr (by omega)
            · rcases HF.out r hr with hr | hr
              · exact .inl (.inr (.inr (.inl hr)))
              · exact .inr hr
            · change DE.look d2 k = some r at hr
              rw [HT2.out.look] at hr
              split at hr
              · injection hr with hr
                have := HWs.out
                exact .inr (by omega)
              · exact .inl (.inr (.inr (.inr (.inl ⟨k, hr⟩))))
            · exact .inl (.inr (.inr (.inr (.inr (.inl hr)))))
            · exact .inl (.inr (.inr (.inr (.inr (.inr hr)))))
          have HS5 := Lib.hid hS5
          have HM5 := Lib.hid hM5
          clear hP5 k5 hS5 hM5 hw5 c6 f6
          go_wp2_with fail
          go_at_call 52
          refine (use_any b _ _ (key :: U) key wc.heap.size w5 HS5.out (by show DE.look d2 key = _; rw [HT2.out.look, if_pos rfl])).mono ?_
          rintro en w6 ⟨rfl, L6, h6, m6, _⟩
          have h6' : SpaceAt w6 b ((((A.met key).unused key).laid key ⟨vb, cost, 0, 0⟩).use key ⟨vb, cost, 0, 0⟩) L6 (key :: U) := by simpa using h6
          have H6 := Lib.hid h6'
          have M6 := Lib.hid m6
          clear h6 m6 h6'
          go_wp2_with fail
          go_at_call 53
          refine (touch_space b _ L6 (key :: U) key w6 H6.out hs List.mem_cons_self).mono ?_
          rintro en w7 ⟨rfl, h7, m7⟩
          have H7 := Lib.hid h7
          have M7 := Lib.hid m7
          clear h7 m7
          go_wp2_with fail
          go_ret
          exact ⟨⟨_, by rw [E2.out]; exact H7.out, ((M1.out.trans HM5.out).trans M6.out).trans M7.out⟩, by rw [E2.out]; rfl⟩
end Go.Proofs.YtgjpaecpljifpaaGreat

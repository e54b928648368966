/- A space in memory: SetDeadline. -/
import Derived.Test.YtgjpaecpljifpaaGreatSpE
namespace Go.Proofs.YtgjpaecpljifpaaGreat
open Go Go.RowKit Go.Proofs.YtgjpaecpljifpaaGreat Go.Maps Go.WideMaps

/-- What SetDeadline makes of a space, where it sets one. -/
def AS.dued (A : AS) (key : ByteArray) (r : Rec) (at_ : Int) : AS :=
  { A with used := IntKind.i64.wrap (IntKind.i64.wrap (A.used - costOf r key) + costOf { r with at_ := at_ } key), get := fun k => if k = key then some { r with at_ := at_ } else A.get k, touched := fun k => A.touched k || decide (k = key) }
/-- What SetDeadline makes of a space, and answers. -/
def AS.setDue (A : AS) (key : ByteArray) (at_ : Int) : AS × Bool :=
  match (A.met key).get key with
  | none => (A.met key, false)
  | some r => if 9007199254740992 < at_ then (A.met key, false) else if at_ ≤ (A.met key).now then ((A.met key).gone key r, true) else ((A.met key).dued key r at_, true)

theorem SpaceAt.dued {w' w : World} {b : Nat} {A : AS} {L : Lay} {U : List ByteArray} {key : ByteArray} {e : Nat} {at_ : Int} (h : SpaceAt w b A L U) (he : DE.look L.main key = some e) (hat : 0 < at_) {d3 : DM Nat}
    (h3 : ∀ k, DE.look d3 k = if k = key then some e else DE.look L.late k)
    (hP : Parts w' b (spaceCells (A.dued key (L.rc e) at_) L) { L with rc := fun x => if x = e then { L.rc e with at_ := at_ } else L.rc x, late := d3, D := L.D.put (klit key) (.agg []) } (liveOf L) A.steps) :
    SpaceAt w' b (A.dued key (L.rc e) at_) { L with rc := fun x => if x = e then { L.rc e with at_ := at_ } else L.rc x, late := d3, D := L.D.put (klit key) (.agg []) } U where
  parts := hP
  get k := by
    show (if k = key then some { L.rc e with at_ := at_ } else A.get k) = (DE.look L.main k).map fun x => if x = e then { L.rc e with at_ := at_ } else L.rc x
    split
    · rename_i hk; rw [hk, he]; simp
    · rename_i hk
      rw [h.get k]
      cases hl : DE.look L.main k with
      | none => rfl
      | some x =>
        have : x ≠ e := fun hx => hk (h.one k key x hl (by rw [hx]; exact he))
        simp [this]
  due k := by
    show DE.look d3 k = (DE.look L.main k).filter fun x => decide (0 < (if x = e then { L.rc e with at_ := at_ } else L.rc x).at_)
    rw [h3]
    split
    · rename_i hk; rw [hk, he, Option.filter_some]; simp [hat]
    · rename_i hk
      rw [h.due k]
      cases hl : DE.look L.main k with
      | none => rfl
      | some x =>
        have : x ≠ e := fun hx => hk (h.one k key x hl (by rw [hx]; exact he))
        rw [Option.filter_some, Option.filter_some]
        simp [this]
  one := h.one
  touched k hk := by
    show Maps.has (L.D.put (klit key) (.agg [])) (klit k) = (A.touched k || decide (k = key))
    rw [touched_put h.parts.map.isMap, h.touched k hk]
  univ k hk := by
    change (DE.look L.main k).isSome = true ∨ (A.touched k || decide (k = key)) = true at hk
    rcases hk with hk | hk
    · exact h.univ k (.inl hk)
    · rw [Bool.or_eq_true, decide_eq_true_eq] at hk
      rcases hk with hk | rfl
      · exact h.univ k (.inr hk)
      · exact h.univ k (.inl (by rw [he]; rfl))
  room := h.room
  small := h.small
  clock := h.clock
  keys := h.keys

theorem SpaceAt.late_n {w : World} {b : Nat} {A : AS} {L : Lay} {U : List ByteArray} (h : SpaceAt w b A L U) : L.late.n < mostKeys := by
  have h1 := DE.n_mono h.parts.late.ok h.parts.main.ok fun k hk => by
    rw [h.due k] at hk
    cases hl : DE.look L.main k with
    | none => rw [hl] at hk; cases hk
    | some x => rfl
  have := h.room
  have := h.small
  omega
theorem SpaceAt.size_D {w : World} {b : Nat} {A : AS} {L : Lay} {U : List ByteArray} (h : SpaceAt w b A L U) : Maps.size L.D < maxLen := by
  have h1 := size_univ h.parts.map A.touched h.touched U (fun k hk => h.univ k (.inr hk))
  have h2 := h.small
  unfold mostKeys at h2
  unfold maxLen
  omega

set_option maxRecDepth 100000 in
set_option maxHeartbeats 1000000 in
theorem SetDeadline_any (b : Nat) (A : AS) (L : Lay) (U : List ByteArray) (key : ByteArray) (at_ : Int) (w : World) (h : SpaceAt w b A L U) (hs : key.size ≤ maxLen) :
    Calls Tryz.prog 17 #[.pointer (some ⟨b, 0, none⟩), .string key, .int .i64 at_] w
      fun en w' => (∃ L', SpaceAt w' b (A.setDue key at_).1 L' U ∧ Moved w w' b L L') ∧ en = .returned (.bool (A.setDue key at_).2) := by
  have HA := Lib.hid h
  clear h
  go_enter Tryz.func17, Tryz.ntmps17
  go_wp2_with fail
  go_at_call 45
  refine (met_any b A L U key w HA.out hs).mono ?_
  rintro en w1 ⟨L1, h1, m1, he⟩
  have hg := h1.get key
  cases hl : DE.look L1.main key with
  | none =>
    rw [metEnd_none hl] at he
    subst he
    rw [hl] at hg
    have E2 := Lib.hid (show A.setDue key at_ = (A.met key, false) by unfold AS.setDue; rw [hg]; rfl)
    have H1 := Lib.hid h1
    have M1 := Lib.hid m1
    clear h1 m1 hg hl
    go_wp2_with fail
    go_ret
    exact ⟨⟨L1, by rw [E2.out]; exact H1.out, M1.out⟩, by rw [E2.out]; rfl⟩
  | some e =>
    rw [metEnd_some hl] at he
    subst he
    rw [hl] at hg
    by_cases hbig : 9007199254740992 < at_
    · have E2 := Lib.hid (show A.setDue key at_ = (A.met key, false) by unfold AS.setDue; rw [hg]; exact if_pos hbig)
      have H1 := Lib.hid h1
      have M1 := Lib.hid m1
      clear h1 m1 hg hl
      go_wp2_with fail
      go_ret
      exact ⟨⟨L1, by rw [E2.out]; exact H1.out, M1.out⟩, by rw [E2.out]; rfl⟩
    have c4 : w1.cell? ⟨b, 4, none⟩ = some (.int .i64 (A.met key).now) := h1.parts.str.cell 4
    by_cases hnow : at_ ≤ (A.met key).now
    · have E2 := Lib.hid (show A.setDue key at_ = ((A.met key).gone key (L1.rc e), true) by unfold AS.setDue; rw [hg]; show (if _ then _ else _) = _; rw [if_neg hbig, if_pos hnow])
      have H1 := Lib.hid h1
      have M1 := Lib.hid m1
      have HL := Lib.hid hl
      clear h1 m1 hg hl
      go_wp2_with fail
      go_at_call 47
      refine (goes_any b (A.met key) L1 U key e w1 H1.out HL.out).mono ?_
      rintro en w2 ⟨rfl, L2, h2, m2, _⟩
      have H2 := Lib.hid h2
      have M2 := Lib.hid m2
      clear h2 m2
      go_wp2_with fail
      go_ret
      exact ⟨⟨L2, by rw [E2.out]; exact H2.out, M1.out.trans M2.out⟩, by rw [E2.out]; rfl⟩
    have E2 := Lib.hid (show A.setDue key at_ = ((A.met key).dued key (L1.rc e) at_, true) by unfold AS.setDue; rw [hg]; show (if _ then _ else _) = _; rw [if_neg hbig, if_neg hnow])
    have hlive : liveOf L1 e := ⟨key, hl⟩
    have hpos : 0 < at_ := by have := h1.clock; omega
    have H1 := Lib.hid h1
    have M1 := Lib.hid m1
    have HL := Lib.hid hl
    have HLive := Lib.hid hlive
    have c6 : w1.drew.cell? ⟨b, 6, none⟩ = some (.int .i64 (A.met key).used) := h1.parts.str.cell 6
    have f6 : w1.drew.frozen? ⟨b, 6, none⟩ = false := h1.parts.str.frozen 6
    have HE := Lib.hid (show Blk w1.drew e (recCells (L1.rc e)) 106 from h1.parts.ent e hlive)
    clear h1 m1 hg hl hlive
    go_wp2_with fail
    apply wp_cut ((w1.setCell ⟨b, 6, none⟩ (.int .i64 (IntKind.i64.wrap ((A.met key).used - costOf (L1.rc e) key)))).drew)
    case h =>
      go_region_with (go_at_call 48; refine (costs_any _ _ _ _ HE.out).mono ?_; rintro en w' ⟨rfl, rfl⟩)
      all_goals exact ⟨rfl, rfl⟩
    case hk =>
      obtain ⟨w2, hw2⟩ : ∃ w2, (w1.setCell ⟨b, 6, none⟩ (.int .i64 (IntKind.i64.wrap ((A.met key).used - costOf (L1.rc e) key)))).drew = w2 := ⟨_, rfl⟩
      rw [hw2]
      have hP2 : Parts w2 b (spaceCells { A.met key with used := IntKind.i64.wrap ((A.met key).used - costOf (L1.rc e) key) } L1) L1 (liveOf L1) (A.met key).steps := by
        rw [← hw2]; exact (H1.out.parts.set_b 6 _).of_heap fun _ _ => rfl
      have k2 : Keeps (sfp b L1) w1 w2 := by rw [← hw2]; exact ((Keeps.refl (sfp b L1) w1).set _ (fun _ => .inl rfl)).drew
      have hP3 := hP2.set_e HLive.out 3 (.int .i64 at_) { L1.rc e with at_ := at_ } rfl
      have c3 : w2.cell? ⟨e, 3, none⟩ = some (.int .i64 (L1.rc e).at_) := (hP2.ent e HLive.out).cell 3
      have f3 : w2.frozen? ⟨e, 3, none⟩ = false := (hP2.ent e HLive.out).frozen 3
      obtain ⟨w3, hw3⟩ : ∃ w3, w2.setCell ⟨e, 3, none⟩ (.int .i64 at_) = w3 := ⟨_, rfl⟩
      rw [hw3] at hP3
      have k3 : Keeps (sfp b L1) w1 w3 := by rw [← hw3]; exact k2.set _ (fun _ => .inr (.inr (.inr (.inl HLive.out))))
      have c6' : w3.drew.cell? ⟨b, 6, none⟩ = some (.int .i64 (IntKind.i64.wrap ((A.met key).used - costOf (L1.rc e) key))) := hP3.str.cell 6
      have f6' : w3.drew.frozen? ⟨b, 6, none⟩ = false := hP3.str.frozen 6
      have HE3 := Lib.hid (show Blk w3.drew e (recCells { L1.rc e with at_ := at_ }) 106 from Blk.drew (by have := hP3.ent e HLive.out; simpa using this))
      have HP3 := Lib.hid hP3
      have HK3 := Lib.hid k3
      have HW2 := Lib.hid hw2
      clear hP2 hP3 k2 k3 hw2 c6 f6 c4
      go_wp2_with fail
      clear hw3 c3 f3
      apply wp_cut ((w3.setCell ⟨b, 6, none⟩ (.int .i64 (IntKind.i64.wrap (IntKind.i64.wrap ((A.met key).used - costOf (L1.rc e) key) + costOf { L1.rc e with at_ := at_ } key)))).drew)
      case h =>
        go_region_with (go_at_call 48; refine (costs_any _ _ _ _ HE3.out).mono ?_; rintro en w' ⟨rfl, rfl⟩)
        all_goals exact ⟨rfl, rfl⟩
      case hk =>
        obtain ⟨w4, hw4⟩ : ∃ w4, (w3.setCell ⟨b, 6, none⟩ (.int .i64 (IntKind.i64.wrap (IntKind.i64.wrap ((A.met key).used - costOf (L1.rc e) key) + costOf { L1.rc e with at_ := at_ } key)))).drew = w4 := ⟨_, rfl⟩
        rw [hw4]
        have hP4 : Parts w4 b (spaceCells ((A.met key).dued key (L1.rc e) at_) L1) { L1 with rc := fun x => if x = e then { L1.rc e with at_ := at_ } else L1.rc x } (liveOf L1) (A.met key).steps := by
          rw [← hw4]; exact (HP3.out.set_b 6 _).of_heap fun _ _ => rfl
        have k4 : Keeps (sfp b L1) w1 w4 := by rw [← hw4]; exact (HK3.out.set _ (fun _ => .inl rfl)).drew
        have c8 : w4.cell? ⟨b, 8, none⟩ = some (.pointer (some ⟨L1.lB, 0, none⟩)) := hP4.str.cell 8
        have HP4 := Lib.hid hP4
        have HK4 := Lib.hid k4
        clear hP4 k4 c6' f6' hw4
        go_wp2_with fail
        go_at_call 51
        refine (DE.Set_look L1.lB L1.late key e w4 HP4.out.late hs H1.out.late_n).mono ?_
        rintro en w5 ⟨rfl, d3, t3⟩
        have hP5 := HP4.out.late_turned t3
        have k5 := HK4.out.trans (t3.keeps.mono fun r _ hr => .inr (.inr (.inl hr)))
        have HT := Lib.hid t3
        have HP5 := Lib.hid hP5
        have HK5 := Lib.hid k5
        clear hP5 k5 t3 c8
        go_wp2_with fail
        go_at_call 53
        refine (touch_any b ((A.met key).dued key (L1.rc e) at_) { L1 with rc := fun x => if x = e then { L1.rc e with at_ := at_ } else L1.rc x, late := d3 } key w5 HP5.out.str HP5.out.map H1.out.size_D hs).mono ?_
        rintro en w6 ⟨rfl, hm6, k6⟩
        have hS := H1.out.dued HL.out hpos HT.out.look (HP5.out.map_turned hm6 k6)
        have hM : Moved w1 w6 b L1 { L1 with rc := fun x => if x = e then { L1.rc e with at_ := at_ } else L1.rc x, late := d3, D := L1.D.put (klit key) (.agg []) } := by
          refine ⟨HK5.out.trans (k6.mono fun r _ hr => .inr (.inr (.inr (.inr (.inl hr))))), ?_⟩
          rintro r (hr | hr | hr | hr | hr | hr)
          · exact .inl (.inl hr)
          · exact .inl (.inr (.inl hr))
          · rcases HT.out.fps r hr with hr | hr
            · exact .inl (.inr (.inr (.inl hr)))
            · have := HK4.out.size; exact .inr (by omega)
          · exact .inl (.inr (.inr (.inr (.inl hr))))
          · exact .inl (.inr (.inr (.inr (.inr (.inl hr)))))
          · exact .inl (.inr (.inr (.inr (.inr (.inr hr)))))
        have HS := Lib.hid hS
        have HM := Lib.hid hM
        clear hS hM hm6 k6
        go_wp2_with fail
        go_ret
        exact ⟨⟨_, by rw [E2.out]; exact HS.out, M1.out.trans HM.out⟩, by rw [E2.out]; rfl⟩
end Go.Proofs.YtgjpaecpljifpaaGreat

/- A space in memory: Changed. -/
import Derived.Test.YtgjpaecpljifpaaGreatSpH
namespace Go.Proofs.YtgjpaecpljifpaaGreat
open Go Go.RowKit Go.Proofs.YtgjpaecpljifpaaGreat Go.Maps Go.WideMaps

def AS.recost (A : AS) (key : ByteArray) (r : Rec) (cost : Int) : AS :=
  { A with used := wrap64 (A.used + wrap64 (cost - r.cost)), get := fun k => if k = key then some { r with cost := cost } else A.get k }
/-- What Changed makes of a space, and answers; of the value it asks whether it is empty, and what it costs. -/
def AS.changed (A : AS) (key : ByteArray) (empty : Bool) (cost : Int) : AS × Bool :=
  match (A.met key).get key with
  | none => (A.met key, false)
  | some r => if empty = true then (((A.met key).touch key).gone key r, true) else (((A.met key).touch key).recost key r cost, true)

set_option maxRecDepth 100000 in
set_option maxHeartbeats 2000000 in
theorem Changed_any (b : Nat) (A : AS) (L : Lay) (U : List ByteArray) (key : ByteArray) (text : ByteArray) (empty : Bool) (cost : Int) (w : World) (h : SpaceAt w b A L U) (hs : key.size ≤ maxLen)
    (VF : Nat → Prop) (hVF : ∀ r, VF r → ¬ sfp b L r ∧ r < w.heap.size) (hv : ∀ w' r, (A.met key).get key = some r → (∀ r, VF r → w'.heap[r]? = w.heap[r]?) → ValAt w' r.vb text empty cost) :
    Calls Tryz.prog 24 #[.pointer (some ⟨b, 0, none⟩), .string key] w
      fun en w' => (∃ L', SpaceAt w' b (A.changed key empty cost).1 L' U ∧ Moved w w' b L L') ∧ en = .returned (.bool (A.changed key empty cost).2) := by
  have HA := Lib.hid h
  have HV := Lib.hid hv
  have HVF := Lib.hid hVF
  clear h hv hVF
  go_enter Tryz.func24, Tryz.ntmps24
  go_wp2_with fail
  go_at_call 45
  refine (met_any b A L U key w HA.out hs).mono ?_
  rintro en w1 ⟨L1, h1, m1, he⟩
  rw [metEnd_eq] at he
  subst he
  have hg := h1.get key
  cases hl : DE.look L1.main key with
  | none =>
    rw [hl] at hg
    have E2 := Lib.hid (show A.changed key empty cost = (A.met key, false) by unfold AS.changed; rw [hg]; rfl)
    have H1 := Lib.hid h1
    have M1 := Lib.hid m1
    clear h1 m1 hg hl
    simp only [ptrOf, Option.isSome_none]
    go_wp2_with fail
    go_ret
    exact ⟨⟨L1, by rw [E2.out]; exact H1.out, M1.out⟩, by rw [E2.out]; rfl⟩
  | some e =>
    rw [hl] at hg
    have HIn := Lib.hid (h1.univ key (.inl (by rw [hl]; rfl)))
    have H1 := Lib.hid h1
    have M1 := Lib.hid m1
    have HG := Lib.hid hg
    have HL := Lib.hid hl
    clear h1 m1 hg hl
    simp only [ptrOf, Option.isSome_some]
    go_wp2_with fail
    go_at_call 53
    refine (touch_space b (A.met key) L1 U key w1 H1.out hs HIn.out).mono ?_
    rintro en w2 ⟨rfl, h2, m2⟩
    have m12 := M1.out.trans m2
    have hv2 : ValAt w2 (L1.rc e).vb text empty cost := HV.out w2 (L1.rc e) HG.out fun r hr => m12.keeps.same r (HVF.out r hr).2 (HVF.out r hr).1
    have hent := h2.parts.ent e ⟨key, HL.out⟩
    have c0 : w2.cell? ⟨e, 0, none⟩ = some (.pointer (some ⟨(L1.rc e).vb, 0, none⟩)) := hent.cell 0
    have H2 := Lib.hid h2
    have M12 := Lib.hid m12
    have HV2 := Lib.hid hv2
    have HEnt := Lib.hid hent
    clear h2 m2 m12 hv2 hent
    go_wp2_with fail
    go_at_call 46
    refine HV2.out.isEmpty.mono ?_
    rintro en wX ⟨rfl, hk9⟩
    have h2x := H2.out.keeps hk9 (fun _ _ => id)
    have m2x : Moved w wX b L { L1 with D := L1.D.put (klit key) (.agg []) } := ⟨M12.out.keeps.trans (hk9.mono fun _ _ h => h.elim), M12.out.fps⟩
    have hv2x : ValAt wX (L1.rc e).vb text empty cost := HV.out wX (L1.rc e) HG.out fun r hr => m2x.keeps.same r (HVF.out r hr).2 (HVF.out r hr).1
    have hentx := hk9.blk HEnt.out id
    clear H2 M12 HV2 HEnt hk9 c0
    have c0 : wX.cell? ⟨e, 0, none⟩ = some (.pointer (some ⟨(L1.rc e).vb, 0, none⟩)) := hentx.cell 0
    have H2 := Lib.hid h2x
    have M12 := Lib.hid m2x
    have HV2 := Lib.hid hv2x
    have HEnt := Lib.hid hentx
    clear h2x m2x hv2x hentx
    cases empty with
    | true =>
      have E2 := Lib.hid (show A.changed key true cost = (((A.met key).touch key).gone key (L1.rc e), true) by unfold AS.changed; rw [HG.out]; rfl)
      go_wp2_with fail
      go_at_call 47
      refine (goes_any b _ _ U key e wX H2.out HL.out).mono ?_
      rintro en w3 ⟨rfl, L3, h3, m3, _⟩
      have H3 := Lib.hid h3
      have M3 := Lib.hid m3
      clear h3 m3
      go_wp2_with fail
      go_ret
      exact ⟨⟨L3, by rw [E2.out]; exact H3.out, M12.out.trans M3.out⟩, by rw [E2.out]; rfl⟩
    | false =>
      have E2 := Lib.hid (show A.changed key false cost = (((A.met key).touch key).recost key (L1.rc e) cost, true) by unfold AS.changed; rw [HG.out]; rfl)
      go_wp2_with fail
      go_at_call 50
      refine HV2.out.costs.mono ?_
      rintro en wX' ⟨rfl, rfl⟩
      have c6 : wX.drew.cell? ⟨b, 6, none⟩ = some (.int .i64 (A.met key).used) := H2.out.parts.str.cell 6
      have f6 : wX.drew.frozen? ⟨b, 6, none⟩ = false := H2.out.parts.str.frozen 6
      have c1 : wX.drew.cell? ⟨e, 1, none⟩ = some (.int .i64 (L1.rc e).cost) := HEnt.out.cell 1
      go_wp2_with fail
      apply wp_cut ((wX.setCell ⟨b, 6, none⟩ (.int .i64 (wrap64 ((A.met key).used + wrap64 (cost - (L1.rc e).cost))))).drew)
      case h =>
        go_region
        all_goals exact ⟨rfl, rfl⟩
      case hk =>
        obtain ⟨w3, hw3⟩ : ∃ w3, (wX.setCell ⟨b, 6, none⟩ (.int .i64 (wrap64 ((A.met key).used + wrap64 (cost - (L1.rc e).cost))))).drew = w3 := ⟨_, rfl⟩
        rw [hw3]
        have hP3 := by
          have := (H2.out.parts.set_b 6 (.int .i64 (wrap64 ((A.met key).used + wrap64 (cost - (L1.rc e).cost))))).of_heap (w' := w3) (fun _ _ => by rw [← hw3]; rfl)
          exact this
        have k3 : Keeps (sfp b { L1 with D := L1.D.put (klit key) (.agg []) }) wX w3 := by rw [← hw3]; exact ((Keeps.refl _ wX).set _ (fun _ => .inl rfl)).drew
        have c1' : w3.cell? ⟨e, 1, none⟩ = some (.int .i64 (L1.rc e).cost) := (hP3.ent e ⟨key, HL.out⟩).cell 1
        have f1' : w3.frozen? ⟨e, 1, none⟩ = false := (hP3.ent e ⟨key, HL.out⟩).frozen 1
        have HP3 := Lib.hid hP3
        have HK3 := Lib.hid k3
        clear hP3 k3 hw3 c6 f6 c1 c0
        have hS := H2.out.reent (A' := ((A.met key).touch key).recost key (L1.rc e) cost) HL.out (r' := { L1.rc e with cost := cost }) (HP3.out.set_e ⟨key, HL.out⟩ 1 (.int .i64 cost) _ rfl) (fun _ => rfl) rfl rfl rfl rfl
        have hM : Moved wX (w3.setCell ⟨e, 1, none⟩ (.int .i64 cost)) b { L1 with D := L1.D.put (klit key) (.agg []) } { L1 with D := L1.D.put (klit key) (.agg []), rc := fun x => if x = e then { L1.rc e with cost := cost } else L1.rc x } :=
          ⟨HK3.out.set _ (fun _ => .inr (.inr (.inr (.inl ⟨key, HL.out⟩)))), fun _ h => .inl h⟩
        have HS := Lib.hid hS
        have HM := Lib.hid hM
        clear hS hM
        go_wp2_with fail
        go_ret
        exact ⟨⟨_, by rw [E2.out]; exact HS.out, M12.out.trans HM.out⟩, by rw [E2.out]; rfl⟩
end Go.Proofs.YtgjpaecpljifpaaGreat

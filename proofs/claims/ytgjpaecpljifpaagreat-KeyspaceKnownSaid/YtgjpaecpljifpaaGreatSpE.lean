/- A space in memory: Look, Get, Stamp, Deadline, Delete, Evict, and the small ones. -/
import Derived.Test.YtgjpaecpljifpaaGreatSpD
namespace Go.Proofs.YtgjpaecpljifpaaGreat
open Go Go.RowKit Go.Proofs.YtgjpaecpljifpaaGreat Go.Maps Go.WideMaps

/-- What is told of an entry, or of none. -/
def tellEnd (A : AS) (key : ByteArray) (f : Rec → Value) (z : Value) : Ending :=
  match A.get key with
  | some r => .returned (.tuple #[f r, .bool true])
  | none => .returned (.tuple #[z, .bool false])
theorem tellEnd_some {A : AS} {key : ByteArray} {f : Rec → Value} {z : Value} {r : Rec} (h : A.get key = some r) : tellEnd A key f z = .returned (.tuple #[f r, .bool true]) := by unfold tellEnd; rw [h]
theorem tellEnd_none {A : AS} {key : ByteArray} {f : Rec → Value} {z : Value} (h : A.get key = none) : tellEnd A key f z = .returned (.tuple #[z, .bool false]) := by unfold tellEnd; rw [h]
theorem metEnd_some {L : Lay} {key : ByteArray} {e : Nat} (h : DE.look L.main key = some e) : metEnd L key = .returned (.tuple #[.pointer (some ⟨e, 0, none⟩), .bool true]) := by unfold metEnd; rw [h]
theorem metEnd_none {L : Lay} {key : ByteArray} (h : DE.look L.main key = none) : metEnd L key = .returned (.tuple #[.pointer none, .bool false]) := by unfold metEnd; rw [h]

set_option maxHeartbeats 1000000 in
theorem Look_any (b : Nat) (A : AS) (L : Lay) (U : List ByteArray) (key : ByteArray) (w : World) (h : SpaceAt w b A L U) (hs : key.size ≤ maxLen) :
    Calls Tryz.prog 14 #[.pointer (some ⟨b, 0, none⟩), .string key] w
      fun en w' => (∃ L', SpaceAt w' b (A.met key) L' U ∧ Moved w w' b L L') ∧ en = tellEnd (A.met key) key (fun r => .pointer (some ⟨r.vb, 0, none⟩)) (.pointer none) := by
  have HA := Lib.hid h
  clear h
  go_enter Tryz.func14, Tryz.ntmps14
  go_wp2_with fail
  go_at_call 45
  refine (met_any b A L U key w HA.out hs).mono ?_
  rintro en w1 ⟨L1, h1, m1, he⟩
  have hg := h1.get key
  cases hl : DE.look L1.main key with
  | none =>
    rw [metEnd_none hl] at he
    subst he
    rw [hl] at hg
    have E1 := Lib.hid (tellEnd_none (f := fun r => .pointer (some ⟨r.vb, 0, none⟩)) (z := .pointer none) hg)
    have H1 := Lib.hid h1
    have M1 := Lib.hid m1
    clear h1 m1 hg hl
    go_wp2_with fail
    go_ret2
    exact ⟨⟨L1, H1.out, M1.out⟩, by rw [E1.out]; rfl⟩
  | some e =>
    rw [metEnd_some hl] at he
    subst he
    rw [hl] at hg
    have c0 : w1.cell? ⟨e, 0, none⟩ = some (.pointer (some ⟨(L1.rc e).vb, 0, none⟩)) := (h1.parts.ent e ⟨key, hl⟩).cell 0
    have E1 := Lib.hid (tellEnd_some (f := fun r => .pointer (some ⟨r.vb, 0, none⟩)) (z := .pointer none) hg)
    have H1 := Lib.hid h1
    have M1 := Lib.hid m1
    clear h1 m1 hg hl
    go_wp2_with fail
    go_ret2
    exact ⟨⟨L1, H1.out, M1.out⟩, by rw [E1.out]; rfl⟩

set_option maxHeartbeats 1000000 in
theorem Stamp_any (b : Nat) (A : AS) (L : Lay) (U : List ByteArray) (key : ByteArray) (w : World) (h : SpaceAt w b A L U) (hs : key.size ≤ maxLen) :
    Calls Tryz.prog 12 #[.pointer (some ⟨b, 0, none⟩), .string key] w
      fun en w' => (∃ L', SpaceAt w' b (A.met key) L' U ∧ Moved w w' b L L') ∧ en = tellEnd (A.met key) key (fun r => .int .u64 r.stamp) (.int .u64 0) := by
  have HA := Lib.hid h
  clear h
  go_enter Tryz.func12, Tryz.ntmps12
  go_wp2_with fail
  go_at_call 45
  refine (met_any b A L U key w HA.out hs).mono ?_
  rintro en w1 ⟨L1, h1, m1, he⟩
  have hg := h1.get key
  cases hl : DE.look L1.main key with
  | none =>
    rw [metEnd_none hl] at he
    subst he
    rw [hl] at hg
    have E1 := Lib.hid (tellEnd_none (f := fun r => .int .u64 r.stamp) (z := .int .u64 0) hg)
    have H1 := Lib.hid h1
    have M1 := Lib.hid m1
    clear h1 m1 hg hl
    go_wp2_with fail
    go_ret2
    exact ⟨⟨L1, H1.out, M1.out⟩, by rw [E1.out]; rfl⟩
  | some e =>
    rw [metEnd_some hl] at he
    subst he
    rw [hl] at hg
    have c0 : w1.cell? ⟨e, 2, none⟩ = some (.int .u64 (L1.rc e).stamp) := (h1.parts.ent e ⟨key, hl⟩).cell 2
    have E1 := Lib.hid (tellEnd_some (f := fun r => .int .u64 r.stamp) (z := .int .u64 0) hg)
    have H1 := Lib.hid h1
    have M1 := Lib.hid m1
    clear h1 m1 hg hl
    go_wp2_with fail
    go_ret2
    exact ⟨⟨L1, H1.out, M1.out⟩, by rw [E1.out]; rfl⟩

/-- What Get makes of a space. -/
def AS.got (A : AS) (key : ByteArray) : AS :=
  match (A.met key).get key with
  | some r => (A.met key).use key r
  | none => A.met key

set_option maxHeartbeats 1000000 in
theorem Get_any (b : Nat) (A : AS) (L : Lay) (U : List ByteArray) (key : ByteArray) (w : World) (h : SpaceAt w b A L U) (hs : key.size ≤ maxLen) :
    Calls Tryz.prog 13 #[.pointer (some ⟨b, 0, none⟩), .string key] w
      fun en w' => (∃ L', SpaceAt w' b (A.got key) L' U ∧ Moved w w' b L L') ∧ en = tellEnd (A.met key) key (fun r => .pointer (some ⟨r.vb, 0, none⟩)) (.pointer none) := by
  have HA := Lib.hid h
  clear h
  go_enter Tryz.func13, Tryz.ntmps13
  go_wp2_with fail
  go_at_call 45
  refine (met_any b A L U key w HA.out hs).mono ?_
  rintro en w1 ⟨L1, h1, m1, he⟩
  have hg := h1.get key
  cases hl : DE.look L1.main key with
  | none =>
    rw [metEnd_none hl] at he
    subst he
    rw [hl] at hg
    have e2 : A.got key = A.met key := by unfold AS.got; rw [hg]; rfl
    have E1 := Lib.hid (tellEnd_none (f := fun r => .pointer (some ⟨r.vb, 0, none⟩)) (z := .pointer none) hg)
    have E2 := Lib.hid e2
    have H1 := Lib.hid h1
    have M1 := Lib.hid m1
    clear h1 m1 hg hl e2
    go_wp2_with fail
    go_ret2
    exact ⟨⟨L1, by rw [E2.out]; exact H1.out, M1.out⟩, by rw [E1.out]; rfl⟩
  | some e =>
    rw [metEnd_some hl] at he
    subst he
    rw [hl] at hg
    have e2 : A.got key = (A.met key).use key (L1.rc e) := by unfold AS.got; rw [hg]; rfl
    have E1 := Lib.hid (tellEnd_some (f := fun r => .pointer (some ⟨r.vb, 0, none⟩)) (z := .pointer none) hg)
    have E2 := Lib.hid e2
    have H1 := Lib.hid h1
    have M1 := Lib.hid m1
    have HL := Lib.hid hl
    clear h1 m1 hg hl e2
    go_wp2_with fail
    go_at_call 52
    refine (use_any b (A.met key) L1 U key e w1 H1.out HL.out).mono ?_
    rintro en w2 ⟨rfl, L2, h2, m2, hm⟩
    have c0 : w2.cell? ⟨e, 0, none⟩ = some (.pointer (some ⟨(L1.rc e).vb, 0, none⟩)) := by
      have hl2 : DE.look L2.main key = some e := by rw [hm]; exact HL.out
      have h3 := (h2.parts.ent e ⟨key, hl2⟩).cell 0
      have h4 := h2.get key
      rw [hl2] at h4
      simp only [AS.use, if_true, Option.map_some, Option.some.injEq] at h4
      rw [← h4] at h3
      exact h3
    have H2 := Lib.hid h2
    have M2 := Lib.hid m2
    clear h2 m2 hm
    go_wp2_with fail
    go_ret2
    exact ⟨⟨L2, by rw [E2.out]; exact H2.out, M1.out.trans M2.out⟩, by rw [E1.out]; rfl⟩

/-- What a deadline's teller answers. -/
def dueEnd (A : AS) (key : ByteArray) : Ending :=
  match A.get key with
  | some r => if r.at_ = 0 then .returned (.tuple #[.int .i64 0, .bool false]) else .returned (.tuple #[.int .i64 r.at_, .bool true])
  | none => .returned (.tuple #[.int .i64 0, .bool false])

set_option maxHeartbeats 1000000 in
theorem Deadline_any (b : Nat) (A : AS) (L : Lay) (U : List ByteArray) (key : ByteArray) (w : World) (h : SpaceAt w b A L U) (hs : key.size ≤ maxLen) :
    Calls Tryz.prog 34 #[.pointer (some ⟨b, 0, none⟩), .string key] w
      fun en w' => (∃ L', SpaceAt w' b (A.met key) L' U ∧ Moved w w' b L L') ∧ en = dueEnd (A.met key) key := by
  have HA := Lib.hid h
  clear h
  go_enter Tryz.func34, Tryz.ntmps34
  go_wp2_with fail
  go_at_call 45
  refine (met_any b A L U key w HA.out hs).mono ?_
  rintro en w1 ⟨L1, h1, m1, he⟩
  have hg := h1.get key
  cases hl : DE.look L1.main key with
  | none =>
    rw [metEnd_none hl] at he
    subst he
    rw [hl] at hg
    have e1 : dueEnd (A.met key) key = .returned (.tuple #[.int .i64 0, .bool false]) := by unfold dueEnd; rw [hg]; rfl
    have E1 := Lib.hid e1
    have H1 := Lib.hid h1
    have M1 := Lib.hid m1
    clear h1 m1 hg hl e1
    go_wp2_with fail
    go_ret2
    exact ⟨⟨L1, H1.out, M1.out⟩, by rw [E1.out]; rfl⟩
  | some e =>
    rw [metEnd_some hl] at he
    subst he
    rw [hl] at hg
    have c3 : w1.cell? ⟨e, 3, none⟩ = some (.int .i64 (L1.rc e).at_) := (h1.parts.ent e ⟨key, hl⟩).cell 3
    have H1 := Lib.hid h1
    have M1 := Lib.hid m1
    by_cases h0 : (L1.rc e).at_ = 0
    · have e1 : dueEnd (A.met key) key = .returned (.tuple #[.int .i64 0, .bool false]) := by unfold dueEnd; rw [hg]; exact if_pos h0
      have E1 := Lib.hid e1
      clear h1 m1 hg hl e1
      go_wp2_with fail
      go_ret2
      exact ⟨⟨L1, H1.out, M1.out⟩, by rw [E1.out]; rfl⟩
    · have e1 : dueEnd (A.met key) key = .returned (.tuple #[.int .i64 (L1.rc e).at_, .bool true]) := by unfold dueEnd; rw [hg]; exact if_neg h0
      have E1 := Lib.hid e1
      clear h1 m1 hg hl e1
      go_wp2_with fail
      go_ret2
      exact ⟨⟨L1, H1.out, M1.out⟩, by rw [E1.out]; rfl⟩

/-- What Delete makes of a space. -/
def AS.deleted (A : AS) (key : ByteArray) : AS :=
  match (A.met key).get key with
  | some r => (A.met key).gone key r
  | none => A.met key
/-- What Evict makes of a space. -/
def AS.evicted (A : AS) (key : ByteArray) : AS :=
  match (A.met key).get key with
  | some r => ((A.met key).gone key r).stepped 2 key
  | none => A.met key

set_option maxHeartbeats 1000000 in
theorem Delete_any (b : Nat) (A : AS) (L : Lay) (U : List ByteArray) (key : ByteArray) (w : World) (h : SpaceAt w b A L U) (hs : key.size ≤ maxLen) :
    Calls Tryz.prog 29 #[.pointer (some ⟨b, 0, none⟩), .string key] w
      fun en w' => (∃ L', SpaceAt w' b (A.deleted key) L' U ∧ Moved w w' b L L' ∧ (((A.met key).get key).isSome = true → (A.deleted key).steps.length + 1 + L'.main.n ≤ U.length)) ∧ en = .returned (.bool ((A.met key).get key).isSome) := by
  have HA := Lib.hid h
  clear h
  go_enter Tryz.func29, Tryz.ntmps29
  go_wp2_with fail
  go_at_call 45
  refine (met_any b A L U key w HA.out hs).mono ?_
  rintro en w1 ⟨L1, h1, m1, he⟩
  have hg := h1.get key
  cases hl : DE.look L1.main key with
  | none =>
    rw [metEnd_none hl] at he
    subst he
    rw [hl] at hg
    have e2 : A.deleted key = A.met key := by unfold AS.deleted; rw [hg]; rfl
    have HG := Lib.hid hg
    have E2 := Lib.hid e2
    have H1 := Lib.hid h1
    have M1 := Lib.hid m1
    clear h1 m1 hg hl e2
    go_wp2_with fail
    go_ret
    exact ⟨⟨L1, by rw [E2.out]; exact H1.out, M1.out, fun h => by rw [HG.out] at h; cases h⟩, by rw [HG.out]; rfl⟩
  | some e =>
    rw [metEnd_some hl] at he
    subst he
    rw [hl] at hg
    have e2 : A.deleted key = (A.met key).gone key (L1.rc e) := by unfold AS.deleted; rw [hg]; rfl
    have HG := Lib.hid hg
    have E2 := Lib.hid e2
    have H1 := Lib.hid h1
    have M1 := Lib.hid m1
    have HL := Lib.hid hl
    clear h1 m1 hg hl e2
    go_wp2_with fail
    go_at_call 47
    refine (goes_any b (A.met key) L1 U key e w1 H1.out HL.out).mono ?_
    rintro en w2 ⟨rfl, L2, h2, m2, hm⟩
    have H2 := Lib.hid h2
    have M2 := Lib.hid m2
    have HM := Lib.hid hm
    clear h2 m2 hm
    go_wp2_with fail
    go_ret
    refine ⟨⟨L2, by rw [E2.out]; exact H2.out, M1.out.trans M2.out, fun _ => ?_⟩, by rw [HG.out]; rfl⟩
    rw [E2.out]
    have := H1.out.room
    have := HM.out
    show (A.met key).steps.length + 1 + L2.main.n ≤ U.length
    omega
end Go.Proofs.YtgjpaecpljifpaaGreat

namespace Go.Proofs.YtgjpaecpljifpaaGreat
open Go Go.RowKit Go.Proofs.YtgjpaecpljifpaaGreat Go.Maps Go.WideMaps

set_option maxHeartbeats 1000000 in
theorem Evict_any (b : Nat) (A : AS) (L : Lay) (U : List ByteArray) (key : ByteArray) (w : World) (h : SpaceAt w b A L U) (hs : key.size ≤ maxLen) :
    Calls Tryz.prog 91 #[.pointer (some ⟨b, 0, none⟩), .string key] w
      fun en w' => (∃ L', SpaceAt w' b (A.evicted key) L' U ∧ Moved w w' b L L') ∧ en = .returned (.bool ((A.met key).get key).isSome) := by
  have HA := Lib.hid h
  clear h
  go_enter Tryz.func91, Tryz.ntmps91
  go_wp2_with fail
  go_at_call 29
  refine (Delete_any b A L U key w HA.out hs).mono ?_
  rintro en w1 ⟨⟨L1, h1, m1, hr⟩, rfl⟩
  cases hg : (A.met key).get key with
  | none =>
    have e2 : A.evicted key = A.deleted key := by unfold AS.evicted AS.deleted; rw [hg]
    have HG := Lib.hid hg
    have E2 := Lib.hid e2
    have H1 := Lib.hid h1
    have M1 := Lib.hid m1
    clear h1 m1 hg hr e2
    simp only [Option.isSome_none]
    go_wp2_with fail
    go_ret
    exact ⟨⟨L1, by rw [E2.out]; exact H1.out, M1.out⟩, by rw [HG.out]; rfl⟩
  | some r =>
    have e2 : A.evicted key = (A.deleted key).stepped 2 key := by unfold AS.evicted AS.deleted; rw [hg]
    have hr := hr (by rw [hg]; rfl)
    have HG := Lib.hid hg
    have c10 : w1.cell? ⟨b, 10, none⟩ = some L1.sv := h1.parts.str.cell 10
    obtain ⟨i0, hi, hz0, hz1, hz2⟩ := info_parts infoStep
    have hsm : (A.deleted key).steps.length ≤ 4398046511104 := by have := h1.room; have := h1.small; unfold mostKeys at this; omega
    have E2 := Lib.hid e2
    have H1 := Lib.hid h1
    have M1 := Lib.hid m1
    have HR := Lib.hid hr
    clear h1 m1 hg hr e2
    simp only [Option.isSome_some]
    go_wp2_with (at_builtin; refine wpList_append_own_at _ rfl _ _ 42 rfl 0 83 i0 (.agg #[.int .i64 0, .string ByteArray.empty]) 2 24 Tryz.underlying42 hi hz0 hz1 hz2 rfl (by decide) _ _ _ rfl (H1.out.parts.steps.alloc _) ⟨w1.heap.size, 0, none⟩ 1 1 [.int .i64 2, .string key] rfl rfl ?_ ?_ ?_ ?_ (Nat.zero_le _) ?_)
    case refine_1 => exact cells_new _ _ _
    case refine_2 => simp [Value.oneCell']
    case refine_3 => unfold maxLen; omega
    case refine_4 => omega
    intro v' wn hown hgrow _ hat
    obtain ⟨ak, mk, ck, rfl⟩ := DE.ownsRow_slice hown
    obtain ⟨w0, hw0⟩ : ∃ w0, w1.alloc (.cells #[.int .i64 2, .string key] 83) = w0 := ⟨_, rfl⟩
    have hs0 : w0.heap.size = w1.heap.size + 1 := by rw [← hw0]; simp
    rw [hw0] at hgrow
    rw [← hs0] at hat
    have hS := step_end H1.out HR.out hw0 hown hgrow hat
    have kb : Keeps (fun r => L1.sv.ownBlock = some r) w1 wn := Keeps.grown (by rw [← hw0]; exact (Keeps.refl _ w1).alloc _) hgrow (fun k hk _ => hk)
    have bb : Blk wn b (spaceCells (A.deleted key) L1) 100 := kb.blk H1.out.parts.str (fun e => (H1.out.parts.ne.2.2.2 _ e).1 rfl)
    have c10' : wn.cell? ⟨b, 10, none⟩ = some L1.sv := bb.cell 10
    have f10' : wn.frozen? ⟨b, 10, none⟩ = false := bb.frozen 10
    have HS := Lib.hid hS
    clear hS hown hgrow hat bb kb hi hz0 hz1 hz2
    go_wp2_with fail
    go_ret
    exact ⟨⟨_, by rw [E2.out]; exact HS.out.1, M1.out.trans HS.out.2⟩, by rw [HG.out]; rfl⟩

/-- A space whose struct is written in one cell that no dict, map or row stands in. -/
theorem SpaceAt.struct {w w' : World} {b : Nat} {A A' : AS} {L : Lay} {U : List ByteArray} (h : SpaceAt w b A L U) (i : Nat) (v : Value) (hw : w.setCell ⟨b, i, none⟩ v = w') (hc : (spaceCells A L).setIfInBounds i v = spaceCells A' L)
    (hg : A'.get = A.get) (ht : A'.touched = A.touched) (hst : A'.steps = A.steps) (hnow : 0 ≤ A'.now) : SpaceAt w' b A' L U ∧ Moved w w' b L L :=
  ⟨{ parts := by rw [← hw, hst, ← hc]; exact h.parts.set_b i v
     get := by rw [hg]; exact h.get
     due := h.due
     one := h.one
     touched := by rw [ht]; exact h.touched
     univ := by rw [ht]; exact h.univ
     room := by rw [hst]; exact h.room
     small := h.small
     clock := hnow
     keys := h.keys }, by rw [← hw]; exact (Keeps.refl _ w).set _ (fun _ => .inl rfl), fun _ h => .inl h⟩

/-- What Tick answers, and makes of a space. -/
def AS.tickCode (now : Int) : Int := if now < 0 ∨ 9007199254740992 < now then 3 else 0
def AS.tick (A : AS) (now : Int) : AS := if now < 0 ∨ 9007199254740992 < now then A else { A with now := max A.now now }

set_option maxHeartbeats 1000000 in
theorem Tick_any (b : Nat) (A : AS) (L : Lay) (U : List ByteArray) (now : Int) (w : World) (h : SpaceAt w b A L U) :
    Calls Tryz.prog 15 #[.pointer (some ⟨b, 0, none⟩), .int .i64 now] w
      fun en w' => (∃ L', SpaceAt w' b (A.tick now) L' U ∧ Moved w w' b L L') ∧ en = .returned (.int .i64 (AS.tickCode now)) := by
  have c4 : w.cell? ⟨b, 4, none⟩ = some (.int .i64 A.now) := h.parts.str.cell 4
  have f4 : w.frozen? ⟨b, 4, none⟩ = false := h.parts.str.frozen 4
  have HA := Lib.hid h
  clear h
  by_cases h1 : now < 0
  · have E1 := Lib.hid (show A.tick now = A from if_pos (.inl h1))
    have E2 := Lib.hid (show AS.tickCode now = 3 from if_pos (.inl h1))
    go_enter Tryz.func15, Tryz.ntmps15
    go_wp2_with fail
    go_ret
    exact ⟨⟨L, by rw [E1.out]; exact HA.out, Moved.refl _ _ _⟩, by rw [E2.out]; rfl⟩
  · by_cases h2 : 9007199254740992 < now
    · have E1 := Lib.hid (show A.tick now = A from if_pos (.inr h2))
      have E2 := Lib.hid (show AS.tickCode now = 3 from if_pos (.inr h2))
      go_enter Tryz.func15, Tryz.ntmps15
      go_wp2_with fail
      go_ret
      exact ⟨⟨L, by rw [E1.out]; exact HA.out, Moved.refl _ _ _⟩, by rw [E2.out]; rfl⟩
    · have hno : ¬ (now < 0 ∨ 9007199254740992 < now) := by omega
      have E1 := Lib.hid (show A.tick now = { A with now := max A.now now } from if_neg hno)
      have E2 := Lib.hid (show AS.tickCode now = 0 from if_neg hno)
      go_enter Tryz.func15, Tryz.ntmps15
      go_wp2_with fail
      case inr =>
        go_ret
        obtain ⟨k1, k2⟩ := HA.out.struct (A' := { A with now := max A.now now }) 4 (.int .i64 A.now) rfl (by rw [show max A.now now = A.now by omega]; rfl) rfl rfl rfl (by have := HA.out.clock; show 0 ≤ max A.now now; omega)
        exact ⟨⟨L, by rw [E1.out]; exact k1, k2⟩, by rw [E2.out]; rfl⟩
      case inl =>
        go_ret
        obtain ⟨k1, k2⟩ := HA.out.struct (A' := { A with now := max A.now now }) 4 (.int .i64 now) rfl (by rw [show max A.now now = now by omega]; rfl) rfl rfl rfl (by have := HA.out.clock; show 0 ≤ max A.now now; omega)
        exact ⟨⟨L, by rw [E1.out]; exact k1, k2⟩, by rw [E2.out]; rfl⟩

set_option maxHeartbeats 1000000 in
theorem Now_any (b : Nat) (A : AS) (L : Lay) (U : List ByteArray) (w : World) (h : SpaceAt w b A L U) :
    Calls Tryz.prog 25 #[.pointer (some ⟨b, 0, none⟩)] w fun en w' => w = w' ∧ en = .returned (.int .i64 A.now) := by
  have c4 : w.cell? ⟨b, 4, none⟩ = some (.int .i64 A.now) := h.parts.str.cell 4
  clear h
  go_enter Tryz.func25, Tryz.ntmps25
  go_wp2_with fail
  go_ret
  exact ⟨rfl, rfl⟩

set_option maxHeartbeats 1000000 in
theorem Used_any (b : Nat) (A : AS) (L : Lay) (U : List ByteArray) (w : World) (h : SpaceAt w b A L U) :
    Calls Tryz.prog 27 #[.pointer (some ⟨b, 0, none⟩)] w fun en w' => w = w' ∧ en = .returned (.int .i64 A.used) := by
  have c6 : w.cell? ⟨b, 6, none⟩ = some (.int .i64 A.used) := h.parts.str.cell 6
  clear h
  go_enter Tryz.func27, Tryz.ntmps27
  go_wp2_with fail
  go_ret
  exact ⟨rfl, rfl⟩

/-- What a row of steps in memory is. -/
def StepsIn (w : World) (v : Value) (st : List (Int × ByteArray)) : Prop := w.ownsRow 0 83 2 v st.length (stepCells st)

set_option maxHeartbeats 1000000 in
theorem Steps_any (b : Nat) (A : AS) (L : Lay) (U : List ByteArray) (w : World) (h : SpaceAt w b A L U) :
    Calls Tryz.prog 19 #[.pointer (some ⟨b, 0, none⟩)] w
      fun en w' => (∃ L', SpaceAt w' b { A with steps := [] } L' U ∧ Moved w w' b L L' ∧ ∀ g, L.sv.ownBlock = some g → ¬ sfp b L' g) ∧ en = .returned L.sv ∧ StepsIn w' L.sv A.steps := by
  have c10 : w.cell? ⟨b, 10, none⟩ = some L.sv := h.parts.str.cell 10
  have f10 : w.frozen? ⟨b, 10, none⟩ = false := h.parts.str.frozen 10
  have HA := Lib.hid h
  clear h
  go_enter Tryz.func19, Tryz.ntmps19
  go_wp2_with fail
  go_ret
  have h := HA.out
  have hp := h.parts.set_b 10 (.slice none 0 0)
  refine ⟨⟨{ L with sv := .slice none 0 0 }, ⟨⟨hp.str, hp.main, hp.late, hp.apart, hp.ent, hp.map, World.ownsRow_nil _ _ _ _⟩, h.get, h.due, h.one, h.touched, h.univ, ?_, h.small, h.clock, h.keys⟩, ⟨(Keeps.refl _ w).set _ (fun _ => .inl rfl), ?_⟩, ?_⟩, rfl, hp.steps⟩
  · have := h.room; simp only [List.length_nil]; omega
  · rintro r (e | e | e | e | e | e)
    · exact .inl (.inl e)
    · exact .inl (.inr (.inl e))
    · exact .inl (.inr (.inr (.inl e)))
    · exact .inl (.inr (.inr (.inr (.inl e))))
    · exact .inl (.inr (.inr (.inr (.inr (.inl e)))))
    · cases e
  · intro g hg
    rintro (e | e | e | e | e | e)
    · exact (h.parts.ne.2.2.2 g hg).1 e
    · exact h.parts.not_main.2.2.2 g hg e
    · exact h.parts.not_late.2.2.2 g hg e
    · exact (h.parts.ne.2.2.2 g hg).2.2 g e rfl
    · exact (h.parts.ne.2.2.2 g hg).2.1 e
    · cases e
end Go.Proofs.YtgjpaecpljifpaaGreat

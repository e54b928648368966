/- A space in memory: Sweep as a call, all, Len. -/
import Derived.Test.YtgjpaecpljifpaaGreatSpS
namespace Go.Proofs.YtgjpaecpljifpaaGreat
open Go Go.RowKit Go.Proofs.YtgjpaecpljifpaaGreat Go.Maps Go.WideMaps

theorem Sweep_call (b : Nat) (A : AS) (L : Lay) (U : List ByteArray) (most : Int) (w : World) (h : SpaceAt w b A L U) (hm : 0 < most) :
    Calls Tryz.prog 30 #[.pointer (some ⟨b, 0, none⟩), .int .i64 most] w (Swept w b A L U most) :=
  callsIn_wide.1 (Sweep_any b A L U most w h hm)

set_option maxRecDepth 100000 in
set_option maxHeartbeats 1000000 in
theorem Sweep_zero (b : Nat) (n : Int) (w : World) (hn : n ≤ 0) :
    Calls Tryz.prog 30 #[.pointer (some ⟨b, 0, none⟩), .int .i64 n] w fun en w' => en = .returned (.int .i64 0) ∧ Keeps (fun _ => False) w w' := by
  go_enter Tryz.func30, Tryz.ntmps30
  go_wp2_with fail
  go_ret
  exact ⟨rfl, (Keeps.refl _ w).alloc _⟩

theorem DueKeys.few {A : AS} {ks : List ByteArray} (h : DueKeys A ks) {w : World} {b : Nat} {L : Lay} {U : List ByteArray} (hS : SpaceAt w b A L U) : ks.length < mostKeys := by
  refine Nat.lt_of_le_of_lt (List.Nodup.length_le_of_subset h.once fun k hk => ?_) hS.small
  obtain ⟨r, hr, _⟩ := (h.all k).1 hk
  refine hS.univ k (.inl ?_)
  rw [hS.get] at hr
  obtain ⟨e, he, _⟩ := Option.map_eq_some_iff.1 hr
  rw [he]; rfl

/-- All past keys have gone. -/
def Fresh (w : World) (b : Nat) (A : AS) (L : Lay) (U : List ByteArray) (L' : Lay) (ks : List ByteArray) (w' : World) : Prop :=
  DueKeys A ks ∧ SpaceAt w' b (A.falls ks) L' U ∧ Moved w w' b L L'

theorem Swept.fresh {w w' : World} {b : Nat} {A : AS} {L : Lay} {U : List ByteArray} {most : Int} {en : Ending} (h : Swept w b A L U most en w') (hS : SpaceAt w b A L U) (hm : 4398046511104 ≤ most) : ∃ ks L', Fresh w b A L U L' ks w' := by
  obtain ⟨ks, L', h1, h2, h3, _⟩ := h
  have := h1.few hS
  unfold mostKeys at this
  rw [List.take_of_length_le (by omega)] at h2
  exact ⟨ks, L', h1, h2, h3⟩

def isMax (x : Int) : Prop := 4398046511104 ≤ x
theorem max_is : isMax 9223372036854775807 := by unfold isMax; decide
theorem Sweep_max (b : Nat) (A : AS) (L : Lay) (U : List ByteArray) (most : Int) (w : World) (h : SpaceAt w b A L U) (hm : isMax most) :
    Calls Tryz.prog 30 #[.pointer (some ⟨b, 0, none⟩), .int .i64 most] w fun en w' => (∃ v, en = .returned v) ∧ ∃ ks L', Fresh w b A L U L' ks w' :=
  (Sweep_call b A L U most w h (by unfold isMax at hm; omega)).mono fun en w' hs => ⟨⟨_, hs.choose_spec.choose_spec.2.2.2⟩, hs.fresh h hm⟩

set_option maxRecDepth 100000 in
set_option maxHeartbeats 1000000 in
theorem all_any (b : Nat) (A : AS) (L : Lay) (U : List ByteArray) (w : World) (h : SpaceAt w b A L U) :
    Calls Tryz.prog 55 #[.pointer (some ⟨b, 0, none⟩)] w fun en w' => en = .returned (.bool true) ∧ ∃ ks L', Fresh w b A L U L' ks w' := by
  have H := Lib.hid h
  clear h
  go_enter Tryz.func55, Tryz.ntmps55
  go_wp2_with (go_at_call 30; refine (Sweep_max b A L U _ w H.out max_is).mono ?_; rintro e w' ⟨⟨v, rfl⟩, hk⟩; have HK := Lib.hid hk; clear hk)
  go_ret
  exact ⟨rfl, HK.out⟩

/-- Just these keys are stored. -/
structure KeysAre (A : AS) (l : List ByteArray) : Prop where
  once : l.Nodup
  all : ∀ k, k ∈ l ↔ (A.get k).isSome = true
theorem SpaceAt.keysAre {w : World} {b : Nat} {A : AS} {L : Lay} {U : List ByteArray} (h : SpaceAt w b A L U) : KeysAre A (L.main.ents.map fun e => e.key) := by
  refine ⟨ok_nodup h.parts.main.ok, fun k => ?_⟩
  rw [h.get, Option.isSome_map, List.mem_map]
  constructor
  · rintro ⟨e, he, rfl⟩
    rw [(DE.look_iff h.parts.main.ok).2 ⟨e, he, rfl, rfl⟩]; rfl
  · intro hk
    obtain ⟨v, hv⟩ := Option.isSome_iff_exists.1 hk
    obtain ⟨e, he, h1, _⟩ := (DE.look_iff h.parts.main.ok).1 hv
    exact ⟨e, he, h1⟩
theorem KeysAre.len {A : AS} {l l' : List ByteArray} (h : KeysAre A l) (h' : KeysAre A l') : l.length = l'.length :=
  Nat.le_antisymm (List.Nodup.length_le_of_subset h.once fun k hk => (h'.all k).2 ((h.all k).1 hk)) (List.Nodup.length_le_of_subset h'.once fun k hk => (h.all k).2 ((h'.all k).1 hk))
theorem SpaceAt.main_n {w : World} {b : Nat} {A : AS} {L : Lay} {U : List ByteArray} (h : SpaceAt w b A L U) {l : List ByteArray} (hl : KeysAre A l) : L.main.n = l.length := by
  rw [← DE.ents_len h.parts.main.ok, ← h.keysAre.len hl, List.length_map]

set_option maxRecDepth 100000 in
set_option maxHeartbeats 1000000 in
theorem Len_any (b : Nat) (A : AS) (L : Lay) (U : List ByteArray) (w : World) (h : SpaceAt w b A L U) :
    Calls Tryz.prog 18 #[.pointer (some ⟨b, 0, none⟩)] w fun en w' => ∃ ks L', Fresh w b A L U L' ks w' ∧ en = .returned (.int .i64 L'.main.n) := by
  have H := Lib.hid h
  clear h
  go_enter Tryz.func18, Tryz.ntmps18
  go_wp2_with fail
  go_at_call 55
  refine (all_any b A L U w H.out).mono ?_
  rintro e w' ⟨rfl, ks, L', hf⟩
  have c7 : w'.cell? ⟨b, 7, none⟩ = some (.pointer (some ⟨L'.mB, 0, none⟩)) := hf.2.1.parts.str.cell 7
  have hd := hf.2.1.parts.main.dict
  have HF := Lib.hid hf
  have HD := Lib.hid hd
  clear hf hd
  go_wp2_with fail
  go_at_call 56
  refine (DE.Len_any _ _ _ HD.out).mono ?_
  rintro e w2 ⟨rfl, rfl⟩
  go_wp2_with fail
  go_ret
  exact ⟨ks, L', HF.out, rfl⟩
end Go.Proofs.YtgjpaecpljifpaaGreat

/- Those that are due, in plain words: what a sweep makes of a space. -/
import Derived.Test.YtgjpaecpljifpaaGreatSpU
import Derived.Test.YtgjpaecpljifpaaGreatSpC
namespace Go.Proofs.YtgjpaecpljifpaaGreat
open Go Go.RowKit Go.Proofs.YtgjpaecpljifpaaGreat Go.Maps Go.WideMaps Go.Sort Go.Shelf

/-- A past key expires. -/
def AS.fall (A : AS) (key : ByteArray) : AS :=
  match A.get key with
  | some r => (A.gone key r).stepped 1 key
  | none => A
def AS.falls (A : AS) (ks : List ByteArray) : AS := ks.foldl AS.fall A

theorem fall_get (A : AS) (key k : ByteArray) : (A.fall key).get k = if k = key then none else A.get k := by
  unfold AS.fall
  cases h : A.get key with
  | some r => rfl
  | none =>
    dsimp only
    split
    · rename_i e; rw [e, h]
    · rfl
theorem falls_snoc (A : AS) (ks : List ByteArray) (k : ByteArray) : A.falls (ks ++ [k]) = (A.falls ks).fall k := by simp [AS.falls]
theorem falls_get (A : AS) (ks : List ByteArray) (k : ByteArray) : (k ∈ ks → (A.falls ks).get k = none) ∧ (k ∉ ks → (A.falls ks).get k = A.get k) := by
  unfold AS.falls
  induction ks generalizing A with
  | nil => exact ⟨(fun h => by cases h), fun _ => rfl⟩
  | cons x ks ih =>
    rw [List.foldl_cons]
    obtain ⟨h1, h2⟩ := ih (A.fall x)
    constructor
    · intro hk
      by_cases hk' : k ∈ ks
      · exact h1 hk'
      · rw [h2 hk', fall_get, if_pos]
        exact (List.mem_cons.1 hk).resolve_right hk'
    · intro hk
      rw [List.mem_cons, not_or] at hk
      rw [h2 hk.2, fall_get, if_neg hk.1]
theorem falls_now (A : AS) (ks : List ByteArray) : (A.falls ks).now = A.now := by
  unfold AS.falls
  induction ks generalizing A with
  | nil => rfl
  | cons x ks ih =>
    rw [List.foldl_cons, ih]
    unfold AS.fall
    split <;> rfl

/-- Just the past keys of a space, by their deadlines and their texts. -/
structure DueKeys (A : AS) (ks : List ByteArray) : Prop where
  all : ∀ k, k ∈ ks ↔ ∃ r, A.get k = some r ∧ A.past r.at_ = true
  once : ks.Nodup
  rising : ks.Pairwise fun k k' => ∀ r r', A.get k = some r → A.get k' = some r' → dueCmp r.at_ r'.at_ k k' < 0

/-- Those of the first k that are past. -/
def duesTo (A : AS) (L : Lay) (k : Nat) : List DEnt := (L.late.ents.take k).filter fun e => A.past (L.rc e.val).at_
theorem duesTo_yes {A : AS} {L : Lay} {k : Nat} {x : DEnt} (hx : L.late.ents[k]? = some x) (hp : A.past (L.rc x.val).at_ = true) : duesTo A L (k + 1) = duesTo A L k ++ [x] := by
  unfold duesTo; rw [List.take_add_one, hx, List.filter_append]; simp [hp]
theorem duesTo_no {A : AS} {L : Lay} {k : Nat} {x : DEnt} (hx : L.late.ents[k]? = some x) (hp : A.past (L.rc x.val).at_ = false) : duesTo A L (k + 1) = duesTo A L k := by
  unfold duesTo; rw [List.take_add_one, hx, List.filter_append]; simp [hp]
theorem duesTo_len (A : AS) (L : Lay) (k : Nat) : (duesTo A L k).length ≤ L.late.ents.length := by
  unfold duesTo
  exact Nat.le_trans (List.length_filter_le _ _) (by rw [List.length_take]; omega)

def dues (A : AS) (L : Lay) : List (LateE L) := L.late.ents.attach.filter fun e => A.past (L.rc e.1.val).at_
theorem dues_map (A : AS) (L : Lay) : (dues A L).map (fun x => x.1) = duesTo A L L.late.ents.length := by
  unfold dues duesTo
  rw [List.take_length]
  have := List.filter_map (f := fun x : LateE L => x.1) (p := fun e => A.past (L.rc e.val).at_) (l := L.late.ents.attach)
  rw [List.attach_map_subtype_val] at this
  rw [this]
  rfl

/-- Those that are due, in their order. -/
def duesBy (A : AS) (L : Lay) : List (LateE L) := (dues A L).mergeSort fun x y => !(ltOf (dueCf L)) y x
theorem duesBy_mem {A : AS} {L : Lay} {x : LateE L} : x ∈ duesBy A L ↔ A.past (L.rc x.1.val).at_ = true := by
  unfold duesBy dues
  rw [List.mem_mergeSort, List.mem_filter]
  simp
theorem duesBy_len (A : AS) (L : Lay) : (duesBy A L).length = (duesTo A L L.late.ents.length).length := by
  unfold duesBy
  rw [List.length_mergeSort, ← dues_map, List.length_map]

theorem SpaceAt.late_get {w : World} {b : Nat} {A : AS} {L : Lay} {U : List ByteArray} (h : SpaceAt w b A L U) (x : LateE L) : DE.look L.main x.1.key = some x.1.val ∧ A.get x.1.key = some (L.rc x.1.val) := by
  have hl : DE.look L.late x.1.key = some x.1.val := (DE.look_iff h.parts.late.ok).2 ⟨x.1, x.2, rfl, rfl⟩
  have hd := h.due x.1.key
  rw [hl] at hd
  have hm := (Option.filter_eq_some_iff.1 hd.symm).1
  exact ⟨hm, by rw [h.get, hm]; rfl⟩

theorem dueKeys_of {w : World} {b : Nat} {A : AS} {L : Lay} {U : List ByteArray} (h : SpaceAt w b A L U) : DueKeys A ((duesBy A L).map fun x => x.1.key) := by
  have hnd : ((duesBy A L).map fun x => x.1.key).Nodup := by
    have h0 : ((dues A L).map fun x => x.1.key).Nodup := by
      have : ((duesTo A L L.late.ents.length).map fun e => e.key).Nodup := by
        unfold duesTo
        rw [List.take_length]
        exact (ok_nodup h.parts.late.ok).sublist ((List.filter_sublist).map _)
      rw [← dues_map, List.map_map] at this
      exact this
    exact (List.Perm.map _ (List.mergeSort_perm _ _)).nodup_iff.2 h0
  refine ⟨fun k => ?_, hnd, ?_⟩
  · rw [List.mem_map]
    constructor
    · rintro ⟨x, hx, rfl⟩
      exact ⟨_, (h.late_get x).2, duesBy_mem.1 hx⟩
    · rintro ⟨r, hr, hp⟩
      rw [h.get] at hr
      obtain ⟨e, he, rfl⟩ := Option.map_eq_some_iff.1 hr
      have h0 : 0 < (L.rc e).at_ := by
        unfold AS.past at hp
        simp only [Bool.and_eq_true, decide_eq_true_eq] at hp
        exact hp.1
      have hl : DE.look L.late k = some e := by
        rw [h.due, he, Option.filter_some]; simp [h0]
      obtain ⟨x, hx, rfl, rfl⟩ := (DE.look_iff h.parts.late.ok).1 hl
      exact ⟨⟨x, hx⟩, duesBy_mem.2 hp, rfl⟩
  · have hswo := due_swo (fun x : LateE L => (L.rc x.1.val).at_) fun x => x.1.key
    have hs : (duesBy A L).Pairwise fun x y => (!(ltOf (dueCf L)) y x) = true :=
      List.pairwise_mergeSort (le := fun x y => !(ltOf (dueCf L)) y x) (fun x y z h1 h2 => by
        simp only [Bool.not_eq_true'] at *
        exact hswo.ntrans z y x h2 h1) (fun x y => by
        simp only [Bool.or_eq_true, Bool.not_eq_true']
        by_cases hxy : ltOf (dueCf L) y x = true
        · right
          cases h9 : ltOf (dueCf L) x y with
          | false => rfl
          | true =>
            have := hswo.trans x y x h9 hxy
            have h8 := hswo.irrefl x
            rw [this] at h8; cases h8
        · left; simpa using hxy) _
    rw [List.pairwise_map]
    have hn2 : (duesBy A L).Pairwise fun x y => x.1.key ≠ y.1.key := List.pairwise_map.1 hnd
    refine (hs.and hn2).imp ?_
    rintro x y ⟨h1, h2⟩ r r' hr hr'
    rw [(h.late_get x).2] at hr
    rw [(h.late_get y).2] at hr'
    injection hr with hr
    injection hr' with hr'
    subst hr hr'
    simp only [Bool.not_eq_true', ltOf, decide_eq_false_iff_not] at h1
    by_cases h3 : dueCmp (L.rc x.1.val).at_ (L.rc y.1.val).at_ x.1.key y.1.key < 0
    · exact h3
    · exact absurd (due_same h3 h1).2 h2
end Go.Proofs.YtgjpaecpljifpaaGreat

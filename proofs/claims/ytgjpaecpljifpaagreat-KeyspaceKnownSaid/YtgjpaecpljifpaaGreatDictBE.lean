/- The dict in memory (values: *pantry/keyspace.entry): find, moving, hang, New, Len. -/
import Derived.Test.YtgjpaecpljifpaaGreatDictAE
namespace Go.Proofs.YtgjpaecpljifpaaGreat.DE
open Go Go.RowKit Go.Proofs.YtgjpaecpljifpaaGreat

theorem IsDict.c0 {w : World} {b : Nat} {d : DM V} (h : IsDict w b d) : w.cell? ⟨b, 0, none⟩ = some (.int .u64 d.seed) := h.str.cell 0
theorem IsDict.c1 {w : World} {b : Nat} {d : DM V} (h : IsDict w b d) : w.cell? ⟨b, 1, none⟩ = some (tabVal d.old d.oldB) := h.str.cell 1
theorem IsDict.c2 {w : World} {b : Nat} {d : DM V} (h : IsDict w b d) : w.cell? ⟨b, 2, none⟩ = some (tabVal d.young d.youngB) := h.str.cell 2
theorem IsDict.c3 {w : World} {b : Nat} {d : DM V} (h : IsDict w b d) : w.cell? ⟨b, 3, none⟩ = some (.int .i64 d.at_) := h.str.cell 3
theorem IsDict.c4 {w : World} {b : Nat} {d : DM V} (h : IsDict w b d) : w.cell? ⟨b, 4, none⟩ = some (.int .i64 d.n) := h.str.cell 4

/-- What a table's value is, by cases. -/
theorem tabVal_nil (ob : Nat) : tabVal ([] : Tab V) ob = .slice none 0 0 := rfl
theorem tabVal_some {t : Tab V} (h : t ≠ []) (ob : Nat) : tabVal t ob = .slice (some ⟨ob, 0, none⟩) t.length t.length := by simp [tabVal, h]

theorem pow_of {hash : ByteArray → Nat} {t : Tab V} (h : TabOk hash t) (h0 : t ≠ []) : ∃ k, t.length = 2 ^ k := by
  rcases h.pow with h1 | ⟨k, _, hk⟩
  · exact absurd h1 h0
  · exact ⟨k, hk⟩

/-- link at whatever table of a dict. -/
theorem link_any (b ob : Nat) (seed : Int) (t : Tab V) (key : ByteArray) (w : World) (ht : TabOk (hashN seed) t) (hlt : t.length ≤ 9223372036854775807) (hs : key.size ≤ maxLen) (hc : w.cell? ⟨b, 0, none⟩ = some (.int .u64 seed)) (hT : t ≠ [] → Table w ob t) :
    Calls Tryz.prog 217 #[.pointer (some ⟨b, 0, none⟩), tabVal t ob, .string key] w
      fun e w' => LinkPost t ob (hashN seed key % t.length) key (link (hashN seed) t key) e ∧ w = w' := by
  by_cases h0 : t = []
  · subst h0
    exact (link_nil b key w).mono fun e w' ⟨he, hw⟩ => ⟨he, hw⟩
  · rw [tabVal_some h0]
    exact link_some b ob seed t key w (pow_of ht h0) hlt hs hc (hT h0)

/-- What find answers: the address of the pointer to the key's entry. -/
def FindPost (d : DM V) (key : ByteArray) (e : Ending) : Prop :=
  match (d.find (hashD d) key) with
  | none => e = .returned (.pointer none)
  | some x => ∃ (ob : Nat) (t : Tab V) (pre post : List E), ((ob = d.oldB ∧ t = d.old) ∨ (ob = d.youngB ∧ t = d.young ∧ link (hashD d) d.old key = none)) ∧ t ≠ [] ∧
      t.getD (hashD d key % t.length) [] = pre ++ x :: post ∧ (∀ y ∈ pre, y.key ≠ key) ∧ e = .returned (.pointer (some (place ob (hashD d key % t.length) pre)))

theorem getD_ne {t : Tab V} {i : Nat} {c : List E} (h : t.getD i [] = c) (hc : c ≠ []) : t ≠ [] := by
  intro h0; subst h0; simp at h; exact hc h

set_option maxHeartbeats 1000000 in
theorem find_any (b : Nat) (d : DM V) (key : ByteArray) (w : World) {cap : Nat} (hok : d.Ok (hashD d) cap) (hcap : cap ≤ 4398046511104) (hs : key.size ≤ maxLen) (hD : IsDict w b d) :
    Calls Tryz.prog 123 #[.pointer (some ⟨b, 0, none⟩), .string key] w fun e w' => FindPost d key e ∧ w = w' := by
  have h1 := hD.c1
  have h2 := hD.c2
  have hc := hD.c0
  have l1 := hok.oldLen
  have l2 := hok.youngLen
  cases hl : link (hashD d) d.old key with
  | some x =>
    have HL := Lib.hid hl
    clear hl
    go_enter Tryz.func123, Tryz.ntmps123
    go_wp2_with fail
    refine (link_any b d.oldB d.seed d.old key _ hok.old (by omega) hs hc hD.old).mono ?_
    rintro e w' ⟨hp, rfl⟩
    rw [HL.out] at hp
    obtain ⟨pre, post, g1, g2, rfl⟩ := hp
    rw [place_plain]
    have G1 := Lib.hid g1
    clear g1
    go_wp2_with fail
    go_ret
    have hf : d.find (hashD d) key = some x := by unfold DM.find; rw [HL.out]
    exact ⟨by unfold FindPost; rw [hf]; exact ⟨d.oldB, d.old, pre, post, .inl ⟨rfl, rfl⟩, getD_ne G1.out (by simp), G1.out, g2, by rw [place_plain]; rfl⟩, rfl⟩
  | none =>
    have HL := Lib.hid hl
    clear hl
    go_enter Tryz.func123, Tryz.ntmps123
    go_wp2_with fail
    refine (link_any b d.oldB d.seed d.old key _ hok.old (by omega) hs hc hD.old).mono ?_
    rintro e w' ⟨hp, rfl⟩
    rw [HL.out] at hp
    obtain rfl : e = .returned (.pointer none) := hp
    go_wp2_with fail
    refine (link_any b d.youngB d.seed d.young key _ hok.young (by omega) hs hc hD.young).mono ?_
    rintro e w' ⟨hp, rfl⟩
    cases hl2 : link (hashD d) d.young key with
    | none =>
      rw [hl2] at hp
      obtain rfl : e = .returned (.pointer none) := hp
      have hf : d.find (hashD d) key = none := by unfold DM.find; rw [HL.out]; exact hl2
      have HF := Lib.hid hf
      clear hf hl2
      go_wp2_with fail
      go_ret
      exact ⟨by unfold FindPost; rw [HF.out]; rfl, rfl⟩
    | some x =>
      rw [hl2] at hp
      obtain ⟨pre, post, g1, g2, rfl⟩ := hp
      have hf : d.find (hashD d) key = some x := by unfold DM.find; rw [HL.out]; exact hl2
      have HF := Lib.hid hf
      rw [place_plain]
      have G1 := Lib.hid g1
      clear g1 hf hl2
      go_wp2_with fail
      go_ret
      exact ⟨by unfold FindPost; rw [HF.out]; exact ⟨d.youngB, d.young, pre, post, .inr ⟨rfl, rfl, HL.out⟩, getD_ne G1.out (by simp), G1.out, g2, by rw [place_plain]; rfl⟩, rfl⟩
end Go.Proofs.YtgjpaecpljifpaaGreat.DE

namespace Go.Proofs.YtgjpaecpljifpaaGreat.DE
open Go Go.RowKit Go.Proofs.YtgjpaecpljifpaaGreat

theorem tabCells_set (t : Tab V) (i : Nat) (c : List E) : tabCells (t.set i c) = (tabCells t).setIfInBounds i (.pointer (headA c)) := by
  unfold tabCells
  rw [List.map_set]
  simp
theorem cellsOf_next (e : E) (nx v : Value) : (cellsOf e nx).setIfInBounds 2 v = cellsOf e v := rfl

theorem Table.ob_ne {w : World} {ob : Nat} {t : Tab V} (h : Table w ob t) {e : E} {nx : Value} (he : Blk w e.blk (cellsOf e nx) 189) : ob ≠ e.blk := h.row.ne he (by decide)
theorem Table.ob_ents {w : World} {ob : Nat} {t : Tab V} (h : Table w ob t) : ∀ x ∈ ents t, ob ≠ x.blk := by
  intro x hx
  obtain ⟨i, c, hc, hxc⟩ := ents_mem.1 hx
  obtain ⟨nx, hb⟩ := (h.chains c (List.mem_of_getElem? hc)).blk x hxc
  exact h.row.ne hb (by decide)

/-- The two stores of hang. -/
def hangW (w : World) (ob i : Nat) (t : Tab V) (e : E) : World :=
  (w.setCell ⟨e.blk, 2, none⟩ (.pointer (headA (t.getD i [])))).setCell ⟨ob, i, none⟩ (.pointer (some ⟨e.blk, 0, none⟩))

theorem hang_table {w : World} {ob : Nat} {t : Tab V} {hash : ByteArray → Nat} {e : E} {nx : Value} (h : Table w ob t) (he : Blk w e.blk (cellsOf e nx) 189) (hn : ∀ x ∈ ents t, x.blk ≠ e.blk) :
    Table (hangW w ob (hash e.key % t.length) t e) ob (hang hash t e) ∧ Keeps (fun r => r = ob ∨ r = e.blk) w (hangW w ob (hash e.key % t.length) t e) := by
  have hne := h.ob_ne he
  have hk : Keeps (fun r => r = ob ∨ r = e.blk) w (hangW w ob (hash e.key % t.length) t e) :=
    ((Keeps.refl _ w).set _ (fun _ => .inr rfl)).set _ (fun _ => .inl rfl)
  refine ⟨⟨?_, ?_⟩, hk⟩
  · unfold hang
    rw [tabCells_set]
    exact (h.row.set_ne _ hne).set _ _
  · intro c hc
    have hold : ∀ c' ∈ t, Chain (hangW w ob (hash e.key % t.length) t e) c' := by
      intro c' hc'
      refine (h.chains c' hc').of_heap ?_
      intro x hx
      have hxe : x ∈ ents t := List.mem_flatten.2 ⟨c', hc', hx⟩
      obtain ⟨nx', hb⟩ := (h.chains c' hc').blk x hx
      exact hk.same _ hb.lt (fun h1 => h1.elim (fun h1 => h.ob_ents x hxe h1.symm) (fun h1 => hn x hxe h1))
    rcases List.mem_or_eq_of_mem_set hc with hc | rfl
    · exact hold c hc
    · refine ⟨?_, ?_⟩
      · have h1 := (he.set 2 (.pointer (headA (t.getD (hash e.key % t.length) [])))).set_ne (a := ⟨ob, hash e.key % t.length, none⟩) (.pointer (some ⟨e.blk, 0, none⟩)) hne.symm
        rw [cellsOf_next] at h1
        exact h1
      · by_cases hi : hash e.key % t.length < t.length
        · exact hold _ (List.mem_of_getElem? (getD_eq hi))
        · rw [List.getD_eq_getElem?_getD, List.getElem?_eq_none (by omega)]; trivial

set_option maxHeartbeats 1000000 in
theorem hang_any (b ob : Nat) (seed : Int) (t : Tab V) (e : E) (nx : Value) (w : World) (ht : TabOk (hashN seed) t) (h0 : t ≠ []) (hlt : t.length ≤ 9223372036854775807) (hs : e.key.size ≤ maxLen)
    (hc : w.cell? ⟨b, 0, none⟩ = some (.int .u64 seed)) (hT : Table w ob t) (he : Blk w e.blk (cellsOf e nx) 189) :
    Calls Tryz.prog 125 #[.pointer (some ⟨b, 0, none⟩), .slice (some ⟨ob, 0, none⟩) t.length t.length, .pointer (some ⟨e.blk, 0, none⟩)] w
      fun r w' => r = .returned (.tuple #[]) ∧ hangW w ob (hashN seed e.key % t.length) t e = w' := by
  have hn := pow_of ht h0
  have hpos : 0 < t.length := List.length_pos_iff.2 h0
  have hm : hashN seed e.key % t.length < t.length := Nat.mod_lt _ hpos
  have hkey : w.cell? ⟨e.blk, 0, none⟩ = some (.string e.key) := he.cell 0
  obtain ⟨vx, hnx⟩ : ∃ vx, w.cell? ⟨e.blk, 2, none⟩ = some vx := ⟨_, he.cell 2⟩
  have hfe : w.frozen? ⟨e.blk, 2, none⟩ = false := he.frozen 2
  have hcell := hT.cell hm
  have hfo : w.frozen? ⟨ob, hashN seed e.key % t.length, none⟩ = false := hT.row.frozen _
  have hne := hT.ob_ne he
  have hcell2 : (w.setCell ⟨e.blk, 2, none⟩ (.pointer (headA (t.getD (hashN seed e.key % t.length) [])))).cell? ⟨ob, hashN seed e.key % t.length, none⟩ = some (.pointer (headA (t.getD (hashN seed e.key % t.length) []))) := by
    rw [World.cell?_setCell_other _ _ _ _ (by intro h; exact hne (by injection h with h; exact h.symm))]; exact hcell
  obtain ⟨i, hi⟩ : ∃ i, hashN seed e.key % t.length = i := ⟨_, rfl⟩
  have HI := Lib.hid hi
  unfold hangW
  have hsl := slot_any b ob seed t.length e.key w hn hlt hs hc
  rw [hi] at hm hcell hfo hcell2 hsl ⊢
  obtain ⟨hd, hhd⟩ : ∃ hd, headA (t.getD i []) = hd := ⟨_, rfl⟩
  rw [hhd] at hcell hcell2 ⊢
  clear hhd
  have HS := Lib.hid hsl
  clear hi hn hsl hT he
  go_enter Tryz.func125, Tryz.ntmps125
  go_wp2_with (go_at_call 218; refine HS.out.mono ?_; rintro r w' ⟨rfl, rfl⟩)
  go_end0
  exact ⟨rfl, rfl⟩

set_option maxHeartbeats 400000 in
theorem moving_any (b : Nat) (d : DM V) (w : World) (hD : IsDict w b d) :
    Calls Tryz.prog 124 #[.pointer (some ⟨b, 0, none⟩)] w fun e w' => e = .returned (.bool (decide (d.young ≠ []))) ∧ w = w' := by
  have h2 := hD.c2
  by_cases h0 : d.young = []
  · rw [h0, tabVal_nil] at h2
    go_enter Tryz.func124, Tryz.ntmps124
    go_wp2
    go_ret
    exact ⟨by simp [h0], rfl⟩
  · rw [tabVal_some h0] at h2
    have hp : 0 < d.young.length := List.length_pos_iff.2 h0
    go_enter Tryz.func124, Tryz.ntmps124
    go_wp2
    go_ret
    exact ⟨by simp [h0], rfl⟩

def newD (seed : Int) : DM V := ⟨seed, [], [], 0, 0, 0, 0⟩
set_option maxHeartbeats 400000 in
theorem New_any (seed : Int) (w : World) :
    Calls Tryz.prog 44 #[.int .u64 seed] w fun e w' => e = .returned (.pointer (some ⟨w.heap.size, 0, none⟩)) ∧ IsDict w' w.heap.size (newD seed) ∧ Keeps (fun _ => False) w w' := by
  go_enter Tryz.func44, Tryz.ntmps44
  go_wp2
  go_ret
  refine ⟨rfl, ⟨Blk.new _ _ _, fun h => absurd rfl h, fun h => absurd rfl h, fun h => absurd rfl h⟩, (Keeps.refl _ w).alloc _⟩

set_option maxHeartbeats 400000 in
theorem Len_any (b : Nat) (d : DM V) (w : World) (hD : IsDict w b d) :
    Calls Tryz.prog 56 #[.pointer (some ⟨b, 0, none⟩)] w fun e w' => e = .returned (.int .i64 d.n) ∧ w = w' := by
  have h4 := hD.c4
  go_enter Tryz.func56, Tryz.ntmps56
  go_wp2
  go_ret
  exact ⟨rfl, rfl⟩
end Go.Proofs.YtgjpaecpljifpaaGreat.DE

/- The dict in memory (values: *pantry/keyspace.entry): what its blocks hold; slot, link, find, hang. -/
import Derived.Test.YtgjpaecpljifpaaGreatProg
import Derived.Test.YtgjpaecpljifpaaGreatHeap
import Derived.Test.YtgjpaecpljifpaaGreatDictM
import Derived.Test.YtgjpaecpljifpaaGreatHash
import Derived.WalkKit
import Derived.Deep.Draws
import Derived.Outline
import Derived.Lib.Hide
import Derived.Deep.LoopGhost
namespace Go.Proofs.YtgjpaecpljifpaaGreat.DE
open Go Go.RowKit Go.Proofs.YtgjpaecpljifpaaGreat
abbrev V := Nat
abbrev E := Ent V
/-- The pointer to a chain's head. -/
def headA : List E → Option Addr
  | [] => none
  | e :: _ => some ⟨e.blk, 0, none⟩
def cellsOf (e : E) (nx : Value) : Array Value := #[.string e.key, .pointer (some ⟨e.val, 0, none⟩), nx]
def Chain (w : World) : List E → Prop
  | [] => True
  | e :: r => Blk w e.blk (cellsOf e (.pointer (headA r))) 189 ∧ Chain w r
def tabCells (t : Tab V) : Array Value := (t.map fun c => Value.pointer (headA c)).toArray
structure Table (w : World) (ob : Nat) (t : Tab V) : Prop where
  row : Blk w ob (tabCells t) 187
  chains : ∀ c ∈ t, Chain w c
def tabVal (t : Tab V) (ob : Nat) : Value := if t = [] then .slice none 0 0 else .slice (some ⟨ob, 0, none⟩) t.length t.length
abbrev hashD (d : DM V) : ByteArray → Nat := hashN d.seed
structure IsDict (w : World) (b : Nat) (d : DM V) : Prop where
  str : Blk w b #[.int .u64 d.seed, tabVal d.old d.oldB, tabVal d.young d.youngB, .int .i64 d.at_, .int .i64 d.n] 184
  old : d.old ≠ [] → Table w d.oldB d.old
  young : d.young ≠ [] → Table w d.youngB d.young
  ne : d.old ≠ [] → d.young ≠ [] → d.oldB ≠ d.youngB

theorem Chain.of_heap {w w' : World} : ∀ {l : List E}, Chain w l → (∀ e ∈ l, w'.heap[e.blk]? = w.heap[e.blk]?) → Chain w' l
  | [], _, _ => trivial
  | e :: _, ⟨h, hr⟩, k => ⟨h.of_heap (k e List.mem_cons_self), hr.of_heap fun x hx => k x (List.mem_cons_of_mem _ hx)⟩
theorem Chain.blk {w : World} : ∀ {l : List E}, Chain w l → ∀ e ∈ l, ∃ nx, Blk w e.blk (cellsOf e nx) 189
  | _ :: _, ⟨h, hr⟩, x, hx => by
    rcases List.mem_cons.1 hx with rfl | hx
    · exact ⟨_, h⟩
    · exact hr.blk x hx
theorem Chain.suffix {w : World} : ∀ {p l : List E}, Chain w (p ++ l) → Chain w l
  | [], _, h => h
  | _ :: p, _, h => Chain.suffix (p := p) h.2
theorem Table.of_heap {w w' : World} {ob : Nat} {t : Tab V} (h : Table w ob t) (h0 : w'.heap[ob]? = w.heap[ob]?) (he : ∀ e ∈ ents t, w'.heap[e.blk]? = w.heap[e.blk]?) : Table w' ob t :=
  ⟨h.row.of_heap h0, fun c hc => (h.chains c hc).of_heap fun e hx => he e (List.mem_flatten.2 ⟨c, hc, hx⟩)⟩
theorem Table.cell {w : World} {ob : Nat} {t : Tab V} (h : Table w ob t) {i : Nat} (hi : i < t.length) : w.cell? ⟨ob, i, none⟩ = some (.pointer (headA (t.getD i []))) := by
  rw [h.row.cell, tabCells, List.getElem?_toArray, List.getElem?_map, getD_eq hi]; rfl
theorem Table.chain {w : World} {ob : Nat} {t : Tab V} (h : Table w ob t) (i : Nat) : Chain w (t.getD i []) := by
  by_cases hi : i < t.length
  · exact h.chains _ (List.mem_of_getElem? (getD_eq hi))
  · rw [List.getD_eq_getElem?_getD, List.getElem?_eq_none (by omega)]; trivial

/-- Where the pointer to what comes behind 'pre' lies. -/
def place (ob i : Nat) (pre : List E) : Addr :=
  match pre.getLast? with
  | none => ⟨ob, i, none⟩
  | some e => ⟨e.blk, 2, none⟩
theorem place_snoc (ob i : Nat) (pre : List E) (e : E) : place ob i (pre ++ [e]) = ⟨e.blk, 2, none⟩ := by simp [place]
theorem place_plain (ob i : Nat) (pre : List E) : place ob i pre = ⟨(place ob i pre).block, (place ob i pre).off, none⟩ := by
  unfold place; split <;> rfl

set_option maxHeartbeats 400000 in
theorem slot_any (b ob : Nat) (seed : Int) (n : Nat) (key : ByteArray) (w : World) (hn : ∃ k, n = 2 ^ k) (hlt : n ≤ 9223372036854775807) (hs : key.size ≤ maxLen) (hc : w.cell? ⟨b, 0, none⟩ = some (.int .u64 seed)) :
    Calls Tryz.prog 218 #[.pointer (some ⟨b, 0, none⟩), .slice (some ⟨ob, 0, none⟩) n n, .string key] w
      fun e w' => e = .returned (.pointer (some ⟨ob, hashN seed key % n, none⟩)) ∧ w = w' := by
  have hpos : 0 < n := by obtain ⟨k, rfl⟩ := hn; exact Nat.pow_pos (by omega)
  have hsl := slot_eq seed key n hn hlt
  have hm : hashN seed key % n < n := Nat.mod_lt _ hpos
  clear hn
  go_enter Tryz.func218, Tryz.ntmps218
  go_wp2_with (go_at_call 305; refine (hash_any _ _ _ hs).mono ?_; rintro e w' ⟨rfl, rfl⟩)
  go_ret
  exact ⟨by simp, rfl⟩

/-- What link answers. -/
def LinkPost (t : Tab V) (ob i : Nat) (key : ByteArray) (r : Option E) (e : Ending) : Prop :=
  match r with
  | none => e = .returned (.pointer none)
  | some x => ∃ pre post, t.getD i [] = pre ++ x :: post ∧ (∀ y ∈ pre, y.key ≠ key) ∧ e = .returned (.pointer (some (place ob i pre)))

theorem link_hit {t : Tab V} {hash : ByteArray → Nat} {key : ByteArray} {pre post : List E} {x : E} (h : t.getD (hash key % t.length) [] = pre ++ x :: post) (hp : ∀ y ∈ pre, y.key ≠ key) (hx : x.key = key) :
    link hash t key = some x := by
  unfold link
  rw [h, List.find?_append, List.find?_eq_none.2 (by intro y hy; simpa using hp y hy)]
  simp [hx]
theorem link_miss {t : Tab V} {hash : ByteArray → Nat} {key : ByteArray} (hp : ∀ y ∈ t.getD (hash key % t.length) [], y.key ≠ key) : link hash t key = none := by
  unfold link
  exact List.find?_eq_none.2 (by intro y hy; simpa using hp y hy)

set_option maxHeartbeats 400000 in
theorem link_nil (b : Nat) (key : ByteArray) (w : World) :
    Calls Tryz.prog 217 #[.pointer (some ⟨b, 0, none⟩), .slice none 0 0, .string key] w
      fun e w' => e = .returned (.pointer none) ∧ w = w' := by
  go_enter Tryz.func217, Tryz.ntmps217
  go_wp2_with fail
  go_ret
  exact ⟨rfl, rfl⟩
set_option maxHeartbeats 1000000 in
theorem link_some (b ob : Nat) (seed : Int) (t : Tab V) (key : ByteArray) (w : World) (hn : ∃ k, t.length = 2 ^ k) (hlt : t.length ≤ 9223372036854775807) (hs : key.size ≤ maxLen) (hc : w.cell? ⟨b, 0, none⟩ = some (.int .u64 seed)) (hT : Table w ob t) :
    Calls Tryz.prog 217 #[.pointer (some ⟨b, 0, none⟩), .slice (some ⟨ob, 0, none⟩) t.length t.length, .string key] w
      fun e w' => LinkPost t ob (hashN seed key % t.length) key (link (hashN seed) t key) e ∧ w = w' := by
  have hpos : 0 < t.length := by obtain ⟨k, hk⟩ := hn; rw [hk]; exact Nat.pow_pos (by omega)
  have hm : hashN seed key % t.length < t.length := Nat.mod_lt _ hpos
  have hcell := hT.cell hm
  have hchain := hT.chain (hashN seed key % t.length)
  obtain ⟨c, hcc⟩ : ∃ c, t.getD (hashN seed key % t.length) [] = c := ⟨_, rfl⟩
  rw [hcc] at hcell hchain
  have hlen : ((t.length : Int) == 0) = false := by simp; intro h; rw [h] at hpos; simp at hpos
  have HC := Lib.hid hcc
  clear hcc
  go_enter Tryz.func217, Tryz.ntmps217
  go_wp2_with (go_at_call 218; refine (slot_any _ _ _ _ _ _ hn hlt hs hc).mono ?_; rintro e w' ⟨rfl, rfl⟩)
  go_loopg [7] c.length (fun k p wr => w = wr ∧ ∃ pre rest, Hid (c = pre ++ rest ∧ (∀ y ∈ pre, y.key ≠ key) ∧ Chain w rest ∧ w.cell? (place ob (hashN seed key % t.length) pre) = some (.pointer (headA rest)) ∧ rest.length = k) ∧ p = .pointer (some (place ob (hashN seed key % t.length) pre)))
  case atStart => exact ⟨rfl, [], c, ⟨rfl, by simp, hchain, hcell, rfl⟩, rfl⟩
  case round =>
    obtain ⟨rfl, pre, rest, H, rfl⟩ := hrel
    obtain ⟨h1, h2, h3, h4, h5⟩ := H.out
    rw [place_plain] at h4
    rw [place_plain]
    cases rest with
    | nil =>
      simp only [headA] at h4
      have hmiss : link (hashN seed) t key = none := link_miss (by rw [HC.out, h1, List.append_nil]; exact h2)
      have HM := Lib.hid hmiss
      clear h1 h2 h3 h5 hchain hcell hmiss
      go_wp2_with fail
      go_ret
      exact ⟨by rw [HM.out]; rfl, rfl⟩
    | cons e rest =>
      simp only [headA] at h4
      have hb := h3.1
      have hk := hb.cell 0
      have hx := hb.cell 2
      simp only [cellsOf] at hk hx
      have hkey : w.cell? ⟨e.blk, 0, none⟩ = some (.string e.key) := hk
      have hnext : w.cell? ⟨e.blk, 2, none⟩ = some (.pointer (headA rest)) := hx
      have H1 := Lib.hid h1
      have H2 := Lib.hid h2
      have H3 := Lib.hid h3
      have H5 := Lib.hid h5
      clear h1 h2 h3 h5 hchain hcell hk hx hb
      go_wp2_with fail
      · have ht : (e.key.toList == key.toList) = true := by assumption
        have h1 := H1.out
        have hit : link (hashN seed) t key = some e := link_hit (by rw [HC.out]; exact h1) H2.out (text_eq ht)
        go_ret
        exact ⟨by rw [hit]; exact ⟨pre, rest, by rw [HC.out]; exact h1, H2.out, by rw [place_plain]; rfl⟩, rfl⟩
      · have ht : (e.key.toList == key.toList) = false := by assumption
        have h3 := H3.out
        have h5 := H5.out
        go_roundg rest.length
        case measure => simp at h5; omega
        case rel => exact ⟨rfl, pre ++ [e], rest, ⟨by rw [H1.out]; simp, by
          intro y hy
          rcases List.mem_append.1 hy with hy | hy
          · exact H2.out y hy
          · rw [List.mem_singleton.1 hy]; exact text_ne ht, h3.2, by rw [place_snoc]; exact hnext, rfl⟩, by rw [place_snoc]⟩
end Go.Proofs.YtgjpaecpljifpaaGreat.DE

/- Behind a sort of a row of structs: what lies in it, what else has turned. -/
import Derived.Test.YtgjpaecpljifpaaGreatHeap
import Derived.Shelf.SlSortCmp.NoneTotal
import Derived.Sort.OwnSorted
namespace Go.Proofs.YtgjpaecpljifpaaGreat
open Go Go.RowKit Go.Proofs.YtgjpaecpljifpaaGreat Go.Sort Go.Shelf

theorem sortK_keeps {α : Type} [Inhabited α] (enc : α → List Value) (k : Nat) (w : World) (g n : Nat) (d : Array α) (os : Array Obj) : Keeps (fun r => r = g) w (sortWorldK enc k w g 0 n d os) := by
  refine ⟨by simp [sortWorldK, Go.Sort.grow, putRowK, putRow, mapBlock, Sort.ahead], fun r hr hn => ?_, by simp [sortWorldK, Go.Sort.grow, putRowK, putRow, mapBlock, Sort.ahead], by simp [sortWorldK, Go.Sort.grow, putRowK, putRow, mapBlock, Sort.ahead]⟩
  unfold sortWorldK
  rw [heap_grow_old _ _ (by simpa [putRowK, putRow, mapBlock, Sort.ahead] using hr)]
  have : g ≠ r := fun e => hn e.symm
  simp [putRowK, putRow, mapBlock, Sort.ahead, Array.getElem?_modify, this]

theorem sortK_blk {α : Type} [Inhabited α] (enc : α → List Value) (k : Nat) {w : World} {g : Nat} {cur : Array Value} {t : TypeId} (n : Nat) (d : Array α) (os : Array Obj) (hb : Blk w g cur t) : Blk (sortWorldK enc k w g 0 n d os) g (putCells id 0 (flatK enc k d) cur) t := by
  have hg : g < w.heap.size := hb.lt
  have hb' : w.heap[g]? = some (.cells cur t (0, 0)) := hb
  unfold Blk sortWorldK
  rw [heap_grow_old _ _ (by simpa [putRowK, putRow, mapBlock, Sort.ahead] using hg)]
  simp [putRowK, putRow, mapBlock, Sort.ahead, Array.getElem?_modify, hb', onCells]

theorem flat_get {α : Type} (enc : α → List Value) (k : Nat) (hk : ∀ x, (enc x).length = k) (h0 : 0 < k) : ∀ (l : List α) (t : Nat), (l.flatMap enc)[t]? = (l[t / k]?).bind fun x => (enc x)[t % k]?
  | [], t => by simp
  | x :: l, t => by
    rw [List.flatMap_cons]
    by_cases ht : t < k
    · rw [List.getElem?_append_left (by rw [hk]; exact ht), Nat.div_eq_of_lt ht, Nat.mod_eq_of_lt ht]
      simp
    · obtain ⟨s, rfl⟩ : ∃ s, t = k + s := ⟨t - k, by omega⟩
      rw [List.getElem?_append_right (by rw [hk]; omega), hk, Nat.add_sub_cancel_left, flat_get enc k hk h0 l s, Nat.add_div_left s h0, Nat.add_mod_left]
      simp

theorem flatK_list {α : Type} [Inhabited α] (enc : α → List Value) (k : Nat) (hk : ∀ x, (enc x).length = k) (h0 : 0 < k) (d : Array α) : (flatK enc k d).toList = d.toList.flatMap enc := by
  apply List.ext_getElem?
  intro t
  rw [flat_get enc k hk h0]
  by_cases ht : t < d.size * k
  · have hd : t / k < d.size := by rw [Nat.div_lt_iff_lt_mul h0]; exact ht
    have hm : t % k < (enc d[t / k]).length := by rw [hk]; exact Nat.mod_lt _ h0
    rw [Array.getElem?_toList, Array.getElem?_eq_getElem (by simpa using ht)]
    have := get_flatK enc k d t ht
    rw [getElem!_pos _ t (by simpa using ht)] at this
    rw [this, getElem!_pos d (t / k) hd, getElem!_pos _ (t % k) hm]
    simp [hd, List.getElem?_eq_getElem hm]
  · have hd : ¬ t / k < d.size := by rw [Nat.div_lt_iff_lt_mul h0]; exact ht
    rw [List.getElem?_eq_none (by simpa using Nat.le_of_not_lt ht), Array.getElem?_toList, Array.getElem?_eq_none (by omega)]
    rfl

theorem take_putK (cur F : Array Value) (h : F.size ≤ cur.size) : (putCells id 0 F cur).toList.take F.size = F.toList := by
  apply List.ext_getElem?
  intro j
  by_cases hj : j < F.size
  · rw [List.getElem?_take_of_lt hj, Array.getElem?_toList]
    simp [putCells, hj, show j < cur.size by omega]
  · rw [List.getElem?_take_eq_none (by omega), List.getElem?_eq_none (by simp; omega)]

theorem holdsK_of_block {α : Type} [Inhabited α] (enc : α → List Value) (k : Nat) (hk : ∀ x, (enc x).length = k) (h0 : 0 < k) {w : World} {g : Nat} {cur : Array Value} {t : TypeId} (hb : Blk w g cur t) (l : List α)
    (ht : cur.toList.take (l.length * k) = l.flatMap enc) : HoldsK enc k w g 0 l.toArray := by
  intro j hj
  have hF : (flatK enc k l.toArray).toList = l.flatMap enc := flatK_list enc k hk h0 l.toArray
  have hj' : j < l.length * k := by simpa using hj
  rw [Nat.zero_add, hb.cell j]
  refine ⟨?_, hb.frozen j⟩
  have h1 : (cur.toList.take (l.length * k))[j]? = (flatK enc k l.toArray).toList[j]? := by rw [ht, hF]
  rw [List.getElem?_take_of_lt hj', Array.getElem?_toList, Array.getElem?_toList] at h1
  rw [h1, Array.getElem?_eq_getElem hj, getElem!_pos _ j hj]
  rfl

/-- Behind the sort the same slice owns the sorted list. -/
theorem ownsRow_sortK {α : Type} [Inhabited α] (enc : α → List Value) (k : Nat) (hk : ∀ x, (enc x).length = k) (h0 : 0 < k) {w : World} {base g cap n : Nat} {e : TypeId} {os : Array Obj} {cur : Array Value} {l l' : List α} (hl : l'.length = l.length) (hbase : base ≤ g) (hb : Blk w g cur e)
    (h1 : l.length ≤ cap) (h2 : cap ≤ maxLen) (h3 : cur.size = cap * k) :
    (sortWorldK enc k w g 0 n l'.toArray os).ownsRow base e k (.slice (some ⟨g, 0, none⟩) l.length cap) l.length (l'.flatMap enc) := by
  have hlen : ∀ l : List α, (l.flatMap enc).length = l.length * k := by
    intro l
    induction l with
    | nil => simp
    | cons x l ih => rw [List.flatMap_cons, List.length_append, hk, ih, List.length_cons, Nat.add_mul]; omega
  refine ⟨by rw [hlen, hl], .inr ⟨g, cap, _, rfl, hbase, sortK_blk enc k n l'.toArray os hb, h1, h2, by simp [putCells, h3], ?_⟩⟩
  have hF : (flatK enc k l'.toArray).toList = l'.flatMap enc := flatK_list enc k hk h0 l'.toArray
  have hs : (flatK enc k l'.toArray).size = l.length * k := by simp [hl]
  have := take_putK cur (flatK enc k l'.toArray) (by rw [hs, h3]; exact Nat.mul_le_mul_right k h1)
  rw [hs, hF] at this
  exact this
end Go.Proofs.YtgjpaecpljifpaaGreat

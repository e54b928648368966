/- A deque in memory: its row of chunks, with one chunk less. -/
import Derived.Test.YtgjpaecpljifpaaGreatDqF
import Derived.Test.YtgjpaecpljifpaaGreatShelf
namespace Go.Proofs.YtgjpaecpljifpaaGreat
open Go Go.RowKit Go.Proofs.YtgjpaecpljifpaaGreat Go.Sort Go.Shelf

def encP (o : Option Nat) : Value := .pointer (o.map fun c => ⟨c, 0, none⟩)
theorem ckPtr_enc (cs : List Ck) : cs.map ckPtr = (cs.map fun c => some c.1).map encP := by simp [ckPtr, encP, Function.comp_def]
theorem encP_one : OneCell encP := fun _ => rfl
theorem zeroCk (w : World) : (zeroValue 205).run Tryz.prog w = .ok (encP none) w := by kernel_rfl
theorem infoCk : (Tryz.prog.info? 205).map (fun i => (i.zero, i.size, i.bytes)) = some (some (.pointer none), 1, 8) := by kernel_rfl

theorem putRow_blk {α : Type} [Inhabited α] (enc : α → Value) {w : World} {g : Nat} {cur : Array Value} {t : TypeId} (hb : Blk w g cur t) (k : Nat) (D : Array α) : Blk (putRow enc (Sort.ahead w k) g 0 D) g (putCells enc 0 D cur) t := by
  have hb' : w.heap[g]? = some (.cells cur t (0, 0)) := hb
  unfold Blk
  simp [putRow, mapBlock, Sort.ahead, Array.getElem?_modify, hb', onCells]
theorem putRow_keeps {α : Type} [Inhabited α] (enc : α → Value) (w : World) (g k : Nat) (D : Array α) : Keeps (fun r => r = g) w (putRow enc (Sort.ahead w k) g 0 D) := by
  refine ⟨by simp [putRow, mapBlock, Sort.ahead], fun r hr hn => ?_, rfl, rfl⟩
  have : g ≠ r := fun e => hn e.symm
  simp [putRow, mapBlock, Sort.ahead, Array.getElem?_modify, this]
theorem putCells_take {α : Type} [Inhabited α] (enc : α → Value) (D : Array α) (cur : Array Value) (m : Nat) (hm : m ≤ D.size) (hD : D.size ≤ cur.size) : (putCells enc 0 D cur).toList.take m = (D.toList.take m).map enc := by
  apply List.ext_getElem?
  intro j
  by_cases hj : j < m
  · have h1 : j < D.size := by omega
    have h2 : j < cur.size := by omega
    rw [List.getElem?_take_of_lt hj, List.getElem?_map, List.getElem?_take_of_lt hj, Array.getElem?_toList, Array.getElem?_toList]
    simp [putCells, h1, h2]
  · rw [List.getElem?_take_eq_none (by omega), List.getElem?_eq_none (by simp; omega)]

theorem holds_row {w : World} {g n cap : Nat} {cs : List Ck} {base : Nat} (h : w.ownsRow base 205 1 (.slice (some ⟨g, 0, none⟩) n cap) n (cs.map ckPtr)) : Holds encP w g 0 (cs.map fun c => some c.1).toArray := by
  rcases h.2 with ⟨h0, _⟩ | ⟨g', cap', cur, hv, hbase, hb, h1, h2, h3, h4⟩
  · cases h0
  cases hv
  intro j hj
  rw [List.size_toArray, List.length_map] at hj
  have hl := h.1
  rw [List.length_map] at hl
  have hc := h.cells (g := g) rfl j (ckPtr cs[j]) (by rw [List.getElem?_map, List.getElem?_eq_getElem hj]; rfl)
  rw [show (⟨g, 0, none⟩ : Addr).add j = ⟨g, 0 + j, none⟩ by rw [Nat.zero_add]; unfold Addr.add; split <;> simp_all] at hc
  refine ⟨?_, (show Blk w g cur _ from hb).frozen _⟩
  rw [hc, getElem!_pos _ j (by simpa using hj)]
  simp [ckPtr, encP]

/-- slices.Delete of one chunk. -/
theorem dq_Delete1 {w : World} {g cap : Nat} {pre post : List Ck} {c : Ck} (h : w.ownsRow 0 205 1 (.slice (some ⟨g, 0, none⟩) (pre ++ c :: post).length cap) (pre ++ c :: post).length ((pre ++ c :: post).map ckPtr)) (hcap : cap ≤ 9223372036854775807) :
    Calls Tryz.prog 151 #[.slice (some ⟨g, 0, none⟩) (pre ++ c :: post).length cap, .int .i64 pre.length, .int .i64 ((pre.length + 1 : Nat) : Int)] w
      fun e w' => e = .returned (.slice (some ⟨g, 0, none⟩) (pre ++ post).length cap) ∧ w'.ownsRow 0 205 1 (.slice (some ⟨g, 0, none⟩) (pre ++ post).length cap) (pre ++ post).length ((pre ++ post).map ckPtr) ∧ Keeps (fun r => r = g) w w' := by
  obtain ⟨i0, hi0, hz0, hz1, hz2⟩ := info_parts infoCk
  rcases h.2 with ⟨h0, _⟩ | ⟨g', cap', cur, hv, hbase, hb, h1, h2, h3, h4⟩
  · cases h0
  cases hv
  have hcon := AnyE.slices_Delete Tryz.delChunk encP encP_one none zeroCk i0 hi0 hz1 g 0 cap pre.length (pre.length + 1) ((pre ++ c :: post).map fun c => some c.1).toArray w (holds_row h) (by simpa using h1) hcap (by omega) (by simp)
  change Calls Tryz.prog 151 _ _ _ at hcon
  have hs : ((pre ++ c :: post).map fun c => some c.1).toArray.size = (pre ++ c :: post).length := by simp
  have hs2 : (pre ++ c :: post).length - (pre.length + 1 - pre.length) = (pre ++ post).length := by simp
  rw [hs, hs2] at hcon
  refine hcon.mono ?_
  rintro e w' ⟨rfl, k, rfl⟩
  refine ⟨rfl, ⟨by simp, .inr ⟨g, cap, _, rfl, hbase, putRow_blk encP (show Blk w g cur _ from hb) k _, ?_, h2, by simp [putCells, h3], ?_⟩⟩, putRow_keeps _ _ _ _ _⟩
  · simp at h1 ⊢; omega
  · rw [Nat.mul_one, ckPtr_enc]
    refine (putCells_take encP _ _ _ ?_ ?_).trans ?_
    · simp; omega
    · simp at h1 ⊢; omega
    · have h9 : ∀ l : List (Option Nat), l = (pre ++ post).map (fun c => some c.1) → l.map encP = ((pre ++ post).map fun c => some c.1).map encP := fun l e => by rw [e]
      apply h9
      have h8 : pre.length + 1 - pre.length = 1 := by omega
      rw [h8]
      have h7 : ∀ (A B : List (Option Nat)) (x : Option Nat) (n m : Nat), A.length = n → B.length = m → ((A ++ x :: B).take n ++ (A ++ x :: B).drop (n + 1) ++ List.replicate 1 none).take (n + m) = A ++ B := by
        intro A B x n m hA hB
        subst hA hB
        rw [List.take_left, show (A ++ x :: B) = (A ++ [x]) ++ B by simp, show A.length + 1 = (A ++ [x]).length by simp, List.drop_left, ← List.length_append, List.take_left]
      have := h7 (pre.map fun c => some c.1) (post.map fun c => some c.1) (some c.1) pre.length post.length (by simp) (by simp)
      simpa using this
end Go.Proofs.YtgjpaecpljifpaaGreat

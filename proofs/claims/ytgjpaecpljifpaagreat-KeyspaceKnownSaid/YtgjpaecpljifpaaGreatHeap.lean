/- Heap: rows of cells, what a call keeps. -/
import Derived.WalkKit
import Derived.Deep.Draws
namespace Go.Proofs.YtgjpaecpljifpaaGreat
open Go Go.RowKit

/-- Block r of w is an unfrozen row of cells. -/
def Blk (w : World) (r : Nat) (cs : Array Value) (t : TypeId) : Prop := w.heap[r]? = some (.cells cs t (0, 0))

theorem Blk.cell {w : World} {r : Nat} {cs : Array Value} {t : TypeId} (h : Blk w r cs t) (i : Nat) : w.cell? ⟨r, i, none⟩ = cs[i]? := by
  unfold Blk at h
  simp [World.cell?, h]
theorem Blk.frozen {w : World} {r : Nat} {cs : Array Value} {t : TypeId} (h : Blk w r cs t) (i : Nat) : w.frozen? ⟨r, i, none⟩ = false := by
  unfold Blk at h
  simp [World.frozen?, h]
theorem Blk.lt {w : World} {r : Nat} {cs : Array Value} {t : TypeId} (h : Blk w r cs t) : r < w.heap.size :=
  (Array.getElem?_eq_some_iff.1 h).1
theorem Blk.eq {w : World} {r : Nat} {cs cs' : Array Value} {t t' : TypeId} (h : Blk w r cs t) (h' : Blk w r cs' t') : cs = cs' ∧ t = t' := by
  unfold Blk at h h'
  rw [h] at h'
  cases h'
  exact ⟨rfl, rfl⟩
theorem Blk.of_heap {w w' : World} {r : Nat} {cs : Array Value} {t : TypeId} (h : Blk w r cs t) (e : w'.heap[r]? = w.heap[r]?) : Blk w' r cs t := e.trans h
theorem Blk.ne {w : World} {r r' : Nat} {cs cs' : Array Value} {t t' : TypeId} (h : Blk w r cs t) (h' : Blk w r' cs' t') (ht : t ≠ t') : r ≠ r' := by
  intro e; subst e; exact ht (h.eq h').2
theorem Blk.drew {w : World} {r : Nat} {cs : Array Value} {t : TypeId} (h : Blk w r cs t) : Blk w.drew r cs t := h
theorem Blk.drewN {w : World} {r : Nat} {cs : Array Value} {t : TypeId} (h : Blk w r cs t) (n : Nat) : Blk (w.drewN n) r cs t := h
theorem Blk.alloc {w : World} {r : Nat} {cs : Array Value} {t : TypeId} (h : Blk w r cs t) (o : Obj) : Blk (w.alloc o) r cs t :=
  (Below.heap_alloc w o r h.lt).trans h
theorem Blk.new (w : World) (cs : Array Value) (t : TypeId) : Blk (w.alloc (.cells cs t)) w.heap.size cs t := by
  show (w.heap.push _)[w.heap.size]? = _
  simp
theorem Blk.set_ne {w : World} {r : Nat} {cs : Array Value} {t : TypeId} (h : Blk w r cs t) {a : Addr} (v : Value) (hr : r ≠ a.block) : Blk (w.setCell a v) r cs t :=
  (Below.heap_setCell w a v r hr).trans h
theorem Blk.set {w : World} {r : Nat} {cs : Array Value} {t : TypeId} (h : Blk w r cs t) (i : Nat) (v : Value) : Blk (w.setCell ⟨r, i, none⟩ v) r (cs.setIfInBounds i v) t := by
  unfold Blk at h ⊢
  simp [World.setCell, Array.getElem?_modify, h]

/-- Whatever lies outside S (and was there) is as it was; no block has gone. -/
structure Keeps (S : Nat → Prop) (w w' : World) : Prop where
  size : w.heap.size ≤ w'.heap.size
  same : ∀ r, r < w.heap.size → ¬ S r → w'.heap[r]? = w.heap[r]?
  os : w'.os = w.os
  output : w'.output = w.output

theorem Keeps.refl (S : Nat → Prop) (w : World) : Keeps S w w := ⟨Nat.le_refl _, fun _ _ _ => rfl, rfl, rfl⟩
theorem Keeps.mono {S T : Nat → Prop} {w w' : World} (h : Keeps S w w') (hs : ∀ r, r < w.heap.size → S r → T r) : Keeps T w w' :=
  ⟨h.size, fun r hr ht => h.same r hr (fun hS => ht (hs r hr hS)), h.os, h.output⟩
theorem Keeps.trans {S : Nat → Prop} {w w1 w2 : World} (h : Keeps S w w1) (k : Keeps S w1 w2) : Keeps S w w2 :=
  ⟨Nat.le_trans h.size k.size, fun r hr hs => (k.same r (Nat.lt_of_lt_of_le hr h.size) hs).trans (h.same r hr hs), k.os.trans h.os, k.output.trans h.output⟩
theorem Keeps.trans' {S T : Nat → Prop} {w w1 w2 : World} (h : Keeps S w w1) (k : Keeps T w1 w2) (hT : ∀ r, r < w.heap.size → T r → S r) : Keeps S w w2 :=
  ⟨Nat.le_trans h.size k.size, fun r hr hs => (k.same r (Nat.lt_of_lt_of_le hr h.size) (fun ht => hs (hT r hr ht))).trans (h.same r hr hs), k.os.trans h.os, k.output.trans h.output⟩
theorem Keeps.drew {S : Nat → Prop} {w w' : World} (h : Keeps S w w') : Keeps S w w'.drew := ⟨h.size, h.same, h.os, h.output⟩
theorem Keeps.drewN {S : Nat → Prop} {w w' : World} (h : Keeps S w w') (n : Nat) : Keeps S w (w'.drewN n) := ⟨h.size, h.same, h.os, h.output⟩
theorem Keeps.alloc {S : Nat → Prop} {w w' : World} (h : Keeps S w w') (o : Obj) : Keeps S w (w'.alloc o) :=
  h.trans ⟨by simp, fun r hr _ => Below.heap_alloc _ _ _ hr, rfl, rfl⟩
theorem Keeps.set {S : Nat → Prop} {w w' : World} (h : Keeps S w w') {a : Addr} (v : Value) (ha : a.block < w.heap.size → S a.block) : Keeps S w (w'.setCell a v) :=
  ⟨by simpa using h.size, fun r hr hs => (Below.heap_setCell _ _ _ _ (fun e => hs (by rw [e]; exact ha (by omega)))).trans (h.same r hr hs), h.os, h.output⟩
theorem Keeps.below {w w' : World} (h : Below w.heap.size w w') (S : Nat → Prop) : Keeps S w w' := ⟨h.size, fun r hr _ => h.block r hr, h.os, h.output⟩
theorem Keeps.blk {S : Nat → Prop} {w w' : World} (h : Keeps S w w') {r : Nat} {cs : Array Value} {t : TypeId} (hb : Blk w r cs t) (hs : ¬ S r) : Blk w' r cs t :=
  hb.of_heap (h.same r hb.lt hs)
theorem Keeps.grown {S : Nat → Prop} {w w1 w' : World} {row : Option Nat} (h : Keeps S w w1) (hg : w1.grownBy w' row) (hr : ∀ k, row = some k → k < w.heap.size → S k) : Keeps S w w' :=
  ⟨Nat.le_trans h.size hg.size, fun r hlt hs => (hg.block r (Nat.lt_of_lt_of_le hlt h.size) (fun e => hs (hr r e.symm hlt))).trans (h.same r hlt hs), hg.os.trans h.os, hg.output.trans h.output⟩

/-- Go's '==' on texts, as the walk writes it. -/
theorem text_eq {x y : ByteArray} (h : (x.toList == y.toList) = true) : x = y := by
  rw [beq_iff_eq, ByteArray.toList_eq, ByteArray.toList_eq] at h
  have h2 := Array.toList_inj.1 h
  cases x; cases y; exact congrArg _ h2
theorem text_ne {x y : ByteArray} (h : (x.toList == y.toList) = false) : x ≠ y := by
  intro e; subst e; simp at h
theorem text_beq {x y : ByteArray} (h : x = y) : (x.toList == y.toList) = true := by subst h; simp
theorem text_bne {x y : ByteArray} (h : x ≠ y) : (x.toList == y.toList) = false := by
  cases hb : x.toList == y.toList with
  | true => exact absurd (text_eq hb) h
  | false => rfl
end Go.Proofs.YtgjpaecpljifpaaGreat

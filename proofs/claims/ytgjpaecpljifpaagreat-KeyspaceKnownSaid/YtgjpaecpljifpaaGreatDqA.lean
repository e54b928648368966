/- A deque in memory: how it lies; what only reads it. -/
import Derived.Test.YtgjpaecpljifpaaGreatSpC
import Derived.BigQuiet
import Derived.Deep.QuietTactic
import Derived.Test.YtgjpaecpljifpaaGreatHeap
import Derived.Laws.IdiomCopy
import Derived.Lib.SliceRun
import Derived.Deep.RegionLaw
namespace Go.Proofs.YtgjpaecpljifpaaGreat
open Go Go.RowKit Go.Proofs.YtgjpaecpljifpaaGreat

/-- A chunk: its block, its texts. -/
abbrev Ck := Nat × List ByteArray
def ckCells (l : List ByteArray) : Array Value := (l.map Value.string ++ List.replicate (32 - l.length) (Value.string ByteArray.empty) ++ [Value.int .i64 l.length]).toArray
def weigh (l : List ByteArray) : Int := (l.map fun s => 16 + (s.size : Int)).sum
/-- A deque as it lies. -/
structure DQ where
  cs : List Ck
  sv : Value
def texts (cs : List Ck) : List ByteArray := cs.flatMap fun c => c.2
abbrev DQ.texts (d : DQ) : List ByteArray := Go.Proofs.YtgjpaecpljifpaaGreat.texts d.cs
def dqCells (d : DQ) : Array Value := #[d.sv, .int .i64 d.texts.length, .int .i64 (weigh d.texts)]
def ckPtr (c : Ck) : Value := .pointer (some ⟨c.1, 0, none⟩)

structure DqAt (w : World) (q : Nat) (d : DQ) : Prop where
  str : Blk w q (dqCells d) 200
  row : w.ownsRow 0 205 1 d.sv d.cs.length (d.cs.map ckPtr)
  ck : ∀ c ∈ d.cs, Blk w c.1 (ckCells c.2) 204
  once : (d.cs.map fun c => c.1).Nodup
  full : ∀ c ∈ d.cs, c.2.length ≤ 32
  few : d.texts.length ≤ 1048576
  short : ∀ s ∈ d.texts, s.size ≤ 1048576
/-- No chunk is empty. -/
def DQ.Tight (d : DQ) : Prop := ∀ c ∈ d.cs, c.2 ≠ []

def dfp (q : Nat) (d : DQ) (r : Nat) : Prop := r = q ∨ d.sv.ownBlock = some r ∨ ∃ c ∈ d.cs, r = c.1

theorem texts_nil : texts [] = [] := rfl
theorem texts_cons (c : Ck) (cs : List Ck) : texts (c :: cs) = c.2 ++ texts cs := rfl
theorem texts_append (a b : List Ck) : texts (a ++ b) = texts a ++ texts b := by simp [texts]
theorem weigh_nil : weigh [] = 0 := rfl
theorem weigh_cons (s : ByteArray) (l : List ByteArray) : weigh (s :: l) = 16 + (s.size : Int) + weigh l := by simp [weigh]
theorem weigh_append (a b : List ByteArray) : weigh (a ++ b) = weigh a + weigh b := by simp [weigh]
theorem weigh_bd : ∀ {l : List ByteArray}, (∀ s ∈ l, s.size ≤ 1048576) → 0 ≤ weigh l ∧ weigh l ≤ 1048592 * l.length
  | [], _ => by simp [weigh]
  | s :: l, h => by
    have h1 := weigh_bd (l := l) fun t ht => h t (List.mem_cons_of_mem _ ht)
    have h2 := h s List.mem_cons_self
    rw [weigh_cons, List.length_cons]
    omega
theorem ckCells_text {l : List ByteArray} {i : Nat} {s : ByteArray} (h : l[i]? = some s) : (ckCells l)[i]? = some (.string s) := by
  have hi := (List.getElem?_eq_some_iff.1 h).1
  unfold ckCells
  rw [List.getElem?_toArray, List.append_assoc, List.getElem?_append_left (by simpa using hi), List.getElem?_map, h]
  rfl
theorem ckCells_n {l : List ByteArray} (h : l.length ≤ 32) : (ckCells l)[32]? = some (.int .i64 l.length) := by
  unfold ckCells
  rw [List.getElem?_toArray, List.getElem?_append_right (by simp; omega)]
  simp
  have : 32 - (l.length + (32 - l.length)) = 0 := by omega
  rw [this]; rfl
theorem ckCells_size {l : List ByteArray} (h : l.length ≤ 32) : (ckCells l).size = 33 := by
  unfold ckCells; simp; omega

section
variable {w w' : World} {q : Nat} {d : DQ}
theorem DqAt.lt (h : DqAt w q d) {r : Nat} (hr : dfp q d r) : r < w.heap.size := by
  rcases hr with rfl | hr | ⟨c, hc, rfl⟩
  · exact h.str.lt
  · exact (h.row.lt r hr).2
  · exact (h.ck c hc).lt
theorem DqAt.of_heap (h : DqAt w q d) (k : ∀ r, dfp q d r → w'.heap[r]? = w.heap[r]?) : DqAt w' q d :=
  ⟨h.str.of_heap (k q (.inl rfl)), ownsRow_of_heap' h.row fun g hg => k g (.inr (.inl hg)), fun c hc => (h.ck c hc).of_heap (k _ (.inr (.inr ⟨c, hc, rfl⟩))), h.once, h.full, h.few, h.short⟩
theorem DqAt.keeps (h : DqAt w q d) {S : Nat → Prop} (k : Keeps S w w') (hs : ∀ r, dfp q d r → ¬ S r) : DqAt w' q d := h.of_heap fun r hr => k.same r (h.lt hr) (hs r hr)
theorem DqAt.row_cell (h : DqAt w q d) {k : Nat} {c : Ck} (hc : d.cs[k]? = some c) : ∃ g cap, d.sv = .slice (some ⟨g, 0, none⟩) d.cs.length cap ∧ k < d.cs.length ∧ d.cs.length ≤ cap ∧ cap ≤ maxLen ∧ w.cell? ⟨g, k, none⟩ = some (ckPtr c) ∧ w.frozen? ⟨g, k, none⟩ = false := by
  have hk := (List.getElem?_eq_some_iff.1 hc).1
  rcases h.row.2 with ⟨_, h0⟩ | ⟨g, cap, cur, hv, _, hb, h1, h2, h3, h4⟩
  · omega
  · refine ⟨g, cap, hv, hk, h1, h2, ?_, (show Blk w g cur _ from hb).frozen k⟩
    have := h.row.cells (g := g) (by rw [hv]; rfl) k (ckPtr c) (by rw [List.getElem?_map, hc]; rfl)
    rwa [show (⟨g, 0, none⟩ : Addr).add k = ⟨g, k, none⟩ by unfold Addr.add; split <;> simp_all] at this
/-- The row, the deque and the chunks lie apart. -/
theorem DqAt.ne (h : DqAt w q d) : (∀ g, d.sv.ownBlock = some g → g ≠ q ∧ ∀ c ∈ d.cs, g ≠ c.1) ∧ ∀ c ∈ d.cs, c.1 ≠ q := by
  refine ⟨fun g hg => ?_, fun c hc => (h.ck c hc).ne h.str (by decide)⟩
  obtain ⟨cur, hb⟩ := ownsRow_blk h.row hg
  exact ⟨(show Blk w g cur _ from hb).ne h.str (by decide), fun c hc => (show Blk w g cur _ from hb).ne (h.ck c hc) (by decide)⟩
theorem DqAt.weight_bd (h : DqAt w q d) : 0 ≤ weigh d.texts ∧ weigh d.texts ≤ 1099528404992 := by
  have h1 := weigh_bd h.short
  have h2 := h.few
  omega
theorem DqAt.n_cs (h : DqAt w q d) (t : d.Tight) : d.cs.length ≤ 1048576 := by
  refine Nat.le_trans ?_ h.few
  have : ∀ cs : List Ck, (∀ c ∈ cs, c.2 ≠ []) → cs.length ≤ (texts cs).length := by
    intro cs
    induction cs with
    | nil => simp
    | cons c cs ih =>
      intro ht
      have h1 := ih fun c hc => ht c (List.mem_cons_of_mem _ hc)
      have h2 := List.length_pos_iff.2 (ht c List.mem_cons_self)
      rw [texts_cons, List.length_append, List.length_cons]
      omega
  exact this d.cs t
end

theorem dq_New (w : World) : Calls Tryz.prog 58 #[] w fun e w' => e = .returned (.pointer (some ⟨w.heap.size, 0, none⟩)) ∧ w.alloc (.cells (dqCells ⟨[], .slice none 0 0⟩) 200) = w' := by
  go_enter Tryz.func58, Tryz.ntmps58
  go_wp2
  go_ret
  exact ⟨rfl, rfl⟩
theorem dq_new_at (w : World) : DqAt (w.alloc (.cells (dqCells ⟨[], .slice none 0 0⟩) 200)) w.heap.size ⟨[], .slice none 0 0⟩ :=
  ⟨Blk.new _ _ _, World.ownsRow_nil _ _ _ _, (fun c hc => by cases hc), List.nodup_nil, (fun c hc => by cases hc), (by simp [DQ.texts, texts]), (fun s hs => by simp [DQ.texts, texts] at hs)⟩

theorem dq_weight (s : ByteArray) (w : World) (h : s.size ≤ 1048576) : Calls Tryz.prog 233 #[.string s] w fun e w' => e = .returned (.int .i64 (16 + (s.size : Int))) ∧ w = w' := by
  go_enter Tryz.func233, Tryz.ntmps233
  go_wp2
  go_ret
  exact ⟨rfl, rfl⟩
theorem dq_Len {w : World} {q : Nat} {d : DQ} (h : DqAt w q d) : Calls Tryz.prog 71 #[.pointer (some ⟨q, 0, none⟩)] w fun e w' => e = .returned (.int .i64 d.texts.length) ∧ w = w' := by
  have c1 : w.cell? ⟨q, 1, none⟩ = some (.int .i64 d.texts.length) := h.str.cell 1
  clear h
  go_enter Tryz.func71, Tryz.ntmps71
  go_wp2
  go_ret
  exact ⟨rfl, rfl⟩
theorem dq_Len_nil (w : World) : Calls Tryz.prog 71 #[.pointer none] w fun e w' => e = .returned (.int .i64 0) ∧ w = w' := by
  go_enter Tryz.func71, Tryz.ntmps71
  go_wp2
  go_ret
  exact ⟨rfl, rfl⟩
theorem dq_Cost {w : World} {q : Nat} {d : DQ} (h : DqAt w q d) : Calls Tryz.prog 361 #[.pointer (some ⟨q, 0, none⟩)] w fun e w' => e = .returned (.int .i64 (weigh d.texts)) ∧ w = w' := by
  have c1 : w.cell? ⟨q, 2, none⟩ = some (.int .i64 (weigh d.texts)) := h.str.cell 2
  clear h
  go_enter Tryz.func361, Tryz.ntmps361
  go_wp2
  go_ret
  exact ⟨rfl, rfl⟩

/-- Why one more text is not taken. -/
def dqRefused (l : List ByteArray) (s : ByteArray) : Int := if 1048576 < s.size then 2 else if 1048576 ≤ l.length then 4 else 0
theorem dq_refused {w : World} {q : Nat} {d : DQ} (s : ByteArray) (h : DqAt w q d) : Calls Tryz.prog 131 #[.pointer (some ⟨q, 0, none⟩), .string s] w fun e w' => e = .returned (.int .i64 (dqRefused d.texts s)) ∧ w = w' := by
  have c1 : w.cell? ⟨q, 1, none⟩ = some (.int .i64 d.texts.length) := h.str.cell 1
  clear h
  unfold dqRefused
  by_cases h1 : 1048576 < s.size
  · rw [if_pos h1]
    have g1 : decide ((1048576 : Int) < (s.size : Int)) = true := by simp; omega
    clear h1
    go_enter Tryz.func131, Tryz.ntmps131
    go_wp2
    go_ret
    exact ⟨rfl, rfl⟩
  · rw [if_neg h1]
    have g1 : decide ((1048576 : Int) < (s.size : Int)) = false := by simp; omega
    by_cases h2 : 1048576 ≤ d.texts.length
    · rw [if_pos h2]
      have g2 : decide ((1048576 : Int) ≤ (d.texts.length : Int)) = true := by simp; omega
      clear h1 h2
      go_enter Tryz.func131, Tryz.ntmps131
      go_wp2
      go_ret
      exact ⟨rfl, rfl⟩
    · rw [if_neg h2]
      have g2 : decide ((1048576 : Int) ≤ (d.texts.length : Int)) = false := by simp; omega
      clear h1 h2
      go_enter Tryz.func131, Tryz.ntmps131
      go_wp2
      go_ret
      exact ⟨rfl, rfl⟩
end Go.Proofs.YtgjpaecpljifpaaGreat

namespace Go.Proofs.YtgjpaecpljifpaaGreat
open Go Go.RowKit

/-- An array with a row of values put in from place o on. -/
def putAt : Array Value → Nat → List Value → Array Value
  | cs, _, [] => cs
  | cs, o, v :: r => putAt (cs.setIfInBounds o v) (o + 1) r
theorem putAt_size : ∀ (vs : List Value) (cs : Array Value) (o : Nat), (putAt cs o vs).size = cs.size
  | [], _, _ => rfl
  | v :: r, cs, o => by rw [putAt, putAt_size r]; simp
theorem putAt_get : ∀ (vs : List Value) (cs : Array Value) (o i : Nat), o + vs.length ≤ cs.size → (putAt cs o vs)[i]? = if o ≤ i ∧ i < o + vs.length then vs[i - o]? else cs[i]?
  | [], cs, o, i, _ => by
    rw [putAt, if_neg]
    simp only [List.length_nil]; omega
  | v :: r, cs, o, i, h => by
    rw [List.length_cons] at h
    rw [putAt, putAt_get r _ (o + 1) i (by simp; omega), List.length_cons]
    by_cases h1 : i = o
    · subst h1
      rw [if_neg (by omega), if_pos (by omega), Nat.sub_self, Array.getElem?_setIfInBounds_self_of_lt (by omega)]
      rfl
    · by_cases h2 : o ≤ i ∧ i < o + (r.length + 1)
      · rw [if_pos (by omega), if_pos h2, show i - o = (i - (o + 1)) + 1 by omega, List.getElem?_cons_succ]
      · rw [if_neg (by omega), if_neg h2, Array.getElem?_setIfInBounds_ne (fun e => h1 e.symm)]
theorem Blk.setCells {r : Nat} {t : TypeId} : ∀ (vs : List Value) {w : World} {cs : Array Value} (_ : Blk w r cs t) (o : Nat), Blk (w.setCells r o vs) r (putAt cs o vs) t
  | [], _, _, h, _ => h
  | v :: vs, _, _, h, o => by
    rw [World.setCells, putAt]
    exact Blk.setCells vs (h.set o v) (o + 1)
theorem Keeps.setCells {S : Nat → Prop} {w : World} {b : Nat} : ∀ (vs : List Value) {w' : World} (_ : Keeps S w w') (_ : b < w.heap.size → S b) (o : Nat), Keeps S w (w'.setCells b o vs)
  | [], _, h, _, _ => h
  | v :: vs, _, h, hb, o => by
    rw [World.setCells]
    exact Keeps.setCells vs (h.set v hb) hb (o + 1)
theorem heap_size_setCells (b : Nat) : ∀ (vs : List Value) (o : Nat) (w : World), (w.setCells b o vs).heap.size = w.heap.size
  | [], _, _ => rfl
  | v :: r, o, w => by rw [World.setCells, heap_size_setCells b r]; simp
theorem drew_setCells' (b : Nat) : ∀ (vs : List Value) (o : Nat) (w : World), w.drew.setCells b o vs = (w.setCells b o vs).drew
  | [], _, _ => rfl
  | v :: r, o, w => by rw [World.setCells, World.setCells, ← drew_setCells' b r]; rfl

end Go.Proofs.YtgjpaecpljifpaaGreat

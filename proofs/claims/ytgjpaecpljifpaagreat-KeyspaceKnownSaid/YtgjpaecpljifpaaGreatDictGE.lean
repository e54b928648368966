/- The dict in memory (values: *pantry/keyspace.entry): Get. -/
import Derived.Test.YtgjpaecpljifpaaGreatDictRE
import Derived.Deep.OwnRows
import Derived.KernelRfl
namespace Go.Proofs.YtgjpaecpljifpaaGreat.DE
open Go Go.RowKit Go.Proofs.YtgjpaecpljifpaaGreat

/-- A dict in memory that lies well. -/
structure Good (w : World) (b : Nat) (d : DM V) (cap : Nat) : Prop where
  dict : IsDict w b d
  ok : d.Ok (hashD d) cap
  keys : ∀ e ∈ d.ents, e.key.size ≤ maxLen
  small : cap ≤ 4398046511104

def encV (v : V) : Value := .pointer (some ⟨v, 0, none⟩)
def valOf : Option E → Value
  | some e => encV e.val
  | none => .pointer none

theorem hashD_step (d : DM V) : hashD (d.step (hashD d)) = hashD d := by unfold hashD; rw [step_seed]

theorem Good.step {w w' : World} {b : Nat} {d : DM V} {cap : Nat} (h : Good w b d cap) (hD : IsDict w' b (d.step (hashD d))) : Good w' b (d.step (hashD d)) cap := by
  obtain ⟨h1, h2⟩ := step_ok h.ok
  exact ⟨hD, by rw [hashD_step]; exact h1, fun e he => h.keys e (h2.mem_iff.1 he), h.small⟩

theorem fp_step {b : Nat} {d : DM V} {cap : Nat} (h : d.Ok (hashD d) cap) {r : Nat} (hr : fp b (d.step (hashD d)) r) : fp b d r := by
  rcases hr with rfl | ⟨h1, rfl⟩ | ⟨h1, rfl⟩ | ⟨x, hx, rfl⟩
  · exact .inl rfl
  · rcases step_oldB (hash := hashD d) d with ⟨e1, e2⟩ | ⟨e1, e2⟩
    · rw [e1]; exact fp_old (fun h0 => h1 (e2.2 h0))
    · rw [e1]; exact fp_young e2
  · rcases step_youngB (hash := hashD d) d with e1 | ⟨e1, e2⟩
    · exact absurd e1 h1
    · rw [e1]; exact fp_young e2
  · exact fp_ent ((step_ok h).2.mem_iff.1 hx)

theorem Table.place_cell {w : World} {ob : Nat} {t : Tab V} (h : Table w ob t) {i : Nat} (hi : i < t.length) {pre post : List E} {x : E} (hs : t.getD i [] = pre ++ x :: post) :
    w.cell? (place ob i pre) = some (.pointer (some ⟨x.blk, 0, none⟩)) := by
  have hc := h.chain i
  rw [hs] at hc
  rcases List.eq_nil_or_concat pre with rfl | ⟨p, y, rfl⟩
  · have := h.cell hi
    rw [hs] at this
    exact this
  · rw [List.concat_eq_append] at hc ⊢
    rw [place_snoc]
    rw [List.append_assoc] at hc
    have h2 := (Chain.suffix (p := p) hc).1
    exact h2.cell 2
theorem Table.place_frozen {w : World} {ob : Nat} {t : Tab V} (h : Table w ob t) {i : Nat} {pre post : List E} {x : E} (hs : t.getD i [] = pre ++ x :: post) :
    w.frozen? (place ob i pre) = false := by
  have hc := h.chain i
  rw [hs] at hc
  rcases List.eq_nil_or_concat pre with rfl | ⟨p, y, rfl⟩
  · exact h.row.frozen i
  · rw [List.concat_eq_append] at hc ⊢
    rw [place_snoc]
    rw [List.append_assoc] at hc
    exact (Chain.suffix (p := p) hc).1.frozen 2
theorem Table.blk_of {w : World} {ob : Nat} {t : Tab V} (h : Table w ob t) {x : E} (hx : x ∈ ents t) : ∃ nx, Blk w x.blk (cellsOf x nx) 189 := by
  obtain ⟨i, c, hc, hxc⟩ := ents_mem.1 hx
  exact (h.chains c (List.mem_of_getElem? hc)).blk x hxc

/-- Where find leads: the pointer's cell, and the entry's block. -/
structure Led (w : World) (d : DM V) (key : ByteArray) (x : E) (ob : Nat) (t : Tab V) (pre post : List E) : Prop where
  tab : (ob = d.oldB ∧ t = d.old) ∨ (ob = d.youngB ∧ t = d.young ∧ link (hashD d) d.old key = none)
  ne : t ≠ []
  split : t.getD (hashD d key % t.length) [] = pre ++ x :: post
  ahead : ∀ y ∈ pre, y.key ≠ key
  table : Table w ob t
  cell : w.cell? (place ob (hashD d key % t.length) pre) = some (.pointer (some ⟨x.blk, 0, none⟩))
  frozen : w.frozen? (place ob (hashD d key % t.length) pre) = false

theorem find_led {w : World} {b : Nat} {d : DM V} {key : ByteArray} {x : E} {e : Ending} (hD : IsDict w b d) (hf : d.find (hashD d) key = some x) (hp : FindPost d key e) :
    ∃ ob t pre post, Led w d key x ob t pre post ∧ e = .returned (.pointer (some (place ob (hashD d key % t.length) pre))) := by
  unfold FindPost at hp
  rw [hf] at hp
  obtain ⟨ob, t, pre, post, h1, h2, h3, h4, rfl⟩ := hp
  have hT : Table w ob t := by
    rcases h1 with ⟨rfl, rfl⟩ | ⟨rfl, rfl, _⟩
    · exact hD.old h2
    · exact hD.young h2
  have hi : hashD d key % t.length < t.length := Nat.mod_lt _ (List.length_pos_iff.2 h2)
  exact ⟨ob, t, pre, post, ⟨h1, h2, h3, h4, hT, hT.place_cell hi h3, hT.place_frozen h3⟩, rfl⟩
theorem find_no {d : DM V} {key : ByteArray} {e : Ending} (hf : d.find (hashD d) key = none) (hp : FindPost d key e) : e = .returned (.pointer none) := by
  unfold FindPost at hp
  rw [hf] at hp
  exact hp

set_option maxRecDepth 100000 in
set_option maxHeartbeats 1000000 in
/-- **Get.** -/
theorem Get_any (b : Nat) (d : DM V) (key : ByteArray) (w : World) {cap : Nat} (hG : Good w b d cap) (hs : key.size ≤ maxLen) :
    Calls Tryz.prog 121 #[.pointer (some ⟨b, 0, none⟩), .string key] w
      fun e w' => e = .returned (.tuple #[valOf (d.find (hashD d) key), .bool (d.find (hashD d) key).isSome]) ∧ Good w' b (d.step (hashD d)) cap ∧ Keeps (fp b d) w w' := by
  have hst := step_any b d w hG.ok hG.small hG.keys hG.dict
  have hfs : (d.step (hashD d)).find (hashD (d.step (hashD d))) key = d.find (hashD d) key := by rw [hashD_step]; exact step_find hG.ok key
  have HS := Lib.hid hst
  clear hst
  go_enter Tryz.func121, Tryz.ntmps121
  go_wp2_with fail
  refine HS.out.mono ?_
  rintro e w1 ⟨rfl, hD1, hk1⟩
  have hG1 := hG.step hD1
  have hfind := find_any b (d.step (hashD d)) key w1 hG1.ok hG1.small hs hD1
  cases hf : d.find (hashD d) key with
  | some x =>
    rw [hf] at hfs
    have HF := Lib.hid hfs
    have HF0 := Lib.hid hf
    have HK := Lib.hid hk1
    have HG1 := Lib.hid hG1
    have HD1 := Lib.hid hD1
    clear hf hfs hk1 hG hG1 hD1
    go_wp2_with fail
    refine hfind.mono ?_
    rintro e w' ⟨hp, rfl⟩
    obtain ⟨ob, t, pre, post, hL, rfl⟩ := find_led HD1.out HF.out hp
    have hc := hL.cell
    rw [place_plain] at hc ⊢
    have hxe := mem_of_getD (i := hashD (d.step (hashD d)) key % t.length) (by rw [hL.split]; exact List.mem_append_right _ List.mem_cons_self)
    obtain ⟨nx, hb⟩ := hL.table.blk_of hxe
    have hv : w1.cell? ⟨x.blk, 1, none⟩ = some (encV x.val) := hb.cell 1
    unfold encV at hv
    clear hp hL hb hxe hfind
    go_wp2_with fail
    go_ret2
    exact ⟨by rw [HF0.out]; rfl, HG1.out, HK.out⟩
  | none =>
    rw [hf] at hfs
    have HF := Lib.hid hfs
    have HF0 := Lib.hid hf
    have HK := Lib.hid hk1
    have HG1 := Lib.hid hG1
    clear hf hfs hk1 hG hG1 hD1
    go_wp2_with fail
    refine hfind.mono ?_
    rintro e w' ⟨hp, rfl⟩
    obtain rfl := find_no HF.out hp
    clear hp hfind
    go_wp2_with fail
    go_ret2
    exact ⟨by rw [HF0.out]; rfl, HG1.out, HK.out⟩
end Go.Proofs.YtgjpaecpljifpaaGreat.DE

namespace Go.Proofs.YtgjpaecpljifpaaGreat.DE
open Go Go.RowKit Go.Proofs.YtgjpaecpljifpaaGreat

theorem infoP : (Tryz.prog.info? 187).map (fun i => (i.zero, i.size, i.bytes)) = some (some (.pointer none), 1, 8) := by kernel_rfl
theorem made_eq (n : Nat) : madeCells #[Value.pointer none] n = tabCells (List.replicate n []) := by
  unfold madeCells tabCells
  rw [List.map_replicate]
  apply Array.ext
  · simp
  · intro i h1 h2
    simp [headA, Nat.mod_one]
theorem run_make (n : Nat) (hn : n ≤ 8796093022212) (w : World) :
    (Instr.makeSlice 182 (.int .i64 (n : Int)) (.int .i64 (n : Int))).run Tryz.prog w = .ok (.slice (some ⟨w.heap.size, 0, none⟩) n n) (w.alloc (.cells (tabCells (List.replicate n [])) 187)) := by
  rw [← made_eq]
  exact run_make_row' _ _ _ 8 Tryz.underlying182 infoP rfl .i64 .i64 n (by omega) (by omega) w

theorem Table.fresh (w : World) (n : Nat) (b i : Nat) (v : Value) : Table ((w.setCell ⟨b, i, none⟩ v).alloc (.cells (tabCells (List.replicate n [])) 187)) w.heap.size (List.replicate n []) := by
  refine ⟨?_, fun c hc => by rw [List.eq_of_mem_replicate hc]; trivial⟩
  have h := Blk.new (w.setCell ⟨b, i, none⟩ v) (tabCells (List.replicate n [])) 187
  rw [World.size_setCell] at h
  exact h
theorem Chain.alloc {w : World} {l : List E} (h : Chain w l) (o : Obj) : Chain (w.alloc o) l :=
  h.of_heap fun e he => by obtain ⟨nx, hb⟩ := h.blk e he; exact Below.heap_alloc _ _ _ hb.lt
theorem Table.alloc {w : World} {ob : Nat} {t : Tab V} (h : Table w ob t) (o : Obj) : Table (w.alloc o) ob t :=
  ⟨h.row.alloc o, fun c hc => (h.chains c hc).alloc o⟩
theorem IsDict.alloc {w : World} {b : Nat} {d : DM V} (h : IsDict w b d) (o : Obj) : IsDict (w.alloc o) b d :=
  ⟨h.str.alloc o, fun h0 => (h.old h0).alloc o, fun h0 => (h.young h0).alloc o, h.ne⟩

theorem room_a {w : World} {b : Nat} {d : DM V} (h : IsDict w b d) (ho : d.old = []) (hy : d.young = []) :
    IsDict ((w.setCell ⟨b, 1, none⟩ (.slice (some ⟨w.heap.size, 0, none⟩) 4 4)).alloc (.cells (tabCells (List.replicate 4 [])) 187)) b (d.room w.heap.size) := by
  unfold DM.room
  rw [if_pos ho]
  exact ⟨(h.str.set 1 _).alloc _, fun _ => Table.fresh w 4 b 1 _, fun h0 => absurd hy h0, fun _ h0 => absurd hy h0⟩
theorem room_b {w : World} {b : Nat} {d : DM V} (h : IsDict w b d) (ho : d.old ≠ []) (hy : d.young = []) (hn : d.old.length ≤ d.n) :
    IsDict ((w.setCell ⟨b, 2, none⟩ (.slice (some ⟨w.heap.size, 0, none⟩) (2 * d.old.length) (2 * d.old.length))).alloc (.cells (tabCells (List.replicate (2 * d.old.length) [])) 187)) b (d.room w.heap.size) := by
  have hpos : 0 < d.old.length := List.length_pos_iff.2 ho
  unfold DM.room
  rw [if_neg ho, if_pos ⟨hy, hn⟩]
  have hne : List.replicate (2 * d.old.length) ([] : List E) ≠ [] := by
    intro h0
    have := congrArg List.length h0
    simp at this; omega
  refine ⟨?_, fun h0 => ((h.old h0).setStr h.str 2 _).alloc _, fun _ => Table.fresh w _ b 2 _, ?_⟩
  · have h1 := (h.str.set 2 (.slice (some ⟨w.heap.size, 0, none⟩) (2 * d.old.length) (2 * d.old.length))).alloc (.cells (tabCells (List.replicate (2 * d.old.length) [])) 187)
    dsimp only
    rw [tabVal_some hne, List.length_replicate]
    exact h1
  · intro _ _
    exact Nat.ne_of_lt (h.old ho).row.lt
theorem room_c {d : DM V} (ho : d.old ≠ []) (hc : ¬ (d.young = [] ∧ d.old.length ≤ d.n)) (tb : Nat) : d.room tb = d := by
  unfold DM.room
  rw [if_neg ho, if_neg hc]

theorem fp_room {b : Nat} {d : DM V} {tb r : Nat} (h : fp b (d.room tb) r) : fp b d r ∨ r = tb := by
  unfold DM.room at h
  split at h
  · rename_i h0
    rcases h with rfl | ⟨_, rfl⟩ | ⟨h1, rfl⟩ | ⟨x, hx, rfl⟩
    · exact .inl (.inl rfl)
    · exact .inr rfl
    · exact .inl (fp_young h1)
    · refine .inl (fp_ent ?_)
      simp only [DM.ents, replicate_ents, List.nil_append] at hx
      exact List.mem_append_right _ hx
  · split at h
    · rename_i h0 h1
      rcases h with rfl | ⟨h2, rfl⟩ | ⟨_, rfl⟩ | ⟨x, hx, rfl⟩
      · exact .inl (.inl rfl)
      · exact .inl (fp_old h2)
      · exact .inr rfl
      · refine .inl (fp_ent ?_)
        simp only [DM.ents, replicate_ents, List.append_nil] at hx
        exact List.mem_append_left _ hx
    · exact .inl h

/-- The blocks of a dict are blocks of the heap. -/
theorem IsDict.fp_lt {w : World} {b : Nat} {d : DM V} (h : IsDict w b d) {r : Nat} (hr : fp b d r) : r < w.heap.size := by
  rcases hr with rfl | ⟨h1, rfl⟩ | ⟨h1, rfl⟩ | ⟨x, hx, rfl⟩
  · exact h.str.lt
  · exact (h.old h1).row.lt
  · exact (h.young h1).row.lt
  · rcases List.mem_append.1 hx with hx | hx
    · have h0 : d.old ≠ [] := by intro h0; rw [h0] at hx; simp [ents] at hx
      obtain ⟨nx, hb⟩ := (h.old h0).blk_of hx
      exact hb.lt
    · have h0 : d.young ≠ [] := by intro h0; rw [h0] at hx; simp [ents] at hx
      obtain ⟨nx, hb⟩ := (h.young h0).blk_of hx
      exact hb.lt
/-- A dict whose blocks are as they were. -/
theorem IsDict.of_heap {w w' : World} {b : Nat} {d : DM V} (h : IsDict w b d) (k : ∀ r, fp b d r → w'.heap[r]? = w.heap[r]?) : IsDict w' b d :=
  ⟨h.str.of_heap (k b (.inl rfl)), fun h0 => (h.old h0).of_heap (k _ (fp_old h0)) (fun _ he => k _ (fp_ent (List.mem_append_left _ he))), fun h0 => (h.young h0).of_heap (k _ (fp_young h0)) (fun _ he => k _ (fp_ent (List.mem_append_right _ he))), h.ne⟩

/-- An entry hung into old, and counted. -/
theorem add_old {w : World} {b : Nat} {d : DM V} {key : ByteArray} {v : V} (h : IsDict w b d) (ho : d.old ≠ []) (hy : d.young = []) (n : Int) (hn : n = (d.n + 1 : Nat)) :
    IsDict ((hangW (w.alloc (.cells (cellsOf ⟨w.heap.size, key, v⟩ (.pointer none)) 189)) d.oldB (hashD d key % d.old.length) d.old ⟨w.heap.size, key, v⟩).setCell ⟨b, 4, none⟩ (.int .i64 n)) b (d.add (hashD d) ⟨w.heap.size, key, v⟩) ∧
    Keeps (fp b d) w ((hangW (w.alloc (.cells (cellsOf ⟨w.heap.size, key, v⟩ (.pointer none)) 189)) d.oldB (hashD d key % d.old.length) d.old ⟨w.heap.size, key, v⟩).setCell ⟨b, 4, none⟩ (.int .i64 n)) ∧
    Blk (hangW (w.alloc (.cells (cellsOf ⟨w.heap.size, key, v⟩ (.pointer none)) 189)) d.oldB (hashD d key % d.old.length) d.old ⟨w.heap.size, key, v⟩) b #[.int .u64 d.seed, tabVal d.old d.oldB, tabVal d.young d.youngB, .int .i64 d.at_, .int .i64 d.n] 184 := by
  have he := Blk.new w (cellsOf ⟨w.heap.size, key, v⟩ (.pointer none)) 189
  have hT := (h.old ho).alloc (.cells (cellsOf ⟨w.heap.size, key, v⟩ (.pointer none)) 189)
  obtain ⟨t1, t2⟩ := hang_table (hash := hashD d) (e := ⟨w.heap.size, key, v⟩) hT he (fun x hx => by
    obtain ⟨nx, hb⟩ := (h.old ho).blk_of hx
    exact Nat.ne_of_lt hb.lt)
  have hs := t2.blk (h.str.alloc _) (by
    rintro (h1 | h1)
    · exact h.str.ne (h.old ho).row (by decide) h1
    · exact Nat.ne_of_lt h.str.lt h1)
  have hl := hang_length (hash := hashD d) d.old ⟨w.heap.size, key, v⟩
  have hno : hang (hashD d) d.old ⟨w.heap.size, key, v⟩ ≠ [] := fun h0 => ho ((nil_of_length hl).1 h0)
  unfold DM.add
  rw [if_pos hy]
  subst hn
  refine ⟨⟨?_, fun _ => t1.setStr hs 4 _, fun h0 => absurd hy h0, fun _ h0 => absurd hy h0⟩, ?_, hs⟩
  · have h1 := hs.set 4 (.int .i64 ((d.n + 1 : Nat) : Int))
    dsimp only
    rw [tabVal_some hno, hl, ← tabVal_some ho]
    exact h1
  · refine (((Keeps.refl _ w).alloc _).trans' t2 ?_).set _ (fun _ => .inl rfl)
    rintro r hr (rfl | rfl)
    · exact fp_old ho
    · exact absurd hr (Nat.lt_irrefl _)
theorem add_young {w : World} {b : Nat} {d : DM V} {key : ByteArray} {v : V} (h : IsDict w b d) (ho : d.old ≠ []) (hy : d.young ≠ []) (n : Int) (hn : n = (d.n + 1 : Nat)) :
    IsDict ((hangW (w.alloc (.cells (cellsOf ⟨w.heap.size, key, v⟩ (.pointer none)) 189)) d.youngB (hashD d key % d.young.length) d.young ⟨w.heap.size, key, v⟩).setCell ⟨b, 4, none⟩ (.int .i64 n)) b (d.add (hashD d) ⟨w.heap.size, key, v⟩) ∧
    Keeps (fp b d) w ((hangW (w.alloc (.cells (cellsOf ⟨w.heap.size, key, v⟩ (.pointer none)) 189)) d.youngB (hashD d key % d.young.length) d.young ⟨w.heap.size, key, v⟩).setCell ⟨b, 4, none⟩ (.int .i64 n)) ∧
    Blk (hangW (w.alloc (.cells (cellsOf ⟨w.heap.size, key, v⟩ (.pointer none)) 189)) d.youngB (hashD d key % d.young.length) d.young ⟨w.heap.size, key, v⟩) b #[.int .u64 d.seed, tabVal d.old d.oldB, tabVal d.young d.youngB, .int .i64 d.at_, .int .i64 d.n] 184 := by
  have he := Blk.new w (cellsOf ⟨w.heap.size, key, v⟩ (.pointer none)) 189
  have hT := (h.young hy).alloc (.cells (cellsOf ⟨w.heap.size, key, v⟩ (.pointer none)) 189)
  have hO := (h.old ho).alloc (.cells (cellsOf ⟨w.heap.size, key, v⟩ (.pointer none)) 189)
  obtain ⟨t1, t2⟩ := hang_table (hash := hashD d) (e := ⟨w.heap.size, key, v⟩) hT he (fun x hx => by
    obtain ⟨nx, hb⟩ := (h.young hy).blk_of hx
    exact Nat.ne_of_lt hb.lt)
  have hs := t2.blk (h.str.alloc _) (by
    rintro (h1 | h1)
    · exact h.str.ne (h.young hy).row (by decide) h1
    · exact Nat.ne_of_lt h.str.lt h1)
  have hl := hang_length (hash := hashD d) d.young ⟨w.heap.size, key, v⟩
  have hno : hang (hashD d) d.young ⟨w.heap.size, key, v⟩ ≠ [] := fun h0 => hy ((nil_of_length hl).1 h0)
  have hO' := hO.of_heap (w' := hangW (w.alloc (.cells (cellsOf ⟨w.heap.size, key, v⟩ (.pointer none)) 189)) d.youngB (hashD d key % d.young.length) d.young ⟨w.heap.size, key, v⟩)
    (t2.same _ hO.row.lt (by
      rintro (h1 | h1)
      · exact h.ne ho hy h1
      · exact Nat.ne_of_lt (h.old ho).row.lt h1))
    (fun x hx => by
      obtain ⟨nx, hb⟩ := (h.old ho).blk_of hx
      refine t2.same _ (hb.alloc _).lt ?_
      rintro (h1 | h1)
      · exact hb.ne (h.young hy).row (by decide) h1
      · exact Nat.ne_of_lt hb.lt h1)
  unfold DM.add
  rw [if_neg hy]
  subst hn
  refine ⟨⟨?_, fun _ => hO'.setStr hs 4 _, fun _ => t1.setStr hs 4 _, fun h1 _ => h.ne h1 hy⟩, ?_, hs⟩
  · have h1 := hs.set 4 (.int .i64 ((d.n + 1 : Nat) : Int))
    dsimp only
    rw [tabVal_some hno, hl, ← tabVal_some hy]
    exact h1
  · refine (((Keeps.refl _ w).alloc _).trans' t2 ?_).set _ (fun _ => .inl rfl)
    rintro r hr (rfl | rfl)
    · exact fp_young hy
    · exact absurd hr (Nat.lt_irrefl _)


theorem set_eq_new {d : DM V} {cap : Nat} (h : d.Ok (hashD d) cap) {key : ByteArray} (hf : d.find (hashD d) key = none) (v : V) (blk tb : Nat) :
    d.set (hashD d) key v blk tb = ((d.step (hashD d)).room tb).add (hashD d) ⟨blk, key, v⟩ := by
  unfold DM.set
  rw [step_find h key, hf]
theorem Good.set_new {w w' : World} {b : Nat} {d : DM V} {cap : Nat} (h : Good w b d cap) {key : ByteArray} (hs : key.size ≤ maxLen) (hf : d.find (hashD d) key = none) (hn : d.n < cap) {v : V} {blk tb : Nat}
    (hD : IsDict w' b (d.set (hashD d) key v blk tb)) : Good w' b (d.set (hashD d) key v blk tb) cap := by
  obtain ⟨h1, h2⟩ := Go.Proofs.YtgjpaecpljifpaaGreat.set_new h.ok v blk tb (by rw [step_find h.ok key]; exact hf) hn
  refine ⟨hD, by unfold hashD; rw [set_seed]; exact h1, fun e he => ?_, h.small⟩
  rcases List.mem_cons.1 (h2.mem_iff.1 he) with rfl | he
  · exact hs
  · exact h.keys e he
theorem fp_set_new {b : Nat} {d : DM V} {cap : Nat} (h : d.Ok (hashD d) cap) {key : ByteArray} (hf : d.find (hashD d) key = none) (v : V) (blk tb : Nat) {r : Nat} (hr : fp b (d.set (hashD d) key v blk tb) r) : fp b d r ∨ r = blk ∨ r = tb := by
  rw [set_eq_new h hf] at hr
  have hroom : ∀ x, fp b ((d.step (hashD d)).room tb) x → fp b d x ∨ x = tb := fun x hx => (fp_room hx).elim (fun h1 => .inl (fp_step h h1)) .inr
  obtain ⟨q1, q2, q3⟩ := room_ok (step_ok h).1 tb
  have hadd : ∀ x, fp b (((d.step (hashD d)).room tb).add (hashD d) ⟨blk, key, v⟩) x → fp b ((d.step (hashD d)).room tb) x ∨ x = blk := by
    intro x hx
    obtain ⟨d2, hd2⟩ : ∃ d2, (d.step (hashD d)).room tb = d2 := ⟨_, rfl⟩
    rw [hd2] at hx q3 ⊢
    unfold DM.add at hx
    split at hx
    · rename_i hy
      rcases hx with rfl | ⟨_, rfl⟩ | ⟨h1, rfl⟩ | ⟨y, hy', rfl⟩
      · exact .inl (.inl rfl)
      · exact .inl (fp_old q3)
      · exact absurd hy h1
      · rcases List.mem_append.1 hy' with hy' | hy'
        · rcases List.mem_cons.1 ((hang_ents (hash := hashD d) q3 ⟨blk, key, v⟩).mem_iff.1 hy') with rfl | hy'
          · exact .inr rfl
          · exact .inl (fp_ent (List.mem_append_left _ hy'))
        · exact .inl (fp_ent (List.mem_append_right _ hy'))
    · rename_i hy
      rcases hx with rfl | ⟨h1, rfl⟩ | ⟨_, rfl⟩ | ⟨y, hy', rfl⟩
      · exact .inl (.inl rfl)
      · exact .inl (fp_old h1)
      · exact .inl (fp_young hy)
      · rcases List.mem_append.1 hy' with hy' | hy'
        · exact .inl (fp_ent (List.mem_append_left _ hy'))
        · rcases List.mem_cons.1 ((hang_ents (hash := hashD d) hy ⟨blk, key, v⟩).mem_iff.1 hy') with rfl | hy'
          · exact .inr rfl
          · exact .inl (fp_ent (List.mem_append_right _ hy'))
  rcases hadd r hr with h1 | h1
  · exact (hroom r h1).elim .inl (fun h2 => .inr (.inr h2))
  · exact .inr (.inl h1)
end Go.Proofs.YtgjpaecpljifpaaGreat.DE

/- The dict in memory (values: *pantry/keyspace.entry): what is stored under a key; Get, Set, Delete in these words. -/
import Derived.Test.YtgjpaecpljifpaaGreatDictZE
namespace Go.Proofs.YtgjpaecpljifpaaGreat.DE
open Go Go.RowKit Go.Proofs.YtgjpaecpljifpaaGreat

/-- What is stored under a key. -/
def look (d : DM V) (k : ByteArray) : Option V := (d.find (hashD d) k).map fun e => e.val
def vOf : Option V → Value
  | some v => encV v
  | none => .pointer none
theorem valOf_eq (o : Option E) : valOf o = vOf (o.map fun e => e.val) := by cases o <;> rfl
theorem look_isSome (d : DM V) (k : ByteArray) : (d.find (hashD d) k).isSome = (look d k).isSome := by simp [look]

theorem look_iff {d : DM V} {cap : Nat} (h : d.Ok (hashD d) cap) {k : ByteArray} {v : V} : look d k = some v ↔ ∃ e ∈ d.ents, e.key = k ∧ e.val = v := by
  unfold look
  rw [Option.map_eq_some_iff]
  constructor
  · rintro ⟨e, he, rfl⟩
    exact ⟨e, ((find_iff h).1 he).1, ((find_iff h).1 he).2, rfl⟩
  · rintro ⟨e, he, hk, rfl⟩
    exact ⟨e, (find_iff h).2 ⟨he, hk⟩, rfl⟩
theorem look_none {d : DM V} {cap : Nat} (h : d.Ok (hashD d) cap) {k : ByteArray} : look d k = none ↔ ∀ e ∈ d.ents, e.key ≠ k := by
  unfold look
  rw [Option.map_eq_none_iff]
  constructor
  · exact find_none h
  · intro hn
    cases hf : d.find (hashD d) k with
    | none => rfl
    | some e => exact absurd ((find_iff h).1 hf).2 (hn e ((find_iff h).1 hf).1)
theorem look_perm {d d' : DM V} {cap cap' : Nat} (h : d.Ok (hashD d) cap) (h' : d'.Ok (hashD d') cap') (p : d'.ents.Perm d.ents) (k : ByteArray) : look d' k = look d k := by
  cases hl : look d k with
  | none => exact (look_none h').2 fun e he => (look_none h).1 hl e (p.mem_iff.1 he)
  | some v =>
    obtain ⟨e, he, h1⟩ := (look_iff h).1 hl
    exact (look_iff h').2 ⟨e, p.mem_iff.2 he, h1⟩

theorem hashD_set (d : DM V) (key : ByteArray) (v : V) (blk tb : Nat) : hashD (d.set (hashD d) key v blk tb) = hashD d := by unfold hashD; rw [set_seed]
theorem hashD_del (d : DM V) (key : ByteArray) (tb : Nat) : hashD (d.del (hashD d) key tb).1 = hashD d := by unfold hashD; rw [del_seed]

theorem look_step {d : DM V} {cap : Nat} (h : d.Ok (hashD d) cap) (k : ByteArray) : look (d.step (hashD d)) k = look d k :=
  look_perm h (by rw [hashD_step]; exact (step_ok h).1) (step_ok h).2 k

theorem look_set {d : DM V} {cap : Nat} (h : d.Ok (hashD d) cap) (key : ByteArray) (v : V) (blk tb : Nat) (hn : d.n < cap) (k : ByteArray) :
    look (d.set (hashD d) key v blk tb) k = if k = key then some v else look d k := by
  cases hf : (d.step (hashD d)).find (hashD d) key with
  | none =>
    obtain ⟨ok, p⟩ := set_new h v blk tb hf hn
    have ok' : (d.set (hashD d) key v blk tb).Ok (hashD (d.set (hashD d) key v blk tb)) cap := by rw [hashD_set]; exact ok
    have hno : ∀ e ∈ d.ents, e.key ≠ key := fun e he => find_none (step_ok h).1 hf e ((step_ok h).2.mem_iff.2 he)
    by_cases hk : k = key
    · subst hk
      rw [if_pos rfl]
      exact (look_iff ok').2 ⟨_, p.mem_iff.2 List.mem_cons_self, rfl, rfl⟩
    · rw [if_neg hk]
      cases hl : look d k with
      | none =>
        refine (look_none ok').2 fun e he => ?_
        rcases List.mem_cons.1 (p.mem_iff.1 he) with rfl | he
        · exact fun e => hk e.symm
        · exact (look_none h).1 hl e he
      | some u =>
        obtain ⟨e, he, h1⟩ := (look_iff h).1 hl
        exact (look_iff ok').2 ⟨e, p.mem_iff.2 (List.mem_cons_of_mem _ he), h1⟩
  | some x =>
    obtain ⟨ok, p⟩ := set_old h v blk tb hf
    have ok' : (d.set (hashD d) key v blk tb).Ok (hashD (d.set (hashD d) key v blk tb)) cap := by rw [hashD_set]; exact ok
    have hx : x ∈ d.ents ∧ x.key = key := ⟨(step_ok h).2.mem_iff.1 (find_some hf).1, (find_some hf).2⟩
    by_cases hk : k = key
    · subst hk
      rw [if_pos rfl]
      exact (look_iff ok').2 ⟨{ x with val := v }, p.mem_iff.2 (List.mem_map.2 ⟨x, hx.1, by rw [if_pos hx.2]⟩), hx.2, rfl⟩
    · rw [if_neg hk]
      cases hl : look d k with
      | none =>
        refine (look_none ok').2 fun e he => ?_
        obtain ⟨y, hy, rfl⟩ := List.mem_map.1 (p.mem_iff.1 he)
        have := (look_none h).1 hl y hy
        split <;> exact this
      | some u =>
        obtain ⟨e, he, h1, h2⟩ := (look_iff h).1 hl
        refine (look_iff ok').2 ⟨e, p.mem_iff.2 (List.mem_map.2 ⟨e, he, by rw [if_neg]; rw [h1]; exact hk⟩), h1, h2⟩

theorem look_del {d : DM V} {cap : Nat} (h : d.Ok (hashD d) cap) (key : ByteArray) (tb : Nat) (k : ByteArray) :
    look (d.del (hashD d) key tb).1 k = if k = key then none else look d k := by
  cases hf : (d.step (hashD d)).find (hashD d) key with
  | none =>
    have hno : ∀ e ∈ d.ents, e.key ≠ key := fun e he => find_none (step_ok h).1 hf e ((step_ok h).2.mem_iff.2 he)
    have e1 : (d.del (hashD d) key tb).1 = d.step (hashD d) := by unfold DM.del; rw [hf]
    rw [e1, look_step h]
    by_cases hk : k = key
    · subst hk
      rw [if_pos rfl]
      exact (look_none h).2 hno
    · rw [if_neg hk]
  | some x =>
    obtain ⟨ok, p⟩ := del_some h tb hf
    have ok' : (d.del (hashD d) key tb).1.Ok (hashD (d.del (hashD d) key tb).1) cap := by rw [hashD_del]; exact ok
    by_cases hk : k = key
    · subst hk
      rw [if_pos rfl]
      refine (look_none ok').2 fun e he => ?_
      have := (List.mem_filter.1 (p.mem_iff.1 he)).2
      simpa using this
    · rw [if_neg hk]
      cases hl : look d k with
      | none => exact (look_none ok').2 fun e he => (look_none h).1 hl e (List.mem_filter.1 (p.mem_iff.1 he)).1
      | some u =>
        obtain ⟨e, he, h1, h2⟩ := (look_iff h).1 hl
        exact (look_iff ok').2 ⟨e, p.mem_iff.2 (List.mem_filter.2 ⟨he, by simp [h1, hk]⟩), h1, h2⟩

theorem ents_len {d : DM V} {cap : Nat} (h : d.Ok (hashD d) cap) : d.ents.length = d.n := by rw [h.count]; simp [DM.ents]
theorem n_le {d : DM V} {cap : Nat} (h : d.Ok (hashD d) cap) (U : List ByteArray) (hU : ∀ k, (look d k).isSome = true → k ∈ U) : d.n ≤ U.length := by
  rw [← ents_len h, ← List.length_map (f := fun e : E => e.key)]
  refine List.Nodup.length_le_of_subset (ok_nodup h) fun k hk => hU k ?_
  obtain ⟨e, he, rfl⟩ := List.mem_map.1 hk
  rw [(look_iff h).2 ⟨e, he, rfl, rfl⟩]
  rfl

theorem n_mono {d d' : DM V} {cap cap' : Nat} (h' : d'.Ok (hashD d') cap') (h : d.Ok (hashD d) cap) (hs : ∀ k, (look d' k).isSome = true → (look d k).isSome = true) : d'.n ≤ d.n := by
  have := n_le h' (d.ents.map fun e => e.key) fun k hk => by
    obtain ⟨v, hv⟩ := Option.isSome_iff_exists.1 (hs k hk)
    obtain ⟨e, he, h1, _⟩ := (look_iff h).1 hv
    exact List.mem_map.2 ⟨e, he, h1⟩
  rwa [List.length_map, ents_len h] at this
theorem n_less {d d' : DM V} {cap cap' : Nat} (h' : d'.Ok (hashD d') cap') (h : d.Ok (hashD d) cap) {key : ByteArray} (h1 : look d' key = none) (h2 : (look d key).isSome = true) (hs : ∀ k, (look d' k).isSome = true → (look d k).isSome = true) : d'.n < d.n := by
  have hin : ∀ k, (look d k).isSome = true → k ∈ d.ents.map fun e => e.key := fun k hk => by
    obtain ⟨v, hv⟩ := Option.isSome_iff_exists.1 hk
    obtain ⟨e, he, h1, _⟩ := (look_iff h).1 hv
    exact List.mem_map.2 ⟨e, he, h1⟩
  have hnd : (key :: d'.ents.map fun e => e.key).Nodup := by
    refine List.nodup_cons.2 ⟨fun hm => ?_, ok_nodup h'⟩
    obtain ⟨e, he, rfl⟩ := List.mem_map.1 hm
    exact (look_none h').1 h1 e he rfl
  have := hnd.length_le_of_subset (l₂ := d.ents.map fun e => e.key) fun k hk => by
    rcases List.mem_cons.1 hk with rfl | hk
    · exact hin _ h2
    · obtain ⟨e, he, rfl⟩ := List.mem_map.1 hk
      exact hin _ (hs _ (by rw [(look_iff h').2 ⟨e, he, rfl, rfl⟩]; rfl))
  rw [List.length_cons, List.length_map, List.length_map, ents_len h, ents_len h'] at this
  omega
theorem n_more {d d' : DM V} {cap cap' : Nat} (h' : d'.Ok (hashD d') cap') (h : d.Ok (hashD d) cap) (key : ByteArray) (hs : ∀ k, (look d' k).isSome = true → k = key ∨ (look d k).isSome = true) : d'.n ≤ d.n + 1 := by
  have := n_le h' (key :: d.ents.map fun e => e.key) fun k hk => by
    rcases hs k hk with rfl | hk
    · exact List.mem_cons_self
    · obtain ⟨v, hv⟩ := Option.isSome_iff_exists.1 hk
      obtain ⟨e, he, h1, _⟩ := (look_iff h).1 hv
      exact List.mem_cons_of_mem _ (List.mem_map.2 ⟨e, he, h1⟩)
  rwa [List.length_cons, List.length_map, ents_len h] at this

theorem look_new (seed : Int) (k : ByteArray) : look (newD seed) k = none := rfl

/-- A dict's blocks, told by their types. -/
theorem fp_ne {w : World} {b : Nat} {d : DM V} (h : IsDict w b d) {r : Nat} {cs : Array Value} {t : TypeId} (hb : Blk w r cs t)
    (h1 : t ≠ 184) (h2 : t ≠ 187) (h3 : t ≠ 189) : ¬ fp b d r := by
  rintro (rfl | ⟨h0, rfl⟩ | ⟨h0, rfl⟩ | ⟨x, hx, rfl⟩)
  · exact hb.ne h.str h1 rfl
  · exact hb.ne (h.old h0).row h2 rfl
  · exact hb.ne (h.young h0).row h2 rfl
  · rcases List.mem_append.1 hx with hx | hx
    · obtain ⟨c, hc, hxc⟩ := List.mem_flatten.1 hx
      obtain ⟨nx, hn⟩ := ((h.old (fun e => by rw [e] at hc; cases hc)).chains c hc).blk x hxc
      exact hb.ne hn h3 rfl
    · obtain ⟨c, hc, hxc⟩ := List.mem_flatten.1 hx
      obtain ⟨nx, hn⟩ := ((h.young (fun e => by rw [e] at hc; cases hc)).chains c hc).blk x hxc
      exact hb.ne hn h3 rfl
theorem fp_cells {w : World} {b : Nat} {d : DM V} (h : IsDict w b d) {r : Nat} (hr : fp b d r) : ∃ cs t, Blk w r cs t := by
  rcases hr with rfl | ⟨h0, rfl⟩ | ⟨h0, rfl⟩ | ⟨x, hx, rfl⟩
  · exact ⟨_, _, h.str⟩
  · exact ⟨_, _, (h.old h0).row⟩
  · exact ⟨_, _, (h.young h0).row⟩
  · rcases List.mem_append.1 hx with hx | hx
    · obtain ⟨c, hc, hxc⟩ := List.mem_flatten.1 hx
      obtain ⟨nx, hn⟩ := ((h.old (fun e => by rw [e] at hc; cases hc)).chains c hc).blk x hxc
      exact ⟨_, _, hn⟩
    · obtain ⟨c, hc, hxc⟩ := List.mem_flatten.1 hx
      obtain ⟨nx, hn⟩ := ((h.young (fun e => by rw [e] at hc; cases hc)).chains c hc).blk x hxc
      exact ⟨_, _, hn⟩

theorem Good.of_heap {w w' : World} {b : Nat} {d : DM V} {cap : Nat} (h : Good w b d cap) (k : ∀ r, fp b d r → w'.heap[r]? = w.heap[r]?) : Good w' b d cap :=
  ⟨h.dict.of_heap k, h.ok, h.keys, h.small⟩
theorem Good.keeps {w w' : World} {b : Nat} {d : DM V} {cap : Nat} {S : Nat → Prop} (h : Good w b d cap) (k : Keeps S w w') (hs : ∀ r, fp b d r → ¬ S r) : Good w' b d cap :=
  h.of_heap fun r hr => k.same r (h.dict.fp_lt hr) (hs r hr)

/-- What a call does to a dict: what is stored under the keys now; which blocks are touched; where new ones lie. -/
structure Turned (w w' : World) (b : Nat) (d d' : DM V) (cap : Nat) (g : ByteArray → Option V) : Prop where
  good : Good w' b d' cap
  keeps : Keeps (fp b d) w w'
  fps : ∀ r, fp b d' r → fp b d r ∨ w.heap.size ≤ r
  look : ∀ k, look d' k = g k

theorem Get_look (b : Nat) (d : DM V) (key : ByteArray) (w : World) {cap : Nat} (hG : Good w b d cap) (hs : key.size ≤ maxLen) :
    Calls Tryz.prog 121 #[.pointer (some ⟨b, 0, none⟩), .string key] w
      fun e w' => e = .returned (.tuple #[vOf (look d key), .bool (look d key).isSome]) ∧ ∃ d', Turned w w' b d d' cap (look d) := by
  refine (Get_any b d key w hG hs).mono ?_
  rintro e w' ⟨rfl, h1, h2⟩
  exact ⟨by rw [valOf_eq, look_isSome]; rfl, _, h1, h2, fun r hr => .inl (fp_step hG.ok hr), look_step hG.ok⟩

theorem Set_look (b : Nat) (d : DM V) (key : ByteArray) (v : V) (w : World) {cap : Nat} (hG : Good w b d cap) (hs : key.size ≤ maxLen) (hn : d.n < cap) :
    Calls Tryz.prog 51 #[.pointer (some ⟨b, 0, none⟩), .string key, encV v] w
      fun e w' => e = .returned (.bool (look d key).isNone) ∧ ∃ d', Turned w w' b d d' cap (fun k => if k = key then some v else look d k) := by
  refine (Set_any b d key v w hG hs hn).mono ?_
  rintro e w' ⟨rfl, blk, tb, h1, h2, h3⟩
  refine ⟨?_, _, h1, h2, h3, look_set hG.ok key v blk tb hn⟩
  unfold look
  cases d.find (hashD d) key <;> rfl

theorem Delete_look (b : Nat) (d : DM V) (key : ByteArray) (w : World) {cap : Nat} (hG : Good w b d cap) (hs : key.size ≤ maxLen) :
    Calls Tryz.prog 49 #[.pointer (some ⟨b, 0, none⟩), .string key] w
      fun e w' => e = .returned (.bool (look d key).isSome) ∧ ∃ d', Turned w w' b d d' cap (fun k => if k = key then none else look d k) := by
  refine (Delete_any b d key w hG hs).mono ?_
  rintro e w' ⟨rfl, tb, h1, h2, h3⟩
  exact ⟨by rw [look_isSome], _, h1, h2, h3, look_del hG.ok key tb⟩
end Go.Proofs.YtgjpaecpljifpaaGreat.DE

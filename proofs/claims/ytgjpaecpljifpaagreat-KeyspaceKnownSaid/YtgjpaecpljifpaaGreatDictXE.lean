/- The dict in memory (values: *pantry/keyspace.entry): Set of a key that is there; Set. -/
import Derived.Test.YtgjpaecpljifpaaGreatDictWE
namespace Go.Proofs.YtgjpaecpljifpaaGreat.DE
open Go Go.RowKit Go.Proofs.YtgjpaecpljifpaaGreat

theorem headA_map (f : E → E) (hf : ∀ e, (f e).blk = e.blk) (l : List E) : headA (l.map f) = headA l := by
  cases l with
  | nil => rfl
  | cons e l => simp [headA, hf]
theorem tabCells_relay (t : Tab V) (key : ByteArray) (v : V) : tabCells (relay t key v) = tabCells t := by
  unfold tabCells relay
  rw [List.map_map]
  congr 1
  apply List.map_congr_left
  intro c _
  simp only [Function.comp]
  rw [headA_map]
  intro e
  split <;> rfl
theorem chain_relay {w : World} {xb : Nat} {key : ByteArray} {v : V} : ∀ {l : List E}, Chain w l → (∀ e ∈ l, e.key = key → e.blk = xb) → (∀ e ∈ l, e.key ≠ key → e.blk ≠ xb) →
    Chain (w.setCell ⟨xb, 1, none⟩ (encV v)) (l.map fun e => if e.key = key then { e with val := v } else e)
  | [], _, _, _ => trivial
  | e :: l, ⟨h1, h2⟩, k1, k2 => by
    have ih := chain_relay (v := v) h2 (fun x hx => k1 x (List.mem_cons_of_mem _ hx)) (fun x hx => k2 x (List.mem_cons_of_mem _ hx))
    rw [List.map_cons]
    refine ⟨?_, ih⟩
    rw [headA_map _ (by intro e; split <;> rfl)]
    by_cases hk : e.key = key
    · rw [if_pos hk]
      have hb := k1 e List.mem_cons_self hk
      rw [← hb]
      exact h1.set 1 (encV v)
    · rw [if_neg hk]
      exact h1.set_ne _ (k2 e List.mem_cons_self hk)

theorem relay_dict {w : World} {b : Nat} {d : DM V} {cap : Nat} (h : IsDict w b d) (hok : d.Ok (hashD d) cap) {x : E} (hx : x ∈ d.ents) (v : V) :
    IsDict (w.setCell ⟨x.blk, 1, none⟩ (encV v)) b { d with old := relay d.old x.key v, young := relay d.young x.key v } := by
  have hxb : ∃ nx, Blk w x.blk (cellsOf x nx) 189 := by
    rcases List.mem_append.1 hx with hx | hx
    · exact (h.old (by intro h0; rw [h0] at hx; simp [ents] at hx)).blk_of hx
    · exact (h.young (by intro h0; rw [h0] at hx; simp [ents] at hx)).blk_of hx
  obtain ⟨nx, hxb⟩ := hxb
  have tab : ∀ {ob : Nat} {t : Tab V}, (∀ e ∈ ents t, e ∈ d.ents) → Table w ob t → Table (w.setCell ⟨x.blk, 1, none⟩ (encV v)) ob (relay t x.key v) := by
    intro ob t ht hT
    refine ⟨?_, ?_⟩
    · rw [tabCells_relay]
      exact hT.row.set_ne _ (hT.ob_ne hxb)
    · intro c hc
      unfold relay at hc
      obtain ⟨c', hc', rfl⟩ := List.mem_map.1 hc
      refine chain_relay (hT.chains c' hc') ?_ ?_
      · intro e he hk
        rw [ok_uniq hok (ht e (List.mem_flatten.2 ⟨c', hc', he⟩)) hx hk]
      · intro e he hk hb
        obtain ⟨ny, heb⟩ := (hT.chains c' hc').blk e he
        exact hk (blk_key heb hxb hb)
  refine ⟨?_, ?_, ?_, ?_⟩
  · have h1 := h.str.set_ne (a := ⟨x.blk, 1, none⟩) (encV v) (h.str.ne hxb (by decide))
    have e1 : tabVal (relay d.old x.key v) d.oldB = tabVal d.old d.oldB := by unfold tabVal; simp only [nil_of_length (relay_length d.old x.key v), relay_length]
    have e2 : tabVal (relay d.young x.key v) d.youngB = tabVal d.young d.youngB := by unfold tabVal; simp only [nil_of_length (relay_length d.young x.key v), relay_length]
    dsimp only
    rw [e1, e2]
    exact h1
  · intro h0
    exact tab (fun e he => List.mem_append_left _ he) (h.old (fun h1 => h0 ((nil_of_length (relay_length _ _ _)).2 h1)))
  · intro h0
    exact tab (fun e he => List.mem_append_right _ he) (h.young (fun h1 => h0 ((nil_of_length (relay_length _ _ _)).2 h1)))
  · intro h0 h1
    exact h.ne (fun h2 => h0 ((nil_of_length (relay_length _ _ _)).2 h2)) (fun h2 => h1 ((nil_of_length (relay_length _ _ _)).2 h2))

theorem set_eq_old {d : DM V} {cap : Nat} (h : d.Ok (hashD d) cap) {key : ByteArray} {x : E} (hf : d.find (hashD d) key = some x) (v : V) (blk tb : Nat) :
    d.set (hashD d) key v blk tb = { d.step (hashD d) with old := relay (d.step (hashD d)).old key v, young := relay (d.step (hashD d)).young key v } := by
  unfold DM.set
  rw [step_find h key, hf]
theorem Good.set_old {w w' : World} {b : Nat} {d : DM V} {cap : Nat} (h : Good w b d cap) {key : ByteArray} {x : E} (hf : d.find (hashD d) key = some x) {v : V} {blk tb : Nat}
    (hD : IsDict w' b (d.set (hashD d) key v blk tb)) : Good w' b (d.set (hashD d) key v blk tb) cap := by
  obtain ⟨h1, h2⟩ := Go.Proofs.YtgjpaecpljifpaaGreat.set_old h.ok v blk tb (by rw [step_find h.ok key]; exact hf)
  refine ⟨hD, by unfold hashD; rw [set_seed]; exact h1, fun e he => ?_, h.small⟩
  obtain ⟨y, hy, rfl⟩ := List.mem_map.1 (h2.mem_iff.1 he)
  have := h.keys y hy
  split <;> exact this
theorem fp_set_old {b : Nat} {d : DM V} {cap : Nat} (h : d.Ok (hashD d) cap) {key : ByteArray} {x : E} (hf : d.find (hashD d) key = some x) (v : V) (blk tb : Nat) {r : Nat} (hr : fp b (d.set (hashD d) key v blk tb) r) : fp b d r := by
  rw [set_eq_old h hf] at hr
  refine fp_step h ?_
  rcases hr with rfl | ⟨h1, rfl⟩ | ⟨h1, rfl⟩ | ⟨y, hy, rfl⟩
  · exact .inl rfl
  · exact fp_old (fun h2 => h1 ((nil_of_length (relay_length _ _ _)).2 h2))
  · exact fp_young (fun h2 => h1 ((nil_of_length (relay_length _ _ _)).2 h2))
  · simp only [DM.ents, relay_ents, ← revalue_append] at hy
    obtain ⟨z, hz, rfl⟩ := List.mem_map.1 hy
    have : (if z.key = key then { z with val := v } else z).blk = z.blk := by split <;> rfl
    rw [this]
    exact fp_ent hz

set_option maxRecDepth 100000 in
set_option maxHeartbeats 2000000 in
theorem Set_old (b : Nat) (d : DM V) (key : ByteArray) (v : V) (w : World) {cap : Nat} (hG : Good w b d cap) (hs : key.size ≤ maxLen) {x : E} (hf : d.find (hashD d) key = some x) :
    Calls Tryz.prog 51 #[.pointer (some ⟨b, 0, none⟩), .string key, .pointer (some ⟨v, 0, none⟩)] w
      fun e w' => e = .returned (.bool false) ∧ Good w' b (d.set (hashD d) key v 0 0) cap ∧ Keeps (fp b d) w w' := by
  have hst := step_any b d w hG.ok hG.small hG.keys hG.dict
  have hfs : (d.step (hashD d)).find (hashD (d.step (hashD d))) key = some x := by rw [hashD_step, step_find hG.ok key]; exact hf
  have HS := Lib.hid hst
  clear hst
  go_enter Tryz.func51, Tryz.ntmps51
  go_wp2_with fail
  refine HS.out.mono ?_
  rintro e w1 ⟨rfl, hD1, hk1⟩
  have hG1 := hG.step hD1
  have hfind := find_any b (d.step (hashD d)) key w1 hG1.ok hG1.small hs hD1
  have HF := Lib.hid hfs
  have HF0 := Lib.hid hf
  have HK := Lib.hid hk1
  have HG1 := Lib.hid hG1
  have HG := Lib.hid hG
  clear hf hfs hk1 hG hG1 hD1
  go_wp2_with fail
  refine hfind.mono ?_
  rintro e w' ⟨hp, rfl⟩
  obtain ⟨ob, t, pre, post, hL, rfl⟩ := find_led HG1.out.dict HF.out hp
  have hc := hL.cell
  rw [place_plain] at hc ⊢
  obtain ⟨hxm, hxk⟩ := find_some HF.out
  have hxe := mem_of_getD (i := hashD (d.step (hashD d)) key % t.length) (by rw [hL.split]; exact List.mem_append_right _ List.mem_cons_self)
  obtain ⟨nx, hb⟩ := hL.table.blk_of hxe
  obtain ⟨vo, hvo⟩ : ∃ vo, w1.cell? ⟨x.blk, 1, none⟩ = some vo := ⟨_, hb.cell 1⟩
  have hfz : w1.frozen? ⟨x.blk, 1, none⟩ = false := hb.frozen 1
  have hR := relay_dict HG1.out.dict HG1.out.ok hxm v
  have HXK := Lib.hid hxk
  have HXM := Lib.hid hxm
  have HR := Lib.hid hR
  clear hp hL hb hxe hfind hxk hxm hR
  go_wp2_with fail
  go_ret
  refine ⟨rfl, HG.out.set_old HF0.out ?_, HK.out.set _ (fun _ => fp_step HG.out.ok (fp_ent HXM.out))⟩
  rw [set_eq_old HG.out.ok HF0.out, ← HXK.out]
  exact HR.out

/-- **Set.** -/
theorem Set_any (b : Nat) (d : DM V) (key : ByteArray) (v : V) (w : World) {cap : Nat} (hG : Good w b d cap) (hs : key.size ≤ maxLen) (hn : d.n < cap) :
    Calls Tryz.prog 51 #[.pointer (some ⟨b, 0, none⟩), .string key, .pointer (some ⟨v, 0, none⟩)] w
      fun e w' => e = .returned (.bool (d.find (hashD d) key).isNone) ∧ ∃ blk tb, Good w' b (d.set (hashD d) key v blk tb) cap ∧ Keeps (fp b d) w w' ∧ ∀ r, fp b (d.set (hashD d) key v blk tb) r → fp b d r ∨ w.heap.size ≤ r := by
  cases hf : d.find (hashD d) key with
  | some x =>
    refine (Set_old b d key v w hG hs hf).mono ?_
    rintro e w' ⟨rfl, h1, h2⟩
    exact ⟨rfl, 0, 0, h1, h2, fun r hr => .inl (fp_set_old hG.ok hf v 0 0 hr)⟩
  | none =>
    refine (Set_new b d key v w hG hs hn hf).mono ?_
    rintro e w' ⟨rfl, blk, tb, k1, k2, h1, h2⟩
    exact ⟨rfl, blk, tb, h1, h2, fun r hr => (fp_set_new hG.ok hf v blk tb hr).imp id (fun h => h.elim (fun h => h ▸ k1) (fun h => h ▸ k2))⟩
end Go.Proofs.YtgjpaecpljifpaaGreat.DE

namespace Go.Proofs.YtgjpaecpljifpaaGreat.DE
open Go Go.RowKit Go.Proofs.YtgjpaecpljifpaaGreat

theorem without_self {t : Tab V} {key : ByteArray} (h : ∀ e ∈ ents t, e.key ≠ key) : without t key = t := by
  unfold without
  conv => rhs; rw [← List.map_id t]
  apply List.map_congr_left
  intro c hc
  rw [List.filter_eq_self.2]
  · rfl
  · intro e he
    have := h e (List.mem_flatten.2 ⟨c, hc, he⟩)
    simpa using this
theorem filter_cut {pre post : List E} {x : E} {key : ByteArray} (hx : x.key = key) (hn : ((pre ++ x :: post).map fun e => e.key).Nodup) : (pre ++ x :: post).filter (fun e => e.key ≠ key) = pre ++ post := by
  rw [List.map_append, List.map_cons, List.nodup_append, List.nodup_cons] at hn
  obtain ⟨_, ⟨h2, _⟩, h4⟩ := hn
  rw [List.filter_append, List.filter_cons]
  rw [List.filter_eq_self.2, List.filter_eq_self.2]
  · simp [hx]
  · intro e he
    simp only [ne_eq, decide_not, Bool.not_eq_eq_eq_not, Bool.not_true, decide_eq_false_iff_not]
    intro hk
    exact h2 (List.mem_map.2 ⟨e, he, hk.trans hx.symm⟩)
  · intro e he
    simp only [ne_eq, decide_not, Bool.not_eq_eq_eq_not, Bool.not_true, decide_eq_false_iff_not]
    intro hk
    exact h4 _ (List.mem_map.2 ⟨e, he, rfl⟩) _ List.mem_cons_self (hk.trans hx.symm)
theorem without_set {hash : ByteArray → Nat} {t : Tab V} (h : TabOk hash t) (h0 : t ≠ []) {key : ByteArray} {pre post : List E} {x : E} (hs : t.getD (hash key % t.length) [] = pre ++ x :: post) (hx : x.key = key) :
    without t key = t.set (hash key % t.length) (pre ++ post) := by
  have hi : hash key % t.length < t.length := Nat.mod_lt _ (List.length_pos_iff.2 h0)
  apply List.ext_getElem?
  intro j
  rw [without, List.getElem?_map, List.getElem?_set]
  by_cases hj : hash key % t.length = j
  · subst hj
    rw [if_pos rfl, if_pos hi, getD_eq hi, hs]
    have hn := chain_nodup_of h (hash key % t.length)
    rw [hs] at hn
    rw [Option.map_some, filter_cut hx hn]
  · rw [if_neg hj]
    cases hc : t[j]? with
    | none => rfl
    | some c =>
      rw [Option.map_some, List.filter_eq_self.2]
      intro e he
      simp only [ne_eq, decide_not, Bool.not_eq_eq_eq_not, Bool.not_true, decide_eq_false_iff_not]
      intro hk
      have := h.slot j c e hc he
      rw [hk] at this
      exact hj this

theorem headA_append (p : List E) (y : E) (q r : List E) : headA (p ++ y :: q) = headA (p ++ y :: r) := by
  cases p <;> rfl
/-- A pointer in a chain's midst turned. -/
theorem chain_cut {w : World} {y : E} {q r : List E} : ∀ {p : List E}, Chain w (p ++ y :: q) → (∀ e ∈ p, e.blk ≠ y.blk) → (∀ e ∈ r, e.blk ≠ y.blk) → Chain w r → Chain (w.setCell ⟨y.blk, 2, none⟩ (.pointer (headA r))) (p ++ y :: r)
  | [], h, _, hr, hc => ⟨by
      have h1 := h.1.set 2 (.pointer (headA r))
      rw [cellsOf_next] at h1
      exact h1, hc.of_heap fun e he => Below.heap_setCell _ _ _ _ (hr e he)⟩
  | a :: p, h, hp, hr, hc => by
    refine ⟨?_, chain_cut h.2 (fun e he => hp e (List.mem_cons_of_mem _ he)) hr hc⟩
    have h1 := h.1.set_ne (a := ⟨y.blk, 2, none⟩) (.pointer (headA r)) (hp a List.mem_cons_self)
    show Blk _ _ (cellsOf a (.pointer (headA (p ++ y :: r)))) _
    rw [headA_append p y r q]
    exact h1

theorem table_cut {w : World} {hash : ByteArray → Nat} {ob : Nat} {t : Tab V} (hT : Table w ob t) (h : TabOk hash t) (h0 : t ≠ []) {key : ByteArray} {pre post : List E} {x : E} (hs : t.getD (hash key % t.length) [] = pre ++ x :: post) (hx : x.key = key) :
    Table (w.setCell (place ob (hash key % t.length) pre) (.pointer (headA post))) ob (without t key) := by
  have hi : hash key % t.length < t.length := Nat.mod_lt _ (List.length_pos_iff.2 h0)
  have hn := chain_nodup_of h (hash key % t.length)
  have hch := hT.chain (hash key % t.length)
  rw [hs] at hn hch
  rw [without_set h h0 hs hx]
  have hpost : Chain w post := (Chain.suffix (p := pre) hch).2
  rcases List.eq_nil_or_concat pre with rfl | ⟨p, y, rfl⟩
  · refine ⟨?_, ?_⟩
    · rw [tabCells_set]
      exact hT.row.set _ _
    · intro c hc
      have hold : ∀ c', Chain w c' → Chain (w.setCell (place ob (hash key % t.length) []) (.pointer (headA post))) c' := by
        intro c' hc'
        refine hc'.of_heap ?_
        intro e he
        obtain ⟨nx, hb⟩ := hc'.blk e he
        exact Below.heap_setCell _ _ _ _ (hb.ne hT.row (by decide))
      rcases List.mem_or_eq_of_mem_set hc with hc | hc
      · exact hold c (hT.chains c hc)
      · rw [hc]; exact hold post hpost
  · rw [List.concat_eq_append] at hs hn hch ⊢
    rw [place_snoc]
    rw [List.append_assoc] at hch
    have hy := (Chain.suffix (p := p) hch).1
    refine ⟨?_, ?_⟩
    · rw [tabCells_set]
      have e1 : (tabCells t).setIfInBounds (hash key % t.length) (.pointer (headA ((p ++ [y]) ++ post))) = tabCells t := by
        have h1 : headA (p ++ [y] ++ post) = headA (t.getD (hash key % t.length) []) := by rw [hs, List.append_assoc, List.append_assoc]; exact headA_append p y _ _
        rw [h1, ← tabCells_set]
        congr 1
        apply List.ext_getElem?
        intro j
        rw [List.getElem?_set]
        split
        · rename_i hj
          subst hj
          rw [getD_eq hi]
        · rfl
      rw [e1]
      exact hT.row.set_ne _ (hT.ob_ne hy)
    · intro c hc
      obtain ⟨j, hj⟩ := List.mem_iff_getElem?.1 hc
      rw [List.getElem?_set] at hj
      by_cases hji : hash key % t.length = j
      case neg =>
        rw [if_neg hji] at hj
        have hcj := hT.chains c (List.mem_of_getElem? hj)
        refine hcj.of_heap ?_
        intro e he
        obtain ⟨nx, heb⟩ := hcj.blk e he
        refine Below.heap_setCell _ _ _ _ ?_
        intro hb
        have hk := blk_key heb hy hb
        have s1 := h.slot j c e hj he
        have s2 := h.slot _ _ y (getD_eq hi) (by rw [hs]; simp)
        rw [hk] at s1
        exact hji (s2.symm.trans s1)
      case pos =>
        rw [if_pos hji] at hj
        subst hji
        rw [if_pos hi] at hj
        cases hj
        rw [List.append_assoc]
        have hn' := hn
        rw [List.append_assoc, List.map_append, List.nodup_append] at hn'
        obtain ⟨_, k2, k3⟩ := hn'
        simp only [List.cons_append, List.nil_append, List.map_cons, List.nodup_cons] at k2
        refine chain_cut hch ?_ ?_ hpost
        · intro e he hb
          obtain ⟨nx, heb⟩ := hch.blk e (List.mem_append_left _ he)
          exact k3 _ (List.mem_map.2 ⟨e, he, rfl⟩) _ (by simp) (blk_key heb hy hb)
        · intro e he hb
          obtain ⟨nx, heb⟩ := hpost.blk e he
          exact k2.1 (List.mem_cons_of_mem _ (List.mem_map.2 ⟨e, he, blk_key heb hy hb⟩))

/-- The dict without a key. -/
def DM.less (d : DM V) (key : ByteArray) : DM V := { d with old := without d.old key, young := without d.young key, n := d.n - 1 }

theorem less_dict {w : World} {b : Nat} {d : DM V} {cap : Nat} (h : IsDict w b d) (hok : d.Ok (hashD d) cap) {key : ByteArray} {x : E} {ob : Nat} {t : Tab V} {pre post : List E} (hx : x.key = key) (hL : Led w d key x ob t pre post) (m : Int) (hm : m = ((d.n - 1 : Nat) : Int)) :
    IsDict ((w.setCell (place ob (hashD d key % t.length) pre) (.pointer (headA post))).setCell ⟨b, 4, none⟩ (.int .i64 m)) b (DM.less d key) ∧
    Keeps (fp b d) w ((w.setCell (place ob (hashD d key % t.length) pre) (.pointer (headA post))).setCell ⟨b, 4, none⟩ (.int .i64 m)) ∧
    Blk (w.setCell (place ob (hashD d key % t.length) pre) (.pointer (headA post))) b #[.int .u64 d.seed, tabVal d.old d.oldB, tabVal d.young d.youngB, .int .i64 d.at_, .int .i64 d.n] 184 := by
  subst hm
  have hi : hashD d key % t.length < t.length := Nat.mod_lt _ (List.length_pos_iff.2 hL.ne)
  have hxt : x ∈ ents t := mem_of_getD (i := hashD d key % t.length) (by rw [hL.split]; exact List.mem_append_right _ List.mem_cons_self)
  have hch := hL.table.chain (hashD d key % t.length)
  rw [hL.split] at hch
  -- the block that is written: the table's own, or that of an entry of this table
  have hplace : (place ob (hashD d key % t.length) pre).block = ob ∨ ∃ y ∈ ents t, (place ob (hashD d key % t.length) pre).block = y.blk := by
    rcases List.eq_nil_or_concat pre with rfl | ⟨p, y, rfl⟩
    · exact .inl rfl
    · rw [List.concat_eq_append, place_snoc]
      refine .inr ⟨y, mem_of_getD (i := hashD d key % t.length) (by rw [hL.split, List.concat_eq_append]; simp), rfl⟩
  have hst : Blk (w.setCell (place ob (hashD d key % t.length) pre) (.pointer (headA post))) b #[.int .u64 d.seed, tabVal d.old d.oldB, tabVal d.young d.youngB, .int .i64 d.at_, .int .i64 d.n] 184 := by
    refine h.str.set_ne _ ?_
    rcases hplace with h1 | ⟨y, hy, h1⟩
    · rw [h1]; exact h.str.ne hL.table.row (by decide)
    · obtain ⟨nx, hb⟩ := hL.table.blk_of hy
      rw [h1]; exact h.str.ne hb (by decide)
  have hkeep : Keeps (fp b d) w (w.setCell (place ob (hashD d key % t.length) pre) (.pointer (headA post))) := by
    refine (Keeps.refl _ w).set _ (fun _ => ?_)
    have hent : ∀ y ∈ ents t, y ∈ d.ents := by
      rcases hL.tab with ⟨_, rfl⟩ | ⟨_, rfl, _⟩
      · exact fun y hy => List.mem_append_left _ hy
      · exact fun y hy => List.mem_append_right _ hy
    rcases hplace with h1 | ⟨y, hy, h1⟩
    · rw [h1]
      rcases hL.tab with ⟨rfl, rfl⟩ | ⟨rfl, rfl, _⟩
      · exact fp_old hL.ne
      · exact fp_young hL.ne
    · rw [h1]; exact fp_ent (hent y hy)
  refine ⟨?_, hkeep.set _ (fun _ => .inl rfl), hst⟩
  have hcut : ∀ (hok' : TabOk (hashD d) t), Table (w.setCell (place ob (hashD d key % t.length) pre) (.pointer (headA post))) ob (without t key) := fun hok' => table_cut hL.table hok' hL.ne hL.split hx
  have e1 : ∀ (t : Tab V) (o : Nat), tabVal (without t key) o = tabVal t o := by intro t o; unfold tabVal; simp only [nil_of_length (without_length t key), without_length]
  -- a table that the entry does not stand in
  have hother : ∀ {ob' : Nat} {t' : Tab V}, ob' ≠ ob → (∀ e ∈ ents t', ∀ y ∈ ents t, e.key ≠ y.key) → Table w ob' t' → Table (w.setCell (place ob (hashD d key % t.length) pre) (.pointer (headA post))) ob' (without t' key) := by
    intro ob' t' hob hap hT'
    rw [without_self (fun e he => by rw [← hx]; exact hap e he x hxt)]
    refine hT'.of_heap ?_ ?_
    · refine Below.heap_setCell _ _ _ _ ?_
      rcases hplace with h1 | ⟨y, hy, h1⟩
      · rw [h1]; exact hob
      · obtain ⟨nx, hb⟩ := hL.table.blk_of hy
        rw [h1]; exact hT'.ob_ne hb
    · intro e he
      refine Below.heap_setCell _ _ _ _ ?_
      obtain ⟨ne, heb⟩ := hT'.blk_of he
      rcases hplace with h1 | ⟨y, hy, h1⟩
      · rw [h1]; exact (hL.table.ob_ne heb).symm
      · obtain ⟨nx, hb⟩ := hL.table.blk_of hy
        rw [h1]
        exact fun hbl => hap e he y hy (blk_key heb hb hbl)
  refine ⟨?_, ?_, ?_, ?_⟩
  · have h1 := hst.set 4 (.int .i64 ((d.n - 1 : Nat) : Int))
    show Blk _ _ #[_, tabVal (without d.old key) _, tabVal (without d.young key) _, _, _] _
    rw [e1, e1]
    exact h1
  · intro h0
    have h0' : d.old ≠ [] := fun h1 => h0 ((nil_of_length (without_length _ _)).2 h1)
    refine Table.setStr hst ?_ 4 _
    rcases hL.tab with ⟨h1, h2⟩ | ⟨h1, h2, _⟩
    · have := hcut (by rw [h2]; exact hok.old)
      rw [h1, h2] at this
      rw [h1, h2]
      exact this
    · refine hother ?_ ?_ (h.old h0')
      · rw [h1]; exact h.ne h0' (by rw [← h2]; exact hL.ne)
      · intro e he y hy
        rw [h2] at hy
        exact hok.apart e he y hy
  · intro h0
    have h0' : d.young ≠ [] := fun h1 => h0 ((nil_of_length (without_length _ _)).2 h1)
    refine Table.setStr hst ?_ 4 _
    rcases hL.tab with ⟨h1, h2⟩ | ⟨h1, h2, _⟩
    · refine hother ?_ ?_ (h.young h0')
      · rw [h1]; exact (h.ne (by rw [← h2]; exact hL.ne) h0').symm
      · intro e he y hy
        rw [h2] at hy
        exact fun hk => hok.apart y hy e he hk.symm
    · have := hcut (by rw [h2]; exact hok.young)
      rw [h1, h2] at this
      rw [h1, h2]
      exact this
  · intro h0 h1
    exact h.ne (fun h2 => h0 ((nil_of_length (without_length _ _)).2 h2)) (fun h2 => h1 ((nil_of_length (without_length _ _)).2 h2))
end Go.Proofs.YtgjpaecpljifpaaGreat.DE

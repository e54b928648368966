/- The dict in memory (values: *pantry/keyspace.entry): what a step does to the blocks. -/
import Derived.Test.YtgjpaecpljifpaaGreatDictBE
import Derived.Deep.DeepCutAuto
import Derived.Deep.CutBlock
import Derived.Deep.QuietTactic
import Derived.BigQuiet
namespace Go.Proofs.YtgjpaecpljifpaaGreat.DE
open Go Go.RowKit Go.Proofs.YtgjpaecpljifpaaGreat

/-- The blocks of a dict. -/
def fp (b : Nat) (d : DM V) (r : Nat) : Prop := r = b ∨ (d.old ≠ [] ∧ r = d.oldB) ∨ (d.young ≠ [] ∧ r = d.youngB) ∨ ∃ x ∈ d.ents, x.blk = r

theorem IsDict.setAt {w : World} {b : Nat} {d : DM V} (h : IsDict w b d) (a : Nat) : IsDict (w.setCell ⟨b, 3, none⟩ (.int .i64 a)) b { d with at_ := a } := by
  have hk : Keeps (fun r => r = b) w (w.setCell ⟨b, 3, none⟩ (.int .i64 a)) := (Keeps.refl _ w).set _ (fun _ => rfl)
  have tab : ∀ {ob : Nat} {t : Tab V}, Table w ob t → Table (w.setCell ⟨b, 3, none⟩ (.int .i64 a)) ob t := by
    intro ob t ht
    refine ht.of_heap (hk.same _ ht.row.lt (ht.row.ne h.str (by decide))) ?_
    intro e he
    obtain ⟨i, c, hc, hec⟩ := ents_mem.1 he
    obtain ⟨nx, hb⟩ := (ht.chains c (List.mem_of_getElem? hc)).blk e hec
    exact hk.same _ hb.lt (hb.ne h.str (by decide))
  exact ⟨h.str.set 3 (.int .i64 a), fun h0 => tab (h.old h0), fun h0 => tab (h.young h0), h.ne⟩
theorem IsDict.drewN {w : World} {b : Nat} {d : DM V} (h : IsDict w b d) (n : Nat) : IsDict (w.drewN n) b d :=
  ⟨h.str, fun h0 => ⟨(h.old h0).row, fun c hc => ((h.old h0).chains c hc).of_heap fun _ _ => rfl⟩, fun h0 => ⟨(h.young h0).row, fun c hc => ((h.young h0).chains c hc).of_heap fun _ _ => rfl⟩, h.ne⟩

theorem IsDict.drew {w : World} {b : Nat} {d : DM V} (h : IsDict w b d) : IsDict w.drew b d := h.drewN 1
theorem fp_old {b : Nat} {d : DM V} (h : d.old ≠ []) : fp b d d.oldB := .inr (.inl ⟨h, rfl⟩)
theorem fp_young {b : Nat} {d : DM V} (h : d.young ≠ []) : fp b d d.youngB := .inr (.inr (.inl ⟨h, rfl⟩))
theorem fp_ent {b : Nat} {d : DM V} {x : E} (h : x ∈ d.ents) : fp b d x.blk := .inr (.inr (.inr ⟨x, h, rfl⟩))

theorem foldl_hang_length (hash : ByteArray → Nat) : ∀ (l : List E) (t : Tab V), (l.foldl (hang hash) t).length = t.length
  | [], _ => rfl
  | x :: l, t => by rw [List.foldl_cons, foldl_hang_length hash l, hang_length]

/-- A store into the struct leaves the tables. -/
theorem Table.setStr {w : World} {b : Nat} {cs : Array Value} (hs : Blk w b cs 184) {ob : Nat} {t : Tab V} (h : Table w ob t) (i : Nat) (v : Value) : Table (w.setCell ⟨b, i, none⟩ v) ob t := by
  refine ⟨h.row.set_ne v (h.row.ne hs (by decide)), fun c hc => (h.chains c hc).of_heap ?_⟩
  intro x hx
  obtain ⟨nx, hb⟩ := (h.chains c hc).blk x hx
  exact Below.heap_setCell _ _ _ _ (hb.ne hs (by decide))

theorem turned_dict {w : World} {b : Nat} {d : DM V} (h : IsDict w b d) (hy : d.young ≠ []) (hat : d.at_ = d.old.length) :
    IsDict (((w.setCell ⟨b, 1, none⟩ (.slice (some ⟨d.youngB, 0, none⟩) d.young.length d.young.length)).setCell ⟨b, 2, none⟩ (.slice none 0 0)).setCell ⟨b, 3, none⟩ (.int .i64 0)) b d.turned := by
  have s1 := h.str.set 1 (.slice (some ⟨d.youngB, 0, none⟩) d.young.length d.young.length)
  have s2 := s1.set 2 (.slice none 0 0)
  have s3 := s2.set 3 (.int .i64 0)
  unfold DM.turned
  rw [if_pos hat]
  refine ⟨?_, ?_, fun h0 => absurd rfl h0, fun _ h0 => absurd rfl h0⟩
  · dsimp only
    rw [tabVal_some hy]
    exact s3
  · intro h0
    exact (((h.young hy).setStr h.str 1 _).setStr s1 2 _).setStr s2 3 _

/-- In the midst of moving the chain at a: 'pre' has gone over, 'rest' is still to go. -/
structure Moving (w wr : World) (b : Nat) (d : DM V) (a : Nat) (pre rest : List E) : Prop where
  str : Blk wr b #[.int .u64 d.seed, tabVal d.old d.oldB, tabVal d.young d.youngB, .int .i64 a, .int .i64 d.n] 184
  oldRow : Blk wr d.oldB (tabCells d.old) 187
  oldChains : ∀ (i : Nat) (c : List E), i ≠ a → d.old[i]? = some c → Chain wr c
  young : Table wr d.youngB (pre.foldl (hang (hashD d)) d.young)
  rests : Chain wr rest
  split : d.old.getD a [] = pre ++ rest
  keeps : Keeps (fp b d) w wr

/-- Two entries in one block have one key. -/
theorem blk_key {w : World} {x y : E} {nx ny : Value} (hx : Blk w x.blk (cellsOf x nx) 189) (hy : Blk w y.blk (cellsOf y ny) 189) (h : x.blk = y.blk) : x.key = y.key := by
  rw [h] at hx
  have := (hx.eq hy).1
  have h0 := congrArg (fun c => c[0]?) this
  simp [cellsOf] at h0
  exact h0

theorem Moving.start {w wr : World} {b : Nat} {d : DM V} {a : Nat} (hD : IsDict wr b { d with at_ := a }) (ho : d.old ≠ []) (hm : d.young ≠ []) (hk : Keeps (fp b d) w wr) : Moving w wr b d a [] (d.old.getD a []) :=
  ⟨hD.str, (hD.old ho).row, fun _ _ _ h => (hD.old ho).chains _ (List.mem_of_getElem? h), hD.young hm, (hD.old ho).chain a, rfl, hk⟩

theorem Moving.step {w wr : World} {b : Nat} {d : DM V} {a : Nat} {pre rest : List E} {e : E} {cap : Nat} (hok : d.Ok (hashD d) cap) (hm : d.young ≠ []) (hne : d.oldB ≠ d.youngB) (ha : a < d.old.length) (h : Moving w wr b d a pre (e :: rest)) :
    Moving w (hangW wr d.youngB (hashD d e.key % (pre.foldl (hang (hashD d)) d.young).length) (pre.foldl (hang (hashD d)) d.young) e) b d a (pre ++ [e]) rest := by
  have hnd := chain_nodup_of hok.old a
  rw [h.split, List.map_append, List.map_cons, List.nodup_append, List.nodup_cons] at hnd
  obtain ⟨hn1, ⟨hn2, hn3⟩, hn4⟩ := hnd
  have hin : ∀ x, x ∈ pre ++ e :: rest → x ∈ ents d.old := fun x hx => mem_of_getD (i := a) (by rw [h.split]; exact hx)
  obtain ⟨q1, q2, q3⟩ := hangs_ok pre hok.young hm hn1 (fun x hx y hy hk => hok.apart y (hin y (List.mem_append_left _ hy)) x hx hk.symm)
  have hkeyY : ∀ x ∈ ents (pre.foldl (hang (hashD d)) d.young), x.key ≠ e.key := by
    intro x hx
    rcases List.mem_append.1 (q3.mem_iff.1 hx) with hx | hx
    · exact hn4 _ (List.mem_map.2 ⟨x, hx, rfl⟩) _ List.mem_cons_self
    · exact fun hk => hok.apart e (hin e (by simp)) x hx hk.symm
  have hY : ∀ x ∈ ents (pre.foldl (hang (hashD d)) d.young), x.blk ≠ e.blk := by
    intro x hx hb
    obtain ⟨i, c, hc, hxc⟩ := ents_mem.1 hx
    obtain ⟨nx, hbx⟩ := (h.young.chains c (List.mem_of_getElem? hc)).blk x hxc
    exact hkeyY x hx (blk_key hbx h.rests.1 hb)
  obtain ⟨t1, t2⟩ := hang_table (hash := hashD d) h.young h.rests.1 hY
  have hob : d.youngB ≠ e.blk := h.young.ob_ne h.rests.1
  refine ⟨t2.blk h.str ?_, t2.blk h.oldRow ?_, ?_, by rw [List.foldl_append]; exact t1, ?_, by rw [h.split]; simp, ?_⟩
  · rintro (h1 | h1)
    · exact h.str.ne h.young.row (by decide) h1
    · exact h.str.ne h.rests.1 (by decide) h1
  · rintro (h1 | h1)
    · exact hne h1
    · exact h.oldRow.ne h.rests.1 (by decide) h1
  · intro i c hi hc
    refine (h.oldChains i c hi hc).of_heap ?_
    intro x hx
    obtain ⟨nx, hbx⟩ := (h.oldChains i c hi hc).blk x hx
    refine t2.same _ hbx.lt ?_
    rintro (h1 | h1)
    · exact hbx.ne h.young.row (by decide) h1
    · have hk := blk_key hbx h.rests.1 h1
      have s1 := hok.old.slot i c x hc hx
      have s2 := hok.old.slot a _ e (getD_eq ha) (by rw [h.split]; simp)
      rw [hk] at s1
      exact hi (s1.symm.trans s2)
  · refine h.rests.2.of_heap ?_
    intro x hx
    obtain ⟨nx, hbx⟩ := h.rests.2.blk x hx
    refine t2.same _ hbx.lt ?_
    rintro (h1 | h1)
    · exact hbx.ne h.young.row (by decide) h1
    · exact hn2 (List.mem_map.2 ⟨x, hx, blk_key hbx h.rests.1 h1⟩)
  · refine h.keeps.trans' t2 ?_
    rintro r _ (rfl | rfl)
    · exact fp_young hm
    · exact fp_ent (List.mem_append_left _ (hin e (by simp)))

theorem Moving.done {w wr : World} {b : Nat} {d : DM V} {a : Nat} {pre : List E} (ho : d.old ≠ []) (hm : d.young ≠ []) (hne : d.oldB ≠ d.youngB) (ha : a < d.old.length) (hp : pass d.old 10 d.at_ = a) (hc : d.old.getD a [] ≠ []) (h : Moving w wr b d a pre []) :
    IsDict ((wr.setCell ⟨d.oldB, a, none⟩ (.pointer none)).setCell ⟨b, 3, none⟩ (.int .i64 ((a + 1 : Nat) : Int))) b (d.moved (hashD d)) ∧
    Keeps (fp b d) w ((wr.setCell ⟨d.oldB, a, none⟩ (.pointer none)).setCell ⟨b, 3, none⟩ (.int .i64 ((a + 1 : Nat) : Int))) := by
  have hsp : pre = d.old.getD a [] := by rw [h.split, List.append_nil]
  have hbo : b ≠ d.oldB := h.str.ne h.oldRow (by decide)
  have k : Keeps (fun r => r = d.oldB ∨ r = b) wr ((wr.setCell ⟨d.oldB, a, none⟩ (.pointer none)).setCell ⟨b, 3, none⟩ (.int .i64 ((a + 1 : Nat) : Int))) :=
    ((Keeps.refl _ wr).set _ (fun _ => .inl rfl)).set _ (fun _ => .inr rfl)
  have hlen : (pre.foldl (hang (hashD d)) d.young).length = d.young.length := by
    have : ∀ (l : List E) (t : Tab V), (l.foldl (hang (hashD d)) t).length = t.length := by
      intro l
      induction l with
      | nil => intro t; rfl
      | cons x l ih => intro t; rw [List.foldl_cons, ih, hang_length]
    exact this _ _
  have hchain : ∀ c, Chain wr c → Chain ((wr.setCell ⟨d.oldB, a, none⟩ (.pointer none)).setCell ⟨b, 3, none⟩ (.int .i64 ((a + 1 : Nat) : Int))) c := by
    intro c hc'
    refine hc'.of_heap ?_
    intro x hx
    obtain ⟨nx, hbx⟩ := hc'.blk x hx
    refine k.same _ hbx.lt ?_
    rintro (h1 | h1)
    · exact hbx.ne h.oldRow (by decide) h1
    · exact hbx.ne h.str (by decide) h1
  have hmv : d.moved (hashD d) = { d with old := d.old.set a [], young := pre.foldl (hang (hashD d)) d.young, at_ := a + 1 } := by
    unfold DM.moved
    dsimp only
    rw [hp, if_neg hc, ← hsp]
  have hny : pre.foldl (hang (hashD d)) d.young ≠ [] := fun h0 => hm ((nil_of_length hlen).1 h0)
  have hno : d.old.set a [] ≠ [] := fun h0 => ho (List.length_eq_zero_iff.1 (by have := congrArg List.length h0; rw [List.length_set] at this; exact this))
  rw [hmv]
  refine ⟨⟨?_, ?_, ?_, fun _ _ => hne⟩, h.keeps.trans' k ?_⟩
  · have h1 := (h.str.set_ne (a := ⟨d.oldB, a, none⟩) (.pointer none) hbo).set 3 (.int .i64 ((a + 1 : Nat) : Int))
    have e1 : tabVal (d.old.set a []) d.oldB = tabVal d.old d.oldB := by rw [tabVal_some hno, tabVal_some ho, List.length_set]
    have e2 : tabVal (pre.foldl (hang (hashD d)) d.young) d.youngB = tabVal d.young d.youngB := by rw [tabVal_some hny, tabVal_some hm, hlen]
    dsimp only
    rw [e1, e2]
    exact h1
  · intro _
    refine ⟨?_, ?_⟩
    · dsimp only
      rw [tabCells_set]
      exact (h.oldRow.set a (.pointer none)).set_ne _ hbo.symm
    · intro c hc'
      obtain ⟨i, hi⟩ := List.mem_iff_getElem?.1 hc'
      dsimp only at hi
      rw [List.getElem?_set] at hi
      split at hi
      · cases hi; trivial
      · exact hchain c (h.oldChains i c (by omega) hi)
  · intro _
    exact ⟨k.blk h.young.row (by
      rintro (h1 | h1)
      · exact hne h1.symm
      · exact h.young.row.ne h.str (by decide) h1), fun c hc' => hchain c (h.young.chains c hc')⟩
  · rintro r _ (rfl | rfl)
    · exact fp_old ho
    · exact .inl rfl

end Go.Proofs.YtgjpaecpljifpaaGreat.DE

namespace Go.Proofs.YtgjpaecpljifpaaGreat.DE
open Go Go.RowKit Go.Proofs.YtgjpaecpljifpaaGreat

def Part1 (w : World) (b : Nat) (d : DM V) (w' : World) : Prop := IsDict w' b { d with at_ := pass d.old 10 d.at_ } ∧ Keeps (fun r => r = b) w w'
def Loop1 (w : World) (b : Nat) (d : DM V) (k : Value) (w' : World) : Prop :=
  ∃ j a : Nat, j ≤ 10 ∧ k = .int .i64 j ∧ a ≤ d.old.length ∧ pass d.old (10 - j) a = pass d.old 10 d.at_ ∧ IsDict w' b { d with at_ := a } ∧ Keeps (fun r => r = b) w w'

set_option maxRecDepth 100000 in
set_option maxHeartbeats 2000000 in
theorem step_mv (b : Nat) (d : DM V) (w : World) {cap : Nat} (hok : d.Ok (hashD d) cap) (hcap : cap ≤ 4398046511104) (hkeys : ∀ e ∈ d.ents, e.key.size ≤ maxLen) (hm : d.young ≠ []) (hD : IsDict w b d) :
    Calls Tryz.prog 122 #[.pointer (some ⟨b, 0, none⟩)] w
      fun e w' => e = .returned (.tuple #[]) ∧ IsDict w' b (d.step (hashD d)) ∧ Keeps (fp b d) w w' := by
  have hmv := moving_any b d w hD
  have hb : decide (d.young ≠ []) = true := by simpa using hm
  rw [hb] at hmv
  have HM := Lib.hid hmv
  clear hmv hb
  go_enter Tryz.func122, Tryz.ntmps122
  go_upto_block 0 with (go_at_call 124; refine HM.out.mono ?_; rintro e w' ⟨rfl, rfl⟩)
  go_cut [] (fun wc => Part1 w b d wc)
  case first =>
    go_wp2_with fail
    go_loopg [2] 10 (fun g k wr => ∃ j a : Nat, j + g = 10 ∧ k = .int .i64 j ∧ a ≤ d.old.length ∧ Hid (pass d.old (10 - j) a = pass d.old 10 d.at_) ∧ IsDict wr b { d with at_ := a } ∧ Keeps (fun r => r = b) w wr)
    case atStart => exact ⟨0, d.at_, by omega, rfl, Nat.le_of_lt (hok.upto hm), rfl, hD, Keeps.refl _ _⟩
    case round =>
      obtain ⟨j, a, hj, rfl, ha, HP, hDr, hkr⟩ := hrel
      have ho : d.old ≠ [] := fun h0 => hm (hok.some_ h0)
      have hlen := hok.oldLen
      have g1 := hDr.c1
      have g3 := hDr.c3
      have f3 : wr.frozen? ⟨b, 3, none⟩ = false := hDr.str.frozen 3
      have hT := hDr.old ho
      simp only at g1 g3 hT
      rw [tabVal_some ho] at g1
      have HD := Lib.hid hDr
      have HK := Lib.hid hkr
      have HT := Lib.hid hT
      clear hDr hkr hT hD
      by_cases h1 : j < 10
      · have t1 : decide ((j : Int) < 10) = true := by simp; omega
        by_cases h2 : a < d.old.length
        · have t2 : decide (a < d.old.length) = true := by simpa using h2
          have b0 : 0 ≤ (a : Int) := by omega
          have b1 : (a : Int) < d.old.length := by omega
          have hcell := HT.out.cell h2
          cases hch : d.old.getD a [] with
          | nil =>
            rw [hch] at hcell
            simp only [headA] at hcell
            have HC := Lib.hid hch
            clear hch
            go_wp2_with fail
            go_quiet (fail)
            go_wp2_with fail
            go_roundg (10 - (j + 1))
            case measure => omega
            case rel =>
              have hE := (HD.out.drewN nq).setAt (a + 1)
              have e1 : ((a + 1 : Nat) : Int) = (a : Int) + 1 := by omega
              rw [e1] at hE
              have hp : pass d.old (10 - j) a = pass d.old (10 - (j + 1)) (a + 1) := by
                rw [show 10 - j = (10 - (j + 1)) + 1 by omega]
                rw [pass, if_pos ⟨h2, HC.out⟩]
              exact ⟨j + 1, a + 1, by omega, by go_num, by omega, hp.symm.trans HP.out, hE, (HK.out.drewN nq).set _ (fun _ => rfl)⟩
          | cons e r =>
            rw [hch] at hcell
            simp only [headA] at hcell
            have HC := Lib.hid hch
            clear hch
            go_wp2_with fail
            go_quiet (fail)
            go_wp2_with fail
            go_meet
            have hp : pass d.old (10 - j) a = a := by
              rw [show 10 - j = (10 - (j + 1)) + 1 by omega]
              rw [pass, if_neg (by rw [HC.out]; simp)]
            exact ⟨by rw [← HP.out, hp]; exact HD.out.drewN nq, HK.out.drewN nq⟩
        · have t2 : decide (a < d.old.length) = false := by simpa using h2
          go_wp2_with fail
          go_quiet (fail)
          go_wp2_with fail
          go_meet
          have hp : pass d.old (10 - j) a = a := by
            rw [show 10 - j = (10 - (j + 1)) + 1 by omega]
            rw [pass, if_neg (fun h => h2 h.1)]
          exact ⟨by rw [← HP.out, hp]; exact HD.out.drewN nq, HK.out.drewN nq⟩
      · have t1 : decide ((j : Int) < 10) = false := by simp; omega
        go_wp2_with fail
        go_quiet (fail)
        go_wp2_with fail
        go_meet
        have hp : pass d.old (10 - j) a = a := by
          rw [show 10 - j = 0 by omega]; rfl
        exact ⟨by rw [← HP.out, hp]; exact HD.out.drewN nq, HK.out.drewN nq⟩
  case rest =>
    obtain ⟨hD1, hk1⟩ := hcut
    have ho : d.old ≠ [] := fun h0 => hm (hok.some_ h0)
    have hlen := hok.oldLen
    have hps := pass_spec d.old 10 d.at_
    have hple := hps.2.2 (Nat.le_of_lt (hok.upto hm))
    clear hps
    obtain ⟨a, ha⟩ : ∃ a, pass d.old 10 d.at_ = a := ⟨_, rfl⟩
    rw [ha] at hD1 hple
    have HA := Lib.hid ha
    clear ha
    have g1 := hD1.c1
    have g3 := hD1.c3
    have hT := hD1.old ho
    simp only at g1 g3 hT
    rw [tabVal_some ho] at g1
    have HD := Lib.hid hD1
    have HK := Lib.hid hk1
    have HT := Lib.hid hT
    clear hD1 hk1 hT hD
    go_upto_region 5 with fail
    go_cut [66] (fun s66 w' => ∃ tb : Bool, s66 = .bool tb ∧ Hid (tb = true ↔ d.old.getD a [] ≠ []) ∧ IsDict w' b { d with at_ := a } ∧ Keeps (fun r => r = b) w w')
    case first =>
      by_cases h2 : a < d.old.length
      · have t2 : decide (a < d.old.length) = true := by simpa using h2
        have b0 : 0 ≤ (a : Int) := by omega
        have b1 : (a : Int) < d.old.length := by omega
        have hcell := HT.out.cell h2
        cases hch : d.old.getD a [] with
        | nil =>
          rw [hch] at hcell
          simp only [headA] at hcell
          have HC := Lib.hid hch
          clear hch
          go_quiet (fail)
          go_wp2_with fail
          go_meet
          exact ⟨_, rfl, (show _ ↔ _ by rw [HC.out]; simp), HD.out.drewN nq, HK.out.drewN nq⟩
        | cons e r =>
          rw [hch] at hcell
          simp only [headA] at hcell
          have HC := Lib.hid hch
          clear hch
          go_quiet (fail)
          go_wp2_with fail
          go_meet
          exact ⟨_, rfl, (show _ ↔ _ by rw [HC.out]; simp), HD.out.drewN nq, HK.out.drewN nq⟩
      · have t2 : decide (a < d.old.length) = false := by simpa using h2
        have hch : d.old.getD a [] = [] := by rw [List.getD_eq_getElem?_getD, List.getElem?_eq_none (by omega)]; rfl
        have HC := Lib.hid hch
        clear hch
        go_quiet (fail)
        go_wp2_with fail
        go_meet
        exact ⟨_, rfl, (show _ ↔ _ by rw [HC.out]; simp), HD.out.drewN nq, HK.out.drewN nq⟩
    case rest =>
      obtain ⟨tb, rfl, HB, hD2, hk2⟩ := hcut
      have HD2 := Lib.hid hD2
      have HK2 := Lib.hid hk2
      clear hD2 hk2 HD HK HT g1 g3
      go_upto_if 66 with fail
      go_cut [] (fun w' => IsDict w' b (d.moved (hashD d)) ∧ Keeps (fp b d) w w')
      case first =>
        cases tb with
        | false =>
          go_wp2_with fail
          go_meet
          have hc : d.old.getD a [] = [] := by
            have h := HB.out
            simp only [Bool.false_eq_true, false_iff, ne_eq, Classical.not_not] at h
            exact h
          refine ⟨?_, HK2.out.mono (fun r _ h => .inl h)⟩
          have := HD2.out
          unfold DM.moved
          rw [HA.out]
          dsimp only
          rw [if_pos hc]
          exact this
        | true =>
          have hc : d.old.getD a [] ≠ [] := HB.out.1 rfl
          have ha : a < d.old.length := by
            apply Nat.lt_of_not_le
            intro hge
            exact hc (by rw [List.getD_eq_getElem?_getD, List.getElem?_eq_none (by omega)]; rfl)
          have g0 := HD2.out.c0
          have g1 := HD2.out.c1
          have g2 := HD2.out.c2
          have g3 := HD2.out.c3
          have hT := HD2.out.old ho
          simp only at g0 g1 g2 g3 hT
          rw [tabVal_some ho] at g1
          rw [tabVal_some hm] at g2
          have hcell := hT.cell ha
          have b0 : 0 ≤ (a : Int) := by omega
          have b1 : (a : Int) < d.old.length := by omega
          have HC := Lib.hid hc
          have HT := Lib.hid hT
          obtain ⟨hd, hhd⟩ : ∃ hd, headA (d.old.getD a []) = hd := ⟨_, rfl⟩
          rw [hhd] at hcell
          have HH := Lib.hid hhd
          clear hc hT hhd
          go_wp2_with fail
          go_quiet (fail)
          go_wp2_with fail
          have hst : Moving w (wc.drewN nq) b d a [] (d.old.getD a []) := Moving.start (HD2.out.drewN nq) ho hm ((HK2.out.drewN nq).mono (fun r _ h => .inl h))
          go_loopg [3] (d.old.getD a []).length (fun g p wr => ∃ pre rest, rest.length = g ∧ p = .pointer (headA rest) ∧ Moving w wr b d a pre rest)
          case atStart => exact ⟨[], _, rfl, by rw [HH.out], hst⟩
          case round =>
            obtain ⟨pre, rest, hg, rfl, hM⟩ := hrel
            have m0 : wr.cell? ⟨b, 0, none⟩ = some (.int .u64 d.seed) := hM.str.cell 0
            have m1 : wr.cell? ⟨b, 1, none⟩ = some (.slice (some ⟨d.oldB, 0, none⟩) d.old.length d.old.length) := by rw [← tabVal_some ho]; exact hM.str.cell 1
            have m2 : wr.cell? ⟨b, 2, none⟩ = some (.slice (some ⟨d.youngB, 0, none⟩) d.young.length d.young.length) := by rw [← tabVal_some hm]; exact hM.str.cell 2
            have m3 : wr.cell? ⟨b, 3, none⟩ = some (.int .i64 a) := hM.str.cell 3
            have HMv := Lib.hid hM
            cases rest with
            | nil =>
              have fo : wr.frozen? ⟨d.oldB, a, none⟩ = false := hM.oldRow.frozen a
              have fb : wr.frozen? ⟨b, 3, none⟩ = false := hM.str.frozen 3
              obtain ⟨vo, ho3⟩ : ∃ vo, wr.cell? ⟨d.oldB, a, none⟩ = some vo := by
                rw [hM.oldRow.cell, tabCells, List.getElem?_toArray, List.getElem?_map, getD_eq ha]; exact ⟨_, rfl⟩
              have m3' : (wr.setCell ⟨d.oldB, a, none⟩ (.pointer none)).cell? ⟨b, 3, none⟩ = some (.int .i64 a) := by
                rw [World.cell?_setCell_other _ _ _ _ (by intro h; exact hM.str.ne hM.oldRow (by decide) (by injection h with h; exact h.symm))]; exact m3
              simp only [headA]
              clear hM hst hcell
              go_wp2_with fail
              go_region
              all_goals
                go_wp2_with fail
                go_meet
                have hdn := HMv.out.done ho hm (HD2.out.ne ho hm) ha HA.out HC.out
                have e1 : ((a + 1 : Nat) : Int) = (a : Int) + 1 := by omega
                rw [e1] at hdn
                exact ⟨hdn.1.drew, hdn.2.drew⟩
            | cons e rest =>
              have hY : (pre.foldl (hang (hashD d)) d.young).length = d.young.length := foldl_hang_length _ _ _
              have hsz : e.key.size ≤ maxLen := hkeys e (List.mem_append_left _ (mem_of_getD (i := a) (by rw [hM.split]; simp)))
              have hnext : wr.cell? ⟨e.blk, 2, none⟩ = some (.pointer (headA rest)) := hM.rests.1.cell 2
              have hnd := chain_nodup_of hok.old a
              rw [hM.split, List.map_append, List.nodup_append] at hnd
              have hq := hangs_ok pre hok.young hm hnd.1 (fun x hx y hy hk => hok.apart y (mem_of_getD (i := a) (by rw [hM.split]; exact List.mem_append_left _ hy)) x hx hk.symm)
              have hny : pre.foldl (hang (hashD d)) d.young ≠ [] := fun h0 => hm ((nil_of_length hY).1 h0)
              have hcall := hang_any b d.youngB d.seed (pre.foldl (hang (hashD d)) d.young) e (.pointer (headA rest)) wr hq.1 hny (by rw [hY]; have := hok.youngLen; omega) hsz m0 hM.young hM.rests.1
              have hstep := hM.step hok hm (HD2.out.ne ho hm) ha
              rw [hY] at hcall hstep
              have HCall := Lib.hid hcall
              have HStep := Lib.hid hstep
              simp only [headA]
              clear hM hst hcell hcall hstep hq hnd hny m1 m3 g0 g1 g2 g3
              go_wp2_with fail
              refine HCall.out.mono ?_
              rintro r w' ⟨rfl, rfl⟩
              go_wp2_with fail
              go_roundg rest.length
              case measure => simp at hg; omega
              case rel => exact ⟨pre ++ [e], rest, rfl, rfl, HStep.out⟩
      case rest =>
        obtain ⟨hD3, hk3⟩ := hcut
        have hmid := moved_mid (hok.mid hm)
        obtain ⟨dm, hdm⟩ : ∃ dm, d.moved (hashD d) = dm := ⟨_, rfl⟩
        have hst : d.step (hashD d) = dm.turned := by unfold DM.step; rw [if_neg hm, hdm]
        rw [hdm] at hD3 hmid
        have HS := Lib.hid hst
        have hmo := hmid.1.some_
        have hmy := hmid.1.mv
        have hup := hmid.1.upto
        have hol := hmid.1.oldLen
        clear hst hmid hdm
        have g1 := hD3.c1
        have g2 := hD3.c2
        have g3 := hD3.c3
        rw [tabVal_some hmo] at g1
        rw [tabVal_some hmy] at g2
        have f1 : wc.frozen? ⟨b, 1, none⟩ = false := hD3.str.frozen 1
        have f2 : wc.frozen? ⟨b, 2, none⟩ = false := hD3.str.frozen 2
        have f3 : wc.frozen? ⟨b, 3, none⟩ = false := hD3.str.frozen 3
        have HD3 := Lib.hid hD3
        have HK3 := Lib.hid hk3
        clear hD3 hk3
        by_cases hat : dm.at_ = dm.old.length
        · have HAt := Lib.hid hat
          have t1 : ((dm.at_ : Int) == (dm.old.length : Int)) = true := by rw [hat]; simp
          clear hat
          go_wp2_with fail
          go_quiet (fail)
          go_wp2_with fail
          go_end0
          refine ⟨rfl, ?_, ?_⟩
          · rw [HS.out]
            exact (turned_dict (HD3.out.drewN nq) hmy HAt.out)
          · exact (((HK3.out.drewN nq).set _ (fun _ => .inl rfl)).set _ (fun _ => .inl rfl)).set _ (fun _ => .inl rfl)
        · have HAt := Lib.hid hat
          have t1 : ((dm.at_ : Int) == (dm.old.length : Int)) = false := by simp; omega
          clear hat
          go_wp2_with fail
          go_quiet (fail)
          go_wp2_with fail
          go_end0
          refine ⟨rfl, ?_, HK3.out.drewN nq⟩
          rw [HS.out, DM.turned, if_neg HAt.out]
          exact HD3.out.drewN nq

set_option maxHeartbeats 400000 in
set_option maxRecDepth 100000 in
theorem step_still (b : Nat) (d : DM V) (w : World) (hm : d.young = []) (hD : IsDict w b d) :
    Calls Tryz.prog 122 #[.pointer (some ⟨b, 0, none⟩)] w fun e w' => e = .returned (.tuple #[]) ∧ w = w' := by
  have hmv := moving_any b d w hD
  have hb : decide (d.young ≠ []) = false := by simpa using hm
  rw [hb] at hmv
  have HM := Lib.hid hmv
  clear hmv hb
  go_enter Tryz.func122, Tryz.ntmps122
  go_wp2_with (go_at_call 124; refine HM.out.mono ?_; rintro e w' ⟨rfl, rfl⟩)
  refine bodyPost_ret (results_none rfl _ _ _) rfl ?_
  exact ⟨rfl, rfl⟩

/-- **step.** -/
theorem step_any (b : Nat) (d : DM V) (w : World) {cap : Nat} (hok : d.Ok (hashD d) cap) (hcap : cap ≤ 4398046511104) (hkeys : ∀ e ∈ d.ents, e.key.size ≤ maxLen) (hD : IsDict w b d) :
    Calls Tryz.prog 122 #[.pointer (some ⟨b, 0, none⟩)] w
      fun e w' => e = .returned (.tuple #[]) ∧ IsDict w' b (d.step (hashD d)) ∧ Keeps (fp b d) w w' := by
  by_cases hm : d.young = []
  · refine (step_still b d w hm hD).mono ?_
    rintro e w' ⟨rfl, rfl⟩
    exact ⟨rfl, by unfold DM.step; rw [if_pos hm]; exact hD, Keeps.refl _ _⟩
  · exact step_mv b d w hok hcap hkeys hm hD
end Go.Proofs.YtgjpaecpljifpaaGreat.DE

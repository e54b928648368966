/- A space in memory: Sweep, the first half: those that are due are gathered. -/
import Derived.Test.YtgjpaecpljifpaaGreatSpV
import Derived.Test.YtgjpaecpljifpaaGreatDictHE
import Derived.Test.YtgjpaecpljifpaaGreatDictLE
import Derived.Stop.RegionWithIn
import Derived.Test.YtgjpaecpljifpaaGreatSpC
import Derived.Maps.OwnIn
namespace Go.Proofs.YtgjpaecpljifpaaGreat
open Go Go.RowKit Go.Proofs.YtgjpaecpljifpaaGreat Go.Maps Go.WideMaps Go.Shelf
attribute [local go_sem] Oper.semAt_some

theorem infoDue : (Tryz.prog.info? 154).map (fun i => (i.zero, i.size, i.bytes)) = some (some (.agg #[.string ByteArray.empty, .pointer none]), 2, 24) := by kernel_rfl

/-- What stands between the rounds. -/
structure SweepI (w0 w : World) (base xb : Nat) (A : AS) (L : Lay) (prot : Nat → Prop) (k : Nat) (W : World) : Prop where
  keeps : Keeps (fun _ => False) w0 W
  row : ∃ v, Blk W xb #[v] 151 ∧ W.ownsRow base 154 2 v (duesTo A L k).length (dueCells (duesTo A L k)) ∧ ∀ g, v.ownBlock = some g → ¬ prot g ∧ g ≠ xb
  box : W.heap[base]? = w.heap[base]?
  far : ∀ r, prot r → w.heap.size ≤ r
  size : w.heap.size ≤ W.heap.size

theorem SweepI.kept {w0 w : World} {base xb : Nat} {A : AS} {L : Lay} {prot : Nat → Prop} {k : Nat} {X Y : World} (h : SweepI w0 w base xb A L prot k X) (hx : xb < w.heap.size) (hb : base < w.heap.size) (h0 : w0.heap.size ≤ w.heap.size) (hXY : Keeps prot X Y) : SweepI w0 w base xb A L prot k Y := by
  obtain ⟨v, h1, h2, h3⟩ := h.row
  refine ⟨h.keeps.trans' hXY (fun r hr hp => by have := h.far r hp; omega), ⟨v, h1.of_heap (hXY.same _ h1.lt fun e => by have := h.far _ e; omega), ownsRow_of_heap' h2 fun g e => hXY.same g (h2.lt g e).2 fun e' => (h3 g e).1 e', h3⟩, (hXY.same _ (by have := h.size; omega) fun e => by have := h.far _ e; omega).trans h.box, h.far, Nat.le_trans h.size hXY.size⟩

/-- Sweep's answer, and what it makes of a space. -/
def Swept (w : World) (b : Nat) (A : AS) (L : Lay) (U : List ByteArray) (most : Int) (en : Ending) (w' : World) : Prop :=
  ∃ ks L', DueKeys A ks ∧ SpaceAt w' b (A.falls (ks.take most.toNat)) L' U ∧ Moved w w' b L L' ∧ en = .returned (.int .i64 (min ks.length most.toNat : Nat))

/-- What stands between the rounds of the second loop: j of those that are due have gone. -/
structure SwJ (w wM : World) (b : Nat) (A : AS) (L : Lay) (U : List ByteArray) (ks : List (LateE L)) (X : Nat → Prop) (j : Nat) (wr : World) : Prop where
  lay : ∃ Lj, SpaceAt wr b (A.falls ((ks.take j).map fun x => x.1.key)) Lj U ∧ Moved w wr b L Lj ∧ (∀ k, k ∉ (ks.take j).map (fun x => x.1.key) → DE.look Lj.main k = DE.look L.main k) ∧ Lj.rc = L.rc ∧ ∀ r, X r → ¬ sfp b Lj r
  same : ∀ r, X r → wr.heap[r]? = wM.heap[r]?
  size : wM.heap.size ≤ wr.heap.size
theorem Moved.alloc {w w' : World} {b : Nat} {L L' : Lay} (h : Moved w w' b L L') (o : Obj) : Moved w (w'.alloc o) b L L' := ⟨h.keeps.alloc o, h.fps⟩
theorem SwJ.step {w wM : World} {b : Nat} {A : AS} {L : Lay} {U : List ByteArray} {ks : List (LateE L)} {X : Nat → Prop} {j : Nat} {wr : World} (h : SwJ w wM b A L U ks X j wr) (hX : ∀ r, X r → r < wM.heap.size)
    (hSp : SpaceAt w b A L U) (hnd : (ks.map fun x => x.1.key).Nodup) {x : LateE L} (hx : ks[j]? = some x) (o : Obj) :
    ∃ Lj, SpaceAt (wr.alloc o) b (A.falls ((ks.take j).map fun x => x.1.key)) Lj U ∧ DE.look Lj.main x.1.key = some x.1.val ∧
      ∀ w2 L2, SpaceAt w2 b (((A.falls ((ks.take j).map fun x => x.1.key)).gone x.1.key (Lj.rc x.1.val)).stepped 1 x.1.key) L2 U → Moved (wr.alloc o) w2 b Lj L2 → Lost Lj L2 x.1.key → SwJ w wM b A L U ks X (j + 1) w2 := by
  obtain ⟨Lj, h1, h2, h3, h4, h5⟩ := h.lay
  have hj := (List.getElem?_eq_some_iff.1 hx).1
  have htake : (ks.take (j + 1)).map (fun x => x.1.key) = (ks.take j).map (fun x => x.1.key) ++ [x.1.key] := by rw [List.take_add_one, hx]; simp
  have hxn : x.1.key ∉ (ks.take j).map (fun x => x.1.key) := by
    have : ((ks.take (j + 1)).map fun x => x.1.key).Nodup := hnd.sublist ((List.take_sublist _ _).map _)
    rw [htake, List.nodup_append] at this
    intro hm
    exact this.2.2 _ hm _ List.mem_cons_self rfl
  have hlook : DE.look Lj.main x.1.key = some x.1.val := (h3 _ hxn).trans (hSp.late_get x).1
  have h1a : SpaceAt (wr.alloc o) b (A.falls ((ks.take j).map fun x => x.1.key)) Lj U := h1.keeps (Keeps.alloc (Keeps.refl (fun _ => False) _) o) fun _ _ => id
  refine ⟨Lj, h1a, hlook, fun w2 L2 g1 g2 g3 => ?_⟩
  have hsz : (wr.alloc o).heap.size = wr.heap.size + 1 := by simp
  refine ⟨⟨L2, ?_, (h2.alloc o).trans g2, fun k hk => ?_, g3.rc.trans h4, fun r hr hs => ?_⟩, fun r hr => ?_, ?_⟩
  · rw [htake, falls_snoc]
    have hg : (A.falls ((ks.take j).map fun x => x.1.key)).get x.1.key = some (Lj.rc x.1.val) := by rw [h1.get, hlook]; rfl
    unfold AS.fall
    rw [hg]
    exact g1
  · rw [htake, List.mem_append, not_or] at hk
    rw [g3.main, if_neg (by simpa using hk.2)]
    exact h3 k hk.1
  · rcases g2.fps r hs with hs | hs
    · exact h5 r hr hs
    · have := hX r hr; have := h.size; omega
  · refine (g2.keeps.same r ?_ (h5 r hr)).trans ((Below.heap_alloc wr o r ?_).trans (h.same r hr))
    · have := hX r hr; have := h.size; omega
    · have := hX r hr; have := h.size; omega
  · have := g2.keeps.size; have := h.size; omega

set_option maxRecDepth 100000 in
set_option maxHeartbeats 4000000 in
theorem Sweep_any (b : Nat) (A : AS) (L : Lay) (U : List ByteArray) (most : Int) (w : World) (h : SpaceAt w b A L U) (hm : 0 < most) :
    CallsIn Fence.wide 0 Tryz.prog 30 #[.pointer (some ⟨b, 0, none⟩), .int .i64 most] w (Swept w b A L U most) := by
  have hD := h.parts.late
  have HA := Lib.hid h
  clear h
  refine callsIn_of_wp_marks Tryz.func30 rfl trivial ?_ rfl
  simp only [Tryz.ntmps30, List.size_toArray, List.length_cons, List.length_nil, Nat.reduceAdd, Nat.reduceSub, Array.replicate_succ, Array.replicate_zero, List.push_toArray, List.append_toArray, List.nil_append, List.cons_append]
  have c8 : ∀ o o', ((w.alloc o).alloc o').cell? ⟨b, 8, none⟩ = some (.pointer (some ⟨L.lB, 0, none⟩)) := fun o o' => ((HA.out.parts.str.alloc o).alloc o').cell 8
  gi_wp2_with (refine ⟨trivial, rfl, ?_⟩; gi_at_call 74; refine (callsIn_wide.2 (DE.each_make _ _ ⟨_, rfl⟩)).mono ?_; rintro e w' ⟨rfl, rfl⟩)
  obtain ⟨w1, hw1⟩ : ∃ w1, ((w.alloc (.cells #[.pointer (some ⟨b, 0, none⟩)] 23)).alloc (.cells #[.slice none 0 0] 151)).alloc (.cells #[.pointer (some ⟨L.lB, 0, none⟩)] 95) = w1 := ⟨_, rfl⟩
  have hk0 : Keeps (fun _ => False) w w1 := by rw [← hw1]; exact (((Keeps.refl _ w).alloc _).alloc _).alloc _
  have hws : w1.heap.size = w.heap.size + 3 := by rw [← hw1]; simp
  have hbx : Blk w1 (w.heap.size + 2) #[.pointer (some ⟨L.lB, 0, none⟩)] 95 := by
    rw [← hw1]; have := Blk.new ((w.alloc (.cells #[.pointer (some ⟨b, 0, none⟩)] 23)).alloc (.cells #[.slice none 0 0] 151)) #[.pointer (some ⟨L.lB, 0, none⟩)] 95
    simpa using this
  have hsb : Blk w1 w.heap.size #[.pointer (some ⟨b, 0, none⟩)] 23 := by rw [← hw1]; exact ((Blk.new w _ _).alloc _).alloc _
  have hxb : Blk w1 (w.heap.size + 1) #[.slice none 0 0] 151 := by
    rw [← hw1]; have := (Blk.new (w.alloc (.cells #[.pointer (some ⟨b, 0, none⟩)] 23)) #[.slice none 0 0] 151).alloc (.cells #[.pointer (some ⟨L.lB, 0, none⟩)] 95)
    simpa using this
  simp only [hw1]
  refine wp_range (w := w1) rfl (fun _ _ => rfl) (DE.each_gives L.lB (w.heap.size + 2) L.late hD.ok hD.small) (fun r h => h.elim) ?pre (fun _ => rfl) (SweepI w w1 w.heap.size (w.heap.size + 1) A L) ?hI ?h0 ?a1 ?assign ?body ?done
  case assign =>
    intro l c W K hK
    gi_wp2_with fail
    exact hK
  case pre => exact fun W' hk => ⟨((hD.dict.of_heap fun r hr => (hk0.trans hk).same r (hD.dict.fp_lt hr) id)), hk.blk hbx id⟩
  case hI => exact fun prot k X Y h hXY => h.kept (by omega) (by omega) (by omega) hXY
  case h0 => exact fun prot W' hfar hk => ⟨hk0.trans hk, ⟨_, hk.blk hxb id, World.ownsRow_nil _ _ _ _, fun g e => (by cases e)⟩, hk.same _ hsb.lt id, hfar, hk.size⟩
  case body =>
    intro l' prot k x W hx hI hpb
    obtain ⟨hkeep, ⟨v, hxW, hown, hne⟩, hbox, hfar, hsz⟩ := hI
    have hxm : x ∈ L.late.ents := List.mem_of_getElem? hx
    have hlive : liveOf L x.val := by
      have hl : DE.look L.late x.key = some x.val := (DE.look_iff hD.ok).2 ⟨x, hxm, rfl, rfl⟩
      have hd := HA.out.due x.key
      rw [hl] at hd
      have := Option.filter_eq_some_iff.1 hd.symm
      exact ⟨x.key, this.1⟩
    have hSp : Parts W b (spaceCells A L) L (liveOf L) A.steps := HA.out.parts.keeps hkeep (fun _ _ => id)
    have c2 : W.drew.cell? ⟨w.heap.size, 0, none⟩ = some (.pointer (some ⟨b, 0, none⟩)) := by
      have hb2 : Blk W w.heap.size #[.pointer (some ⟨b, 0, none⟩)] 23 := hsb.of_heap hbox
      exact hb2.cell 0
    have c3 : W.drew.cell? ⟨x.val, 3, none⟩ = some (.int .i64 (L.rc x.val).at_) := (hSp.ent _ hlive).cell 3
    have HSp := Lib.hid (show Blk W.drew b (spaceCells A L) 100 from hSp.str)
    have HX := Lib.hid hx
    have HKeep := Lib.hid hkeep
    have HRow := Lib.hid (And.intro hxW (And.intro hown hne))
    have HBox := Lib.hid hbox
    have HFar := Lib.hid hfar
    have HSz := Lib.hid hsz
    have HPb := Lib.hid hpb
    clear hx hkeep hxW hown hne hbox hfar hsz hpb hxm hlive hSp
    obtain ⟨p, hp⟩ : ∃ p, A.past (L.rc x.val).at_ = p := ⟨_, rfl⟩
    have HP := Lib.hid hp
    have hp' : (decide (0 < (L.rc x.val).at_) && decide ((L.rc x.val).at_ ≤ A.now)) = p := hp
    clear hp
    simp only [DE.encV]
    gi_wp2_with fail
    apply wpIn_cut (fun fr e a' w' => e = .normal ∧ a' = fr ∧ W.drew = w')
    case h =>
      gi_region_with ((first | refine ⟨trivial, rfl, ?_⟩ | skip); gi_at_call 80; refine (CallsIn.inRound _ (callsIn_wide.2 (past_any b A L _ _ HSp.out))).mono ?_; rintro en w' ⟨rfl, rfl⟩; rw [hp'])
      all_goals exact ⟨rfl, rfl, rfl⟩
    case hk =>
      rintro e a' w' ⟨rfl, rfl, rfl⟩
      clear c2 c3 hp'
      cases p with
      | false =>
        gi_wp2_with fail
        obtain ⟨q1, q2, q3⟩ := HRow.out
        refine ⟨⟨HKeep.out.drew, ⟨v, q1.drew, ?_, q3⟩, HBox.out, HFar.out, HSz.out⟩, Nat.le_refl _, fun _ _ => rfl⟩
        rw [duesTo_no HX.out HP.out]
        exact ownsRow_of_heap' (w' := W.drew) q2 fun _ _ => rfl
      | true =>
        obtain ⟨q1, q2, q3⟩ := HRow.out
        have q2d := ownsRow_of_heap' (w' := W.drew) q2 fun _ _ => rfl
        have cx : W.drew.cell? ⟨w.heap.size + 1, 0, none⟩ = some v := q1.cell 0
        have hsW := HSz.out
        have hlen : (duesTo A L k).length ≤ 4398046511104 := by
          have h1 := duesTo_len A L k
          have h2 := DE.ents_len hD.ok
          have h3 := hD.ok.capped
          unfold mostKeys at h3
          omega
        obtain ⟨i0, hi, hz0, hz1, hz2⟩ := info_parts infoDue
        have HQ1 := Lib.hid q1
        have HQ3 := Lib.hid q3
        clear q1 q3 q2
        gi_wp2_with (gi_at_builtin; refine wpListIn_append_own_at _ rfl _ _ 151 rfl w.heap.size 154 i0 (.agg #[.string ByteArray.empty, .pointer none]) 2 24 Tryz.underlying151 hi hz0 hz1 hz2 rfl (by decide) _ _ _ rfl (q2d.alloc _) ⟨W.heap.size, 0, none⟩ 1 1 [.string x.key, .pointer (some ⟨x.val, 0, none⟩)] rfl rfl ?_ ?_ ?_ ?_ ?_ ?_)
        case refine_1 => exact fun j u hj => cells_new W _ _ j u hj
        case refine_2 => simp [Value.oneCell']
        case refine_3 => unfold maxLen; omega
        case refine_4 => omega
        case refine_5 =>
          have := HKeep.out.size
          show w.heap.size ≤ (W.alloc _).heap.size
          simp; omega
        intro v' wn hown hgrow _ hat
        obtain ⟨ak, mk, ck, rfl⟩ := DE.ownsRow_slice hown
        have kb : Keeps (fun r => v.ownBlock = some r) W wn := Keeps.grown (((Keeps.refl _ W).alloc _).drew) hgrow (fun r h _ => h)
        have hbn : Blk wn (w.heap.size + 1) #[v] 151 := kb.blk HQ1.out fun e => (HQ3.out _ e).2 rfl
        have cn : wn.cell? ⟨w.heap.size + 1, 0, none⟩ = some v := hbn.cell 0
        have fn : wn.frozen? ⟨w.heap.size + 1, 0, none⟩ = false := hbn.frozen 0
        have HOwn := Lib.hid hown
        have HAt := Lib.hid hat
        have HKb := Lib.hid kb
        have HBn := Lib.hid hbn
        have HQ2 := Lib.hid q2d
        clear hown hgrow hat kb hbn q2d cx hi hz0 hz1 hz2
        gi_wp2_with fail
        have k2 : Keeps (fun r => r = w.heap.size + 1 ∨ v.ownBlock = some r) W (wn.setCell ⟨w.heap.size + 1, 0, none⟩ (.slice ak mk ck)) := (HKb.out.mono fun _ _ e => .inr e).set _ fun _ => .inl rfl
        have hsame : ∀ r, r < wn.heap.size → r ≠ w.heap.size + 1 → (wn.setCell ⟨w.heap.size + 1, 0, none⟩ (.slice ak mk ck)).heap[r]? = wn.heap[r]? := fun r hr hn => ((Keeps.refl (fun r => r = w.heap.size + 1) wn).set _ (fun _ => rfl)).same r hr hn
        have hxl : w.heap.size + 1 < W.heap.size := HQ1.out.lt
        have hwk := HKeep.out.size
        have hrow' : (wn.setCell ⟨w.heap.size + 1, 0, none⟩ (.slice ak mk ck)).ownsRow w.heap.size 154 2 (.slice ak mk ck) (duesTo A L (k + 1)).length (dueCells (duesTo A L (k + 1))) := by
          rw [duesTo_yes HX.out HP.out, dueCells_snoc, List.length_append]
          refine ownsRow_of_heap' HOwn.out fun g e => hsame g (HOwn.out.lt g e).2 ?_
          rintro rfl
          rcases HAt.out with a | a
          · rw [a] at e; exact (HQ3.out _ e).2 rfl
          · rw [a] at e; injection e with e; omega
        have hnot : ∀ r, r < W.heap.size → r ≠ w.heap.size + 1 → v.ownBlock ≠ some r → (wn.setCell ⟨w.heap.size + 1, 0, none⟩ (.slice ak mk ck)).heap[r]? = W.heap[r]? := fun r hr h1 h2 => k2.same r hr fun h => h.elim h1 h2
        refine ⟨⟨HKeep.out.trans' k2 ?_, ⟨.slice ak mk ck, HBn.out.set 0 _, hrow', ?_⟩, ?_, HFar.out, Nat.le_trans HSz.out k2.size⟩, k2.size, ?_⟩
        · rintro r hr (rfl | e)
          · omega
          · have := (HQ2.out.lt r e).1; omega
        · intro g e
          rcases HAt.out with a | a
          · rw [a] at e; exact HQ3.out g e
          · rw [a] at e
            injection e with e
            exact ⟨fun hp => by have := HPb.out g hp; omega, by omega⟩
        · refine (hnot w.heap.size (by omega) (by omega) fun e => ?_).trans HBox.out
          obtain ⟨cs, hcs⟩ := ownsRow_blk HQ2.out e
          exact (hsb.of_heap HBox.out).ne (show Blk W w.heap.size cs 154 from hcs) (by decide) rfl
        · rintro r (hr | hr)
          · have h1 := HPb.out r hr
            exact hnot r h1.2 (by omega) fun e => (HQ3.out r e).1 hr
          · exact hr.elim
  case done =>
    intro prot D W hpb hDp hI hDd
    obtain ⟨hkeep, ⟨v, hxW, hown, hne⟩, hbox, hfar, hsz⟩ := hI
    have hcx : W.cell? ⟨w.heap.size + 1, 0, none⟩ = some v := hxW.cell 0
    have hcb : W.cell? ⟨w.heap.size, 0, none⟩ = some (.pointer (some ⟨b, 0, none⟩)) := (hsb.of_heap hbox).cell 0
    have HKeep := Lib.hid hkeep
    have HRow := Lib.hid (And.intro hxW (And.intro hown hne))
    have HBox := Lib.hid hbox
    have HFar := Lib.hid hfar
    have HSz := Lib.hid hsz
    have HPb := Lib.hid hpb
    have HDd := Lib.hid hDd
    clear hkeep hxW hown hne hbox hfar hsz hpb hDd
    by_cases h0 : (duesTo A L L.late.ents.length).length = 0
    · obtain ⟨a1, c1, rfl⟩ : ∃ a c, v = .slice a 0 c := by
        have := HRow.out.2.1.2
        rw [h0] at this
        rcases this with ⟨rfl, _⟩ | ⟨g, cap, cur, rfl, _⟩
        · exact ⟨_, _, rfl⟩
        · exact ⟨_, _, rfl⟩
      have hnone := AnyF.slices_SortFunc_none Tryz.sortDue a1 c1 (.func (.func 82) #[] #[]) W
      change Calls Tryz.prog 81 _ _ _ at hnone
      have HNone := Lib.hid hnone
      clear hnone
      have hmin0 : min (0 : Int) most = 0 := by omega
      have fcx : W.frozen? ⟨w.heap.size + 1, 0, none⟩ = false := HRow.out.1.frozen 0
      gi_wp2_with (refine ⟨trivial, rfl, ?_⟩; gi_at_call 81; refine (callsIn_wide.2 HNone.out).mono ?_; rintro e w' ⟨rfl, hw'⟩; obtain rfl := hw'.symm)
      have hDx : D ≠ w.heap.size + 1 := by have := HPb.out D hDp; omega
      have hDl : D < W.heap.size := (HPb.out D hDp).2
      have hdd : ∀ u, (W.setCell ⟨w.heap.size + 1, 0, none⟩ u).heap[D]? = some (.deferred (some [])) := fun u =>
        (((Keeps.refl (fun r => r = w.heap.size + 1) W).set u (fun _ => rfl)).same D hDl hDx).trans HDd.out
      have HDD := Lib.hid hdd
      clear hdd
      refine wpIn_loop_rounds 1 ?_
      rw [roundsIn_succ]
      gi_wp2_with fail
      refine ⟨by simp, .inl ⟨_, _, rfl, run_takeDeferred (HDD.out _), ?_⟩⟩
      refine ⟨_, results_tmp rfl _ _ _, ?_⟩
      have hks : duesBy A L = [] := List.eq_nil_of_length_eq_zero (by rw [duesBy_len, h0])
      have hdk := dueKeys_of HA.out
      rw [hks] at hdk
      have hkk : Keeps (fun r => w.heap.size ≤ r) w ((W.setCell ⟨w.heap.size + 1, 0, none⟩ (.slice a1 0 c1)).putObj D (.deferred none)) := ((HKeep.out.mono (fun _ _ h => h.elim)).set _ (fun h => by show w.heap.size ≤ w.heap.size + 1; omega)).putObj _ (fun h => by have := HFar.out D hDp; omega)
      have hno : ∀ r, sfp b L r → ¬ w.heap.size ≤ r := fun r hr e => by have := HA.out.parts.lt hr; omega
      exact ⟨[], L, hdk, (by simpa [AS.falls] using HA.out.keeps hkk hno), ⟨hkk.mono (fun r hr e => by omega), fun r hr => .inl hr⟩, by simp⟩
    · obtain ⟨n, hn⟩ : ∃ n, (duesBy A L).length = n := ⟨_, rfl⟩
      have hn1 : (dues A L).length = n := by rw [← hn]; unfold duesBy; rw [List.length_mergeSort]
      have hn2 := hn
      rw [duesBy_len] at hn2
      have hrow := HRow.out.2.1
      rw [← dues_map, List.length_map, hn1] at hrow
      rw [hn2] at h0
      obtain ⟨g, cap, rfl⟩ : ∃ g cap, v = .slice (some ⟨g, 0, none⟩) n cap := by
        rcases hrow.2 with ⟨_, h9⟩ | ⟨g, cap, cur, rfl, _⟩
        · exact absurd h9 h0
        · exact ⟨g, cap, rfl⟩
      have hnb9 : n ≤ 4398046511104 := by
        have h1 := duesTo_len A L L.late.ents.length
        have h2 := DE.ents_len hD.ok
        have h3 := hD.ok.capped
        unfold mostKeys at h3
        omega
      have hnb : n < 4611686018427387904 := by omega
      obtain ⟨x0, hx0⟩ : ∃ x0, x0 ∈ dues A L := List.exists_mem_of_length_pos (by omega)
      rw [← hn1] at hrow hnb
      have hSpW : SpaceAt W b A L U := HA.out.keeps HKeep.out fun _ _ => id
      have hsort := due_sort hSpW x0 (dues A L) hnb hrow
      rw [hn1] at hsort
      have HSort := Lib.hid hsort
      have HN := Lib.hid hn
      have HN0 := Lib.hid h0
      clear hrow hnb hsort hn hn1 hn2 hSpW hx0 h0
      gi_wp2_with (refine ⟨trivial, rfl, ?_⟩; gi_at_call 81; refine (callsIn_wide.2 HSort.out).mono ?_)
      rintro e wS ⟨rfl, l', hl', hrowS, hkS⟩
      obtain rfl : duesBy A L = l' := hl'.symm
      obtain ⟨hn1, hq2, hq3⟩ := HRow.out
      have hg0 := hq3 g rfl
      obtain ⟨cur, hcur, hcap, hcapm, hgw⟩ : ∃ cur, Blk wS g cur 154 ∧ n ≤ cap ∧ cap ≤ maxLen ∧ w.heap.size ≤ g ∧ cur.toList.take (n * 2) = dueCells ((duesBy A L).map fun x => x.1) := by
        rcases hrowS.2 with ⟨h9, _⟩ | ⟨g', cap', cur, hv, hbase, hb, h1, h2, h3, h4⟩
        · cases h9
        · cases hv; exact ⟨cur, hb, h1, h2, hbase, h4⟩
      obtain ⟨m, hm'⟩ : ∃ m, min n most.toNat = m := ⟨_, rfl⟩
      have hmin : min (n : Int) most = (m : Int) := by omega
      have hmn : m ≤ n := by omega
      have hmb : (m : Int) ≤ 4398046511104 := by omega
      have hmc : (m : Int) ≤ (cap : Int) := by omega
      have cl : wS.cell? ⟨w.heap.size + 1, 0, none⟩ = some (.slice (some ⟨g, 0, none⟩) n cap) := (hkS.blk hn1 (fun e => hg0.2 e.symm)).cell 0
      have fl : wS.frozen? ⟨w.heap.size + 1, 0, none⟩ = false := (hkS.blk hn1 (fun e => hg0.2 e.symm)).frozen 0
      have HM := Lib.hid hm'
      have HKS := Lib.hid hkS
      have HCur := Lib.hid hcur
      have HGW := Lib.hid hgw
      have HB1 := Lib.hid hn1
      have HG0 := Lib.hid hg0
      clear hm' hkS hcur hgw hn1 hg0 hrowS hq2 hq3 hl' hcx hcb
      gi_wp2_with fail
      obtain ⟨wM, hwM⟩ : ∃ wM, wS.setCell ⟨w.heap.size + 1, 0, none⟩ (.slice (some ⟨g, 0, none⟩) m cap) = wM := ⟨_, rfl⟩
      rw [hwM]
      have hkM : Keeps (fun r => r = g ∨ r = w.heap.size + 1) W wM := by rw [← hwM]; exact (HKS.out.mono fun _ _ h => .inl h).set _ fun _ => .inr rfl
      have hlM : Blk wM (w.heap.size + 1) #[.slice (some ⟨g, 0, none⟩) m cap] 151 := by rw [← hwM]; exact (HKS.out.blk HB1.out (fun e => HG0.out.2 e.symm)).set 0 _
      have hgM : Blk wM g cur 154 := by rw [← hwM]; exact HCur.out.set_ne _ HG0.out.2
      have hsW : Blk W w.heap.size #[.pointer (some ⟨b, 0, none⟩)] 23 := hsb.of_heap HBox.out
      have hgs : g ≠ w.heap.size := by
        rintro rfl
        obtain ⟨cs, hcs⟩ := ownsRow_blk HRow.out.2.1 rfl
        exact hsW.ne (show Blk W w.heap.size cs 154 from hcs) (by decide) rfl
      have hsM : Blk wM w.heap.size #[.pointer (some ⟨b, 0, none⟩)] 23 := hkM.blk hsW (by rintro (e | e) <;> omega)
      have hDb := HPb.out D hDp
      have hDg : D ≠ g := fun e => HG0.out.1 (e ▸ hDp)
      have hDM : wM.heap[D]? = some (.deferred (some [])) := (hkM.same D hDb.2 (by rintro (e | e) <;> omega)).trans HDd.out
      have hMs := hkM.size
      have hSp0 : SwJ w wM b A L U (duesBy A L) (fun r => r = w.heap.size ∨ r = w.heap.size + 1 ∨ r = g ∨ r = D) 0 wM := by
        have hkw : Keeps (fun r => w.heap.size ≤ r) w wM := (HKeep.out.mono fun _ _ h => h.elim).trans (hkM.mono fun r _ h => by have := HGW.out.1; omega)
        refine ⟨⟨L, ?_, ⟨hkw.mono fun r hr e => by omega, fun r hr => .inl hr⟩, fun _ _ => rfl, rfl, fun r hr hs => ?_⟩, fun _ _ => rfl, Nat.le_refl _⟩
        · exact HA.out.keeps hkw fun r hr e => by have := HA.out.parts.lt hr; omega
        · have := HA.out.parts.lt hs
          have := HGW.out.1
          omega
      have hX : ∀ r, (r = w.heap.size ∨ r = w.heap.size + 1 ∨ r = g ∨ r = D) → r < wM.heap.size := fun r hr => by
        have := hgM.lt; have := hlM.lt; have := hsM.lt; omega
      have hnd := (dueKeys_of HA.out).once
      have hcell : ∀ (j : Nat) (x : LateE L), (duesBy A L)[j]? = some x → j < m → cur[j * 2]? = some (.string x.1.key) ∧ cur[j * 2 + 1]? = some (.pointer (some ⟨x.1.val, 0, none⟩)) := by
        intro j x hx hj
        have h9 : ∀ t, t < 2 → cur[j * 2 + t]? = (dueEnc x)[t]? := fun t ht => by
          have h1 : (cur.toList.take (n * 2))[j * 2 + t]? = ((duesBy A L).flatMap dueEnc)[j * 2 + t]? := by rw [HGW.out.2, dueCells_map]
          rw [List.getElem?_take_of_lt (by omega), flat_get dueEnc 2 (fun _ => rfl) (by decide), show (j * 2 + t) / 2 = j by omega, show (j * 2 + t) % 2 = t by omega, hx, Array.getElem?_toList] at h1
          exact h1
        exact ⟨h9 0 (by decide), h9 1 (by decide)⟩
      have HSp0 := Lib.hid hSp0
      have HX := Lib.hid hX
      have HNd := Lib.hid hnd
      have HCell := Lib.hid hcell
      have HsM := Lib.hid hsM
      have HlM := Lib.hid hlM
      have HgM := Lib.hid hgM
      have HDM := Lib.hid hDM
      have hnk : m ≤ (duesBy A L).length := by rw [HN.out]; exact hmn
      clear hSp0 hX hnd hcell hsM hlM hgM hDM hkM hsW hgs hDb hDg hMs hwM cl fl
      gi_loopw [45] (fun i wr => ∃ j : Nat, j ≤ m ∧ i = .int .i64 j ∧ SwJ w wM b A L U (duesBy A L) (fun r => r = w.heap.size ∨ r = w.heap.size + 1 ∨ r = g ∨ r = D) j wr) (fun i _ => m - (intOf i).toNat)
      case atStart => exact ⟨0, Nat.zero_le _, rfl, HSp0.out⟩
      case round =>
        obtain ⟨j, hj, rfl, hJ⟩ := hrel
        by_cases hlt : j < m
        · obtain ⟨x, hx⟩ : ∃ x, (duesBy A L)[j]? = some x := ⟨_, List.getElem?_eq_getElem (by omega)⟩
          have hgr : Blk wr g cur 154 := HgM.out.of_heap (hJ.same g (by simp))
          have hsr : Blk wr w.heap.size #[.pointer (some ⟨b, 0, none⟩)] 23 := HsM.out.of_heap (hJ.same _ (by simp))
          have c0 : wr.cell? ⟨g, j * 2, none⟩ = some (.string x.1.key) := (hgr.cell _).trans (HCell.out j x hx hlt).1
          have c1 : wr.cell? ⟨g, j * 2 + 1, none⟩ = some (.pointer (some ⟨x.1.val, 0, none⟩)) := (hgr.cell _).trans (HCell.out j x hx hlt).2
          have cs : ∀ o, (wr.alloc o).cell? ⟨w.heap.size, 0, none⟩ = some (.pointer (some ⟨b, 0, none⟩)) := fun o => (hsr.alloc o).cell 0
          have hstep := hJ.step HX.out HA.out HNd.out hx
          have HStep := Lib.hid hstep
          clear hstep hJ hgr hsr hx
          gi_wp2_with fail
          obtain ⟨Lj, hSj, hlk, hnext⟩ := HStep.out (.cells #[.string x.1.key, .pointer (some ⟨x.1.val, 0, none⟩)] 154)
          have HNext := Lib.hid hnext
          clear hnext
          refine ⟨trivial, rfl, ?_⟩
          gi_at_call 85
          refine (callsIn_wide.2 (expires_more b _ Lj U x.1.key x.1.val _ hSj hlk)).mono ?_
          rintro e w2 ⟨rfl, L2, g1, g2, _, g3⟩
          have HJ2 := Lib.hid (HNext.out w2 L2 g1 g2 g3)
          clear g1 g2 g3 hSj hlk c0 c1 cs HNext HStep
          gi_wp2_with fail
          exact ⟨⟨j + 1, hlt, by go_num, HJ2.out⟩, by simp [intOf]; omega⟩
        · obtain rfl : j = m := by omega
          have hlr : Blk wr (w.heap.size + 1) #[.slice (some ⟨g, 0, none⟩) j cap] 151 := HlM.out.of_heap (hJ.same _ (by simp))
          have cl : wr.cell? ⟨w.heap.size + 1, 0, none⟩ = some (.slice (some ⟨g, 0, none⟩) j cap) := hlr.cell 0
          have hDr : wr.heap[D]? = some (.deferred (some [])) := (hJ.same _ (by simp)).trans HDM.out
          have HDr := Lib.hid hDr
          have HJ := Lib.hid hJ
          clear hDr hJ hlr
          gi_wp2_with fail
          refine ⟨by simp, .inl ⟨_, _, rfl, run_takeDeferred HDr.out, ?_⟩⟩
          refine ⟨_, results_tmp rfl _ _ _, ?_⟩
          obtain ⟨Lj, h1, h2, h3, h4, h5⟩ := HJ.out.lay
          have hDn := h5 D (by simp)
          have hke : Keeps (fun r => r = D) wr (wr.putObj D (.deferred none)) := (Keeps.refl _ _).putObj _ fun _ => rfl
          refine ⟨(duesBy A L).map fun x => x.1.key, Lj, dueKeys_of HA.out, ?_, ⟨h2.keeps.trans' hke fun r hr e => ?_, h2.fps⟩, ?_⟩
          · have hk : ((duesBy A L).map fun x => x.1.key).take most.toNat = ((duesBy A L).take j).map fun x => x.1.key := by
              rw [← List.map_take]
              have hl := HN.out
              have hm9 := HM.out
              by_cases h9 : n ≤ most.toNat
              · rw [List.take_of_length_le (by omega), List.take_of_length_le (by omega)]
              · rw [show most.toNat = j by omega]
            rw [hk]
            exact h1.keeps hke fun r hr e => hDn (e ▸ hr)
          · have := HFar.out D hDp; omega
          · rw [List.length_map, HN.out, HM.out]
            rfl
end Go.Proofs.YtgjpaecpljifpaaGreat

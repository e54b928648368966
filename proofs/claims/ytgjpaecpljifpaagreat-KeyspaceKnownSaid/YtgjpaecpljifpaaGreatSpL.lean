/- A space in memory: Touched. -/
import Derived.Test.YtgjpaecpljifpaaGreatSpH
import Derived.Test.YtgjpaecpljifpaaGreatShelf
import Derived.Test.YtgjpaecpljifpaaGreatDictHE
import Derived.Sort.OwnSorted
import Derived.Maps.AppendAt
namespace Go.Proofs.YtgjpaecpljifpaaGreat
open Go Go.RowKit Go.Proofs.YtgjpaecpljifpaaGreat Go.Maps Go.WideMaps Go.Sort Go.ChangeMaps Go.MapKept

theorem wpList_clear {P : Program} {w : World} {ops : Array Oper} {rest : List Oper} {o : Oper} {a : Act} {Q : Exit → Act → World → Prop} (hg : o.guard = none) (m : Operand) (t : TypeId) (hop : o.op = Op.call { callee := Callee.builtin Builtin.clear, args := #[m], argTypes := #[t] })
    (k e : TypeId) (ht : P.underlying t = some (.map k e)) (b : Nat) (es : Array MapEntry) (clock : Nat) (hm : a.eval m = .map (some b)) (hb : w.heap[b]? = some (.map es clock))
    (hK : wpList P ops Q rest (a.put o.dst (.tuple #[])) (setBlock w b (.map #[] clock))) : wpList P ops Q (o :: rest) a w := by
  refine wpList_plain hg fun K' hK' => ?_
  unfold Oper.wp
  simp [execOp, hop, resolve, invoke, builtin, hm, Builtin.clear_, run_underlying ht, MapKept.run_getObj_map hb, MapKept.run_setObj_map _ hb, Result.andThen]
  exact hK' _ _ hK

/-- A list that tells the keys that were touched, rising. -/
structure Told (T : ByteArray → Bool) (l : List (List UInt8)) : Prop where
  sorted : l.Pairwise fun x y => decide (x ≤ y) = true
  once : l.Nodup
  all : ∀ k : ByteArray, k.size ≤ maxLen → (T k = true ↔ k.data.toList ∈ l)
  short : ∀ x ∈ l, x.length ≤ maxLen

theorem told_of {w : World} {b n : Nat} {D : DataW Unit} (h : w.ownsMap Tryz.prog 9 unitElem b n D) {T : ByteArray → Bool} (hT : ∀ k : ByteArray, k.size ≤ maxLen → Maps.has D (klit k) = T k) {ss : List (List UInt8)} (hp : ss.Perm (strKeys D)) :
    Told T (ss.mergeSort fun x y => decide (x ≤ y)) := by
  have hpm : (ss.mergeSort fun x y => decide (x ≤ y)).Perm (strKeys D) := (List.mergeSort_perm _ _).trans hp
  obtain ⟨es, hD, hpw, _⟩ := h.entries strLaw
  obtain ⟨es', hD', hko⟩ := h.keysOf
  obtain rfl : es = es' := by rw [hD] at hD'; simpa using hD'
  have hks : ∀ p ∈ es, ∃ x, p.1 = .string x := fun p hp => by
    obtain ⟨v, hv⟩ := hko p hp
    obtain ⟨x, _, hx, _⟩ := Maps.keyOf_str Tryz.underlying9 hv
    exact ⟨x, hx⟩
  have hnd : (strKeys D).Nodup := by
    subst hD
    show (es.map fun p => strOf p.1).Nodup
    refine List.pairwise_map.2 (hpw.imp_of_mem fun {p q} hp' hq' hne e => hne ?_)
    obtain ⟨a, ha⟩ := hks p hp'
    obtain ⟨b, hb⟩ := hks q hq'
    rw [ha, hb] at e ⊢
    exact congrArg _ e
  refine ⟨?_, hpm.nodup_iff.2 hnd, fun k hk => ?_, fun x hx => strKeys_le h Tryz.underlying9 x (hpm.mem_iff.1 hx)⟩
  · exact List.pairwise_mergeSort (fun a b c h1 h2 => by simp only [decide_eq_true_eq] at *; exact List.le_trans h1 h2) (fun a b => by simp only [Bool.or_eq_true, decide_eq_true_eq]; exact List.le_total a b) ss
  · rw [hpm.mem_iff, ← hT k hk]
    subst hD
    rw [has_eq, List.any_eq_true]
    show _ ↔ k.data.toList ∈ es.map fun p => strOf p.1
    rw [List.mem_map]
    constructor
    · rintro ⟨p, hp', hs⟩
      obtain ⟨a, ha⟩ := hks p hp'
      rw [ha] at hs
      exact ⟨p, hp', by rw [ha]; simpa [Lit.sameKey, strOf, klit] using hs⟩
    · rintro ⟨p, hp', hs⟩
      obtain ⟨a, ha⟩ := hks p hp'
      refine ⟨p, hp', ?_⟩
      rw [ha] at hs ⊢
      simpa [Lit.sameKey, strOf, klit] using hs

theorem ownsMap_cleared {w : World} {b clock : Nat} (h : w.heap[b]? = some (.map #[] clock)) : w.ownsMap (H := Unit) Tryz.prog 9 (unitElem (H := Unit)) b (Maps.size (.map [] : DataW Unit)) (.map []) :=
  ⟨#[], clock, h, ⟨by simp, stamped_empty clock, by simp⟩, Nat.le_refl _, rfl⟩

set_option maxRecDepth 100000 in
set_option maxHeartbeats 2000000 in
theorem Touched_any (b : Nat) (A : AS) (L : Lay) (U : List ByteArray) (w : World) (h : SpaceAt w b A L U) :
    Calls Tryz.prog 16 #[.pointer (some ⟨b, 0, none⟩)] w
      fun en w' => (∃ L', SpaceAt w' b { A with touched := fun _ => false } L' U ∧ Moved w w' b L L') ∧
        ∃ g cap l, en = .returned (.slice (some ⟨g, 0, none⟩) l.length cap) ∧ Told A.touched l ∧ w'.ownsRow w.heap.size 9 1 (.slice (some ⟨g, 0, none⟩) l.length cap) l.length (l.map encStr) := by
  obtain ⟨i0, hi, hz0, hz1, hz2⟩ := info_parts DE.infoS
  have c9 : w.cell? ⟨b, 9, none⟩ = some (.map (some L.tB)) := h.parts.str.cell 9
  have hown := h.parts.map
  have hbl := hown.lt
  have hmax : Maps.size L.D ≤ 4398046511104 := by
    have h1 := size_univ h.parts.map A.touched h.touched U (fun k hk => h.univ k (.inr hk))
    have h2 := h.small
    unfold mostKeys at h2
    omega
  have HA := Lib.hid h
  clear h
  go_enter Tryz.func16, Tryz.ntmps16
  go_wp2_with (first
    | (at_len; refine wpList_len_own _ rfl _ 98 rfl 9 191 Tryz.underlying98 _ L.tB _ _ rfl hown ?_)
    | (at_make; refine wpList_make_own _ rfl _ _ 38 rfl w.heap.size 9 i0 (.string ByteArray.empty) 1 Tryz.underlying38 hi hz0 hz1 _ _ _ (Maps.size L.D) rfl rfl rfl (by rw [hz2]; omega) (by unfold maxLen; omega) (Nat.le_refl _) ?_; intro w1 hrow1 hg1; have c9' : w1.cell? ⟨b, 9, none⟩ = some (.map (some L.tB)) := hg1.cell c9 (by simp))
    | (at_range; refine wpList_range_own _ rfl _ 98 rfl 9 191 strLaw Tryz.underlying98 _ L.tB _ _ rfl (hown.kept hg1 (by simp)) ?_; intro w0 hrg0 hg0 hs0))
  go_frame
  have k0 : Keeps (fun _ => False) w w0 := (Keeps.grown (Keeps.refl _ w) hg1 (fun _ h => by cases h)).grown hg0 (fun _ h => by cases h)
  have HK0 := Lib.hid k0
  have HG1 := Lib.hid hg1.size
  have HOwn := Lib.hid hown
  clear k0 c9 c9' hs0
  go_loopw [3] (fun v wr => ∃ (left : Lit → Bool) (cnt : Nat) (ss : List (List UInt8)), wr.ranges Tryz.prog 9 unitElem L.tB w1.heap.size (Maps.size L.D) L.D left cnt ∧ ss.length + cnt ≤ Maps.size L.D ∧
      wr.ownsRow w.heap.size 9 1 v ss.length (ss.map encStr) ∧ v ≠ .slice none 0 0 ∧ Collected L.D left ss ∧ Keeps (fun _ => False) w wr)
    (fun _ wr => wr.rangeLeft L.tB w1.heap.size)
  case atStart =>
    exact ⟨_, _, [], hrg0, by simp, hrow1.kept hg0 (Or.inr (by simp [Value.ownBlock])), by simp, Collected.start L.D, HK0.out⟩
  case round =>
    obtain ⟨left, cnt, ss, hrg, hcs, hrow, hnn, hC, hnx⟩ := hrel
    go_wp2_with (first
      | (at_next; refine wpList_next_ranges _ rfl _ rfl 9 strLaw unitElem encStr (fun _ : Unit => Value.agg #[]) (fun key kl hk => by obtain ⟨x, hx, _⟩ := Maps.keyOf_str Tryz.underlying9 hk; exact ⟨x, hx⟩) (fun v y hv => by obtain ⟨rfl, _⟩ := unitElem_inv hv; exact ⟨(), rfl⟩) L.tB w1.heap.size (Maps.size L.D) _ _ _ rfl hrg ?_ ?_))
    · intro hc0 hl0
      rcases hrow.2 with ⟨hnil, _⟩ | ⟨g, cap, cur, rfl, hbase, hb, h1, h2, h3, h4⟩
      · exact absurd hnil hnn
      have hH : Holds encStr wr g 0 ss.toArray := holds_of_block hb (by simpa using h4)
      have hgl : g < wr.heap.size := (Array.getElem?_eq_some_iff.1 hb).1
      have hc := Tryz.slices_Sort_string g 0 cap ss wr hH hgl (by omega)
      have HC := Lib.hid hc
      have HPerm := Lib.hid (hC.perm HOwn.out strLaw Tryz.underlying9 hl0)
      have HRow := Lib.hid (And.intro hbase (And.intro hb (And.intro h1 (And.intro h2 h3))))
      have HNx := Lib.hid hnx
      have HRg := Lib.hid hrg
      clear hc hH hgl hrow hrg hnx hC hl0 hb h1 h2 h3 h4 hrow1 hrg0 hg0 hg1
      go_wp2_with fail
      go_at_call 54
      refine HC.out.mono ?_
      rintro e w' ⟨rfl, nn, os, hw'⟩
      have hgs : wr.grownBy w' (some g) := by rw [hw']; exact grownBy_sorted _
      have kS : Keeps (fun r => r = g) wr w' := ⟨hgs.size, fun r hr hn => hgs.block r hr (fun e => hn (by injection e)), hgs.os, hgs.output⟩
      have kW : Keeps (fun _ => False) w w' := HNx.out.trans' kS (fun r hr e => by have := HRow.out.1; omega)
      have hown' : w'.ownsRow w.heap.size 9 1 (.slice (some ⟨g, 0, none⟩) ss.length cap) ss.length ((ss.mergeSort fun x y => decide (x ≤ y)).map encStr) := by
        obtain ⟨q1, q2, q3, q4, q5⟩ := HRow.out
        rw [hw']; exact ownsRow_sorted (by simp) q1 q2 q3 q4 q5
      have hP := HA.out.parts.keeps kW (fun _ _ => id)
      have c9 : w'.cell? ⟨b, 9, none⟩ = some (.map (some L.tB)) := hP.str.cell 9
      obtain ⟨es, clock, hes, hfit, hsz, hDD⟩ := hP.map
      have HP := Lib.hid hP
      have HKW := Lib.hid kW
      have HO := Lib.hid hown'
      clear hgs kS kW hown' hP hw'
      go_wp2_with (refine wpList_clear rfl _ _ rfl 9 191 Tryz.underlying98 L.tB es clock rfl hes ?_)
      have hmt : w'.mapTurned (setBlock w' L.tB (.map #[] clock)) L.tB := ⟨es, clock, #[], clock, hes, rfl⟩
      have hkm := mapTurned_keeps hmt
      have hD : (setBlock w' L.tB (.map #[] clock)).ownsMap Tryz.prog 9 unitElem L.tB (Maps.size (.map [] : DataW Unit)) (.map []) := ownsMap_cleared (heap_setBlock_same hes _)
      have hP' := HP.out.map_turned hD hkm
      have hrow' := ownsRow_of_heap' (w' := setBlock w' L.tB (.map #[] clock)) HO.out (fun gg e => hkm.same gg (HO.out.lt gg e).2 (by obtain ⟨cs, hcs⟩ := ownsRow_blk HO.out e; exact ownsMap_ne HP.out.map hcs))
      go_ret
      refine ⟨⟨{ L with D := .map [] }, ⟨hP', HA.out.get, HA.out.due, HA.out.one, fun _ _ => rfl, fun k hk => HA.out.univ k (.inl (hk.resolve_right (by simp))), HA.out.room, HA.out.small, HA.out.clock, HA.out.keys⟩, (HKW.out.mono fun _ _ h => h.elim).trans (hkm.mono fun r _ hr => .inr (.inr (.inr (.inr (.inl hr))))), fun r hr => .inl hr⟩, g, cap, _, by simp, told_of HOwn.out HA.out.touched HPerm.out, by simpa using hrow'⟩
    · intro x c kl y w2 cnt2 hkey hlk hv hat hrg2 hlt hg2 hs2 hen
      obtain ⟨x', ex, rfl, _⟩ := Maps.keyOf_str Tryz.underlying9 hkey
      obtain rfl : x = x' := encStr_inj ex
      have hrow2 := hrow.kept hg2 (Or.inr (row_ne_iter hrow hrg).symm)
      have hnx2 : Keeps (fun _ => False) w w2 := Keeps.grown hnx hg2 (fun r h hr => by injection h with h; have := HG1.out; omega)
      clear hs2
      go_wp2_with (at_builtin; refine wpList_append_own_at _ rfl _ _ 38 rfl w.heap.size 9 i0 (.string ByteArray.empty) 1 16 Tryz.underlying38 hi hz0 hz1 hz2 rfl (by decide) _ _ _ rfl (hrow2.alloc _) ⟨w2.heap.size, 0, none⟩ 1 1 [encStr x] rfl rfl (cell_one_new _ _ _) (by simp [Value.oneCell', encStr]) (by unfold maxLen; omega) (by omega) (by have := hnx2.size; simp; omega) ?_; intro v' w3 hown' hg3 hnil3 hat3; go_frame)
      have hrg3 := (hrg2.alloc _).kept hg3 (row_ne_low hrow2 hbl) (row_ne_iter hrow2 hrg2)
      go_roundw
      case rel =>
        refine ⟨_, cnt2, ss ++ [x], hrg3, by simp; omega, by simpa using hown', fun hv' => by have := (hnil3.1 hv').2; omega, hC.step hlk hat, ?_⟩
        exact Keeps.grown (hnx2.alloc _) hg3 (fun r h hr => by have := (hrow2.lt r h).1; omega)
      case measure => rw [hrg3.left_eq, hrg.left_eq]; exact hlt
end Go.Proofs.YtgjpaecpljifpaaGreat

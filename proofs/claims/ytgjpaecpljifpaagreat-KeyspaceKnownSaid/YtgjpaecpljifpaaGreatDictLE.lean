/- The dict in memory (values: *pantry/keyspace.entry): all: its chains, one by one. -/
import Derived.Test.YtgjpaecpljifpaaGreatDictZE
import Derived.Test.YtgjpaecpljifpaaGreatRange
import Derived.OwnWalkIn
import Derived.TacticsInMore
import Derived.LoopNIn
import Derived.LoopIn
import Derived.Sort.QuietIn
import Derived.StillTail
import Derived.StillTactics
import Derived.OrdersIn
import Derived.TacticsIn
import Derived.KernelRfl
namespace Go.Proofs.YtgjpaecpljifpaaGreat.DE
open Go Go.RowKit Go.Proofs.YtgjpaecpljifpaaGreat
attribute [local go_sem] Oper.semAt_some

set_option maxHeartbeats 400000 in
theorem all_make (p : Value) (w : World) (hp : p = .pointer none ∨ ∃ a, p = .pointer (some a)) :
    Calls Tryz.prog 153 #[p] w fun e w' => e = .returned (.func (.func 256) #[] #[.pointer (some ⟨w.heap.size, 0, none⟩)]) ∧ w' = w.alloc (.cells #[p] 95) := by
  rcases hp with rfl | ⟨a, rfl⟩
  all_goals
    go_enter Tryz.func153, Tryz.ntmps153
    go_wp2
    go_ret
    exact ⟨rfl, rfl⟩

/-- What all's function reads as it goes. -/
structure AllPre (b bx : Nat) (d : DM V) (W : World) : Prop where
  dict : IsDict W b d
  box : Blk W bx #[.pointer (some ⟨b, 0, none⟩)] 95

def allNeed (b bx : Nat) (d : DM V) (r : Nat) : Prop := fp b d r ∨ r = bx

theorem AllPre.kept {b bx : Nat} {d : DM V} {W W' : World} (h : AllPre b bx d W) (k : ∀ r, allNeed b bx d r → W'.heap[r]? = W.heap[r]?) : AllPre b bx d W' :=
  ⟨h.dict.of_heap (fun r hr => k r (.inl hr)), h.box.of_heap (k bx (.inr rfl))⟩

set_option maxRecDepth 100000 in
set_option maxHeartbeats 1000000 in
theorem all_gives (b bx : Nat) (d : DM V) {cap : Nat} (hok : d.Ok (hashD d) cap) (hcap : cap ≤ 4398046511104) :
    Gives Tryz.prog 256 #[.pointer (some ⟨bx, 0, none⟩)] (fun c : List E => #[.pointer (headA c)]) (d.old.drop d.at_ ++ d.young) (allNeed b bx d) (AllPre b bx d) := by
  intro l W J hPre hJ hJ0 hR
  have hl1 := hok.oldLen
  have hl2 := hok.youngLen
  have hJW := hJ0 (fun _ => False) W (Keeps.refl _ _) (fun r h => h.elim)
  have hR' := fun (k : Nat) (x : List E) (W1 : World) (hx : (d.old.drop d.at_ ++ d.young)[k]? = some x) (hj : J (fun _ => False) k W1) (hs : W.heap.size ≤ W1.heap.size) => hR (fun _ => False) k x W1 hx hj hs (fun r h => h.elim)
  clear hR hJ0
  by_cases ho : d.old = []
  · have hy := hok.some_ ho
    have c1 := hPre.dict.c1
    have c2 := hPre.dict.c2
    have c3 := hPre.dict.c3
    have cb := hPre.box.cell 0
    rw [ho, tabVal_nil] at c1
    rw [hy, tabVal_nil] at c2
    rw [hok.idle hy] at c3
    refine callsIn_of_wp Tryz.func256 rfl trivial ?_ rfl
    simp only [Tryz.ntmps256, List.size_toArray, List.length_cons, List.length_nil, Nat.reduceAdd, Nat.reduceSub, Array.replicate_succ, Array.replicate_zero, List.push_toArray, List.append_toArray, List.nil_append, List.cons_append]
    gi_wp2_with fail
    gi_quiet (fail)
    gi_wp2_with fail
    gi_loopw [17] (fun i wr => i = .int .i64 0 ∧ W.drewN nq = wr) (fun _ _ => 0)
    case atStart => exact ⟨rfl, rfl⟩
    case round =>
      obtain ⟨rfl, rfl⟩ := hrel
      gi_wp2_with fail
      gi_loopw [31] (fun i wr => i = .int .i64 0 ∧ W.drewN nq = wr) (fun _ _ => 0)
      case atStart => exact ⟨rfl, rfl⟩
      case round =>
        obtain ⟨rfl, rfl⟩ := hrel
        gi_wp2_with fail
        go_end0
        refine ⟨⟨_, rfl⟩, fun _ => False, fun r h => h.elim, Nat.le_refl _, ?_⟩
        rw [ho, hy, List.drop_nil]
        exact hJ _ _ _ _ hJW ((Keeps.refl _ _).drewN _)
  · have hat : d.at_ < d.old.length := by
      by_cases hm : d.young = []
      · rw [hok.idle hm]; exact List.length_pos_iff.2 ho
      · exact hok.upto hm
    have c1 := hPre.dict.c1
    have c2 := hPre.dict.c2
    have c3 := hPre.dict.c3
    have cb := hPre.box.cell 0
    rw [tabVal_some ho] at c1
    have hlen : (d.old.drop d.at_).length = d.old.length - d.at_ := List.length_drop
    have HO := Lib.hid ho
    have HP := Lib.hid hPre
    have HLen := Lib.hid hlen
    have HRR := Lib.hid hR'
    clear ho hPre hlen hR'
    refine callsIn_of_wp Tryz.func256 rfl trivial ?_ rfl
    simp only [Tryz.ntmps256, List.size_toArray, List.length_cons, List.length_nil, Nat.reduceAdd, Nat.reduceSub, Array.replicate_succ, Array.replicate_zero, List.push_toArray, List.append_toArray, List.nil_append, List.cons_append]
    gi_wp2_with fail
    gi_quiet (fail)
    gi_wp2_with fail
    gi_loopw [17] (fun i wr => ∃ k : Nat, k ≤ d.old.length - d.at_ ∧ i = .int .i64 k ∧ J (fun _ => False) k wr ∧ AllPre b bx d wr ∧ W.heap.size ≤ wr.heap.size) (fun i _ => d.old.length - (intOf i).toNat)
    case atStart => exact ⟨0, Nat.zero_le _, rfl, hJ _ _ _ _ hJW ((Keeps.refl _ _).drewN _), HP.out.kept (fun _ _ => rfl), Nat.le_refl _⟩
    case round =>
      obtain ⟨k, hk, rfl, hj, hp, hs⟩ := hrel
      by_cases hlt : k < d.old.length - d.at_
      · have hxs : (d.old.drop d.at_ ++ d.young)[k]? = some (d.old.getD (d.at_ + k) []) := by
          rw [List.getElem?_append_left (by rw [HLen.out]; exact hlt), List.getElem?_drop, getD_eq (by omega)]
        have hcell := (hp.dict.old HO.out).cell (i := d.at_ + k) (by omega)
        obtain ⟨c, hc⟩ : ∃ c, d.old.getD (d.at_ + k) [] = c := ⟨_, rfl⟩
        rw [hc] at hxs hcell
        obtain ⟨fn, tmps, assign, body, hy, hR⟩ := HRR.out k c wr hxs hj hs
        have HPr := Lib.hid hp
        have HRd := Lib.hid hR
        clear hp hj hxs hc hR
        gi_wp2_with fail
        refine ⟨rfl, HRd.out.mono ?_⟩
        rintro e W3 ⟨rfl, hJ3, hs3, hk3⟩
        gi_wp2_with fail
        go_roundw
        case rel => exact ⟨k + 1, by omega, by go_num, hJ3, HPr.out.kept (fun r hr => hk3 r (.inr hr)), by omega⟩
        case measure => simp [intOf]; omega
      · obtain rfl : k = d.old.length - d.at_ := by omega
        have c2r := hp.dict.c2
        have cbr := hp.box.cell 0
        have HPr := Lib.hid hp
        have HJr := Lib.hid hj
        clear hp hj
        by_cases hy : d.young = []
        · rw [hy, tabVal_nil] at c2r
          have HY := Lib.hid hy
          clear hy
          gi_wp2_with fail
          gi_loopw [31] (fun i w2 => i = .int .i64 0 ∧ wr = w2) (fun _ _ => 0)
          case atStart => exact ⟨rfl, rfl⟩
          case round =>
            obtain ⟨rfl, rfl⟩ := hrel
            gi_wp2_with fail
            go_end0
            refine ⟨⟨_, rfl⟩, fun _ => False, fun r h => h.elim, hs, ?_⟩
            rw [HY.out, List.append_nil, HLen.out]
            exact HJr.out
        · rw [tabVal_some hy] at c2r
          have HY := Lib.hid hy
          clear hy
          gi_wp2_with fail
          gi_loopw [31] (fun i w2 => ∃ k : Nat, k ≤ d.young.length ∧ i = .int .i64 k ∧ J (fun _ => False) (d.old.length - d.at_ + k) w2 ∧ AllPre b bx d w2 ∧ W.heap.size ≤ w2.heap.size) (fun i _ => d.young.length - (intOf i).toNat)
          case atStart => exact ⟨0, Nat.zero_le _, rfl, HJr.out, HPr.out, hs⟩
          case round =>
            obtain ⟨k, hk2, rfl, hj, hp, hs2⟩ := hrel
            by_cases hlt : k < d.young.length
            · have hxs : (d.old.drop d.at_ ++ d.young)[d.old.length - d.at_ + k]? = some (d.young.getD k []) := by
                rw [List.getElem?_append_right (by rw [HLen.out]; omega), HLen.out, show d.old.length - d.at_ + k - (d.old.length - d.at_) = k by omega, getD_eq hlt]
              have hcell := (hp.dict.young HY.out).cell (i := k) hlt
              obtain ⟨c, hc⟩ : ∃ c, d.young.getD k [] = c := ⟨_, rfl⟩
              rw [hc] at hxs hcell
              obtain ⟨fn, tmps, assign, body, hy, hR⟩ := HRR.out _ c _ hxs hj hs2
              have HPr := Lib.hid hp
              have HRd := Lib.hid hR
              clear hp hj hxs hc hR
              gi_wp2_with fail
              refine ⟨rfl, HRd.out.mono ?_⟩
              rintro e W3 ⟨rfl, hJ3, hs3, hk3⟩
              gi_wp2_with fail
              go_roundw
              case rel => exact ⟨k + 1, by omega, by go_num, hJ3, HPr.out.kept (fun r hr => hk3 r (.inr hr)), by omega⟩
              case measure => simp [intOf]; omega
            · obtain rfl : k = d.young.length := by omega
              have HJ2 := Lib.hid hj
              clear hj hp
              gi_wp2_with fail
              go_end0
              refine ⟨⟨_, rfl⟩, fun _ => False, fun r h => h.elim, hs2, ?_⟩
              rw [List.length_append, HLen.out]
              exact HJ2.out
end Go.Proofs.YtgjpaecpljifpaaGreat.DE

namespace Go.Proofs.YtgjpaecpljifpaaGreat
open Go
section
variable {F : Fence} {P : Program} {ops : Array Oper} {md : Region.Mode} {w : World} {n : Nat}

theorem wpIn_cut {F : Fence} {n : Nat} {P : Program} {c : Code} {Q : Exit → Act → World → Prop} {a : Act} {w : World} (R : Act → Exit → Act → World → Prop) (fr : Act) (h : c.wpIn F n P (R fr) a w) (hk : ∀ e a' w', R fr e a' w' → Q e a' w') : c.wpIn F n P Q a w := wpIn_mono h hk

/-- No operation defers, none starts a range. -/
def plainOps (l : List Oper) : Bool := l.all fun o => match o.op with | .defer _ => false | _ => true
theorem plainOps_spec {l : List Oper} (h : plainOps l = true) {i : Nat} {o : Oper} (ho : l.toArray[i]? = some o) : ∀ c, o.op ≠ .defer c := by
  intro c hc
  have := List.all_eq_true.1 h o (List.mem_of_getElem? (by simpa using ho))
  rw [hc] at this
  cases this

theorem wpOpIn_of_stOp (hF : ∀ f, F.fn f) (hd : F.depth = none) (hpl : ∀ (i : Nat) (o : Oper), ops[i]? = some o → ∀ c, o.op ≠ Op.defer c) (hcalls : ∀ (f : FuncId) (args : Array Value) (R : Ending → World → Prop), Calls P f args w R → CallsIn F (n - 1) P f args w R)
    {i : Nat} {a : Act} {K : Act → Prop} {K' : Act → World → Prop} {Q' : Exit → Act → World → Prop} (h : ∀ a, K a → K' a w) (hh : stOp P ops w i K a) : wpOpIn F n P ops Q' i K' a w := by
  unfold stOp at hh
  unfold wpOpIn
  split
  · rename_i ho; simp only [ho] at hh; exact h _ hh
  · rename_i o ho
    simp only [ho] at hh
    split
    · rename_i hw
      simp only [hw, if_true] at hh
      unfold Oper.wpIn
      refine ⟨fun f _ => hF f, ?_⟩
      rw [Oper.semAt_eq _ _ _ (hpl i o ho)]
      unfold Oper.still at hh
      generalize (execOp a.eval o).run P w = r at *
      cases r with
      | ok x w' =>
        cases x <;> simp only [Oper.stillUpon] at hh <;> simp only [Oper.uponIn]
        case value v => obtain ⟨rfl, hh⟩ := hh; exact h _ hh
        case skip => obtain ⟨rfl, hh⟩ := hh; exact h _ hh
        case enter f args =>
          obtain ⟨rfl, v, hc, hh⟩ := hh
          refine ⟨fun h0 => (by rw [hd] at h0; cases h0), hcalls _ _ _ (hc.mono ?_)⟩
          rintro e w'' ⟨rfl, rfl⟩
          exact h _ hh
      | halt x w' => exact hh.elim
    · rename_i hw; simp only [hw] at hh; exact ⟨fun f _ => hF f, h _ hh⟩

theorem wpAnyIn_of_head (hF : ∀ f, F.fn f) (hd : F.depth = none) (hpl : ∀ (i : Nat) (o : Oper), ops[i]? = some o → ∀ c, o.op ≠ Op.defer c) (hcalls : ∀ (f : FuncId) (args : Array Value) (R : Ending → World → Prop), Calls P f args w R → CallsIn F (n - 1) P f args w R)
    {m g : Nat} {L : Array Bool → Act → Prop} {Q' : Exit → Act → World → Prop} (hL : ∀ listed a, L listed a → wpAnyIn F n P md ops Q' g listed a w) :
    ∀ (f : Nat) (listed : Array Bool) (a : Act), wpAnyL P md ops w m L f listed a → wpAnyIn F n P md ops Q' (f + g) listed a w
  | 0, listed, a, h => by rw [Nat.zero_add]; exact hL _ _ h
  | f + 1, listed, a, h => by
    rw [show f + 1 + g = (f + g) + 1 by omega]
    exact ⟨fun h0 => absurd h0 h.1, fun i hi => wpOpIn_of_stOp hF hd hpl hcalls (fun a' h' => wpAnyIn_of_head hF hd hpl hcalls hL f _ a' h') (h.2 i hi).2⟩

theorem wpAnyIn_of_seq {Q' : Exit → Act → World → Prop} : ∀ (l : List Oper) (k : Nat) (listed : Array Bool) (a : Act) (w : World), (∀ j, l[j]? = ops[k + j]?) →
    Region.seqB md ops l.length k listed = true → wpListIn F n P ops Q' l a w → wpAnyIn F n P md ops Q' l.length listed a w
  | [], _, _, _, _, _, hB, h => ⟨by simpa [Region.seqB] using hB, h⟩
  | o :: l, k, listed, a, w, hl, hB, h => by
    have h0 : ops[k]? = some o := by simpa using (hl 0).symm
    simp only [List.length_cons, Region.seqB, Bool.and_eq_true, decide_eq_true_eq] at hB
    refine ⟨fun h1 => (by rw [hB.1] at h1; cases h1), fun i hi => ?_⟩
    rw [hB.1] at hi
    have hik : i = k := by simpa using hi
    subst hik
    have hw : wpOpIn F n P ops Q' i (wpListIn F n P ops Q' l) a w := by unfold wpOpIn; simp only [h0]; exact h
    exact wpOpIn_mono (fun a' w' h' => wpAnyIn_of_seq l (i + 1) _ a' w' (fun j => by have := hl (j + 1); simpa [Nat.add_assoc, Nat.add_comm 1 j] using this) hB.2 h') hw

theorem wpIn_region_still_tail {id : Nat} {Q : Exit → Act → World → Prop} {a : Act} {l : List Oper} (m : Nat) (hF : ∀ f, F.fn f) (hd : F.depth = none) (hpl : plainOps l = true) (hm : P.follows .mixedOrders = true) (hB : Region.lexTailB .any l.toArray m = true)
    (hcalls : ∀ (f : FuncId) (args : Array Value) (R : Ending → World → Prop) (w : World), Calls P f args w R → CallsIn F (n - 1) P f args w R)
    (h : wpStill P l.toArray { w with drawn := w.drawn + 1 } (fun a' => wpListIn F n P l.toArray Q (l.drop m) a' { w with drawn := w.drawn + 1 }) (l.take m) a) : (Code.region id l.toArray true).wpIn F n P Q a w := by
  simp only [Region.lexTailB, Bool.and_eq_true, decide_eq_true_eq] at hB
  obtain ⟨⟨⟨⟨hsel, hn⟩, hs⟩, hc⟩, hlex⟩ := hB
  have hn' : m < l.length := by simpa using hn
  have htl : (l.take m).length = m := by simp; omega
  have hdl : (l.drop m).length = l.toArray.size - m := by simp
  have inv0 : HeadInv .any l.toArray m (Array.replicate l.toArray.size false) :=
    ⟨by simp, fun j oj _ hl => (by rw [getD_replicate_false] at hl; cases hl), fun t _ ht => getD_in (by simpa using ht) (getD_replicate_false _ _)⟩
  have H := wpAnyL_lex (md := .any) (g := l.toArray.size - m) hsel hs hc hn (l.take m) 0 _ a (fun j hj => by
    have hj' : j < m := by rw [htl] at hj; exact hj
    simp [hj']) (by simpa using htl) inv0 (by rw [htl]; exact hlex) h
  refine wpIn_region_any hm ?_
  have := wpAnyIn_of_head (Q' := Q) (g := l.toArray.size - m) hF hd (fun i o ho => plainOps_spec hpl ho) (fun f args R hc => hcalls f args R _ hc) (fun listed a' hL => by
    have := wpAnyIn_of_seq (md := .any) (Q' := Q) (l.drop m) m listed a' { w with drawn := w.drawn + 1 } (fun j => by simp [List.getElem?_drop]) (by rw [hdl]; exact hL.1) hL.2
    rwa [hdl] at this) _ _ _ H
  rw [htl, show m + (l.toArray.size - m) = l.toArray.size by omega] at this
  exact this
end
end Go.Proofs.YtgjpaecpljifpaaGreat

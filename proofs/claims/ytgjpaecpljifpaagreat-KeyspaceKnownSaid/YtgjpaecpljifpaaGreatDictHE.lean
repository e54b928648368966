/- The dict in memory (values: *pantry/keyspace.entry): Each: its entries, in their order. -/
import Derived.Test.YtgjpaecpljifpaaGreatDictLE
import Derived.Maps.OwnIn
import Derived.RangeFuncLeaves
import Derived.RangeFuncCalls
import Derived.Sort.LoopGhostIn
import Derived.Stop.RegionWithIn
namespace Go.Proofs.YtgjpaecpljifpaaGreat.DE
open Go Go.RowKit Go.Proofs.YtgjpaecpljifpaaGreat
attribute [local go_sem] Oper.semAt_some

set_option maxHeartbeats 400000 in
theorem each_make (p : Value) (w : World) (hp : ∃ a, p = .pointer (some a)) :
    Calls Tryz.prog 74 #[p] w fun e w' => e = .returned (.func (.func 152) #[] #[.pointer (some ⟨w.heap.size, 0, none⟩)]) ∧ w' = w.alloc (.cells #[p] 95) := by
  obtain ⟨a, rfl⟩ := hp
  go_enter Tryz.func74, Tryz.ntmps74
  go_wp2
  go_ret
  exact ⟨rfl, rfl⟩

theorem infoV : (Tryz.prog.info? 97).map (fun i => (i.zero, i.size, i.bytes)) = some (some (.pointer none), 1, 8) := by kernel_rfl
theorem infoS : (Tryz.prog.info? 9).map (fun i => (i.zero, i.size, i.bytes)) = some (some (.string ByteArray.empty), 1, 16) := by kernel_rfl

theorem ownsRow_of_heap {w w' : World} {base e size : Nat} {v : Value} {n : Nat} {xs : List Value} (h : w.ownsRow base e size v n xs) (hk : ∀ g, v.ownBlock = some g → w'.heap[g]? = w.heap[g]?) : w'.ownsRow base e size v n xs := by
  refine ⟨h.1, ?_⟩
  rcases h.2 with hn | ⟨g, cap, cur, rfl, hb, hgg, rest⟩
  · exact .inl hn
  · exact .inr ⟨g, cap, cur, rfl, hb, (hk g rfl).trans hgg, rest⟩

theorem ownsRow_slice {w : World} {base e size : Nat} {v : Value} {n : Nat} {xs : List Value} (h : w.ownsRow base e size v n xs) : ∃ a m c, v = .slice a m c := by
  rcases h.2 with ⟨rfl, _⟩ | ⟨g, cap, cur, rfl, _⟩
  · exact ⟨_, _, _, rfl⟩
  · exact ⟨_, _, _, rfl⟩

def keyVals (l : List E) : List Value := l.map fun e => .string e.key
def valVals (l : List E) : List Value := l.map fun e => encV e.val

/-- The two slices that Each gathers. -/
structure Pair (prot : Nat → Prop) (W : World) (base kb vb : Nat) (v1 v2 : Value) (ks vs : List Value) : Prop where
  k : Blk W kb #[v1] 38
  v : Blk W vb #[v2] 239
  ok : W.ownsRow base 9 1 v1 ks.length ks
  ov : W.ownsRow base 97 1 v2 vs.length vs
  ne : ∀ g, v1.ownBlock = some g → ¬ prot g ∧ v2.ownBlock ≠ some g ∧ g ≠ kb ∧ g ≠ vb
  nv : ∀ g, v2.ownBlock = some g → ¬ prot g ∧ g ≠ kb ∧ g ≠ vb

theorem Pair.kept {prot : Nat → Prop} {A B : World} {base kb vb : Nat} {v1 v2 : Value} {ks vs : List Value} (h : Pair prot A base kb vb v1 v2 ks vs)
    (hk : B.heap[kb]? = A.heap[kb]?) (hv : B.heap[vb]? = A.heap[vb]?) (h1 : ∀ g, v1.ownBlock = some g → B.heap[g]? = A.heap[g]?) (h2 : ∀ g, v2.ownBlock = some g → B.heap[g]? = A.heap[g]?) : Pair prot B base kb vb v1 v2 ks vs :=
  ⟨h.k.of_heap hk, h.v.of_heap hv, ownsRow_of_heap h.ok h1, ownsRow_of_heap h.ov h2, h.ne, h.nv⟩

theorem Pair.pushK {prot : Nat → Prop} {wr w0 w1 : World} {base kb vb : Nat} {v1 v2 v1' x : Value} {ks vs : List Value} (h : Pair prot wr base kb vb v1 v2 ks vs) {o : Obj} {m : Nat} (h0 : (wr.drewN m).alloc o = w0)
    (hown : w1.ownsRow base 9 1 v1' (ks.length + 1) (ks ++ [x])) (hg : w0.grownBy w1 v1.ownBlock) (hat : v1'.ownBlock = v1.ownBlock ∨ v1'.ownBlock = some w0.heap.size) (hpr : ∀ r, prot r → r < wr.heap.size) (hkv : kb ≠ vb) :
    Pair prot (w1.setCell ⟨kb, 0, none⟩ v1') base kb vb v1' v2 (ks ++ [x]) vs ∧ Keeps (fun r => r = kb ∨ v1.ownBlock = some r) wr (w1.setCell ⟨kb, 0, none⟩ v1') := by
  have hs0 : w0.heap.size = wr.heap.size + 1 := by rw [← h0]; simp
  have hkbl := h.k.lt
  have hvbl := h.v.lt
  have k1 : Keeps (fun r => v1.ownBlock = some r) wr w1 := (Keeps.grown (by rw [← h0]; exact ((Keeps.refl _ wr).drewN m).alloc o) hg (fun k hk _ => hk))
  have b1 : Blk w1 kb #[v1] 38 := k1.blk h.k (fun e => (h.ne _ e).2.2.1 rfl)
  have k2 : Keeps (fun r => r = kb ∨ v1.ownBlock = some r) wr (w1.setCell ⟨kb, 0, none⟩ v1') := (k1.mono (fun _ _ e => .inr e)).set _ (fun _ => .inl rfl)
  have hsame : ∀ r, r < w1.heap.size → r ≠ kb → (w1.setCell ⟨kb, 0, none⟩ v1').heap[r]? = w1.heap[r]? := fun r hr hn => ((Keeps.refl (fun r => r = kb) w1).set _ (fun _ => rfl)).same r hr hn
  refine ⟨⟨b1.set 0 v1', k2.blk h.v ?_, ?_, ?_, ?_, h.nv⟩, k2⟩
  · rintro (e | e)
    · exact hkv e.symm
    · exact (h.ne _ e).2.2.2 rfl
  · have : w1.ownsRow base 9 1 v1' (ks ++ [x]).length (ks ++ [x]) := by simpa using hown
    refine ownsRow_of_heap this fun g e => hsame g (this.lt g e).2 ?_
    rintro rfl
    rcases hat with a | a
    · rw [a] at e; exact (h.ne _ e).2.2.1 rfl
    · rw [a] at e; injection e with e; omega
  · refine ownsRow_of_heap h.ov fun g e => k2.same g (h.ov.lt g e).2 ?_
    rintro (e' | e')
    · exact (h.nv _ e).2.1 e'
    · exact (h.ne _ e').2.1 e
  · intro g e
    rcases hat with a | a
    · rw [a] at e; exact h.ne g e
    · rw [a] at e
      injection e with e
      refine ⟨fun hp => by have := hpr _ hp; omega, fun e' => by have := (h.ov.lt _ e').2; omega, by omega, by omega⟩

theorem Pair.pushV {prot : Nat → Prop} {wr w0 w1 : World} {base kb vb : Nat} {v1 v2 v2' x : Value} {ks vs : List Value} (h : Pair prot wr base kb vb v1 v2 ks vs) {o : Obj} {m : Nat} (h0 : (wr.drewN m).alloc o = w0)
    (hown : w1.ownsRow base 97 1 v2' (vs.length + 1) (vs ++ [x])) (hg : w0.grownBy w1 v2.ownBlock) (hat : v2'.ownBlock = v2.ownBlock ∨ v2'.ownBlock = some w0.heap.size) (hpr : ∀ r, prot r → r < wr.heap.size) (hkv : kb ≠ vb) :
    Pair prot (w1.setCell ⟨vb, 0, none⟩ v2') base kb vb v1 v2' ks (vs ++ [x]) ∧ Keeps (fun r => r = vb ∨ v2.ownBlock = some r) wr (w1.setCell ⟨vb, 0, none⟩ v2') := by
  have hs0 : w0.heap.size = wr.heap.size + 1 := by rw [← h0]; simp
  have hkbl := h.k.lt
  have hvbl := h.v.lt
  have k1 : Keeps (fun r => v2.ownBlock = some r) wr w1 := (Keeps.grown (by rw [← h0]; exact ((Keeps.refl _ wr).drewN m).alloc o) hg (fun k hk _ => hk))
  have b1 : Blk w1 vb #[v2] 239 := k1.blk h.v (fun e => (h.nv _ e).2.2 rfl)
  have k2 : Keeps (fun r => r = vb ∨ v2.ownBlock = some r) wr (w1.setCell ⟨vb, 0, none⟩ v2') := (k1.mono (fun _ _ e => .inr e)).set _ (fun _ => .inl rfl)
  have hsame : ∀ r, r < w1.heap.size → r ≠ vb → (w1.setCell ⟨vb, 0, none⟩ v2').heap[r]? = w1.heap[r]? := fun r hr hn => ((Keeps.refl (fun r => r = vb) w1).set _ (fun _ => rfl)).same r hr hn
  refine ⟨⟨k2.blk h.k ?_, b1.set 0 v2', ?_, ?_, ?_, ?_⟩, k2⟩
  · rintro (e | e)
    · exact hkv e
    · exact (h.nv _ e).2.1 rfl
  · refine ownsRow_of_heap h.ok fun g e => k2.same g (h.ok.lt g e).2 ?_
    rintro (e' | e')
    · exact (h.ne _ e).2.2.2 e'
    · exact (h.ne _ e).2.1 e'
  · have : w1.ownsRow base 97 1 v2' (vs ++ [x]).length (vs ++ [x]) := by simpa using hown
    refine ownsRow_of_heap this fun g e => hsame g (this.lt g e).2 ?_
    rintro rfl
    rcases hat with a | a
    · rw [a] at e; exact (h.nv _ e).2.2 rfl
    · rw [a] at e; injection e with e; omega
  · intro g e
    refine ⟨(h.ne g e).1, ?_, (h.ne g e).2.2⟩
    rcases hat with a | a
    · rw [a]; exact (h.ne g e).2.1
    · rw [a]; intro e'; injection e' with e'; have := (h.ok.lt g e).2; omega
  · intro g e
    rcases hat with a | a
    · rw [a] at e; exact h.nv g e
    · rw [a] at e
      injection e with e
      exact ⟨fun hp => by have := hpr _ hp; omega, by omega, by omega⟩

/-- append, behind a name: so the walk meets it whole. -/
def appN (ats : Array TypeId) (ty : TypeId) (args : Array Value) : Sem Value := Builtin.append_ ats ty args
theorem appN_eq (ats : Array TypeId) (ty : TypeId) (args : Array Value) : Builtin.append_ ats ty args = appN ats ty args := rfl
attribute [local go_sem ↓] appN_eq

structure EachPre (b bx : Nat) (d : DM V) (W : World) : Prop where
  dict : IsDict W b d
  box : Blk W bx #[.pointer (some ⟨b, 0, none⟩)] 95

/-- The entries of the first k chains. -/
def upTo (cs : List (List E)) (k : Nat) : List E := (cs.take k).flatten
theorem upTo_succ {cs : List (List E)} {k : Nat} {c : List E} (h : cs[k]? = some c) : upTo cs (k + 1) = upTo cs k ++ c := by
  unfold upTo; rw [List.take_add_one, h]; simp

theorem upTo_le {d : DM V} {hash : ByteArray → Nat} {cap : Nat} (h : d.Ok hash cap) (k : Nat) : (upTo (d.old.drop d.at_ ++ d.young) k).length ≤ d.n := by
  have h2 : d.all = (d.old.drop d.at_ ++ d.young).flatten := by simp [DM.all, Go.Proofs.YtgjpaecpljifpaaGreat.ents]
  have h3 : d.all.length = d.n := by rw [all_ents h, h.count]; simp [DM.ents]
  rw [← h3, h2]
  unfold upTo
  have h4 := congrArg (fun l : List (List E) => l.flatten.length) (List.take_append_drop k (d.old.drop d.at_ ++ d.young))
  simp only [List.flatten_append, List.length_append] at h4 ⊢
  omega

theorem upTo_all {d : DM V} {hash : ByteArray → Nat} {cap : Nat} (h : d.Ok hash cap) : upTo (d.old.drop d.at_ ++ d.young) (d.old.drop d.at_ ++ d.young).length = d.ents := by
  unfold upTo
  rw [List.take_length, ← all_ents h]
  simp [DM.all, Go.Proofs.YtgjpaecpljifpaaGreat.ents]

theorem ownsRow_some {w : World} {base e : Nat} {v : Value} {n : Nat} {xs : List Value} (h : w.ownsRow base e 1 v n xs) (hn : n ≠ 0) : ∃ g c, v = .slice (some ⟨g, 0, none⟩) n c ∧ ∀ (j : Nat) (u : Value), xs[j]? = some u → w.cell? ⟨g, j, none⟩ = some u := by
  rcases h.2 with ⟨_, h0⟩ | ⟨g, cap, cur, rfl, hr⟩
  · exact absurd h0 hn
  · refine ⟨g, cap, rfl, fun j u hj => ?_⟩
    have := h.cells (g := g) rfl j u hj
    rw [show (⟨g, 0, none⟩ : Addr).add j = ⟨g, j, none⟩ by unfold Addr.add; split <;> simp_all] at this
    exact this
theorem ownsRow_zero {w : World} {base e : Nat} {v : Value} {xs : List Value} (h : w.ownsRow base e 1 v 0 xs) : ∃ a c, v = .slice a 0 c := by
  rcases h.2 with ⟨rfl, _⟩ | ⟨g, cap, cur, rfl, _⟩
  · exact ⟨_, _, rfl⟩
  · exact ⟨_, _, rfl⟩

structure EachJ (W0 W : World) (base kb vb bx : Nat) (es : List E) (prot : Nat → Prop) (wr : World) : Prop where
  keeps : Keeps (fun _ => False) W0 wr
  pair : ∃ v1 v2, Pair (fun r => prot r ∨ r = bx) wr base kb vb v1 v2 (keyVals es) (valVals es)
  size : W.heap.size ≤ wr.heap.size
  same : ∀ r, prot r ∨ r = bx → wr.heap[r]? = W.heap[r]?

structure EachI (W0 w : World) (base kb vb bx : Nat) (cs : List (List E)) (prot : Nat → Prop) (k : Nat) (W : World) : Prop where
  keeps : Keeps (fun _ => False) W0 W
  pair : ∃ v1 v2, Pair (fun r => prot r ∨ r = bx) W base kb vb v1 v2 (keyVals (upTo cs k)) (valVals (upTo cs k))
  far : ∀ r, prot r → w.heap.size ≤ r
  size : w.heap.size ≤ W.heap.size

theorem EachI.kept {W0 w : World} {base kb vb bx : Nat} {cs : List (List E)} {prot : Nat → Prop} {k : Nat} {A B : World} (h : EachI W0 w base kb vb bx cs prot k A) (hk : kb < w.heap.size) (hv : vb < w.heap.size) (h0 : W0.heap.size ≤ w.heap.size) (hAB : Keeps prot A B) :
    EachI W0 w base kb vb bx cs prot k B := by
  obtain ⟨v1, v2, hp⟩ := h.pair
  refine ⟨h.keeps.trans' hAB (fun r hr hp => by have := h.far r hp; omega), ⟨v1, v2, hp.kept (hAB.same _ hp.k.lt fun e => ?_) (hAB.same _ hp.v.lt fun e => ?_) (fun g e => hAB.same g (hp.ok.lt g e).2 fun e' => (hp.ne g e).1 (.inl e')) (fun g e => hAB.same g (hp.ov.lt g e).2 fun e' => (hp.nv g e).1 (.inl e'))⟩, h.far, Nat.le_trans h.size hAB.size⟩
  · have := h.far _ e; omega
  · have := h.far _ e; omega

theorem IsDict.chain_at {w : World} {b : Nat} {d : DM V} (h : IsDict w b d) {k : Nat} {c : List E} (hx : (d.old.drop d.at_ ++ d.young)[k]? = some c) : Chain w c := by
  have hm := List.mem_of_getElem? hx
  rcases List.mem_append.1 hm with hm | hm
  · have hm := List.mem_of_mem_drop hm
    exact (h.old (fun e => by rw [e] at hm; cases hm)).chains c hm
  · exact (h.young (fun e => by rw [e] at hm; cases hm)).chains c hm

set_option maxRecDepth 100000 in
set_option maxHeartbeats 2000000 in
theorem each_gives (b bx : Nat) (d : DM V) {cap : Nat} (hok : d.Ok (hashD d) cap) (hcap : cap ≤ 4398046511104) :
    Gives Tryz.prog 152 #[.pointer (some ⟨bx, 0, none⟩)] (fun e : E => #[.string e.key, encV e.val]) d.ents (fun _ => False) (EachPre b bx d) := by
  intro l W0 J hPre hJ hJ0 hR
  have cb : W0.cell? ⟨bx, 0, none⟩ = some (.pointer (some ⟨b, 0, none⟩)) := hPre.box.cell 0
  have cb2 : ∀ o o', ((W0.alloc o).alloc o').cell? ⟨bx, 0, none⟩ = some (.pointer (some ⟨b, 0, none⟩)) := fun o o' => ((hPre.box.alloc o).alloc o').cell 0
  have HP := Lib.hid hPre
  clear hPre
  refine callsIn_of_wp_marks Tryz.func152 rfl trivial ?_ rfl
  simp only [Tryz.ntmps152, List.size_toArray, List.length_cons, List.length_nil, Nat.reduceAdd, Nat.reduceSub, Array.replicate_succ, Array.replicate_zero, List.push_toArray, List.append_toArray, List.nil_append, List.cons_append]
  gi_wp2_with (refine ⟨trivial, rfl, ?_⟩; gi_at_call 153; refine (callsIn_wide.2 (all_make _ _ (.inr ⟨_, rfl⟩))).mono ?_; rintro e w' ⟨rfl, rfl⟩)
  obtain ⟨w, hw⟩ : ∃ w, ((W0.alloc (.cells #[.slice none 0 0] 38)).alloc (.cells #[.slice none 0 0] 239)).alloc (.cells #[.pointer (some ⟨b, 0, none⟩)] 95) = w := ⟨_, rfl⟩
  have hk0 : Keeps (fun _ => False) W0 w := by rw [← hw]; exact (((Keeps.refl _ W0).alloc _).alloc _).alloc _
  have hws : w.heap.size = W0.heap.size + 3 := by rw [← hw]; simp
  have hD : IsDict w b d := by rw [← hw]; exact ((HP.out.dict.alloc _).alloc _).alloc _
  have hbx : Blk w (W0.heap.size + 2) #[.pointer (some ⟨b, 0, none⟩)] 95 := by
    rw [← hw]; have := Blk.new ((W0.alloc (.cells #[.slice none 0 0] 38)).alloc (.cells #[.slice none 0 0] 239)) #[.pointer (some ⟨b, 0, none⟩)] 95
    simpa using this
  have hkb : Blk w W0.heap.size #[.slice none 0 0] 38 := by rw [← hw]; exact ((Blk.new W0 _ _).alloc _).alloc _
  have hvb : Blk w (W0.heap.size + 1) #[.slice none 0 0] 239 := by
    rw [← hw]; have := (Blk.new (W0.alloc (.cells #[.slice none 0 0] 38)) #[.slice none 0 0] 239).alloc (.cells #[.pointer (some ⟨b, 0, none⟩)] 95)
    simpa using this
  have HD := Lib.hid hD
  have hlE : ∀ k, (upTo (d.old.drop d.at_ ++ d.young) k).length ≤ cap := fun k => Nat.le_trans (upTo_le hok k) hok.capped
  have HLE := Lib.hid hlE
  have hLEn := Lib.hid (show d.ents.length ≤ cap by have := hlE (d.old.drop d.at_ ++ d.young).length; rwa [upTo_all hok] at this)
  clear hD hlE
  simp only [hw]
  refine wp_range (w := w) rfl (fun _ _ => rfl) (all_gives b (W0.heap.size + 2) d hok hcap) ?need ?pre (fun _ => rfl) (EachI W0 w W0.heap.size W0.heap.size (W0.heap.size + 1) (W0.heap.size + 2) (d.old.drop d.at_ ++ d.young)) ?hI ?h0 ?a1 ?assign ?body ?done
  case assign =>
    intro l c W K hK
    gi_wp2_with fail
    exact hK
  case need =>
    rintro r (hr | rfl)
    · exact HD.out.fp_lt hr
    · omega
  case pre => exact fun W' hk => ⟨HD.out.of_heap fun r hr => hk.same r (HD.out.fp_lt hr) id, hk.blk hbx id⟩
  case hI => exact fun prot k A B h hAB => h.kept (by omega) (by omega) (by omega) hAB
  case h0 =>
    refine fun prot W' hfar hk => ⟨hk0.trans hk, ⟨_, _, hk.blk hkb id, hk.blk hvb id, World.ownsRow_nil _ _ _ _, World.ownsRow_nil _ _ _ _, fun g e => (by cases e), fun g e => (by cases e)⟩, hfar, hk.size⟩
  case body =>
    intro l' prot k c W hx hI hpb
    obtain ⟨hkeep, ⟨v1, v2, hp⟩, hfar, hsz⟩ := hI
    have hlen : (upTo (d.old.drop d.at_ ++ d.young) (k + 1)).length ≤ cap := HLE.out _
    rw [upTo_succ hx] at hlen
    have HX := Lib.hid hx
    have HF := Lib.hid hfar
    have HB := Lib.hid hpb
    have HLen := Lib.hid hlen
    have h0 : EachJ W0 W W0.heap.size W0.heap.size (W0.heap.size + 1) (W0.heap.size + 2) (upTo (d.old.drop d.at_ ++ d.young) k ++ []) prot W := by
      rw [List.append_nil]; exact ⟨hkeep, ⟨v1, v2, hp⟩, Nat.le_refl _, fun _ _ => rfl⟩
    have H0 := Lib.hid h0
    clear hx hfar hpb hkeep hp hlen h0
    obtain ⟨hc, hhc⟩ : ∃ hc, headA c = hc := ⟨_, rfl⟩
    rw [hhc]
    have HHC := Lib.hid hhc
    clear hhc
    gi_wp2_with fail
    gi_loopg [5] c.length (fun k' p wr => ∃ pre rest, Hid (c = pre ++ rest ∧ rest.length = k' ∧ EachJ W0 W W0.heap.size W0.heap.size (W0.heap.size + 1) (W0.heap.size + 2) (upTo (d.old.drop d.at_ ++ d.young) k ++ pre) prot wr) ∧ p = .pointer (headA rest))
    case atStart => exact ⟨[], c, ⟨rfl, rfl, H0.out⟩, by rw [HHC.out]⟩
    case round =>
      obtain ⟨pre, rest, H, rfl⟩ := hrel
      obtain ⟨h1, h2, h3⟩ := H.out
      cases rest with
      | nil =>
        clear h1 h2 h3
        gi_wp2_with fail
        obtain ⟨h1, h2, h3⟩ := H.out
        rw [List.append_nil] at h1
        subst h1
        refine ⟨⟨h3.keeps, by rw [upTo_succ HX.out]; exact h3.pair, HF.out, Nat.le_trans hsz h3.size⟩, h3.size, ?_⟩
        rintro r (hr | hr | rfl)
        · exact h3.same r (.inl hr)
        · have hlt := HP.out.dict.fp_lt hr
          exact (h3.keeps.same r hlt id).trans (H0.out.keeps.same r hlt id).symm
        · exact h3.same _ (.inr rfl)
      | cons e rest =>
        have hch := HP.out.dict.chain_at HX.out
        rw [h1] at hch
        have hb0 := (Chain.suffix (p := pre) hch).1
        have hb := h3.keeps.blk hb0 id
        have hkey : wr.cell? ⟨e.blk, 0, none⟩ = some (.string e.key) := hb.cell 0
        obtain ⟨v1, v2, hp⟩ := h3.pair
        have hck : wr.cell? ⟨W0.heap.size, 0, none⟩ = some v1 := hp.k.cell 0
        have hlk : (upTo (d.old.drop d.at_ ++ d.young) k ++ pre).length + 1 ≤ 4398046511104 := by
          have h5 := HLen.out; rw [h1] at h5; simp only [List.length_append, List.length_cons] at h5 ⊢; omega
        have hpr : ∀ r, prot r ∨ r = W0.heap.size + 2 → r < wr.heap.size := by
          have := h3.size
          rintro r (hr | rfl)
          · have := HB.out r hr; omega
          · omega
        have HB0 := Lib.hid hb0
        have HPp := Lib.hid hp
        have H3 := Lib.hid h3
        have HLk := Lib.hid hlk
        have HPr := Lib.hid hpr
        have HC := Lib.hid h1
        have HR := Lib.hid h2
        clear h1 h2 h3 hch hb0 hb hp hlk hpr
        gi_wp2_with fail
        obtain ⟨i0, hi, hz0, hz1, hz2⟩ := info_parts infoS
        obtain ⟨wk, hwk⟩ : ∃ wk, wr.drew.alloc (.cells #[.string e.key] 9) = wk := ⟨_, rfl⟩
        have hgk : W0.heap.size ≤ wk.heap.size := by rw [← hwk]; have := H3.out.keeps.size; simp; omega
        have howk : wk.ownsRow W0.heap.size 9 1 v1 (keyVals (upTo (d.old.drop d.at_ ++ d.young) k ++ pre)).length (keyVals (upTo (d.old.drop d.at_ ++ d.young) k ++ pre)) := by
          rw [← hwk]; exact (ownsRow_of_heap (w' := wr.drew) HPp.out.ok (fun _ _ => rfl)).alloc _
        have hlk1 : (keyVals (upTo (d.old.drop d.at_ ++ d.young) k ++ pre)).length + 1 ≤ 4398046511104 := by unfold keyVals; rw [List.length_map]; exact HLk.out
        obtain ⟨v1', w1, hrun, hown, hgrow, hnil, hat⟩ := run_append_own_at (P := Tryz.prog) wk W0.heap.size 38 38 9 i0 (.string ByteArray.empty) 1 16 Tryz.underlying38 hi hz0 hz1 hz2 rfl (by decide) v1 _ _ howk ⟨wr.heap.size, 0, none⟩ 1 1 [.string e.key] rfl
          (by rw [← hwk]; exact cell_one_new _ _ _) (by simp [Value.oneCell']) (by unfold maxLen; omega) (by omega) hgk
        obtain ⟨ak, mk, ck, rfl⟩ := ownsRow_slice hown
        have hrun' : (appN #[38, 38] 38 #[v1, .slice (some ⟨wr.heap.size, 0, none⟩) 1 1]).run Tryz.prog wk = .ok (.slice ak mk ck) w1 := hrun
        have kk : Keeps (fun r => v1.ownBlock = some r) wr w1 := (Keeps.grown (by rw [← hwk]; exact (((Keeps.refl _ wr).drew).alloc _)) hgrow (fun k hk _ => hk))
        have bk1 : Blk w1 W0.heap.size #[v1] 38 := kk.blk HPp.out.k (fun e => (HPp.out.ne _ e).2.2.1 rfl)
        have hc1 : w1.cell? ⟨W0.heap.size, 0, none⟩ = some v1 := bk1.cell 0
        have hf1 : w1.frozen? ⟨W0.heap.size, 0, none⟩ = false := bk1.frozen 0
        have hcw : wk.cell? ⟨W0.heap.size, 0, none⟩ = some v1 := by rw [← hwk]; exact (HPp.out.k.drew.alloc _).cell 0
        have HK1 := Lib.hid (Pair.pushK HPp.out (m := 1) hwk hown hgrow hat HPr.out (Nat.ne_of_lt (Nat.lt_succ_self _)))
        clear hrun hown hgrow hnil hat howk hlk1 kk bk1 hgk
        simp only [headA]
        apply wpIn_cut (fun fr x a' w' => x = .normal ∧ a' = fr ∧ w1.setCell ⟨W0.heap.size, 0, none⟩ (.slice ak mk ck) = w')
        case h =>
          gi_region_with fail
          all_goals exact ⟨rfl, rfl, rfl⟩
        case hk =>
          rintro x a' wa ⟨rfl, rfl, hwa⟩
          obtain ⟨hp2, hk2⟩ := HK1.out
          rw [hwa] at hp2 hk2
          have hk0a : Keeps (fun _ => False) W0 wa := H3.out.keeps.trans' hk2 (fun r hr e => by
            rcases e with e | e
            · omega
            · have := (HPp.out.ok.lt r e).1; omega)
          have hval : wa.cell? ⟨e.blk, 1, none⟩ = some (.pointer (some ⟨e.val, 0, none⟩)) := (hk0a.blk HB0.out id).cell 1
          have hckv : wa.cell? ⟨W0.heap.size + 1, 0, none⟩ = some v2 := hp2.v.cell 0
          have hprA : ∀ r, prot r ∨ r = W0.heap.size + 2 → r < wa.heap.size := fun r hr => Nat.lt_of_lt_of_le (HPr.out r hr) hk2.size
          clear hc1 hf1 hcw hrun' hwk hkey hck HK1 hwa hi hz0 hz1 hz2
          have HP2 := Lib.hid hp2
          have HK2 := Lib.hid hk2
          have HK0A := Lib.hid hk0a
          have HPrA := Lib.hid hprA
          clear hp2 hk2 hk0a hprA
          gi_wp2_with fail
          obtain ⟨i1, hj, hy0, hy1, hy2⟩ := info_parts infoV
          obtain ⟨wv, hwv⟩ : ∃ wv, wa.drew.alloc (.cells #[.pointer (some ⟨e.val, 0, none⟩)] 97) = wv := ⟨_, rfl⟩
          have hgv : W0.heap.size ≤ wv.heap.size := by rw [← hwv]; have := HK0A.out.size; simp; omega
          have howv : wv.ownsRow W0.heap.size 97 1 v2 (valVals (upTo (d.old.drop d.at_ ++ d.young) k ++ pre)).length (valVals (upTo (d.old.drop d.at_ ++ d.young) k ++ pre)) := by
            rw [← hwv]; exact (ownsRow_of_heap (w' := wa.drew) HP2.out.ov (fun _ _ => rfl)).alloc _
          have hlv1 : (valVals (upTo (d.old.drop d.at_ ++ d.young) k ++ pre)).length + 1 ≤ 4398046511104 := by unfold valVals; rw [List.length_map]; exact HLk.out
          obtain ⟨v2', w2, hrun, hown, hgrow, hnil, hat⟩ := run_append_own_at (P := Tryz.prog) wv W0.heap.size 239 239 97 i1 (.pointer none) 1 8 Tryz.underlying239 hj hy0 hy1 hy2 rfl (by decide) v2 _ _ howv ⟨wa.heap.size, 0, none⟩ 1 1 [.pointer (some ⟨e.val, 0, none⟩)] rfl
            (by rw [← hwv]; exact cell_one_new _ _ _) (by simp [Value.oneCell']) (by unfold maxLen; omega) (by omega) hgv
          obtain ⟨av, mv, cv, rfl⟩ := ownsRow_slice hown
          have hrun' : (appN #[239, 239] 239 #[v2, .slice (some ⟨wa.heap.size, 0, none⟩) 1 1]).run Tryz.prog wv = .ok (.slice av mv cv) w2 := hrun
          have kk : Keeps (fun r => v2.ownBlock = some r) wa w2 := (Keeps.grown (by rw [← hwv]; exact (((Keeps.refl _ wa).drew).alloc _)) hgrow (fun k hk _ => hk))
          have bk1 : Blk w2 (W0.heap.size + 1) #[v2] 239 := kk.blk HP2.out.v (fun e => (HP2.out.nv _ e).2.2 rfl)
          have hc1 : w2.cell? ⟨W0.heap.size + 1, 0, none⟩ = some v2 := bk1.cell 0
          have hf1 : w2.frozen? ⟨W0.heap.size + 1, 0, none⟩ = false := bk1.frozen 0
          have hcw : wv.cell? ⟨W0.heap.size + 1, 0, none⟩ = some v2 := by rw [← hwv]; exact (HP2.out.v.drew.alloc _).cell 0
          have HK1 := Lib.hid (Pair.pushV HP2.out (m := 1) hwv hown hgrow hat HPrA.out (Nat.ne_of_lt (Nat.lt_succ_self _)))
          clear hrun hown hgrow hnil hat howv hlv1 kk bk1 hgv
          apply wpIn_cut (fun fr x a' w' => x = .normal ∧ a' = fr ∧ w2.setCell ⟨W0.heap.size + 1, 0, none⟩ (.slice av mv cv) = w')
          case h =>
            gi_region_with fail
            all_goals exact ⟨rfl, rfl, rfl⟩
          case hk =>
            rintro x a' wb ⟨rfl, rfl, hwb⟩
            obtain ⟨hp3, hk3⟩ := HK1.out
            rw [hwb] at hp3 hk3
            have hk0b : Keeps (fun _ => False) W0 wb := HK0A.out.trans' hk3 (fun r hr e => by
              rcases e with e | e
              · omega
              · have := (HP2.out.ov.lt r e).1; omega)
            have hnx : wb.cell? ⟨e.blk, 2, none⟩ = some (.pointer (headA rest)) := (hk0b.blk HB0.out id).cell 2
            clear hc1 hf1 hcw hrun' hwv hval hckv HK1 hwb hj hy0 hy1 hy2
            have HP3 := Lib.hid hp3
            have HK3 := Lib.hid hk3
            have HK0B := Lib.hid hk0b
            clear hp3 hk3 hk0b
            obtain ⟨hr, hhr⟩ : ∃ hr, headA rest = hr := ⟨_, rfl⟩
            rw [hhr] at hnx
            have HHR := Lib.hid hhr
            clear hhr
            gi_wp2_with fail
            gi_roundg rest.length
            case measure => have := HR.out; simp at this; omega
            case rel =>
              refine ⟨pre ++ [e], rest, ⟨by rw [HC.out]; simp, rfl, HK0B.out, ⟨.slice ak mk ck, .slice av mv cv, ?_⟩, ?_, ?_⟩, by rw [HHR.out]⟩
              · have := HP3.out
                rw [← List.append_assoc]
                simpa [keyVals, valVals, encV] using this
              · exact Nat.le_trans H3.out.size (Nat.le_trans HK2.out.size HK3.out.size)
              · intro r hr'
                have hlt := HPr.out r hr'
                refine (HK3.out.same r (Nat.lt_of_lt_of_le hlt HK2.out.size) ?_).trans ((HK2.out.same r hlt ?_).trans (H3.out.same r hr'))
                · rintro (e' | e')
                  · rcases hr' with hr' | hr'
                    · have := HF.out r hr'; omega
                    · omega
                  · exact (HP2.out.nv _ e').1 hr'
                · rintro (e' | e')
                  · rcases hr' with hr' | hr'
                    · have := HF.out r hr'; omega
                    · omega
                  · exact (HPp.out.ne _ e').1 hr'
  case done =>
    intro prot D W hpb hDp hI hDd
    obtain ⟨hkeep, ⟨v1, v2, hp⟩, hfar, hsz⟩ := hI
    rw [upTo_all hok] at hp
    obtain ⟨pA, hpA⟩ : ∃ pA : Nat → Prop, pA = fun r => prot r ∨ r = W0.heap.size ∨ r = W0.heap.size + 1 ∨ v1.ownBlock = some r ∨ v2.ownBlock = some r := ⟨_, rfl⟩
    have hA : ∀ r, pA r → W0.heap.size ≤ r ∧ r < W.heap.size := by
      intro r hr
      rw [hpA] at hr
      rcases hr with hr | rfl | rfl | hr | hr
      · have := hpb r hr; omega
      · omega
      · omega
      · exact hp.ok.lt r hr
      · exact hp.ov.lt r hr
    have hJs := hJ0 pA W hkeep hA
    have hDA : pA D := by rw [hpA]; exact .inl hDp
    have hKA : pA W0.heap.size := by rw [hpA]; exact .inr (.inl rfl)
    have hVA : pA (W0.heap.size + 1) := by rw [hpA]; exact .inr (.inr (.inl rfl))
    have h1A : ∀ g, v1.ownBlock = some g → pA g := fun g e => by rw [hpA]; exact .inr (.inr (.inr (.inl e)))
    have h2A : ∀ g, v2.ownBlock = some g → pA g := fun g e => by rw [hpA]; exact .inr (.inr (.inr (.inr e)))
    have hn : d.ents.length ≤ 4398046511104 := by have := hLEn.out; omega
    have hck := hp.k.cell 0
    have hend : ∀ (k : Nat) (wr : World), J pA k wr → k = d.ents.length → W.heap.size ≤ wr.heap.size → (∀ r, pA r → wr.heap[r]? = W.heap[r]?) →
        ∃ prot, (∀ r, prot r → W0.heap.size ≤ r ∧ r < (wr.putObj D (.deferred none)).heap.size) ∧ W0.heap.size ≤ (wr.putObj D (.deferred none)).heap.size ∧ J prot d.ents.length (wr.putObj D (.deferred none)) := by
      intro k wr hj hk hs _
      subst hk
      have hD2 := hA D hDA
      refine ⟨pA, fun r hr => ⟨(hA r hr).1, by rw [World.putObj_size]; have := (hA r hr).2; omega⟩, by rw [World.putObj_size]; omega, hJ _ _ _ _ hj ((Keeps.refl _ wr).putObj _ (fun _ => hDA))⟩
    have HE := Lib.hid hend
    have HRd := Lib.hid hR
    have HDd := Lib.hid hDd
    have HJs := Lib.hid hJs
    have HDA := Lib.hid hDA
    have HA := Lib.hid hA
    by_cases h0 : d.ents.length = 0
    · have ok := hp.ok
      unfold keyVals at ok
      rw [List.length_map, h0] at ok
      obtain ⟨a1, c1, rfl⟩ := ownsRow_zero ok
      have hck' : W.cell? ⟨W0.heap.size, 0, none⟩ = some (.slice a1 0 c1) := hck
      clear hend hR hDd hJs hDA hA hp ok hck hpb hfar
      gi_wp2_with fail
      gi_loopw [35] (fun i wr => i = .int .i64 0 ∧ W = wr) (fun _ _ => 0)
      case atStart => exact ⟨rfl, rfl⟩
      case round =>
        obtain ⟨rfl, rfl⟩ := hrel
        gi_wp2_with fail
        refine ⟨by simp, .inl ⟨_, _, rfl, run_takeDeferred HDd.out, ?_⟩⟩
        exact ⟨_, results_none rfl _ _ _, ⟨_, rfl⟩, HE.out 0 W HJs.out h0.symm (Nat.le_refl _) (fun _ _ => rfl)⟩
    · have ok := hp.ok
      have ov := hp.ov
      have hv := hp.v.cell 0
      have hlk : (keyVals d.ents).length = d.ents.length := List.length_map _
      have hlv : (valVals d.ents).length = d.ents.length := List.length_map _
      rw [hlk] at ok
      rw [hlv] at ov
      obtain ⟨g1, c1, rfl, hg1⟩ := ownsRow_some ok h0
      obtain ⟨g2, c2, rfl, hg2⟩ := ownsRow_some ov h0
      have hck' : W.cell? ⟨W0.heap.size, 0, none⟩ = some (.slice (some ⟨g1, 0, none⟩) d.ents.length c1) := hck
      have hcv' : W.cell? ⟨W0.heap.size + 1, 0, none⟩ = some (.slice (some ⟨g2, 0, none⟩) d.ents.length c2) := hv
      have H1A := Lib.hid (h1A g1 rfl)
      have H2A := Lib.hid (h2A g2 rfl)
      have HVA := Lib.hid hVA
      have HG1 := Lib.hid hg1
      have HG2 := Lib.hid hg2
      have HCV := Lib.hid hcv'
      clear hend hR hDd hJs hDA hA hp ok ov hv hck hpb hfar hlk hlv h1A h2A hg1 hg2 hcv' hVA hKA
      gi_wp2_with fail
      gi_loopw [35] (fun i wr => ∃ k : Nat, k ≤ d.ents.length ∧ i = .int .i64 k ∧ J pA k wr ∧ W.heap.size ≤ wr.heap.size ∧ ∀ r, pA r → wr.heap[r]? = W.heap[r]?) (fun i _ => d.ents.length - (intOf i).toNat)
      case atStart => exact ⟨0, Nat.zero_le _, rfl, HJs.out, Nat.le_refl _, fun _ _ => rfl⟩
      case round =>
        obtain ⟨k, hk, rfl, hj, hs, hsm⟩ := hrel
        by_cases hlt : k < d.ents.length
        · have hx : d.ents[k]? = some d.ents[k] := List.getElem?_eq_getElem hlt
          obtain ⟨x, hxx⟩ : ∃ x, d.ents[k] = x := ⟨_, rfl⟩
          rw [hxx] at hx
          have hcx : wr.cell? ⟨g1, k, none⟩ = some (.string x.key) := by
            rw [World.cell?_of_block (w := W) (hsm g1 H1A.out)]
            exact HG1.out k _ (by simp [keyVals, hx])
          have hcy : wr.cell? ⟨g2, k, none⟩ = some (.pointer (some ⟨x.val, 0, none⟩)) := by
            rw [World.cell?_of_block (w := W) (hsm g2 H2A.out)]
            exact HG2.out k _ (by simp [valVals, hx, encV])
          have hcv : wr.cell? ⟨W0.heap.size + 1, 0, none⟩ = some (.slice (some ⟨g2, 0, none⟩) d.ents.length c2) := by
            rw [World.cell?_of_block (w := W) (hsm _ HVA.out)]
            exact HCV.out
          obtain ⟨fn, tmps, assign, body, hy, hR⟩ := HRd.out pA k x wr hx hj (by have := hkeep.size; omega) (fun r hr => by have := HA.out r hr; omega)
          have HRr := Lib.hid hR
          have HSm := Lib.hid hsm
          clear hR hx hxx hj hsm
          simp only [encV] at hy HRr
          gi_wp2_with fail
          refine ⟨rfl, HRr.out.mono ?_⟩
          rintro e W3 ⟨rfl, hJ3, hs3, hk3⟩
          gi_wp2_with fail
          go_roundw
          case rel => exact ⟨k + 1, by omega, by go_num, hJ3, by omega, fun r hr => (hk3 r (.inl hr)).trans (HSm.out r hr)⟩
          case measure => simp [intOf]; omega
        · obtain rfl : k = d.ents.length := by omega
          have HEr := Lib.hid (HE.out _ wr hj rfl hs hsm)
          have hdd := Lib.hid ((hsm D HDA.out).trans HDd.out)
          clear hj hsm
          gi_wp2_with fail
          refine ⟨by simp, .inl ⟨_, _, rfl, run_takeDeferred hdd.out, ?_⟩⟩
          exact ⟨_, results_none rfl _ _ _, ⟨_, rfl⟩, HEr.out⟩
end Go.Proofs.YtgjpaecpljifpaaGreat.DE

/- A space in memory: what its blocks hold; touch, costs, past, use. -/
import Derived.Test.YtgjpaecpljifpaaGreatDictQE
import Derived.Maps.OwnSet
import Derived.Maps.RangeWalk
import Derived.Sort.KeysCollected
import Derived.Deep.RegionWith
import Derived.Deep.QuietTactic
import Derived.BigQuiet
import Derived.Test.YtgjpaecpljifpaaGreatDictLE
import Derived.Stop.RegionWithIn
namespace Go.Proofs.YtgjpaecpljifpaaGreat
open Go Go.RowKit Go.Proofs.YtgjpaecpljifpaaGreat Go.Maps Go.WideMaps

/-- An entry. -/
structure Rec where
  vb : Nat
  cost : Int
  stamp : Int
  at_ : Int
def recCells (r : Rec) : Array Value := #[.pointer (some ⟨r.vb, 0, none⟩), .int .i64 r.cost, .int .u64 r.stamp, .int .i64 r.at_]
structure Cfg where
  seed : Int
  most : Int
  policy : Int
  samples : Int
/-- What a space is. -/
structure AS where
  cfg : Cfg
  now : Int
  uses : Int
  used : Int
  get : ByteArray → Option Rec
  touched : ByteArray → Bool
  steps : List (Int × ByteArray)
/-- How it lies. -/
structure Lay where
  mB : Nat
  lB : Nat
  tB : Nat
  main : DM Nat
  late : DM Nat
  rc : Nat → Rec
  sv : Value
  D : DataW Unit
def stepCells (l : List (Int × ByteArray)) : List Value := l.flatMap fun s => [.int .i64 s.1, .string s.2]
def mostKeys : Nat := 4398046511104
def spaceCells (A : AS) (L : Lay) : Array Value :=
  #[.int .u64 A.cfg.seed, .int .i64 A.cfg.most, .int .i64 A.cfg.policy, .int .i64 A.cfg.samples, .int .i64 A.now, .int .u64 A.uses, .int .i64 A.used, .pointer (some ⟨L.mB, 0, none⟩), .pointer (some ⟨L.lB, 0, none⟩), .map (some L.tB), L.sv]
abbrev klit (k : ByteArray) : Lit := .string k.data.toList

theorem ownsRow_of_heap' {w w' : World} {base e size : Nat} {v : Value} {n : Nat} {xs : List Value} (h : w.ownsRow base e size v n xs) (hk : ∀ g, v.ownBlock = some g → w'.heap[g]? = w.heap[g]?) : w'.ownsRow base e size v n xs := by
  refine ⟨h.1, ?_⟩
  rcases h.2 with hn | ⟨g, cap, cur, rfl, hb, hgg, rest⟩
  · exact .inl hn
  · exact .inr ⟨g, cap, cur, rfl, hb, (hk g rfl).trans hgg, rest⟩
theorem ownsRow_blk {w : World} {base e size : Nat} {v : Value} {n : Nat} {xs : List Value} (h : w.ownsRow base e size v n xs) {g : Nat} (hg : v.ownBlock = some g) : ∃ cs, Blk w g cs e := by
  rcases h.2 with ⟨rfl, _⟩ | ⟨g', cap, cur, rfl, hb, hgg, rest⟩
  · cases hg
  · cases hg; exact ⟨cur, hgg⟩
theorem ownsMap_of_heap {H : Type} {P : Program} {k : TypeId} {R : Value → Option (DataW H × List MemPlace)} {w w' : World} {b n : Nat} {D : DataW H} (h : w.ownsMap P k R b n D) (e : w'.heap[b]? = w.heap[b]?) : w'.ownsMap P k R b n D := by
  obtain ⟨es, clock, hb, F, hs, hD⟩ := h
  exact ⟨es, clock, e.trans hb, F, hs, hD⟩
theorem ownsMap_ne {H : Type} {P : Program} {k : TypeId} {R : Value → Option (DataW H × List MemPlace)} {w : World} {b n : Nat} {D : DataW H} (h : w.ownsMap P k R b n D) {r : Nat} {cs : Array Value} {t : TypeId} (hb : Blk w r cs t) : r ≠ b := by
  rintro rfl
  obtain ⟨es, clock, h1, _⟩ := h
  have := h1.symm.trans hb
  cases this

/-- A space's blocks. -/
structure Parts (w : World) (b : Nat) (cs : Array Value) (L : Lay) (Live : Nat → Prop) (st : List (Int × ByteArray)) : Prop where
  str : Blk w b cs 100
  main : DE.Good w L.mB L.main mostKeys
  late : DE.Good w L.lB L.late mostKeys
  apart : ∀ r, DE.fp L.mB L.main r → ¬ DE.fp L.lB L.late r
  ent : ∀ e, Live e → Blk w e (recCells (L.rc e)) 106
  map : w.ownsMap Tryz.prog 9 unitElem L.tB (Maps.size L.D) L.D
  steps : w.ownsRow 0 83 2 L.sv st.length (stepCells st)

def pfp (b : Nat) (L : Lay) (Live : Nat → Prop) (r : Nat) : Prop := r = b ∨ DE.fp L.mB L.main r ∨ DE.fp L.lB L.late r ∨ Live r ∨ r = L.tB ∨ L.sv.ownBlock = some r

section
variable {w w' : World} {b : Nat} {cs : Array Value} {L : Lay} {Live : Nat → Prop} {st : List (Int × ByteArray)}

theorem Parts.lt (h : Parts w b cs L Live st) {r : Nat} (hr : pfp b L Live r) : r < w.heap.size := by
  rcases hr with rfl | hr | hr | hr | rfl | hr
  · exact h.str.lt
  · exact h.main.dict.fp_lt hr
  · exact h.late.dict.fp_lt hr
  · exact (h.ent _ hr).lt
  · exact h.map.lt
  · exact (h.steps.lt _ hr).2
theorem Parts.of_heap (h : Parts w b cs L Live st) (k : ∀ r, pfp b L Live r → w'.heap[r]? = w.heap[r]?) : Parts w' b cs L Live st where
  str := h.str.of_heap (k _ (.inl rfl))
  main := h.main.of_heap fun r hr => k r (.inr (.inl hr))
  late := h.late.of_heap fun r hr => k r (.inr (.inr (.inl hr)))
  apart := h.apart
  ent := fun e he => (h.ent e he).of_heap (k e (.inr (.inr (.inr (.inl he)))))
  map := ownsMap_of_heap h.map (k _ (.inr (.inr (.inr (.inr (.inl rfl))))))
  steps := ownsRow_of_heap' h.steps fun g hg => k g (.inr (.inr (.inr (.inr (.inr hg)))))
theorem Parts.keeps (h : Parts w b cs L Live st) {S : Nat → Prop} (k : Keeps S w w') (hs : ∀ r, pfp b L Live r → ¬ S r) : Parts w' b cs L Live st := h.of_heap fun r hr => k.same r (h.lt hr) (hs r hr)
theorem Parts.drewN (h : Parts w b cs L Live st) (n : Nat) : Parts (w.drewN n) b cs L Live st := h.of_heap fun _ _ => rfl
theorem Parts.live (h : Parts w b cs L Live st) {Live' : Nat → Prop} (hl : ∀ e, Live' e → Live e) : Parts w b cs L Live' st := { h with ent := fun e he => h.ent e (hl e he) }

/-- A block of another type than a dict's is none of a dict's. -/
theorem Parts.not_main (h : Parts w b cs L Live st) : ¬ DE.fp L.mB L.main b ∧ (∀ e, Live e → ¬ DE.fp L.mB L.main e) ∧ ¬ DE.fp L.mB L.main L.tB ∧ ∀ g, L.sv.ownBlock = some g → ¬ DE.fp L.mB L.main g := by
  refine ⟨DE.fp_ne h.main.dict h.str (by decide) (by decide) (by decide), fun e he => DE.fp_ne h.main.dict (h.ent e he) (by decide) (by decide) (by decide), fun hf => ?_, fun g hg => ?_⟩
  · obtain ⟨c, t, hb⟩ := DE.fp_cells h.main.dict hf
    exact ownsMap_ne h.map hb rfl
  · obtain ⟨c, hb⟩ := ownsRow_blk h.steps hg
    exact DE.fp_ne h.main.dict hb (by decide) (by decide) (by decide)
theorem Parts.not_late (h : Parts w b cs L Live st) : ¬ DE.fp L.lB L.late b ∧ (∀ e, Live e → ¬ DE.fp L.lB L.late e) ∧ ¬ DE.fp L.lB L.late L.tB ∧ ∀ g, L.sv.ownBlock = some g → ¬ DE.fp L.lB L.late g := by
  refine ⟨DE.fp_ne h.late.dict h.str (by decide) (by decide) (by decide), fun e he => DE.fp_ne h.late.dict (h.ent e he) (by decide) (by decide) (by decide), fun hf => ?_, fun g hg => ?_⟩
  · obtain ⟨c, t, hb⟩ := DE.fp_cells h.late.dict hf
    exact ownsMap_ne h.map hb rfl
  · obtain ⟨c, hb⟩ := ownsRow_blk h.steps hg
    exact DE.fp_ne h.late.dict hb (by decide) (by decide) (by decide)
theorem Parts.ne (h : Parts w b cs L Live st) : (∀ e, Live e → e ≠ b) ∧ b ≠ L.tB ∧ (∀ e, Live e → e ≠ L.tB) ∧ (∀ g, L.sv.ownBlock = some g → g ≠ b ∧ g ≠ L.tB ∧ ∀ e, Live e → g ≠ e) := by
  refine ⟨fun e he => (h.ent e he).ne h.str (by decide), ownsMap_ne h.map h.str, fun e he => ownsMap_ne h.map (h.ent e he), fun g hg => ?_⟩
  obtain ⟨c, hb⟩ := ownsRow_blk h.steps hg
  exact ⟨hb.ne h.str (by decide), ownsMap_ne h.map hb, fun e he => hb.ne (h.ent e he) (by decide)⟩

theorem Parts.main_turned (h : Parts w b cs L Live st) {d' : DM Nat} {g : ByteArray → Option Nat} (t : DE.Turned w w' L.mB L.main d' mostKeys g) : Parts w' b cs { L with main := d' } Live st := by
  obtain ⟨n1, n2, n3, n4⟩ := h.not_main
  refine ⟨t.keeps.blk h.str n1, t.good, h.late.keeps t.keeps fun r hr hm => h.apart r hm hr, fun r hr hl => ?_, fun e he => t.keeps.blk (h.ent e he) (n2 e he), ownsMap_of_heap h.map (t.keeps.same _ h.map.lt n3), ownsRow_of_heap' h.steps fun g hg => t.keeps.same g (h.steps.lt g hg).2 (n4 g hg)⟩
  rcases t.fps r hr with hm | hm
  · exact h.apart r hm hl
  · have := h.late.dict.fp_lt hl; omega
theorem Parts.late_turned (h : Parts w b cs L Live st) {d' : DM Nat} {g : ByteArray → Option Nat} (t : DE.Turned w w' L.lB L.late d' mostKeys g) : Parts w' b cs { L with late := d' } Live st := by
  obtain ⟨n1, n2, n3, n4⟩ := h.not_late
  refine ⟨t.keeps.blk h.str n1, h.main.keeps t.keeps fun r hr hm => h.apart r hr hm, t.good, fun r hr hl => ?_, fun e he => t.keeps.blk (h.ent e he) (n2 e he), ownsMap_of_heap h.map (t.keeps.same _ h.map.lt n3), ownsRow_of_heap' h.steps fun g hg => t.keeps.same g (h.steps.lt g hg).2 (n4 g hg)⟩
  rcases t.fps r hl with hm | hm
  · exact h.apart r hr hm
  · have := h.main.dict.fp_lt hr; omega
theorem Parts.set_b (h : Parts w b cs L Live st) (i : Nat) (v : Value) : Parts (w.setCell ⟨b, i, none⟩ v) b (cs.setIfInBounds i v) L Live st := by
  have k : Keeps (fun r => r = b) w (w.setCell ⟨b, i, none⟩ v) := (Keeps.refl _ w).set v (fun _ => rfl)
  obtain ⟨e1, e2, _, e4⟩ := h.ne
  refine ⟨h.str.set i v, h.main.keeps k fun r hr e => h.not_main.1 (e ▸ hr), h.late.keeps k fun r hr e => h.not_late.1 (e ▸ hr), h.apart, fun e he => k.blk (h.ent e he) (e1 e he), ownsMap_of_heap h.map (k.same _ h.map.lt fun e => e2 e.symm), ownsRow_of_heap' h.steps fun g hg => k.same g (h.steps.lt g hg).2 (e4 g hg).1⟩
theorem Parts.set_e (h : Parts w b cs L Live st) {e : Nat} (he : Live e) (i : Nat) (v : Value) (r : Rec) (hr : recCells r = (recCells (L.rc e)).setIfInBounds i v) :
    Parts (w.setCell ⟨e, i, none⟩ v) b cs { L with rc := fun x => if x = e then r else L.rc x } Live st := by
  have k : Keeps (fun r => r = e) w (w.setCell ⟨e, i, none⟩ v) := (Keeps.refl _ w).set v (fun _ => rfl)
  obtain ⟨e1, e2, e3, e4⟩ := h.ne
  refine ⟨k.blk h.str (e1 e he).symm, h.main.keeps k fun r hr e => h.not_main.2.1 _ he (e ▸ hr), h.late.keeps k fun r hr e => h.not_late.2.1 _ he (e ▸ hr), h.apart, fun x hx => ?_, ownsMap_of_heap h.map (k.same _ h.map.lt (e3 e he).symm), ownsRow_of_heap' h.steps fun g hg => k.same g (h.steps.lt g hg).2 ((e4 g hg).2.2 e he)⟩
  dsimp only
  split
  · rename_i hxe
    rw [hxe, hr]
    exact (h.ent e he).set i v
  · rename_i hxe
    exact k.blk (h.ent x hx) hxe
theorem Parts.map_turned (h : Parts w b cs L Live st) {D : DataW Unit} (hD : w'.ownsMap Tryz.prog 9 unitElem L.tB (Maps.size D) D) (k : Keeps (fun r => r = L.tB) w w') : Parts w' b cs { L with D := D } Live st := by
  obtain ⟨e1, e2, e3, e4⟩ := h.ne
  exact ⟨k.blk h.str e2, h.main.keeps k fun r hr e => h.not_main.2.2.1 (e ▸ hr), h.late.keeps k fun r hr e => h.not_late.2.2.1 (e ▸ hr), h.apart, fun x hx => k.blk (h.ent x hx) (e3 x hx), hD, ownsRow_of_heap' h.steps fun g hg => k.same g (h.steps.lt g hg).2 (e4 g hg).2.1⟩
theorem Parts.new_e (h : Parts w b cs L Live st) (r : Rec) : Parts (w.alloc (.cells (recCells r) 106)) b cs { L with rc := fun x => if x = w.heap.size then r else L.rc x } (fun x => Live x ∨ x = w.heap.size) st := by
  have k : Keeps (fun _ => False) w (w.alloc (.cells (recCells r) 106)) := (Keeps.refl _ w).alloc _
  have g := h.keeps k fun _ _ => id
  refine ⟨g.str, g.main, g.late, g.apart, fun x hx => ?_, g.map, g.steps⟩
  dsimp only
  split
  · rename_i hx; subst hx; exact Blk.new w _ _
  · rename_i hne
    exact g.ent x (hx.resolve_right hne)
end

def liveOf (L : Lay) (e : Nat) : Prop := ∃ k, DE.look L.main k = some e

structure SpaceAt (w : World) (b : Nat) (A : AS) (L : Lay) (U : List ByteArray) : Prop where
  parts : Parts w b (spaceCells A L) L (liveOf L) A.steps
  get : ∀ k, A.get k = (DE.look L.main k).map L.rc
  due : ∀ k, DE.look L.late k = (DE.look L.main k).filter fun e => decide (0 < (L.rc e).at_)
  one : ∀ k k' e, DE.look L.main k = some e → DE.look L.main k' = some e → k = k'
  touched : ∀ k : ByteArray, k.size ≤ maxLen → Maps.has L.D (klit k) = A.touched k
  univ : ∀ k, (DE.look L.main k).isSome = true ∨ A.touched k = true → k ∈ U
  room : A.steps.length + L.main.n ≤ U.length
  small : U.length < mostKeys
  clock : 0 ≤ A.now
  keys : ∀ k, (DE.look L.main k).isSome = true → k.size ≤ maxLen

def sfp (b : Nat) (L : Lay) (r : Nat) : Prop := pfp b L (liveOf L) r

theorem SpaceAt.of_heap {w w' : World} {b : Nat} {A : AS} {L : Lay} {U : List ByteArray} (h : SpaceAt w b A L U) (k : ∀ r, sfp b L r → w'.heap[r]? = w.heap[r]?) : SpaceAt w' b A L U := { h with parts := h.parts.of_heap k }
theorem SpaceAt.keeps {w w' : World} {b : Nat} {A : AS} {L : Lay} {U : List ByteArray} {S : Nat → Prop} (h : SpaceAt w b A L U) (k : Keeps S w w') (hs : ∀ r, sfp b L r → ¬ S r) : SpaceAt w' b A L U :=
  h.of_heap fun r hr => k.same r (h.parts.lt hr) (hs r hr)
theorem SpaceAt.more {w : World} {b : Nat} {A : AS} {L : Lay} {U U' : List ByteArray} (h : SpaceAt w b A L U) (hs : ∀ k ∈ U, k ∈ U') (hl : U.length ≤ U'.length) (hm : U'.length < mostKeys) : SpaceAt w b A L U' :=
  { h with univ := fun k hk => hs k (h.univ k hk), room := Nat.le_trans h.room hl, small := hm }

theorem strLaw : Keyed Tryz.prog 9 := string_keyed Tryz.underlying9

/-- A map from texts to nothing has at most as many keys as a list that holds them all. -/
theorem size_univ {w : World} {b n : Nat} {D : DataW Unit} (h : w.ownsMap Tryz.prog 9 unitElem b n D) (T : ByteArray → Bool) (hT : ∀ k : ByteArray, k.size ≤ maxLen → Maps.has D (klit k) = T k) (U : List ByteArray) (hU : ∀ k, T k = true → k ∈ U) : Maps.size D ≤ U.length := by
  obtain ⟨es, hD, hpw, _⟩ := h.entries strLaw
  obtain ⟨es', hD', hko⟩ := h.keysOf
  obtain rfl : es = es' := by rw [hD] at hD'; simpa using hD'
  subst hD
  show es.length ≤ U.length
  rw [← List.length_map (f := fun p : Lit × DataW Unit => (⟨(strOf p.1).toArray⟩ : ByteArray))]
  have hks : ∀ p ∈ es, ∃ x : List UInt8, p.1 = .string x ∧ x.length ≤ maxLen := fun p hp => by
    obtain ⟨v, hv⟩ := hko p hp
    obtain ⟨x, _, hx, hl⟩ := Maps.keyOf_str Tryz.underlying9 hv
    exact ⟨x, hx, hl⟩
  refine List.Nodup.length_le_of_subset ?_ ?_
  · refine List.pairwise_map.2 (hpw.imp_of_mem fun {p q} hp hq hne e => hne ?_)
    obtain ⟨x, hx, _⟩ := hks p hp
    obtain ⟨y, hy, _⟩ := hks q hq
    rw [hx, hy] at e ⊢
    have : x = y := by simpa [strOf] using e
    rw [this]
  · intro k hk
    obtain ⟨p, hp, rfl⟩ := List.mem_map.1 hk
    obtain ⟨x, hx, hl⟩ := hks p hp
    refine hU _ ?_
    rw [← hT _ (by simpa [strOf, hx, ByteArray.size] using hl), has_eq, List.any_eq_true]
    exact ⟨p, hp, by rw [hx]; simp [Lit.sameKey, strOf]⟩

/-- What an entry costs. -/
def costOf (r : Rec) (key : ByteArray) : Int := if 0 < r.at_ then wrap64 (wrap64 (wrap64 (48 + key.size) + r.cost) + 16) else wrap64 (wrap64 (48 + key.size) + r.cost)

set_option maxHeartbeats 400000 in
theorem costs_any (e : Nat) (r : Rec) (key : ByteArray) (w : World) (hb : Blk w e (recCells r) 106) :
    Calls Tryz.prog 48 #[.pointer (some ⟨e, 0, none⟩), .string key] w
      fun en w' => en = .returned (.int .i64 (costOf r key)) ∧ w = w' := by
  have c1 : w.cell? ⟨e, 1, none⟩ = some (.int .i64 r.cost) := hb.cell 1
  have c3 : w.cell? ⟨e, 3, none⟩ = some (.int .i64 r.at_) := hb.cell 3
  by_cases h : 0 < r.at_
  · have e1 : costOf r key = wrap64 (wrap64 (wrap64 (48 + key.size) + r.cost) + 16) := if_pos h
    have HE := Lib.hid e1
    clear e1
    go_enter Tryz.func48, Tryz.ntmps48
    go_wp2_with fail
    go_ret
    exact ⟨by rw [HE.out]; rfl, rfl⟩
  · have e1 : costOf r key = wrap64 (wrap64 (48 + key.size) + r.cost) := if_neg h
    have HE := Lib.hid e1
    clear e1
    go_enter Tryz.func48, Tryz.ntmps48
    go_wp2_with fail
    go_ret
    exact ⟨by rw [HE.out]; rfl, rfl⟩

set_option maxHeartbeats 400000 in
theorem past_any (b : Nat) (A : AS) (L : Lay) (at_ : Int) (w : World) (hb : Blk w b (spaceCells A L) 100) :
    Calls Tryz.prog 80 #[.pointer (some ⟨b, 0, none⟩), .int .i64 at_] w
      fun en w' => en = .returned (.bool (decide (0 < at_) && decide (at_ ≤ A.now))) ∧ w = w' := by
  have c4 : w.cell? ⟨b, 4, none⟩ = some (.int .i64 A.now) := hb.cell 4
  by_cases h : 0 < at_
  · go_enter Tryz.func80, Tryz.ntmps80
    go_wp2_with fail
    go_ret
    exact ⟨by simp [h], rfl⟩
  · have H := Lib.hid h
    go_enter Tryz.func80, Tryz.ntmps80
    go_wp2_with fail
    go_ret
    exact ⟨by have := H.out; simp; omega, rfl⟩

theorem ownsMap_size {H : Type} {P : Program} {k : TypeId} {R : Value → Option (DataW H × List MemPlace)} {w : World} {b n : Nat} {D : DataW H} (h : w.ownsMap P k R b n D) : w.ownsMap P k R b (Maps.size D) D := by
  obtain ⟨es, clock, hb, F, hs, rfl⟩ := h
  exact ⟨es, clock, hb, F, by simp [Maps.size, length_sorted], rfl⟩
/-- A map's block has turned. -/
theorem mapTurned_keeps {w w' : World} {b : Nat} (h : w.mapTurned w' b) : Keeps (fun r => r = b) w w' := by
  have g := h.grown
  exact ⟨g.size, fun r hr hn => g.block r hr (fun e => hn (by injection e)), g.os, g.output⟩

set_option maxHeartbeats 400000 in
theorem touch_any (b : Nat) (A : AS) (L : Lay) (key : ByteArray) (w : World) (hb : Blk w b (spaceCells A L) 100) (hm : w.ownsMap Tryz.prog 9 unitElem L.tB (Maps.size L.D) L.D) (hn : Maps.size L.D < maxLen) (hs : key.size ≤ maxLen) :
    Calls Tryz.prog 53 #[.pointer (some ⟨b, 0, none⟩), .string key] w
      fun en w' => en = .returned (.tuple #[]) ∧ w'.ownsMap Tryz.prog 9 unitElem L.tB (Maps.size (L.D.put (klit key) (.agg []))) (L.D.put (klit key) (.agg [])) ∧ Keeps (fun r => r = L.tB) w w' := by
  have c9 : w.cell? ⟨b, 9, none⟩ = some (.map (some L.tB)) := hb.cell 9
  have hkey := keyOf_string_mk Tryz.underlying9 hs
  have HM := Lib.hid hm
  have HN := Lib.hid hn
  have HK := Lib.hid hkey
  clear hm hn hkey
  go_enter Tryz.func53, Tryz.ntmps53
  go_wp2_with (at_mapUpdate; refine wpList_mapUpdate_in _ rfl _ _ _ 98 rfl 9 191 strLaw Tryz.underlying98 unitElem L.tB _ L.D rfl HM.out HN.out _ _ _ rfl rfl HK.out _ _ unitElem_mk ?_; intro w1 hown1 hturn1)
  go_end0
  exact ⟨rfl, ownsMap_size hown1, mapTurned_keeps hturn1⟩
end Go.Proofs.YtgjpaecpljifpaaGreat

namespace Go.Proofs.YtgjpaecpljifpaaGreat
open Go Go.RowKit Go.Proofs.YtgjpaecpljifpaaGreat Go.Maps Go.WideMaps

/-- An end by the way, in one world with one frame. -/
def cutPost (w1 : World) (fr : Act) : Exit → Act → World → Prop
  | .normal, a, w => a = fr ∧ w1 = w
  | _, _, _ => False
theorem wp_cut {P : Program} {c : Code} {Q : Exit → Act → World → Prop} {a : Act} {w : World} (w1 : World) (fr : Act) (h : c.wp P (cutPost w1 fr) a w) (hk : Q .normal fr w1) : c.wp P Q a w := by
  refine wp_mono h ?_
  intro e a' w' hh
  cases e <;> simp only [cutPost] at hh
  obtain ⟨rfl, rfl⟩ := hh
  exact hk

/-- What a call does to a space's blocks. -/
structure Moved (w w' : World) (b : Nat) (L L' : Lay) : Prop where
  keeps : Keeps (sfp b L) w w'
  fps : ∀ r, sfp b L' r → sfp b L r ∨ w.heap.size ≤ r
theorem Moved.refl (w : World) (b : Nat) (L : Lay) : Moved w w b L L := ⟨Keeps.refl _ _, fun _ h => .inl h⟩
theorem Moved.trans {w w1 w2 : World} {b : Nat} {L L1 L2 : Lay} (h : Moved w w1 b L L1) (k : Moved w1 w2 b L1 L2) : Moved w w2 b L L2 := by
  refine ⟨h.keeps.trans' k.keeps fun r hr hs => (h.fps r hs).resolve_right (by omega), fun r hr => ?_⟩
  rcases k.fps r hr with h1 | h1
  · exact h.fps r h1
  · have := h.keeps.size; exact .inr (by omega)

def AS.gone (A : AS) (key : ByteArray) (r : Rec) : AS :=
  { A with used := IntKind.i64.wrap (A.used - costOf r key), get := fun k => if k = key then none else A.get k, touched := fun k => A.touched k || decide (k = key) }

theorem klit_ne {k k' : ByteArray} (h : k ≠ k') : klit k ≠ klit k' := by
  intro e
  injection e with e
  apply h
  cases k; cases k'
  simp at e
  exact congrArg _ e

theorem touched_put {D : DataW Unit} (hD : Maps.IsMap D) (key k : ByteArray) : Maps.has (D.put (klit key) (.agg [])) (klit k) = (Maps.has D (klit k) || decide (k = key)) := by
  by_cases hk : k = key
  · subst hk; rw [Maps.has_put_same hD (k := klit k) trivial]; simp
  · rw [Maps.has_put_other (klit_ne hk)]; simp [hk]

/-- The end of goes, in plain words. -/
theorem SpaceAt.went {w w' : World} {b : Nat} {A : AS} {L : Lay} {U : List ByteArray} {key : ByteArray} {e : Nat} (h : SpaceAt w b A L U) (he : DE.look L.main key = some e) {d2 d3 : DM Nat}
    (h2 : ∀ k, DE.look d2 k = if k = key then none else DE.look L.main k) (h3 : ∀ k, DE.look d3 k = if k = key then none else DE.look L.late k)
    (hP : Parts w' b (spaceCells { A with used := IntKind.i64.wrap (A.used - costOf (L.rc e) key) } L) { L with main := d2, late := d3, D := L.D.put (klit key) (.agg []) } (liveOf L) A.steps) :
    SpaceAt w' b (A.gone key (L.rc e)) { L with main := d2, late := d3, D := L.D.put (klit key) (.agg []) } U where
  parts := hP.live fun x ⟨k, hx⟩ => by
    change DE.look d2 k = some x at hx
    rw [h2] at hx
    split at hx
    · cases hx
    · exact ⟨k, hx⟩
  get k := by
    show (if k = key then none else A.get k) = (DE.look d2 k).map L.rc
    rw [h2]
    split
    · rfl
    · exact h.get k
  due k := by
    show DE.look d3 k = (DE.look d2 k).filter _
    rw [h2, h3]
    split
    · rfl
    · exact h.due k
  one k k' x hx hx' := by
    change DE.look d2 k = some x at hx
    change DE.look d2 k' = some x at hx'
    rw [h2] at hx hx'
    split at hx
    · cases hx
    · split at hx'
      · cases hx'
      · exact h.one k k' x hx hx'
  touched k hk := by
    show Maps.has (L.D.put (klit key) (.agg [])) (klit k) = (A.touched k || decide (k = key))
    rw [touched_put h.parts.map.isMap, h.touched k hk]
  univ k hk := by
    change (DE.look d2 k).isSome = true ∨ (A.touched k || decide (k = key)) = true at hk
    rw [h2] at hk
    rcases hk with hk | hk
    · split at hk
      · cases hk
      · exact h.univ k (.inl hk)
    · rw [Bool.or_eq_true, decide_eq_true_eq] at hk
      rcases hk with hk | rfl
      · exact h.univ k (.inr hk)
      · exact h.univ k (.inl (by rw [he]; rfl))
  room := by
    have : d2.n ≤ L.main.n := DE.n_mono hP.main.ok h.parts.main.ok fun k hk => by
      rw [h2] at hk
      split at hk
      · cases hk
      · exact hk
    exact Nat.le_trans (Nat.add_le_add_left this _) h.room
  small := h.small
  clock := h.clock
  keys k hk := by
    change (DE.look d2 k).isSome = true at hk
    rw [h2] at hk
    split at hk
    · cases hk
    · exact h.keys k hk

/-- A key has gone from a space's blocks; all else lies as it lay. -/
structure Lost (L L' : Lay) (key : ByteArray) : Prop where
  main : ∀ k, DE.look L'.main k = if k = key then none else DE.look L.main k
  late : ∀ k, DE.look L'.late k = if k = key then none else DE.look L.late k
  rc : L'.rc = L.rc

set_option maxHeartbeats 1000000 in
theorem goes_more (b : Nat) (A : AS) (L : Lay) (U : List ByteArray) (key : ByteArray) (e : Nat) (w : World) (h : SpaceAt w b A L U) (he : DE.look L.main key = some e) :
    Calls Tryz.prog 47 #[.pointer (some ⟨b, 0, none⟩), .string key, .pointer (some ⟨e, 0, none⟩)] w
      fun en w' => en = .returned (.tuple #[]) ∧ ∃ L', SpaceAt w' b (A.gone key (L.rc e)) L' U ∧ Moved w w' b L L' ∧ L'.main.n < L.main.n ∧ Lost L L' key := by
  have hs : key.size ≤ maxLen := h.keys key (by rw [he]; rfl)
  have hp := h.parts
  have hlive : liveOf L e := ⟨key, he⟩
  have hE : Blk w.drew e (recCells (L.rc e)) 106 := hp.ent e hlive
  have c6 : w.drew.cell? ⟨b, 6, none⟩ = some (.int .i64 A.used) := hp.str.cell 6
  have f6 : w.drew.frozen? ⟨b, 6, none⟩ = false := hp.str.frozen 6
  have HA := Lib.hid h
  have HE := Lib.hid hE
  have HP := Lib.hid hp
  have HL := Lib.hid hlive
  have HEE := Lib.hid he
  clear h hE hp hlive he
  go_enter Tryz.func47, Tryz.ntmps47
  go_wp2_with fail
  apply wp_cut ((w.setCell ⟨b, 6, none⟩ (.int .i64 (IntKind.i64.wrap (A.used - costOf (L.rc e) key)))).drew)
  case h =>
    go_region_with (go_at_call 48; refine (costs_any _ _ _ _ HE.out).mono ?_; rintro en w' ⟨rfl, rfl⟩)
    all_goals exact ⟨rfl, rfl⟩
  case hk =>
    obtain ⟨w1, hw1⟩ : ∃ w1, (w.setCell ⟨b, 6, none⟩ (.int .i64 (IntKind.i64.wrap (A.used - costOf (L.rc e) key)))).drew = w1 := ⟨_, rfl⟩
    rw [hw1]
    have hP1 : Parts w1 b (spaceCells { A with used := IntKind.i64.wrap (A.used - costOf (L.rc e) key) } L) L (liveOf L) A.steps := by
      rw [← hw1]; exact (HP.out.set_b 6 _).of_heap fun _ _ => rfl
    have k1 : Keeps (sfp b L) w w1 := by rw [← hw1]; exact ((Keeps.refl (sfp b L) w).set _ (fun _ => .inl rfl)).drew
    have c7 : w1.cell? ⟨b, 7, none⟩ = some (.pointer (some ⟨L.mB, 0, none⟩)) := hP1.str.cell 7
    have HP1 := Lib.hid hP1
    have HK1 := Lib.hid k1
    clear hP1 k1 hw1
    go_wp2_with fail
    go_at_call 49
    refine (DE.Delete_look _ _ _ _ HP1.out.main hs).mono ?_
    rintro en w2 ⟨rfl, d2, t2⟩
    have hP2 := HP1.out.main_turned t2
    have k2 := HK1.out.trans (t2.keeps.mono fun r _ hr => .inr (.inl hr))
    have c3 : w2.cell? ⟨e, 3, none⟩ = some (.int .i64 (L.rc e).at_) := (hP2.ent e HL.out).cell 3
    have c8 : w2.cell? ⟨b, 8, none⟩ = some (.pointer (some ⟨L.lB, 0, none⟩)) := hP2.str.cell 8
    have hsz : Maps.size L.D < maxLen := by
      have h1 := size_univ HP.out.map A.touched HA.out.touched U (fun k hk => HA.out.univ k (.inr hk))
      have h2 := HA.out.small
      unfold mostKeys at h2
      unfold maxLen
      omega
    have hend : ∀ (w3 w4 : World) (d3 : DM Nat), (∀ k, DE.look d3 k = if k = key then none else DE.look L.late k) →
        Parts w3 b (spaceCells { A with used := IntKind.i64.wrap (A.used - costOf (L.rc e) key) } L) { L with main := d2, late := d3 } (liveOf L) A.steps →
        Keeps (sfp b L) w w3 → (∀ r, DE.fp L.lB d3 r → DE.fp L.lB L.late r ∨ w.heap.size ≤ r) →
        w4.ownsMap Tryz.prog 9 unitElem L.tB (Maps.size (L.D.put (klit key) (.agg []))) (L.D.put (klit key) (.agg [])) → Keeps (fun r => r = L.tB) w3 w4 →
        ∃ L', SpaceAt w4 b (A.gone key (L.rc e)) L' U ∧ Moved w w4 b L L' ∧ L'.main.n < L.main.n ∧ Lost L L' key := by
      intro w3 w4 d3 h3 hp3 k3 f3 hm4 k4
      have hS := HA.out.went HEE.out t2.look h3 (hp3.map_turned hm4 k4)
      refine ⟨_, hS, ⟨k3.trans (k4.mono fun r _ hr => .inr (.inr (.inr (.inr (.inl hr))))), ?_⟩, DE.n_less t2.good.ok HP.out.main.ok (key := key) (by rw [t2.look, if_pos rfl]) (by rw [HEE.out]; rfl) (fun k hk => by
        rw [t2.look] at hk
        split at hk
        · cases hk
        · exact hk), t2.look, h3, rfl⟩
      rintro r (hr | hr | hr | ⟨k, hr⟩ | hr | hr)
      · exact .inl (.inl hr)
      · rcases t2.fps r hr with hr | hr
        · exact .inl (.inr (.inl hr))
        · have := HK1.out.size; exact .inr (by omega)
      · rcases f3 r hr with hr | hr
        · exact .inl (.inr (.inr (.inl hr)))
        · exact .inr hr
      · change DE.look d2 k = some r at hr
        rw [t2.look] at hr
        split at hr
        · cases hr
        · exact .inl (.inr (.inr (.inr (.inl ⟨k, hr⟩))))
      · exact .inl (.inr (.inr (.inr (.inr (.inl hr)))))
      · exact .inl (.inr (.inr (.inr (.inr (.inr hr)))))
    have hdue : DE.look L.late key = if 0 < (L.rc e).at_ then some e else none := by
      rw [HA.out.due, HEE.out, Option.filter_some]
      simp
    have HP2 := Lib.hid hP2
    have HK2 := Lib.hid k2
    have HEnd := Lib.hid hend
    have HDue := Lib.hid hdue
    have HSz := Lib.hid hsz
    clear hP2 k2 t2 c7 hend hdue hsz
    by_cases hat : 0 < (L.rc e).at_
    · go_wp2_with fail
      go_at_call 49
      refine (DE.Delete_look _ _ _ _ HP2.out.late hs).mono ?_
      rintro en w3 ⟨rfl, d3, t3⟩
      have hP3 := HP2.out.late_turned t3
      have k3 := HK2.out.trans (t3.keeps.mono fun r _ hr => .inr (.inr (.inl hr)))
      have HT3 := Lib.hid t3
      have HP3 := Lib.hid hP3
      have HK3 := Lib.hid k3
      clear hP3 k3 t3 c8 c3
      go_wp2_with fail
      go_at_call 53
      refine (touch_any b { A with used := IntKind.i64.wrap (A.used - costOf (L.rc e) key) } { L with main := d2, late := d3 } key _ HP3.out.str HP3.out.map HSz.out hs).mono ?_
      rintro en w4 ⟨rfl, hm4, k4⟩
      have HR := Lib.hid (HEnd.out w3 w4 d3 HT3.out.look HP3.out HK3.out (fun r hr => (HT3.out.fps r hr).imp id fun h => by have := HK2.out.size; omega) hm4 k4)
      clear hm4 k4
      go_wp2_with fail
      go_end0
      exact ⟨rfl, HR.out⟩
    · go_wp2_with fail
      go_at_call 53
      refine (touch_any b { A with used := IntKind.i64.wrap (A.used - costOf (L.rc e) key) } { L with main := d2 } key _ HP2.out.str HP2.out.map HSz.out hs).mono ?_
      rintro en w4 ⟨rfl, hm4, k4⟩
      have h3 : ∀ k, DE.look L.late k = if k = key then none else DE.look L.late k := by
        intro k
        split
        · rename_i hk; rw [hk, HDue.out, if_neg (by omega)]
        · rfl
      have HR := Lib.hid (HEnd.out w2 w4 L.late h3 HP2.out HK2.out (fun r hr => .inl hr) hm4 k4)
      clear hm4 k4 h3
      go_wp2_with fail
      go_end0
      exact ⟨rfl, HR.out⟩

theorem goes_any (b : Nat) (A : AS) (L : Lay) (U : List ByteArray) (key : ByteArray) (e : Nat) (w : World) (h : SpaceAt w b A L U) (he : DE.look L.main key = some e) :
    Calls Tryz.prog 47 #[.pointer (some ⟨b, 0, none⟩), .string key, .pointer (some ⟨e, 0, none⟩)] w
      fun en w' => en = .returned (.tuple #[]) ∧ ∃ L', SpaceAt w' b (A.gone key (L.rc e)) L' U ∧ Moved w w' b L L' ∧ L'.main.n < L.main.n :=
  (goes_more b A L U key e w h he).mono fun _ _ ⟨h1, L', h2, h3, h4, _⟩ => ⟨h1, L', h2, h3, h4⟩
end Go.Proofs.YtgjpaecpljifpaaGreat

/- A space in memory: touch of a key that was named; what Put asks of a value. -/
import Derived.Test.YtgjpaecpljifpaaGreatSpG
import Derived.Deep.DeepCutAuto
import Derived.Deep.CutBlock
namespace Go.Proofs.YtgjpaecpljifpaaGreat
open Go Go.RowKit Go.Proofs.YtgjpaecpljifpaaGreat Go.Maps Go.WideMaps

def AS.touch (A : AS) (key : ByteArray) : AS := { A with touched := fun k => A.touched k || decide (k = key) }

theorem touch_space (b : Nat) (A : AS) (L : Lay) (U : List ByteArray) (key : ByteArray) (w : World) (h : SpaceAt w b A L U) (hs : key.size ≤ maxLen) (hU : key ∈ U) :
    Calls Tryz.prog 53 #[.pointer (some ⟨b, 0, none⟩), .string key] w
      fun en w' => en = .returned (.tuple #[]) ∧ SpaceAt w' b (A.touch key) { L with D := L.D.put (klit key) (.agg []) } U ∧ Moved w w' b L { L with D := L.D.put (klit key) (.agg []) } := by
  refine (touch_any b A L key w h.parts.str h.parts.map h.size_D hs).mono ?_
  rintro en w' ⟨rfl, hm, hk⟩
  refine ⟨rfl, ⟨h.parts.map_turned hm hk, h.get, h.due, h.one, ?_, ?_, h.room, h.small, h.clock, h.keys⟩, hk.mono fun r _ hr => .inr (.inr (.inr (.inr (.inl hr)))), fun r hr => .inl hr⟩
  · intro k hk
    show Maps.has (L.D.put (klit key) (.agg [])) (klit k) = (A.touched k || decide (k = key))
    rw [touched_put h.parts.map.isMap, h.touched k hk]
  · intro k hk
    change (DE.look L.main k).isSome = true ∨ (A.touched k || decide (k = key)) = true at hk
    rcases hk with hk | hk
    · exact h.univ k (.inl hk)
    · rw [Bool.or_eq_true, decide_eq_true_eq] at hk
      rcases hk with hk | rfl
      · exact h.univ k (.inr hk)
      · exact hU

/-- What a value tells, in one world. -/
structure ValAt (w : World) (vb : Nat) (text : ByteArray) (empty : Bool) (cost : Int) : Prop where
  asText : Calls Tryz.prog 43 #[.pointer (some ⟨vb, 0, none⟩)] w fun en w' => (∃ ok, en = .returned (.tuple #[.string text, .bool ok])) ∧ w = w'
  isEmpty : Calls Tryz.prog 46 #[.pointer (some ⟨vb, 0, none⟩)] w fun en w' => en = .returned (.bool empty) ∧ Keeps (fun _ => False) w w'
  costs : Calls Tryz.prog 50 #[.pointer (some ⟨vb, 0, none⟩)] w fun en w' => en = .returned (.int .i64 cost) ∧ w = w'

/-- What Put makes of a space, and answers. -/
def AS.unused (A : AS) (key : ByteArray) : AS :=
  match A.get key with
  | some r => { A with used := IntKind.i64.wrap (A.used - costOf r key) }
  | none => A
def AS.laid (A : AS) (key : ByteArray) (r : Rec) : AS :=
  { A with used := IntKind.i64.wrap (A.used + costOf r key), get := fun k => if k = key then some r else A.get k }
def AS.put (A : AS) (key : ByteArray) (vb : Nat) (text : ByteArray) (empty : Bool) (cost : Int) : AS × Int :=
  if 1048576 < max key.size text.size then (A, 2)
  else if empty = true then (A.deleted key, 0)
  else (((((A.met key).unused key).laid key ⟨vb, cost, 0, 0⟩).use key ⟨vb, cost, 0, 0⟩).touch key, 0)

theorem SpaceAt.laid {w w' : World} {b : Nat} {A A0 : AS} {L : Lay} {U : List ByteArray} {key : ByteArray} {r : Rec} {e : Nat} {d2 d3 : DM Nat} (h : SpaceAt w b A L U) (hs : key.size ≤ maxLen) (hU : U.length + 1 < mostKeys) (he : ¬ liveOf L e) (hr : r.at_ = 0)
    (h2 : ∀ k, DE.look d2 k = if k = key then some e else DE.look L.main k) (h3 : ∀ k, DE.look d3 k = if k = key then none else DE.look L.late k)
    (e1 : A0.get = A.get) (e2 : A0.touched = A.touched) (e3 : A0.steps = A.steps) (e4 : A0.now = A.now)
    (hP : Parts w' b (spaceCells (A0.laid key r) L) { L with main := d2, late := d3, rc := fun x => if x = e then r else L.rc x } (fun x => liveOf L x ∨ x = e) A.steps) :
    SpaceAt w' b (A0.laid key r) { L with main := d2, late := d3, rc := fun x => if x = e then r else L.rc x } (key :: U) where
  parts := by
    have := hP.live (Live' := liveOf { L with main := d2, late := d3, rc := fun x => if x = e then r else L.rc x }) fun x ⟨k, hx⟩ => by
      change DE.look d2 k = some x at hx
      rw [h2] at hx
      split at hx
      · injection hx with hx; exact .inr hx.symm
      · exact .inl ⟨k, hx⟩
    show Parts _ _ _ _ _ A0.steps
    rw [e3]; exact this
  get k := by
    show (if k = key then some r else A0.get k) = (DE.look d2 k).map fun x => if x = e then r else L.rc x
    rw [h2, e1]
    split
    · simp
    · rw [h.get k]
      cases hl : DE.look L.main k with
      | none => rfl
      | some x =>
        have : x ≠ e := fun hx => he ⟨k, by rw [hl, hx]⟩
        simp [this]
  due k := by
    show DE.look d3 k = (DE.look d2 k).filter fun x => decide (0 < (if x = e then r else L.rc x).at_)
    rw [h2, h3]
    split
    · rw [Option.filter_some]; simp [hr]
    · rw [h.due k]
      cases hl : DE.look L.main k with
      | none => rfl
      | some x =>
        have : x ≠ e := fun hx => he ⟨k, by rw [hl, hx]⟩
        rw [Option.filter_some, Option.filter_some]
        simp [this]
  one k k' x hx hx' := by
    change DE.look d2 k = some x at hx
    change DE.look d2 k' = some x at hx'
    rw [h2] at hx hx'
    split at hx
    · rename_i hk
      injection hx with hx
      split at hx'
      · rename_i hk'; rw [hk, hk']
      · exact absurd ⟨k', by rw [hx', hx]⟩ he
    · split at hx'
      · injection hx' with hx'
        exact absurd ⟨k, by rw [hx, hx']⟩ he
      · exact h.one k k' x hx hx'
  touched k hk := by
    show _ = A0.touched k
    rw [e2]; exact h.touched k hk
  univ k hk := by
    change (DE.look d2 k).isSome = true ∨ A0.touched k = true at hk
    rw [h2, e2] at hk
    rcases hk with hk | hk
    · split at hk
      · rename_i hk'; rw [hk']; exact List.mem_cons_self
      · exact List.mem_cons_of_mem _ (h.univ k (.inl hk))
    · exact List.mem_cons_of_mem _ (h.univ k (.inr hk))
  room := by
    have : d2.n ≤ L.main.n + 1 := DE.n_more hP.main.ok h.parts.main.ok key fun k hk => by
      rw [h2] at hk
      split at hk
      · rename_i hk'; exact .inl hk'
      · exact .inr hk
    have h9 := h.room
    show A0.steps.length + d2.n ≤ (key :: U).length
    rw [e3, List.length_cons]
    omega
  small := by rw [List.length_cons]; exact hU
  clock := by show 0 ≤ A0.now; rw [e4]; exact h.clock
  keys k hk := by
    change (DE.look d2 k).isSome = true at hk
    rw [h2] at hk
    split at hk
    · rename_i hk'; rw [hk']; exact hs
    · exact h.keys k hk

def ptrOf : Option Nat → Value
  | some e => .pointer (some ⟨e, 0, none⟩)
  | none => .pointer none
theorem metEnd_eq (L : Lay) (key : ByteArray) : metEnd L key = .returned (.tuple #[ptrOf (DE.look L.main key), .bool (DE.look L.main key).isSome]) := by
  unfold metEnd; cases DE.look L.main key <;> rfl
end Go.Proofs.YtgjpaecpljifpaaGreat

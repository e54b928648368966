/- A space in memory: use, met. -/
import Derived.Test.YtgjpaecpljifpaaGreatSpC
namespace Go.Proofs.YtgjpaecpljifpaaGreat
open Go Go.RowKit Go.Proofs.YtgjpaecpljifpaaGreat Go.Maps Go.WideMaps

theorem Moved.main_same {w w' : World} {b : Nat} {A : AS} {L : Lay} {U : List ByteArray} (h : SpaceAt w b A L U) {d' : DM Nat} (t : DE.Turned w w' L.mB L.main d' mostKeys (DE.look L.main)) :
    SpaceAt w' b A { L with main := d' } U ∧ Moved w w' b L { L with main := d' } := by
  have hl : ∀ e, liveOf { L with main := d' } e → liveOf L e := fun e ⟨k, hk⟩ => ⟨k, by rw [← t.look]; exact hk⟩
  refine ⟨⟨(h.parts.main_turned t).live hl, ?_, ?_, ?_, h.touched, ?_, ?_, h.small, h.clock, ?_⟩, t.keeps.mono fun r _ hr => .inr (.inl hr), ?_⟩
  · intro k
    show A.get k = (DE.look d' k).map L.rc
    rw [t.look]; exact h.get k
  · intro k
    show DE.look L.late k = (DE.look d' k).filter _
    rw [t.look]; exact h.due k
  · intro k k' e hk hk'
    change DE.look d' k = some e at hk
    change DE.look d' k' = some e at hk'
    rw [t.look] at hk hk'
    exact h.one k k' e hk hk'
  · intro k hk
    change (DE.look d' k).isSome = true ∨ _ at hk
    rw [t.look] at hk
    exact h.univ k hk
  · exact Nat.le_trans (Nat.add_le_add_left (DE.n_mono t.good.ok h.parts.main.ok fun k hk => by rw [t.look] at hk; exact hk) _) h.room
  · intro k hk
    change (DE.look d' k).isSome = true at hk
    rw [t.look] at hk
    exact h.keys k hk
  · rintro r (hr | hr | hr | hr | hr | hr)
    · exact .inl (.inl hr)
    · rcases t.fps r hr with hr | hr
      · exact .inl (.inr (.inl hr))
      · exact .inr hr
    · exact .inl (.inr (.inr (.inl hr)))
    · exact .inl (.inr (.inr (.inr (.inl (hl r hr)))))
    · exact .inl (.inr (.inr (.inr (.inr (.inl hr)))))
    · exact .inl (.inr (.inr (.inr (.inr (.inr hr)))))

/-- Is a deadline past? -/
def AS.past (A : AS) (at_ : Int) : Bool := decide (0 < at_) && decide (at_ ≤ A.now)
/-- What a space is when a key was met. -/
def AS.met (A : AS) (key : ByteArray) : AS :=
  match A.get key with
  | some r => if A.past r.at_ = true then (A.gone key r).stepped 1 key else A
  | none => A

def metEnd (L : Lay) (key : ByteArray) : Ending :=
  match DE.look L.main key with
  | some e => .returned (.tuple #[.pointer (some ⟨e, 0, none⟩), .bool true])
  | none => .returned (.tuple #[.pointer none, .bool false])

set_option maxHeartbeats 1000000 in
theorem met_any (b : Nat) (A : AS) (L : Lay) (U : List ByteArray) (key : ByteArray) (w : World) (h : SpaceAt w b A L U) (hs : key.size ≤ maxLen) :
    Calls Tryz.prog 45 #[.pointer (some ⟨b, 0, none⟩), .string key] w
      fun en w' => ∃ L', SpaceAt w' b (A.met key) L' U ∧ Moved w w' b L L' ∧ en = metEnd L' key := by
  have c7 : w.cell? ⟨b, 7, none⟩ = some (.pointer (some ⟨L.mB, 0, none⟩)) := h.parts.str.cell 7
  have HA := Lib.hid h
  clear h
  go_enter Tryz.func45, Tryz.ntmps45
  go_wp2_with fail
  go_at_call 121
  refine (DE.Get_look _ _ _ _ HA.out.parts.main hs).mono ?_
  rintro en w1 ⟨rfl, d1, t1⟩
  obtain ⟨h1, m1⟩ := Moved.main_same HA.out t1
  have hget := HA.out.get key
  have hl1 : DE.look d1 key = DE.look L.main key := t1.look key
  clear t1 c7
  cases hl : DE.look L.main key with
  | none =>
    have e1 : A.met key = A := by unfold AS.met; rw [hget, hl]; rfl
    have e2 : metEnd { L with main := d1 } key = .returned (.tuple #[.pointer none, .bool false]) := by unfold metEnd; rw [show DE.look ({ L with main := d1 } : Lay).main key = none from hl1.trans hl]
    have H1 := Lib.hid h1
    have M1 := Lib.hid m1
    have E1 := Lib.hid e1
    have E2 := Lib.hid e2
    clear h1 m1 hget hl hl1 e1 e2
    simp only [DE.vOf, Option.isSome_none]
    go_wp2_with fail
    go_ret2
    exact ⟨_, by rw [E1.out]; exact H1.out, M1.out, by rw [E2.out]; rfl⟩
  | some e =>
    rw [hl] at hget
    have hlive : liveOf { L with main := d1 } e := ⟨key, hl1.trans hl⟩
    have hb := h1.parts.ent e hlive
    have c3 : w1.cell? ⟨e, 3, none⟩ = some (.int .i64 (L.rc e).at_) := hb.cell 3
    have H1 := Lib.hid h1
    have M1 := Lib.hid m1
    have HL1 := Lib.hid (hl1.trans hl)
    have HGet := Lib.hid hget
    clear h1 m1 hget hl hl1 hlive hb
    simp only [DE.vOf, DE.encV, Option.isSome_some]
    go_wp2_with fail
    go_at_call 80
    refine (past_any b A { L with main := d1 } _ _ H1.out.parts.str).mono ?_
    rintro en w1' ⟨rfl, rfl⟩
    by_cases hp : A.past (L.rc e).at_ = true
    · have e1 : A.met key = (A.gone key (L.rc e)).stepped 1 key := by unfold AS.met; rw [HGet.out]; exact if_pos hp
      have E1 := Lib.hid e1
      have hp' : (decide (0 < (L.rc e).at_) && decide ((L.rc e).at_ ≤ A.now)) = true := hp
      rw [hp']
      clear e1 hp hp'
      go_wp2_with fail
      go_at_call 85
      refine (expires_any b A { L with main := d1 } U key e _ H1.out HL1.out).mono ?_
      rintro en w2 ⟨rfl, L2, h2, m2, _⟩
      have e2 : metEnd L2 key = .returned (.tuple #[.pointer none, .bool false]) := by
        have := h2.get key
        unfold metEnd
        cases hl : DE.look L2.main key with
        | none => rfl
        | some x => rw [hl] at this; simp [AS.stepped, AS.gone] at this
      have H2 := Lib.hid h2
      have M2 := Lib.hid m2
      have E2 := Lib.hid e2
      clear h2 m2 e2
      go_wp2_with fail
      go_ret2
      exact ⟨_, by rw [E1.out]; exact H2.out, M1.out.trans M2.out, by rw [E2.out]; rfl⟩
    · have e1 : A.met key = A := by unfold AS.met; rw [HGet.out]; exact if_neg hp
      have e2 : metEnd { L with main := d1 } key = .returned (.tuple #[.pointer (some ⟨e, 0, none⟩), .bool true]) := by unfold metEnd; rw [show DE.look ({ L with main := d1 } : Lay).main key = some e from HL1.out]
      have E1 := Lib.hid e1
      have E2 := Lib.hid e2
      have hp' : (decide (0 < (L.rc e).at_) && decide ((L.rc e).at_ ≤ A.now)) = false := by simpa [AS.past] using hp
      rw [hp']
      clear e1 e2 hp hp'
      go_wp2_with fail
      go_ret2
      exact ⟨_, by rw [E1.out]; exact H1.out, M1.out, by rw [E2.out]; rfl⟩

theorem SpaceAt.reent {w w' : World} {b : Nat} {A A' : AS} {L : Lay} {U : List ByteArray} {key : ByteArray} {e : Nat} {r' : Rec} (h : SpaceAt w b A L U) (he : DE.look L.main key = some e)
    (hP : Parts w' b (spaceCells A' L) { L with rc := fun x => if x = e then r' else L.rc x } (liveOf L) A.steps) (hg : ∀ k, A'.get k = if k = key then some r' else A.get k) (ht : A'.touched = A.touched) (hst : A'.steps = A.steps) (hnow : A'.now = A.now)
    (hat : decide (0 < r'.at_) = decide (0 < (L.rc e).at_)) : SpaceAt w' b A' { L with rc := fun x => if x = e then r' else L.rc x } U where
  parts := by rw [hst]; exact hP
  get k := by
    show A'.get k = (DE.look L.main k).map fun x => if x = e then r' else L.rc x
    rw [hg]
    split
    · rename_i hk; rw [hk, he]; simp
    · rename_i hk
      rw [h.get k]
      cases hl : DE.look L.main k with
      | none => rfl
      | some x =>
        have : x ≠ e := fun hx => hk (h.one k key x hl (by rw [hx]; exact he))
        simp [this]
  due k := by
    show DE.look L.late k = (DE.look L.main k).filter fun x => decide (0 < (if x = e then r' else L.rc x).at_)
    rw [h.due k]
    congr 1
    funext x
    split
    · rename_i hx; rw [hx, hat]
    · rfl
  one := h.one
  touched k hk := by rw [ht]; exact h.touched k hk
  univ k hk := by rw [ht] at hk; exact h.univ k hk
  room := by rw [hst]; exact h.room
  small := h.small
  clock := by rw [hnow]; exact h.clock
  keys := h.keys

/-- The next of the uses. -/
def AS.use (A : AS) (key : ByteArray) (r : Rec) : AS :=
  { A with uses := IntKind.u64.wrap (A.uses + 1), get := fun k => if k = key then some { r with stamp := IntKind.u64.wrap (A.uses + 1) } else A.get k }

set_option maxHeartbeats 1000000 in
theorem use_any (b : Nat) (A : AS) (L : Lay) (U : List ByteArray) (key : ByteArray) (e : Nat) (w : World) (h : SpaceAt w b A L U) (he : DE.look L.main key = some e) :
    Calls Tryz.prog 52 #[.pointer (some ⟨b, 0, none⟩), .pointer (some ⟨e, 0, none⟩)] w
      fun en w' => en = .returned (.tuple #[]) ∧ ∃ L', SpaceAt w' b (A.use key (L.rc e)) L' U ∧ Moved w w' b L L' ∧ L'.main = L.main := by
  have c5 : w.cell? ⟨b, 5, none⟩ = some (.int .u64 A.uses) := h.parts.str.cell 5
  have f5 : w.frozen? ⟨b, 5, none⟩ = false := h.parts.str.frozen 5
  have hP1 := h.parts.set_b 5 (.int .u64 (IntKind.u64.wrap (A.uses + 1)))
  have c5' : (w.setCell ⟨b, 5, none⟩ (.int .u64 (IntKind.u64.wrap (A.uses + 1)))).cell? ⟨b, 5, none⟩ = some (.int .u64 (IntKind.u64.wrap (A.uses + 1))) := hP1.str.cell 5
  have c2 : (w.setCell ⟨b, 5, none⟩ (.int .u64 (IntKind.u64.wrap (A.uses + 1)))).cell? ⟨e, 2, none⟩ = some (.int .u64 (L.rc e).stamp) := (hP1.ent e ⟨key, he⟩).cell 2
  have f2 : (w.setCell ⟨b, 5, none⟩ (.int .u64 (IntKind.u64.wrap (A.uses + 1)))).frozen? ⟨e, 2, none⟩ = false := (hP1.ent e ⟨key, he⟩).frozen 2
  have HA := Lib.hid h
  have HE := Lib.hid he
  have HP1 := Lib.hid hP1
  clear h he hP1
  go_enter Tryz.func52, Tryz.ntmps52
  go_wp2_with fail
  go_end0
  refine ⟨rfl, _, HA.out.reent HE.out (r' := { L.rc e with stamp := IntKind.u64.wrap (A.uses + 1) }) (HP1.out.set_e ⟨key, HE.out⟩ 2 _ _ rfl) (fun _ => rfl) rfl rfl rfl rfl, ⟨((Keeps.refl _ w).set _ (fun _ => .inl rfl)).set _ (fun _ => .inr (.inr (.inr (.inl ⟨key, HE.out⟩)))), fun _ h => .inl h⟩, rfl⟩
end Go.Proofs.YtgjpaecpljifpaaGreat

/- A space in memory: expires, use, met. -/
import Derived.Test.YtgjpaecpljifpaaGreatSpA
import Derived.Test.YtgjpaecpljifpaaGreatDictHE
import Derived.Maps.AppendAt
namespace Go.Proofs.YtgjpaecpljifpaaGreat
open Go Go.RowKit Go.Proofs.YtgjpaecpljifpaaGreat Go.Maps Go.WideMaps

theorem infoStep : (Tryz.prog.info? 83).map (fun i => (i.zero, i.size, i.bytes)) = some (some (.agg #[.int .i64 0, .string ByteArray.empty]), 2, 24) := by kernel_rfl

theorem cells_new (w : World) (l : List Value) (t : TypeId) (j : Nat) (u : Value) (h : l[j]? = some u) : (w.alloc (.cells l.toArray t)).cell? ((⟨w.heap.size, 0, none⟩ : Addr).add j) = some u := by
  rw [show (⟨w.heap.size, 0, none⟩ : Addr).add j = ⟨w.heap.size, j, none⟩ by unfold Addr.add; split <;> simp_all]
  rw [(Blk.new w l.toArray t).cell]
  simpa using h

def AS.stepped (A : AS) (k : Int) (key : ByteArray) : AS := { A with steps := A.steps ++ [(k, key)] }
theorem stepCells_snoc (l : List (Int × ByteArray)) (k : Int) (key : ByteArray) : stepCells (l ++ [(k, key)]) = stepCells l ++ [.int .i64 k, .string key] := by simp [stepCells]

theorem Parts.push_step {w w0 w1 : World} {b : Nat} {cs : Array Value} {L : Lay} {Live : Nat → Prop} {st : List (Int × ByteArray)} (h : Parts w b cs L Live st) {o : Obj} (h0 : w.alloc o = w0) {v' : Value} {k : Int} {key : ByteArray}
    (hown : w1.ownsRow 0 83 2 v' (st.length + 1) (stepCells st ++ [.int .i64 k, .string key])) (hg : w0.grownBy w1 L.sv.ownBlock) (hat : v'.ownBlock = L.sv.ownBlock ∨ v'.ownBlock = some w0.heap.size) :
    Parts (w1.setCell ⟨b, 10, none⟩ v') b (cs.setIfInBounds 10 v') { L with sv := v' } Live (st ++ [(k, key)]) ∧ Keeps (fun r => r = b ∨ L.sv.ownBlock = some r) w (w1.setCell ⟨b, 10, none⟩ v') := by
  have hs0 : w0.heap.size = w.heap.size + 1 := by rw [← h0]; simp
  have hbl := h.str.lt
  obtain ⟨e1, e2, e3, e4⟩ := h.ne
  have k1 : Keeps (fun r => L.sv.ownBlock = some r) w w1 := (Keeps.grown (by rw [← h0]; exact (Keeps.refl _ w).alloc o) hg (fun k hk _ => hk))
  have b1 : Blk w1 b cs 100 := k1.blk h.str (fun e => (e4 _ e).1 rfl)
  have k2 : Keeps (fun r => r = b ∨ L.sv.ownBlock = some r) w (w1.setCell ⟨b, 10, none⟩ v') := (k1.mono (fun _ _ e => .inr e)).set _ (fun _ => .inl rfl)
  have hsame : ∀ r, r < w1.heap.size → r ≠ b → (w1.setCell ⟨b, 10, none⟩ v').heap[r]? = w1.heap[r]? := fun r hr hn => ((Keeps.refl (fun r => r = b) w1).set _ (fun _ => rfl)).same r hr hn
  refine ⟨⟨b1.set 10 v', h.main.keeps k2 ?_, h.late.keeps k2 ?_, h.apart, fun x hx => k2.blk (h.ent x hx) ?_, ownsMap_of_heap h.map (k2.same _ h.map.lt ?_), ?_⟩, k2⟩
  · rintro r hr (rfl | e)
    · exact h.not_main.1 hr
    · exact h.not_main.2.2.2 r e hr
  · rintro r hr (rfl | e)
    · exact h.not_late.1 hr
    · exact h.not_late.2.2.2 r e hr
  · rintro (e | e)
    · exact e1 x hx e
    · exact (e4 _ e).2.2 x hx rfl
  · rintro (e | e)
    · exact e2 e.symm
    · exact (e4 _ e).2.1 rfl
  · have : w1.ownsRow 0 83 2 v' (st ++ [(k, key)]).length (stepCells (st ++ [(k, key)])) := by rw [stepCells_snoc]; simpa using hown
    refine ownsRow_of_heap' this fun g e => hsame g (this.lt g e).2 ?_
    rintro rfl
    rcases hat with a | a
    · rw [a] at e; exact (e4 _ e).1 rfl
    · rw [a] at e; injection e with e; omega

theorem SpaceAt.stepped {w w' : World} {b : Nat} {A : AS} {L : Lay} {U : List ByteArray} {k : Int} {key : ByteArray} {v' : Value} (h : SpaceAt w b A L U) (hr : A.steps.length + 1 + L.main.n ≤ U.length)
    (hP : Parts w' b ((spaceCells A L).setIfInBounds 10 v') { L with sv := v' } (liveOf L) (A.steps ++ [(k, key)])) : SpaceAt w' b (A.stepped k key) { L with sv := v' } U where
  parts := hP
  get := h.get
  due := h.due
  one := h.one
  touched := h.touched
  univ := h.univ
  room := by simpa [AS.stepped] using hr
  small := h.small
  clock := h.clock
  keys := h.keys

/-- 's.steps = append(s.steps, ..)', at a space that has room. -/
theorem step_end {w w0 w1 : World} {b : Nat} {A : AS} {L : Lay} {U : List ByteArray} (h : SpaceAt w b A L U) (hr : A.steps.length + 1 + L.main.n ≤ U.length) {o : Obj} (h0 : w.alloc o = w0) {v' : Value} {k : Int} {key : ByteArray}
    (hown : w1.ownsRow 0 83 2 v' (A.steps.length + 1) (stepCells A.steps ++ [.int .i64 k, .string key])) (hg : w0.grownBy w1 L.sv.ownBlock) (hat : v'.ownBlock = L.sv.ownBlock ∨ v'.ownBlock = some w0.heap.size) :
    SpaceAt (w1.setCell ⟨b, 10, none⟩ v') b (A.stepped k key) { L with sv := v' } U ∧ Moved w (w1.setCell ⟨b, 10, none⟩ v') b L { L with sv := v' } := by
  obtain ⟨hP, hk⟩ := h.parts.push_step h0 hown hg hat
  refine ⟨h.stepped hr hP, hk.mono ?_, ?_⟩
  · rintro r _ (rfl | e)
    · exact .inl rfl
    · exact .inr (.inr (.inr (.inr (.inr e))))
  · rintro r (e | e | e | e | e | e)
    · exact .inl (.inl e)
    · exact .inl (.inr (.inl e))
    · exact .inl (.inr (.inr (.inl e)))
    · exact .inl (.inr (.inr (.inr (.inl e))))
    · exact .inl (.inr (.inr (.inr (.inr (.inl e)))))
    · change v'.ownBlock = some r at e
      rcases hat with a | a
      · rw [a] at e; exact .inl (.inr (.inr (.inr (.inr (.inr e)))))
      · rw [a] at e
        injection e with e
        have : w0.heap.size = w.heap.size + 1 := by rw [← h0]; simp
        exact .inr (by omega)

set_option maxHeartbeats 1000000 in
theorem expires_more (b : Nat) (A : AS) (L : Lay) (U : List ByteArray) (key : ByteArray) (e : Nat) (w : World) (h : SpaceAt w b A L U) (he : DE.look L.main key = some e) :
    Calls Tryz.prog 85 #[.pointer (some ⟨b, 0, none⟩), .string key, .pointer (some ⟨e, 0, none⟩)] w
      fun en w' => en = .returned (.tuple #[]) ∧ ∃ L', SpaceAt w' b ((A.gone key (L.rc e)).stepped 1 key) L' U ∧ Moved w w' b L L' ∧ L'.main.n < L.main.n ∧ Lost L L' key := by
  have HA := Lib.hid h
  have HE := Lib.hid he
  clear h he
  go_enter Tryz.func85, Tryz.ntmps85
  go_wp2_with fail
  go_at_call 47
  refine (goes_more b A L U key e w HA.out HE.out).mono ?_
  rintro en w1 ⟨rfl, L1, h1, m1, l1, ll1⟩
  have LL1 := Lib.hid ll1
  clear ll1
  have hr : (A.gone key (L.rc e)).steps.length + 1 + L1.main.n ≤ U.length := by have := HA.out.room; simp only [AS.gone]; omega
  have c10 : w1.cell? ⟨b, 10, none⟩ = some L1.sv := h1.parts.str.cell 10
  obtain ⟨i0, hi, hz0, hz1, hz2⟩ := info_parts infoStep
  have hsm : (A.gone key (L.rc e)).steps.length ≤ 4398046511104 := by have := h1.room; have := h1.small; unfold mostKeys at this; omega
  have H1 := Lib.hid h1
  have M1 := Lib.hid m1
  have L1n := Lib.hid l1
  have HR := Lib.hid hr
  clear h1 m1 l1 hr
  go_wp2_with (at_builtin; refine wpList_append_own_at _ rfl _ _ 42 rfl 0 83 i0 (.agg #[.int .i64 0, .string ByteArray.empty]) 2 24 Tryz.underlying42 hi hz0 hz1 hz2 rfl (by decide) _ _ _ rfl (H1.out.parts.steps.alloc _) ⟨w1.heap.size, 0, none⟩ 1 1 [.int .i64 1, .string key] rfl rfl ?_ ?_ ?_ ?_ (Nat.zero_le _) ?_)
  case refine_1 => exact cells_new _ _ _
  case refine_2 => simp [Value.oneCell']
  case refine_3 => unfold maxLen; omega
  case refine_4 => omega
  intro v' wn hown hgrow _ hat
  obtain ⟨ak, mk, ck, rfl⟩ := DE.ownsRow_slice hown
  obtain ⟨w0, hw0⟩ : ∃ w0, w1.alloc (.cells #[.int .i64 1, .string key] 83) = w0 := ⟨_, rfl⟩
  have hs0 : w0.heap.size = w1.heap.size + 1 := by rw [← hw0]; simp
  rw [hw0] at hgrow
  rw [← hs0] at hat
  have hS := step_end H1.out HR.out hw0 hown hgrow hat
  have kb : Keeps (fun r => L1.sv.ownBlock = some r) w1 wn := Keeps.grown (by rw [← hw0]; exact (Keeps.refl _ w1).alloc _) hgrow (fun k hk _ => hk)
  have bb : Blk wn b (spaceCells (A.gone key (L.rc e)) L1) 100 := kb.blk H1.out.parts.str (fun e => (H1.out.parts.ne.2.2.2 _ e).1 rfl)
  have c10' : wn.cell? ⟨b, 10, none⟩ = some L1.sv := bb.cell 10
  have f10' : wn.frozen? ⟨b, 10, none⟩ = false := bb.frozen 10
  have HS := Lib.hid hS
  clear hS hown hgrow hat bb kb hi hz0 hz1 hz2
  go_wp2_with fail
  go_end0
  exact ⟨rfl, _, HS.out.1, M1.out.trans HS.out.2, L1n.out, ⟨LL1.out.main, LL1.out.late, LL1.out.rc⟩⟩

theorem expires_any (b : Nat) (A : AS) (L : Lay) (U : List ByteArray) (key : ByteArray) (e : Nat) (w : World) (h : SpaceAt w b A L U) (he : DE.look L.main key = some e) :
    Calls Tryz.prog 85 #[.pointer (some ⟨b, 0, none⟩), .string key, .pointer (some ⟨e, 0, none⟩)] w
      fun en w' => en = .returned (.tuple #[]) ∧ ∃ L', SpaceAt w' b ((A.gone key (L.rc e)).stepped 1 key) L' U ∧ Moved w w' b L L' ∧ L'.main.n < L.main.n :=
  (expires_more b A L U key e w h he).mono fun _ _ ⟨h1, L', h2, h3, h4, _⟩ => ⟨h1, L', h2, h3, h4⟩
end Go.Proofs.YtgjpaecpljifpaaGreat

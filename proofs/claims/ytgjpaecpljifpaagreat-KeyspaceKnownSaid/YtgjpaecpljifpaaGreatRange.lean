/- A range over a function whose rounds never leave the loop early: what the iterator owes, what the body owes. -/
import Derived.Test.YtgjpaecpljifpaaGreatHeap
import Derived.RangeFuncOwn
import Derived.RangeFuncBound
namespace Go.Proofs.YtgjpaecpljifpaaGreat
open Go Go.RowKit

/-- What an iterator hands to its rounds: all of xs, in their order; 'prot': blocks of its own, which a round must leave as they are, and so those of 'Need'. -/
def Gives {α : Type} (P : Program) (g : Nat) (lb : Array Value) (encs : α → Array Value) (xs : List α) (Need : Nat → Prop) (Pre : World → Prop) : Prop :=
  ∀ (l : Nat) (W : World) (J : (Nat → Prop) → Nat → World → Prop), Pre W →
    (∀ prot k A B, J prot k A → Keeps prot A B → J prot k B) →
    (∀ prot W', Keeps (fun _ => False) W W' → (∀ r, prot r → W.heap.size ≤ r ∧ r < W'.heap.size) → J prot 0 W') →
    (∀ prot k x W1, xs[k]? = some x → J prot k W1 → W.heap.size ≤ W1.heap.size → (∀ r, prot r → W.heap.size ≤ r ∧ r < W1.heap.size) →
      YieldAt Fence.wide 0 P l (encs x) W1 fun e W' => e = .returned (.bool true) ∧ J prot (k + 1) W' ∧ W1.heap.size ≤ W'.heap.size ∧ ∀ r, prot r ∨ Need r → W'.heap[r]? = W1.heap[r]?) →
    CallsIn Fence.wide 0 P g (#[.func (.yield l) #[] #[]] ++ lb) W fun e W' => (∃ v, e = .returned v) ∧ ∃ prot, (∀ r, prot r → W.heap.size ≤ r ∧ r < W'.heap.size) ∧ W.heap.size ≤ W'.heap.size ∧ J prot xs.length W'

/-- How a round's body ends. -/
def roundEnd (prot Need : Nat → Prop) (I : World → Prop) (W : World) : Exit → Act → World → Prop
  | .normal, _, W' => I W' ∧ W.heap.size ≤ W'.heap.size ∧ ∀ r, prot r ∨ Need r → W'.heap[r]? = W.heap[r]?
  | _, _, _ => False

theorem Keeps.putObj {S : Nat → Prop} {w w' : World} (h : Keeps S w w') {r : Nat} (o : Obj) (hr : r < w.heap.size → S r) : Keeps S w (w'.putObj r o) :=
  ⟨by simpa using h.size, fun k hk hs => (World.putObj_heap_other (fun e => hs (by rw [e]; exact hr (by omega)))).trans (h.same k hk hs), h.os, h.output⟩

theorem wp_range {α : Type} {P : Program} {g : Operand} {ps : Array Tmp} {assign body : Code} {Q : Exit → Act → World → Prop} {a : Act} {w : World} {gf : Nat} {lb : Array Value}
    (hg : a.eval g = .func (.func gf) #[] lb) (eg : ∀ args w, (callFunc gf args).run P w = .ok (.enter gf args) w)
    {encs : α → Array Value} {xs : List α} {Need : Nat → Prop} {Pre : World → Prop} (hgive : Gives P gf lb encs xs Need Pre) (hneed : ∀ r, Need r → r < w.heap.size) (hpre : ∀ W', Keeps (fun _ => False) w W' → Pre W') (hps : ∀ x, (encs x).size = ps.size)
    (I : (Nat → Prop) → Nat → World → Prop) (hI : ∀ prot k A B, I prot k A → Keeps prot A B → I prot k B)
    (h0 : ∀ prot W', (∀ r, prot r → w.heap.size ≤ r) → Keeps (fun _ => False) w W' → I prot 0 W') (a₁ : α → Act)
    (hassign : ∀ (l : Nat) (x : α) (W : World) (K : Act → World → Prop), K (a₁ x) W →
      assign.wpIn (Fence.wide.inRound l) 0 P (Exit.then K (fun _ _ _ => False)) { tmps := (ps.zip (encs x)).foldl (fun t (p, v) => t.setIfInBounds p v) a.tmps, defers := [] } W)
    (hbody : ∀ (l : Nat) (prot : Nat → Prop) (k : Nat) (x : α) (W : World), xs[k]? = some x → I prot k W → (∀ r, prot r → w.heap.size ≤ r ∧ r < W.heap.size) →
      body.wpIn (Fence.wide.inRound l) 0 P (roundEnd prot Need (I prot (k + 1)) W) (a₁ x) W)
    (hdone : ∀ (prot : Nat → Prop) (D : Nat) (W : World), (∀ r, prot r → w.heap.size ≤ r ∧ r < W.heap.size) → prot D → I prot xs.length W → W.heap[D]? = some (.deferred (some [])) →
      Q .normal { a with defers := { target := .collected D, args := #[] } :: a.defers } W) :
    (Code.rangeFunc g ps assign body).wpIn Fence.wide 0 P Q a w := by
  refine wpIn_rangeFunc ?_
  intro fn hfn
  show ∃ l mark w₁ d w₁' f args w₂, (Instr.enterLoop fn a.tmps ps assign body none).run P w = .ok (l, mark) w₁ ∧ _
  obtain ⟨rec, hrec⟩ : ∃ rec : LoopState → Option Code → Loop, rec = fun st pe => { state := st, pending := pe, fn, tmps := a.tmps, params := ps, assign, body, defers := w.heap.size } := ⟨_, rfl⟩
  obtain ⟨W1, hW1⟩ : ∃ W1, (w.alloc (.deferred (some []))).alloc (.loop (rec .ready none)) = W1 := ⟨_, rfl⟩
  have hL1 : W1.heap[w.heap.size + 1]? = some (.loop (rec .ready none)) := by
    rw [← hW1]; have := World.alloc_heap_new (w.alloc (.deferred (some []))) (.loop (rec .ready none)); rwa [World.size_alloc] at this
  have hK1 : W1.heap[w.heap.size]? = some (.deferred (some [])) := by
    rw [← hW1]; exact (Below.heap_alloc _ _ _ (by simp)).trans (World.alloc_heap_new w _)
  have hk1 : Keeps (fun _ => False) w W1 := by rw [← hW1]; exact ((Keeps.refl _ w).alloc _).alloc _
  have hs1 : W1.heap.size = w.heap.size + 2 := by rw [← hW1]; simp
  -- the body's blocks: the iterator's, the record, the block for deferred calls
  obtain ⟨pr, hpr⟩ : ∃ pr : (Nat → Prop) → Nat → Prop, pr = fun prot r => prot r ∨ r = w.heap.size ∨ r = w.heap.size + 1 := ⟨_, rfl⟩
  refine ⟨w.heap.size + 1, [{ target := .collected w.heap.size, args := #[] }], W1, { target := .fn (.func gf) lb, args := #[.func (.yield (w.heap.size + 1)) #[] #[]] }, W1, gf,
    #[.func (.yield (w.heap.size + 1)) #[] #[]] ++ lb, W1, ?_, ?_, fun _ _ => trivial, ?_, fun h => (by cases h), ?_⟩
  · rw [← hW1, hrec]; exact run_enterLoop_outer _ _ _ _ _
  · simp only [resolve, hg]
    simp [go_sem]
  · simp [invoke, go_sem, eg]
  · refine (hgive (w.heap.size + 1) W1
      (fun prot k W => I (pr prot) k W ∧ W.heap[w.heap.size + 1]? = some (.loop (rec .ready none)) ∧ W.heap[w.heap.size]? = some (.deferred (some [])) ∧ (∀ r, prot r → w.heap.size + 2 ≤ r))
      (hpre W1 hk1) ?_ ?_ ?_).mono ?_
    · rintro prot k A B ⟨hi, hl, hk, hp⟩ hAB
      have hlt : w.heap.size + 1 < A.heap.size := (Array.getElem?_eq_some_iff.1 hl).1
      refine ⟨hI _ _ A B hi (hAB.mono (fun r _ h => by rw [hpr]; exact .inl h)), (hAB.same _ hlt (fun h => by have := hp _ h; omega)).trans hl, (hAB.same _ (by omega) (fun h => by have := hp _ h; omega)).trans hk, hp⟩
    · intro prot W' hW' hp
      have hlt : w.heap.size + 1 < W1.heap.size := by omega
      refine ⟨h0 _ _ ?_ (hk1.trans hW'), (hW'.same _ hlt id).trans hL1, (hW'.same _ (by omega) id).trans hK1, fun r hr => by have := hp r hr; omega⟩
      intro r hr
      rw [hpr] at hr
      rcases hr with hr | rfl | rfl
      · have := hp r hr; omega
      · omega
      · omega
    · rintro prot k x W hx ⟨hi, hl, hk, hp⟩ hsz hpb
      have hlt : w.heap.size + 1 < W.heap.size := (Array.getElem?_eq_some_iff.1 hl).1
      have hy := run_yield (P := P) (args := encs x) hl (by rw [hrec]; exact hps x)
      rw [hrec] at hy
      refine ⟨fn, _, assign, body, hy, roundIn_of_wpIn hfn (hassign _ x W _ ⟨_, run_beginRound hl (by rw [hrec]), ?_⟩)⟩
      obtain ⟨Wb, hWb⟩ : ∃ Wb, W.putObj (w.heap.size + 1) (.loop { rec .ready none with state := .busy }) = Wb := ⟨_, rfl⟩
      have hl2 : Wb.heap[w.heap.size + 1]? = some (.loop { rec .ready none with state := .busy }) := by rw [← hWb]; exact World.putObj_heap_same hlt
      have hk2 : Wb.heap[w.heap.size]? = some (.deferred (some [])) := by rw [← hWb]; exact (World.putObj_heap_other (by omega)).trans hk
      have hsb : Wb.heap.size = W.heap.size := by rw [← hWb]; simp
      have hkb : Keeps (pr prot) W Wb := by rw [← hWb]; exact (Keeps.refl _ W).putObj _ (fun _ => by rw [hpr]; exact .inr (.inr rfl))
      have hpb2 : ∀ r, pr prot r → w.heap.size ≤ r ∧ r < Wb.heap.size := by
        intro r hr
        rw [hpr] at hr
        rcases hr with hr | rfl | rfl
        · have := hp r hr; have := hpb r hr; omega
        · omega
        · omega
      rw [hWb]
      refine wpIn_mono (hbody _ (pr prot) k x Wb hx (hI _ _ _ _ hi hkb) hpb2) ?_
      rintro e a3 W3 he
      cases e with
      | normal =>
        obtain ⟨hi3, hs3, hsame⟩ := he
        have hl3 : W3.heap[w.heap.size + 1]? = some (.loop { rec .ready none with state := .busy }) := (hsame _ (.inl (by rw [hpr]; exact .inr (.inr rfl)))).trans hl2
        have hk3 : W3.heap[w.heap.size]? = some (.deferred (some [])) := (hsame _ (.inl (by rw [hpr]; exact .inr (.inl rfl)))).trans hk2
        have hr := run_endRound (P := P) none hl3
        rw [hrec] at hr
        have hlt3 : w.heap.size + 1 < W3.heap.size := (Array.getElem?_eq_some_iff.1 hl3).1
        refine ⟨_, _, hr, rfl, ⟨hI _ _ W3 _ hi3 ((Keeps.refl _ W3).putObj _ (fun _ => by rw [hpr]; exact .inr (.inr rfl))), ?_, ?_, hp⟩, by rw [World.putObj_size]; omega, ?_⟩
        · rw [World.putObj_heap_same hlt3, hrec]; rfl
        · exact (World.putObj_heap_other (by omega)).trans hk3
        · intro r hr'
          have hne : r ≠ w.heap.size + 1 := by
            rcases hr' with h | h
            · have := hp r h; omega
            · have := hneed r h; omega
          rw [World.putObj_heap_other hne]
          refine (hsame r (hr'.imp (fun h => by rw [hpr]; exact .inl h) id)).trans ?_
          rw [← hWb]; exact World.putObj_heap_other hne
      | ret => exact he.elim
      | exit id => exact he.elim
      | goto t => exact he.elim
      | panic ch => exact he.elim
      | outgrown => exact he.elim
    · rintro e W2 ⟨⟨v, rfl⟩, prot, hpb, hsz, hi, hl, hk, hp⟩
      have hlt : w.heap.size + 1 < W2.heap.size := (Array.getElem?_eq_some_iff.1 hl).1
      refine ⟨none, _, by have := run_endLoop (P := P) hl (by rw [hrec]; simp); rw [hrec] at this; exact this, ?_⟩
      refine hdone (pr prot) w.heap.size _ ?_ (by rw [hpr]; exact .inr (.inl rfl)) (hI _ _ W2 _ hi ((Keeps.refl _ W2).putObj _ (fun _ => by rw [hpr]; exact .inr (.inr rfl)))) ((World.putObj_heap_other (by omega)).trans hk)
      intro r hr
      rw [World.putObj_size]
      rw [hpr] at hr
      rcases hr with hr | rfl | rfl
      · have := hp r hr; have := hpb r hr; omega
      · omega
      · omega
end Go.Proofs.YtgjpaecpljifpaaGreat

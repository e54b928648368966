/- The dict as it lies, and its laws, in plain Lean. -/
namespace Go.Proofs.YtgjpaecpljifpaaGreat
/-- An entry of a chain: its block, its key, its value. -/
structure Ent (V : Type) where
  blk : Nat
  key : ByteArray
  val : V

abbrev Tab (V : Type) := List (List (Ent V))

/-- A dict as it lies. -/
structure DM (V : Type) where
  seed : Int
  old : Tab V
  young : Tab V
  oldB : Nat
  youngB : Nat
  at_ : Nat
  n : Nat

variable {V : Type}
section
variable (hash : ByteArray → Nat)

def hang (t : Tab V) (e : Ent V) : Tab V := t.set (hash e.key % t.length) (e :: t.getD (hash e.key % t.length) [])

def pass (t : Tab V) : Nat → Nat → Nat
  | 0, a => a
  | k + 1, a => if a < t.length ∧ t.getD a [] = [] then pass t k (a + 1) else a

/-- Is it moving? -/
def DM.mv (d : DM V) : Prop := d.young ≠ []

/-- The chain at 'at', moved. -/
def DM.moved (d : DM V) : DM V :=
  let a := pass d.old 10 d.at_
  if d.old.getD a [] = [] then { d with at_ := a }
  else { d with old := d.old.set a [], young := (d.old.getD a []).foldl (hang hash) d.young, at_ := a + 1 }

def DM.turned (d : DM V) : DM V :=
  if d.at_ = d.old.length then { d with old := d.young, oldB := d.youngB, young := [], at_ := 0 } else d

def DM.step (d : DM V) : DM V := if d.young = [] then d else (d.moved hash).turned

def link (t : Tab V) (key : ByteArray) : Option (Ent V) := (t.getD (hash key % t.length) []).find? fun e => decide (e.key = key)

def DM.find (d : DM V) (key : ByteArray) : Option (Ent V) :=
  match link hash d.old key with
  | some e => some e
  | none => link hash d.young key

def DM.get (d : DM V) (key : ByteArray) : DM V × Option V := (d.step hash, ((d.step hash).find hash key).map (·.val))

/-- A value laid under a key that is there. -/
def relay (t : Tab V) (key : ByteArray) (v : V) : Tab V :=
  t.map fun c => c.map fun e => if e.key = key then { e with val := v } else e

def DM.room (d : DM V) (tb : Nat) : DM V :=
  if d.old = [] then { d with old := List.replicate 4 [], oldB := tb }
  else if d.young = [] ∧ d.old.length ≤ d.n then { d with young := List.replicate (2 * d.old.length) [], youngB := tb }
  else d

def DM.add (d : DM V) (e : Ent V) : DM V :=
  if d.young = [] then { d with old := hang hash d.old e, n := d.n + 1 } else { d with young := hang hash d.young e, n := d.n + 1 }

def DM.set (d : DM V) (key : ByteArray) (v : V) (blk tb : Nat) : DM V :=
  match (d.step hash).find hash key with
  | some _ => { d.step hash with old := relay (d.step hash).old key v, young := relay (d.step hash).young key v }
  | none => ((d.step hash).room tb).add hash ⟨blk, key, v⟩

def without (t : Tab V) (key : ByteArray) : Tab V := t.map fun c => c.filter fun e => e.key ≠ key

def grow : Nat → Nat → Nat → Nat
  | 0, s, _ => s
  | k + 1, s, n => if s < n then grow k (s * 2) n else s

def DM.shrink (d : DM V) (tb : Nat) : DM V :=
  if d.young = [] ∧ 4 < d.old.length ∧ 8 * d.n ≤ d.old.length then { d with young := List.replicate (grow 64 4 d.n) [], youngB := tb } else d

def DM.del (d : DM V) (key : ByteArray) (tb : Nat) : DM V × Bool :=
  match (d.step hash).find hash key with
  | none => (d.step hash, false)
  | some _ => (({ d.step hash with old := without (d.step hash).old key, young := without (d.step hash).young key, n := (d.step hash).n - 1 } : DM V).shrink tb, true)

def DM.clear (d : DM V) : DM V := { d with old := [], young := [], at_ := 0, n := 0 }
end

/-- The entries of a table, chain by chain. -/
def ents (t : Tab V) : List (Ent V) := t.flatten

def DM.all (d : DM V) : List (Ent V) := ents (d.old.drop d.at_) ++ ents d.young

/-- A table fits its hash. -/
structure TabOk (hash : ByteArray → Nat) (t : Tab V) : Prop where
  pow : t = [] ∨ ∃ k, 2 ≤ k ∧ t.length = 2 ^ k
  slot : ∀ (i : Nat) (c : List (Ent V)) (e : Ent V), t[i]? = some c → e ∈ c → hash e.key % t.length = i
  once : ∀ (i : Nat) (c : List (Ent V)), t[i]? = some c → (c.map fun e => e.key).Nodup

/-- A dict lies well: at most 'cap' keys were in it ever. -/
structure DM.Ok (hash : ByteArray → Nat) (cap : Nat) (d : DM V) : Prop where
  old : TabOk hash d.old
  young : TabOk hash d.young
  apart : ∀ e ∈ ents d.old, ∀ e' ∈ ents d.young, e.key ≠ e'.key
  idle : d.young = [] → d.at_ = 0
  some_ : d.old = [] → d.young = []
  front : ∀ (i : Nat) (c : List (Ent V)), i < d.at_ → d.old[i]? = some c → c = []
  upto : d.young ≠ [] → d.at_ < d.old.length
  count : d.n = (ents d.old).length + (ents d.young).length
  capped : d.n ≤ cap
  oldLen : d.old.length ≤ 2 * cap + 4
  youngLen : d.young.length ≤ 2 * cap + 4


theorem ents_mem {t : Tab V} {e : Ent V} : e ∈ ents t ↔ ∃ (i : Nat) (c : List (Ent V)), t[i]? = some c ∧ e ∈ c := by
  unfold ents
  rw [List.mem_flatten]
  constructor
  · rintro ⟨c, hc, he⟩
    obtain ⟨i, hi⟩ := List.mem_iff_getElem?.1 hc
    exact ⟨i, c, hi, he⟩
  · rintro ⟨i, c, hi, he⟩
    exact ⟨c, List.mem_of_getElem? hi, he⟩

theorem ents_set_cons : ∀ (t : Tab V) (i : Nat) (e : Ent V), i < t.length → (ents (t.set i (e :: t.getD i []))).Perm (e :: ents t)
  | [], i, e, h => by simp at h
  | c :: t, 0, e, _ => by simp [ents]
  | c :: t, i + 1, e, h => by
    have ih := ents_set_cons t i e (by simpa using h)
    simp only [ents, List.set_cons_succ, List.flatten_cons, List.getD_cons_succ] at ih ⊢
    exact (List.Perm.append_left c ih).trans List.perm_middle

theorem ents_set_nil : ∀ (t : Tab V) (i : Nat), (ents t).Perm (t.getD i [] ++ ents (t.set i []))
  | [], i => by simp [ents]
  | c :: t, 0 => by simp [ents]
  | c :: t, i + 1 => by
    have ih := ents_set_nil t i
    simp only [ents, List.set_cons_succ, List.flatten_cons, List.getD_cons_succ] at ih ⊢
    refine (List.Perm.append_left c ih).trans ?_
    rw [← List.append_assoc, ← List.append_assoc]
    exact List.Perm.append_right _ List.perm_append_comm

theorem getD_eq {t : Tab V} {i : Nat} (h : i < t.length) : t[i]? = some (t.getD i []) := by
  rw [List.getD_eq_getElem?_getD, List.getElem?_eq_getElem h]; rfl

section
variable {hash : ByteArray → Nat}

theorem hang_length (t : Tab V) (e : Ent V) : (hang hash t e).length = t.length := by simp [hang]

theorem hang_ents {t : Tab V} (ht : t ≠ []) (e : Ent V) : (ents (hang hash t e)).Perm (e :: ents t) :=
  ents_set_cons t _ e (Nat.mod_lt _ (List.length_pos_iff.2 ht))

theorem hang_ok {t : Tab V} (h : TabOk hash t) (ht : t ≠ []) {e : Ent V} (hn : ∀ x ∈ ents t, x.key ≠ e.key) : TabOk hash (hang hash t e) := by
  have hlt : hash e.key % t.length < t.length := Nat.mod_lt _ (List.length_pos_iff.2 ht)
  refine ⟨?_, ?_, ?_⟩
  · rcases h.pow with h0 | ⟨k, hk, hl⟩
    · exact absurd h0 ht
    · exact .inr ⟨k, hk, by rw [hang_length]; exact hl⟩
  · intro i c x hc hx
    rw [hang_length]
    unfold hang at hc
    rw [List.getElem?_set] at hc
    split at hc
    · rename_i hi
      subst hi
      cases hc
      rcases List.mem_cons.1 hx with rfl | hx
      · rfl
      · exact h.slot _ _ _ (getD_eq hlt) hx
    · exact h.slot _ _ _ hc hx
  · intro i c hc
    unfold hang at hc
    rw [List.getElem?_set] at hc
    split at hc
    · rename_i hi
      subst hi
      cases hc
      rw [List.map_cons, List.nodup_cons]
      refine ⟨?_, h.once _ _ (getD_eq hlt)⟩
      rw [List.mem_map]
      rintro ⟨x, hx, hk⟩
      exact hn x (ents_mem.2 ⟨_, _, getD_eq hlt, hx⟩) hk
    · exact h.once _ _ hc

theorem hangs_ok : ∀ (c : List (Ent V)) {t : Tab V}, TabOk hash t → t ≠ [] → (c.map fun e => e.key).Nodup → (∀ x ∈ ents t, ∀ e ∈ c, x.key ≠ e.key) →
    TabOk hash (c.foldl (hang hash) t) ∧ (c.foldl (hang hash) t).length = t.length ∧ (ents (c.foldl (hang hash) t)).Perm (c ++ ents t)
  | [], t, h, _, _, _ => ⟨h, rfl, List.Perm.refl _⟩
  | e :: c, t, h, ht, hnd, hap => by
    rw [List.map_cons, List.nodup_cons] at hnd
    have h1 := hang_ok h ht (e := e) (fun x hx => hap x hx e List.mem_cons_self)
    have ht1 : hang hash t e ≠ [] := by
      intro h0; have := hang_length (hash := hash) t e; rw [h0] at this; exact ht (List.length_eq_zero_iff.1 this.symm)
    have hp := hang_ents (hash := hash) ht e
    obtain ⟨a, b, p⟩ := hangs_ok c h1 ht1 hnd.2 (fun x hx y hy => by
      rcases List.mem_cons.1 (hp.mem_iff.1 hx) with rfl | hx
      · exact fun hk => hnd.1 (List.mem_map.2 ⟨y, hy, hk.symm⟩)
      · exact hap x hx y (List.mem_cons_of_mem _ hy))
    refine ⟨a, b.trans (hang_length _ _), p.trans ?_⟩
    exact (List.Perm.append_left c hp).trans List.perm_middle

theorem set_nil_ok {t : Tab V} (h : TabOk hash t) (i : Nat) : TabOk hash (t.set i []) := by
  refine ⟨?_, ?_, ?_⟩
  · rcases h.pow with h0 | ⟨k, hk, hl⟩
    · exact .inl (by rw [h0]; rfl)
    · exact .inr ⟨k, hk, by rw [List.length_set]; exact hl⟩
  · intro j c x hc hx
    rw [List.length_set]
    rw [List.getElem?_set] at hc
    split at hc
    · split at hc
      · cases hc; cases hx
      · cases hc
    · exact h.slot _ _ _ hc hx
  · intro j c hc
    rw [List.getElem?_set] at hc
    split at hc
    · split at hc
      · cases hc; exact List.nodup_nil
      · cases hc
    · exact h.once _ _ hc

theorem pass_spec (t : Tab V) : ∀ (k a : Nat), a ≤ pass t k a ∧ (∀ i, a ≤ i → i < pass t k a → i < t.length ∧ t.getD i [] = []) ∧ (a ≤ t.length → pass t k a ≤ t.length)
  | 0, a => ⟨Nat.le_refl _, fun i h1 h2 => by simp only [pass] at h2; omega, id⟩
  | k + 1, a => by
    unfold pass
    split
    · rename_i h
      obtain ⟨p1, p2, p3⟩ := pass_spec t k (a + 1)
      refine ⟨by omega, fun i h1 h2 => ?_, fun _ => p3 (by omega)⟩
      by_cases hi : i = a
      · subst hi; exact h
      · exact p2 i (by omega) h2
    · exact ⟨Nat.le_refl _, fun i h1 h2 => by omega, id⟩

def DM.ents (d : DM V) : List (Ent V) := Go.Proofs.YtgjpaecpljifpaaGreat.ents d.old ++ Go.Proofs.YtgjpaecpljifpaaGreat.ents d.young

theorem nodup_map_of_perm {l l' : List (Ent V)} (h : l.Perm l') (hn : (l.map fun e => e.key).Nodup) : (l'.map fun e => e.key).Nodup :=
  (h.map _).nodup_iff.1 hn

/-- What a moving dict is in the midst of a step: as Ok, but that 'at' may stand at old's end. -/
structure DM.Mid (hash : ByteArray → Nat) (cap : Nat) (d : DM V) : Prop where
  old : TabOk hash d.old
  young : TabOk hash d.young
  apart : ∀ e ∈ Go.Proofs.YtgjpaecpljifpaaGreat.ents d.old, ∀ e' ∈ Go.Proofs.YtgjpaecpljifpaaGreat.ents d.young, e.key ≠ e'.key
  mv : d.young ≠ []
  some_ : d.old ≠ []
  front : ∀ (i : Nat) (c : List (Ent V)), i < d.at_ → d.old[i]? = some c → c = []
  upto : d.at_ ≤ d.old.length
  count : d.n = (Go.Proofs.YtgjpaecpljifpaaGreat.ents d.old).length + (Go.Proofs.YtgjpaecpljifpaaGreat.ents d.young).length
  capped : d.n ≤ cap
  oldLen : d.old.length ≤ 2 * cap + 4
  youngLen : d.young.length ≤ 2 * cap + 4

theorem DM.Ok.mid {cap : Nat} {d : DM V} (h : d.Ok hash cap) (hm : d.young ≠ []) : d.Mid hash cap :=
  ⟨h.old, h.young, h.apart, hm, fun h0 => hm (h.some_ h0), h.front, Nat.le_of_lt (h.upto hm), h.count, h.capped, h.oldLen, h.youngLen⟩

theorem chain_nodup_of {t : Tab V} (h : TabOk hash t) (i : Nat) : ((t.getD i []).map fun e => e.key).Nodup := by
  by_cases hi : i < t.length
  · exact h.once _ _ (getD_eq hi)
  · rw [List.getD_eq_getElem?_getD, List.getElem?_eq_none (by omega)]; exact List.nodup_nil

theorem mem_of_getD {t : Tab V} {i : Nat} {e : Ent V} (h : e ∈ t.getD i []) : e ∈ ents t := by
  by_cases hi : i < t.length
  · exact ents_mem.2 ⟨i, _, getD_eq hi, h⟩
  · rw [List.getD_eq_getElem?_getD, List.getElem?_eq_none (by omega)] at h; cases h

theorem moved_mid {cap : Nat} {d : DM V} (h : d.Mid hash cap) : (d.moved hash).Mid hash cap ∧ (d.moved hash).ents.Perm d.ents := by
  obtain ⟨p1, p2, p3⟩ := pass_spec d.old 10 d.at_
  have p3 := p3 h.upto
  have hfront : ∀ (i : Nat) (c : List (Ent V)), i < pass d.old 10 d.at_ → d.old[i]? = some c → c = [] := by
    intro i c hi hc
    by_cases hlt : i < d.at_
    · exact h.front i c hlt hc
    · have := (p2 i (by omega) hi)
      rw [getD_eq this.1] at hc
      rw [this.2] at hc
      cases hc; rfl
  unfold DM.moved
  dsimp only
  split
  · exact ⟨⟨h.old, h.young, h.apart, h.mv, h.some_, hfront, p3, h.count, h.capped, h.oldLen, h.youngLen⟩, List.Perm.refl _⟩
  · rename_i hne
    have hlt : pass d.old 10 d.at_ < d.old.length := by
      apply Nat.lt_of_not_le
      intro hge
      exact hne (by rw [List.getD_eq_getElem?_getD, List.getElem?_eq_none (by omega)]; rfl)
    obtain ⟨a, b, p⟩ := hangs_ok (d.old.getD (pass d.old 10 d.at_) []) h.young h.mv (chain_nodup_of h.old _) (fun x hx e he => fun hk => h.apart e (mem_of_getD he) x hx hk.symm)
    have hs := ents_set_nil d.old (pass d.old 10 d.at_)
    have hperm : (ents (d.old.set (pass d.old 10 d.at_) []) ++ ents ((d.old.getD (pass d.old 10 d.at_) []).foldl (hang hash) d.young)).Perm (ents d.old ++ ents d.young) := by
      refine (List.Perm.append_left _ p).trans ?_
      rw [← List.append_assoc]
      exact List.Perm.append_right _ (List.perm_append_comm.trans hs.symm)
    have hlen := hperm.length_eq
    simp only [List.length_append] at hlen
    refine ⟨⟨set_nil_ok h.old _, a, ?_, ?_, ?_, ?_, ?_, ?_, h.capped, ?_, ?_⟩, hperm⟩
    · intro e he e' he'
      have he1 : e ∈ ents d.old := hs.mem_iff.2 (List.mem_append_right _ he)
      rcases List.mem_append.1 (p.mem_iff.1 he') with hc | hy
      · -- both in old: by the chain's keys
        have hi1 := ents_mem.1 he
        obtain ⟨j, c, hj, hec⟩ := hi1
        rw [List.getElem?_set] at hj
        split at hj
        · cases hj; cases hec
        · rename_i hne'
          intro hk
          have s1 := h.old.slot _ _ _ hj hec
          have s2 := h.old.slot _ _ _ (getD_eq hlt) hc
          rw [hk] at s1
          exact hne' (s2.symm.trans s1)
      · exact h.apart e he1 e' hy
    · intro h0
      dsimp only at h0
      exact h.mv (List.length_eq_zero_iff.1 (b.symm.trans (by rw [h0]; rfl)))
    · intro h0
      dsimp only at h0
      have : (d.old.set (pass d.old 10 d.at_) []).length = 0 := by rw [h0]; rfl
      rw [List.length_set] at this
      omega
    · intro i c hi hc
      dsimp only at hi hc
      rw [List.getElem?_set] at hc
      split at hc
      · cases hc; rfl
      · exact hfront i c (by omega) hc
    · dsimp only; rw [List.length_set]; omega
    · dsimp only; rw [h.count]; omega
    · dsimp only; rw [List.length_set]; exact h.oldLen
    · dsimp only; rw [b]; exact h.youngLen

theorem ents_nil_of_front {t : Tab V} (h : ∀ (i : Nat) (c : List (Ent V)), i < t.length → t[i]? = some c → c = []) : ents t = [] := by
  unfold ents
  rw [List.flatten_eq_nil_iff]
  intro c hc
  obtain ⟨i, hi⟩ := List.mem_iff_getElem?.1 hc
  exact h i c (List.getElem?_eq_some_iff.1 hi).1 hi

theorem turned_ok {cap : Nat} {d : DM V} (h : d.Mid hash cap) : d.turned.Ok hash cap ∧ d.turned.ents = d.ents := by
  unfold DM.turned
  split
  · rename_i hat
    have hnil : ents d.old = [] := ents_nil_of_front (fun i c hi hc => h.front i c (by omega) hc)
    refine ⟨⟨h.young, ⟨.inl rfl, ?_, ?_⟩, ?_, fun _ => rfl, fun h0 => absurd h0 h.mv, ?_, fun h0 => absurd rfl h0, ?_, h.capped, h.youngLen, by simp⟩, ?_⟩
    · intro i c e hc; simp at hc
    · intro i c hc; simp at hc
    · intro e _ e' he'; simp [ents] at he'
    · intro i c hi; exact absurd hi (Nat.not_lt_zero _)
    · dsimp only; rw [h.count, hnil]; simp [ents]
    · simp only [DM.ents, hnil]; simp [ents]
  · rename_i hat
    exact ⟨⟨h.old, h.young, h.apart, fun h0 => absurd h0 h.mv, fun h0 => absurd h0 h.some_, h.front, fun _ => by have := h.upto; omega, h.count, h.capped, h.oldLen, h.youngLen⟩, rfl⟩

theorem step_ok {cap : Nat} {d : DM V} (h : d.Ok hash cap) : (d.step hash).Ok hash cap ∧ (d.step hash).ents.Perm d.ents := by
  unfold DM.step
  split
  · exact ⟨h, List.Perm.refl _⟩
  · rename_i hm
    obtain ⟨a, p⟩ := moved_mid (h.mid hm)
    obtain ⟨b, q⟩ := turned_ok a
    exact ⟨b, by rw [q]; exact p⟩

theorem flat_nodup (g : Ent V → Nat) (hg : ∀ e e' : Ent V, e.key = e'.key → g e = g e') : ∀ (t : Tab V) (o : Nat), (∀ (i : Nat) (c : List (Ent V)) (e : Ent V), t[i]? = some c → e ∈ c → g e = o + i) →
    (∀ (i : Nat) (c : List (Ent V)), t[i]? = some c → (c.map fun e => e.key).Nodup) → ((ents t).map fun e => e.key).Nodup
  | [], _, _, _ => by simp [ents]
  | c :: t, o, hs, hn => by
    have ih := flat_nodup g hg t (o + 1) (fun i c' e hc he => by rw [hs (i + 1) c' e (by simpa using hc) he]; omega) (fun i c' hc => hn (i + 1) c' (by simpa using hc))
    simp only [ents, List.flatten_cons, List.map_append]
    rw [List.nodup_append]
    refine ⟨hn 0 c rfl, ih, ?_⟩
    intro a ha b hb
    obtain ⟨x, hx, rfl⟩ := List.mem_map.1 ha
    obtain ⟨y, hy, rfl⟩ := List.mem_map.1 hb
    intro hk
    obtain ⟨i, c', hc', hyc⟩ := ents_mem.1 hy
    have h1 := hs 0 c x rfl hx
    have h2 := hs (i + 1) c' y (by simpa using hc') hyc
    have := hg x y hk
    omega

theorem tab_nodup {t : Tab V} (h : TabOk hash t) : ((ents t).map fun e => e.key).Nodup :=
  flat_nodup (fun e => hash e.key % t.length) (fun e e' hk => by rw [hk]) t 0 (fun i c e hc he => by rw [h.slot i c e hc he]; omega) h.once

theorem ok_nodup {cap : Nat} {d : DM V} (h : d.Ok hash cap) : (d.ents.map fun e => e.key).Nodup := by
  simp only [DM.ents, List.map_append]
  rw [List.nodup_append]
  refine ⟨tab_nodup h.old, tab_nodup h.young, ?_⟩
  intro a ha b hb
  obtain ⟨x, hx, rfl⟩ := List.mem_map.1 ha
  obtain ⟨y, hy, rfl⟩ := List.mem_map.1 hb
  exact h.apart x hx y hy

theorem nodup_eq : ∀ {l : List (Ent V)}, (l.map fun e => e.key).Nodup → ∀ {e e' : Ent V}, e ∈ l → e' ∈ l → e.key = e'.key → e = e'
  | [], _, e, _, he, _, _ => by cases he
  | x :: l, hn, e, e', he, he', hk => by
    rw [List.map_cons, List.nodup_cons] at hn
    rcases List.mem_cons.1 he with h1 | h1
    · rcases List.mem_cons.1 he' with h2 | h2
      · rw [h1, h2]
      · exact absurd (List.mem_map.2 ⟨e', h2, by rw [← hk, h1]⟩) hn.1
    · rcases List.mem_cons.1 he' with h2 | h2
      · exact absurd (List.mem_map.2 ⟨e, h1, by rw [hk, h2]⟩) hn.1
      · exact nodup_eq hn.2 h1 h2 hk

theorem ok_uniq {cap : Nat} {d : DM V} (h : d.Ok hash cap) {e e' : Ent V} (he : e ∈ d.ents) (he' : e' ∈ d.ents) (hk : e.key = e'.key) : e = e' :=
  nodup_eq (ok_nodup h) he he' hk

theorem link_some {t : Tab V} {key : ByteArray} {e : Ent V} (h : link hash t key = some e) : e ∈ ents t ∧ e.key = key := by
  unfold link at h
  exact ⟨mem_of_getD (List.mem_of_find?_eq_some h), by have := List.find?_some h; exact of_decide_eq_true this⟩

theorem link_none {t : Tab V} (ht : TabOk hash t) {key : ByteArray} (h : link hash t key = none) : ∀ e ∈ ents t, e.key ≠ key := by
  intro e he hk
  obtain ⟨i, c, hc, hec⟩ := ents_mem.1 he
  have hs := ht.slot i c e hc hec
  unfold link at h
  rw [← hk, hs, List.getD_eq_getElem?_getD, hc] at h
  have := List.find?_eq_none.1 h e (by simpa using hec)
  simp at this

theorem find_some {d : DM V} {key : ByteArray} {e : Ent V} (h : d.find hash key = some e) : e ∈ d.ents ∧ e.key = key := by
  unfold DM.find at h
  split at h
  · rename_i e' h1
    cases h
    exact ⟨List.mem_append_left _ (link_some h1).1, (link_some h1).2⟩
  · exact ⟨List.mem_append_right _ (link_some h).1, (link_some h).2⟩

theorem find_none {cap : Nat} {d : DM V} (hd : d.Ok hash cap) {key : ByteArray} (h : d.find hash key = none) : ∀ e ∈ d.ents, e.key ≠ key := by
  unfold DM.find at h
  split at h
  · cases h
  · rename_i h1
    intro e he
    rcases List.mem_append.1 he with he | he
    · exact link_none hd.old h1 e he
    · exact link_none hd.young h e he

theorem find_of_mem {cap : Nat} {d : DM V} (hd : d.Ok hash cap) {e : Ent V} (he : e ∈ d.ents) : d.find hash e.key = some e := by
  cases h : d.find hash e.key with
  | none => exact absurd rfl (find_none hd h e he)
  | some e' =>
    obtain ⟨h1, h2⟩ := find_some h
    rw [ok_uniq hd h1 he h2]

/-- A table each of whose chains is mapped, keys kept. -/
theorem map_ok {t : Tab V} (h : TabOk hash t) (f : List (Ent V) → List (Ent V)) (hk : ∀ c x, x ∈ f c → ∃ y ∈ c, y.key = x.key) (hn : ∀ c, (c.map fun e => e.key).Nodup → ((f c).map fun e => e.key).Nodup) : TabOk hash (t.map f) := by
  refine ⟨?_, ?_, ?_⟩
  · rcases h.pow with h0 | ⟨k, hk, hl⟩
    · exact .inl (by rw [h0]; rfl)
    · exact .inr ⟨k, hk, by rw [List.length_map]; exact hl⟩
  · intro i c e hc he
    rw [List.length_map]
    rw [List.getElem?_map] at hc
    obtain ⟨c', hc', rfl⟩ := Option.map_eq_some_iff.1 hc
    obtain ⟨y, hy, hyk⟩ := hk c' e he
    rw [← hyk]
    exact h.slot i c' y hc' hy
  · intro i c hc
    rw [List.getElem?_map] at hc
    obtain ⟨c', hc', rfl⟩ := Option.map_eq_some_iff.1 hc
    exact hn c' (h.once i c' hc')

theorem ents_map (t : Tab V) (f : List (Ent V) → List (Ent V)) (g : List (Ent V) → List (Ent V)) (hg : ∀ c, f c = g c) (ha : ∀ a b, g (a ++ b) = g a ++ g b) (h0 : g [] = []) : ents (t.map f) = g (ents t) := by
  induction t with
  | nil => simp [ents, h0]
  | cons c t ih => simp only [ents, List.map_cons, List.flatten_cons] at ih ⊢; rw [ha, ih, hg]

def revalue (key : ByteArray) (v : V) (l : List (Ent V)) : List (Ent V) := l.map fun e => if e.key = key then { e with val := v } else e
def drop (key : ByteArray) (l : List (Ent V)) : List (Ent V) := l.filter fun e => e.key ≠ key

theorem revalue_keys (key : ByteArray) (v : V) (l : List (Ent V)) : (revalue key v l).map (fun e => e.key) = l.map fun e => e.key := by
  unfold revalue
  rw [List.map_map]
  apply List.map_congr_left
  intro e _
  simp only [Function.comp]
  split <;> rfl
theorem revalue_append (key : ByteArray) (v : V) (a b : List (Ent V)) : revalue key v (a ++ b) = revalue key v a ++ revalue key v b := by simp [revalue]
theorem drop_append (key : ByteArray) (a b : List (Ent V)) : drop key (a ++ b) = drop key a ++ drop key b := by simp [drop]
theorem relay_ents (t : Tab V) (key : ByteArray) (v : V) : ents (relay t key v) = revalue key v (ents t) :=
  ents_map t _ (revalue key v) (fun _ => rfl) (revalue_append key v) rfl
theorem without_ents (t : Tab V) (key : ByteArray) : ents (without t key) = drop key (ents t) :=
  ents_map t _ (drop key) (fun _ => rfl) (drop_append key) rfl

theorem relay_ok {t : Tab V} (h : TabOk hash t) (key : ByteArray) (v : V) : TabOk hash (relay t key v) := by
  refine map_ok h _ ?_ ?_
  · intro c x hx
    obtain ⟨y, hy, rfl⟩ := List.mem_map.1 hx
    exact ⟨y, hy, by split <;> rfl⟩
  · intro c hc
    have := revalue_keys key v c
    unfold revalue at this
    rw [this]; exact hc

theorem without_ok {t : Tab V} (h : TabOk hash t) (key : ByteArray) : TabOk hash (without t key) := by
  refine map_ok h _ ?_ ?_
  · intro c x hx
    exact ⟨x, (List.mem_filter.1 hx).1, rfl⟩
  · intro c hc
    exact hc.sublist (List.Sublist.map _ List.filter_sublist)

theorem relay_length (t : Tab V) (key : ByteArray) (v : V) : (relay t key v).length = t.length := by simp [relay]
theorem without_length (t : Tab V) (key : ByteArray) : (without t key).length = t.length := by simp [without]
theorem nil_of_length {t t' : Tab V} (h : t'.length = t.length) : t' = [] ↔ t = [] := by
  rw [← List.length_eq_zero_iff, ← List.length_eq_zero_iff, h]

theorem relays_ok {cap : Nat} {d : DM V} (h : d.Ok hash cap) (key : ByteArray) (v : V) : ({ d with old := relay d.old key v, young := relay d.young key v } : DM V).Ok hash cap := by
  have hk : ∀ {t : Tab V} {e : Ent V}, e ∈ ents (relay t key v) → ∃ x ∈ ents t, x.key = e.key := by
    intro t e he
    rw [relay_ents] at he
    obtain ⟨y, hy, rfl⟩ := List.mem_map.1 he
    exact ⟨y, hy, by split <;> rfl⟩
  refine ⟨relay_ok h.old _ _, relay_ok h.young _ _, ?_, ?_, ?_, ?_, ?_, ?_, h.capped, ?_, ?_⟩
  · intro e he e' he'
    obtain ⟨x, hx, hxk⟩ := hk he
    obtain ⟨y, hy, hyk⟩ := hk he'
    rw [← hxk, ← hyk]
    exact h.apart x hx y hy
  · intro h0; exact h.idle ((nil_of_length (relay_length _ _ _)).1 h0)
  · intro h0; exact (nil_of_length (relay_length _ _ _)).2 (h.some_ ((nil_of_length (relay_length _ _ _)).1 h0))
  · intro i c hi hc
    dsimp only at hi hc
    rw [relay, List.getElem?_map] at hc
    obtain ⟨c', hc', rfl⟩ := Option.map_eq_some_iff.1 hc
    rw [h.front i c' hi hc']; rfl
  · intro h0
    dsimp only
    rw [relay_length]
    exact h.upto (fun h1 => h0 ((nil_of_length (relay_length _ _ _)).2 h1))
  · dsimp only; rw [relay_ents, relay_ents, h.count]; simp [revalue]
  · dsimp only; rw [relay_length]; exact h.oldLen
  · dsimp only; rw [relay_length]; exact h.youngLen

theorem replicate_tab_ok {m : Nat} (hp : ∃ k, 2 ≤ k ∧ m = 2 ^ k) : TabOk hash (List.replicate m [] : Tab V) := by
  refine ⟨?_, ?_, ?_⟩
  · obtain ⟨k, hk, hm⟩ := hp
    exact .inr ⟨k, hk, by simp [hm]⟩
  · intro i c e hc he
    rw [List.getElem?_replicate] at hc
    split at hc
    · cases hc; cases he
    · cases hc
  · intro i c hc
    rw [List.getElem?_replicate] at hc
    split at hc
    · cases hc; exact List.nodup_nil
    · cases hc
theorem replicate_ents (m : Nat) : ents (List.replicate m [] : Tab V) = [] := by simp [ents]

/-- Behind 'room' there is room: d is not empty of buckets. -/
theorem room_ok {cap : Nat} {d : DM V} (h : d.Ok hash cap) (tb : Nat) : (d.room tb).Ok hash cap ∧ (d.room tb).ents = d.ents ∧ (d.room tb).old ≠ [] := by
  unfold DM.room
  split
  · rename_i h0
    have hy := h.some_ h0
    refine ⟨⟨replicate_tab_ok ⟨2, by omega, rfl⟩, h.young, ?_, h.idle, ?_, ?_, ?_, ?_, h.capped, ?_, h.youngLen⟩, ?_, ?_⟩
    · intro e he; rw [replicate_ents] at he; cases he
    · intro h1; exact hy
    · intro i c hi; rw [h.idle hy] at hi; omega
    · intro h1; exact absurd hy h1
    · dsimp only; rw [replicate_ents]; have := h.count; rw [h0] at this; simpa [ents] using this
    · dsimp only; simp
    · simp only [DM.ents, replicate_ents, h0]; simp [ents]
    · dsimp only; simp
  · rename_i h0
    split
    · rename_i h1
      obtain ⟨h1, h2⟩ := h1
      have hlen : 0 < d.old.length := List.length_pos_iff.2 h0
      refine ⟨⟨h.old, replicate_tab_ok ?_, ?_, ?_, ?_, h.front, ?_, ?_, h.capped, h.oldLen, ?_⟩, ?_, h0⟩
      · rcases h.old.pow with h3 | ⟨k, hk, hl⟩
        · exact absurd h3 h0
        · exact ⟨k + 1, by omega, by rw [hl, Nat.pow_succ]; omega⟩
      · intro e _ e' he'; rw [replicate_ents] at he'; cases he'
      · intro h3
        have := congrArg List.length h3
        simp at this; omega
      · intro h3; exact absurd h3 h0
      · intro _; dsimp only; rw [h.idle h1]; exact hlen
      · dsimp only; rw [replicate_ents, h.count, h1]; simp [ents]
      · dsimp only; rw [List.length_replicate]; have := h.capped; omega
      · simp only [DM.ents, replicate_ents, h1]; simp [ents]
    · exact ⟨h, rfl, h0⟩

theorem add_ok {cap : Nat} {d : DM V} (h : d.Ok hash cap) (h0 : d.old ≠ []) (hc : d.n < cap) {e : Ent V} (hn : ∀ x ∈ d.ents, x.key ≠ e.key) :
    (d.add hash e).Ok hash cap ∧ (d.add hash e).ents.Perm (e :: d.ents) := by
  unfold DM.add
  split
  · rename_i hy
    have hp := hang_ents (hash := hash) h0 e
    have hl := hang_length (hash := hash) d.old e
    have hlen := hp.length_eq
    refine ⟨⟨hang_ok h.old h0 (fun x hx => hn x (List.mem_append_left _ hx)), h.young, ?_, h.idle, ?_, ?_, ?_, ?_, ?_, ?_, h.youngLen⟩, ?_⟩
    · intro x hx y hy'; rw [hy] at hy'; simp [ents] at hy'
    · intro _; exact hy
    · intro i c hi; dsimp only at hi; rw [h.idle hy] at hi; omega
    · intro h1; exact absurd hy h1
    · dsimp only; rw [h.count, hlen, List.length_cons]; omega
    · dsimp only; omega
    · dsimp only; rw [hl]; exact h.oldLen
    · exact List.Perm.append_right _ hp
  · rename_i hy
    have hp := hang_ents (hash := hash) hy e
    have hl := hang_length (hash := hash) d.young e
    have hlen := hp.length_eq
    have hnil : hang hash d.young e ≠ [] := fun h1 => hy ((nil_of_length hl).1 h1)
    refine ⟨⟨h.old, hang_ok h.young hy (fun x hx => hn x (List.mem_append_right _ hx)), ?_, fun h1 => absurd h1 hnil, fun h1 => absurd h1 h0, h.front, fun _ => h.upto hy, ?_, ?_, h.oldLen, ?_⟩, ?_⟩
    · intro x hx y hy'
      rcases List.mem_cons.1 (hp.mem_iff.1 hy') with rfl | hy'
      · exact hn x (List.mem_append_left _ hx)
      · exact h.apart x hx y hy'
    · dsimp only; rw [h.count, hlen, List.length_cons]; omega
    · dsimp only; omega
    · dsimp only; rw [hl]; exact h.youngLen
    · exact (List.Perm.append_left _ hp).trans List.perm_middle

theorem set_new {cap : Nat} {d : DM V} (h : d.Ok hash cap) {key : ByteArray} (v : V) (blk tb : Nat) (hf : (d.step hash).find hash key = none) (hc : d.n < cap) :
    (d.set hash key v blk tb).Ok hash cap ∧ (d.set hash key v blk tb).ents.Perm (⟨blk, key, v⟩ :: d.ents) := by
  obtain ⟨a, p⟩ := step_ok h
  obtain ⟨b, q, r⟩ := room_ok a tb
  have hn : ((d.step hash).room tb).n < cap := by
    have e1 := b.count
    have e2 := h.count
    have := p.length_eq
    rw [← q] at this
    simp only [DM.ents, List.length_append] at this
    omega
  unfold DM.set
  rw [hf]
  obtain ⟨c, s⟩ := add_ok b r hn (e := ⟨blk, key, v⟩) (by rw [q]; exact find_none a hf)
  refine ⟨c, s.trans (List.Perm.cons _ ?_)⟩
  rw [q]; exact p

theorem set_old {cap : Nat} {d : DM V} (h : d.Ok hash cap) {key : ByteArray} (v : V) (blk tb : Nat) {e : Ent V} (hf : (d.step hash).find hash key = some e) :
    (d.set hash key v blk tb).Ok hash cap ∧ (d.set hash key v blk tb).ents.Perm (revalue key v d.ents) := by
  obtain ⟨a, p⟩ := step_ok h
  unfold DM.set
  rw [hf]
  refine ⟨relays_ok a key v, ?_⟩
  simp only [DM.ents, relay_ents]
  rw [← revalue_append]
  exact p.map _

theorem drop_length_of_mem : ∀ {l : List (Ent V)} {key : ByteArray}, (l.map fun e => e.key).Nodup → (∃ e ∈ l, e.key = key) → (drop key l).length + 1 = l.length
  | [], _, _, h => by obtain ⟨e, he, _⟩ := h; cases he
  | x :: l, key, hn, h => by
    rw [List.map_cons, List.nodup_cons] at hn
    by_cases hx : x.key = key
    · have : drop key l = l := by
        unfold drop
        rw [List.filter_eq_self]
        intro y hy
        simp only [ne_eq, decide_not, Bool.not_eq_eq_eq_not, Bool.not_true, decide_eq_false_iff_not]
        intro hk
        exact hn.1 (List.mem_map.2 ⟨y, hy, by rw [hk, hx]⟩)
      have h2 : drop key (x :: l) = drop key l := by simp [drop, hx]
      rw [h2, this, List.length_cons]
    · have h2 : drop key (x :: l) = x :: drop key l := by simp [drop, hx]
      rw [h2, List.length_cons, List.length_cons, drop_length_of_mem hn.2]
      obtain ⟨e, he, hk⟩ := h
      rcases List.mem_cons.1 he with h3 | h3
      · exact absurd (by rw [← h3]; exact hk) hx
      · exact ⟨e, h3, hk⟩

theorem grow_pow : ∀ (k s n : Nat), (∃ j, 2 ≤ j ∧ s = 2 ^ j) → ∃ j, 2 ≤ j ∧ grow k s n = 2 ^ j
  | 0, _, _, h => h
  | k + 1, s, n, h => by
    unfold grow
    split
    · obtain ⟨j, hj, hs⟩ := h
      exact grow_pow k (s * 2) n ⟨j + 1, by omega, by rw [hs, Nat.pow_succ]⟩
    · exact h
theorem grow_le : ∀ (k s n : Nat), grow k s n ≤ max s (2 * n)
  | 0, s, n => by unfold grow; omega
  | k + 1, s, n => by
    unfold grow
    split
    · have := grow_le k (s * 2) n; omega
    · omega
theorem grow_ge : ∀ (k s n : Nat), n ≤ s * 2 ^ k → n ≤ grow k s n
  | 0, s, n, h => by unfold grow; simpa using h
  | k + 1, s, n, h => by
    unfold grow
    split
    · exact grow_ge k (s * 2) n (by rw [Nat.pow_succ] at h; rw [Nat.mul_assoc, Nat.mul_comm 2]; exact h)
    · omega

theorem withouts_ok {cap : Nat} {d : DM V} (h : d.Ok hash cap) {key : ByteArray} (hm : ∃ e ∈ d.ents, e.key = key) :
    ({ d with old := without d.old key, young := without d.young key, n := d.n - 1 } : DM V).Ok hash cap := by
  have hd := drop_length_of_mem (ok_nodup h) hm
  have hcount := h.count
  simp only [DM.ents, drop_append, List.length_append] at hd
  refine ⟨without_ok h.old _, without_ok h.young _, ?_, ?_, ?_, ?_, ?_, ?_, ?_, ?_, ?_⟩
  · intro e he e' he'
    dsimp only at he he'
    rw [without_ents] at he he'
    exact h.apart e (List.mem_filter.1 he).1 e' (List.mem_filter.1 he').1
  · intro h0; exact h.idle ((nil_of_length (without_length _ _)).1 h0)
  · intro h0; exact (nil_of_length (without_length _ _)).2 (h.some_ ((nil_of_length (without_length _ _)).1 h0))
  · intro i c hi hc
    dsimp only at hi hc
    rw [without, List.getElem?_map] at hc
    obtain ⟨c', hc', rfl⟩ := Option.map_eq_some_iff.1 hc
    rw [h.front i c' hi hc']; rfl
  · intro h0
    dsimp only
    rw [without_length]
    exact h.upto (fun h1 => h0 ((nil_of_length (without_length _ _)).2 h1))
  · dsimp only; rw [without_ents, without_ents]; omega
  · dsimp only; have := h.capped; omega
  · dsimp only; rw [without_length]; exact h.oldLen
  · dsimp only; rw [without_length]; exact h.youngLen

theorem shrink_ok {cap : Nat} {d : DM V} (h : d.Ok hash cap) (tb : Nat) : (d.shrink tb).Ok hash cap ∧ (d.shrink tb).ents = d.ents := by
  unfold DM.shrink
  split
  · rename_i h1
    obtain ⟨h1, h2, h3⟩ := h1
    have hp := grow_pow 64 4 d.n ⟨2, by omega, rfl⟩
    have hl := grow_le 64 4 d.n
    have hpos : 0 < grow 64 4 d.n := by obtain ⟨j, _, hj⟩ := hp; rw [hj]; exact Nat.pow_pos (by omega)
    refine ⟨⟨h.old, replicate_tab_ok hp, ?_, ?_, ?_, h.front, ?_, ?_, h.capped, h.oldLen, ?_⟩, ?_⟩
    · intro e _ e' he'; rw [replicate_ents] at he'; cases he'
    · intro h4
      have := congrArg List.length h4
      simp at this; omega
    · intro h4; dsimp only at h4; rw [h4] at h2; simp at h2
    · intro _; dsimp only; rw [h.idle h1]; omega
    · dsimp only; rw [replicate_ents, h.count, h1]; simp [Go.Proofs.YtgjpaecpljifpaaGreat.ents]
    · dsimp only; rw [List.length_replicate]; have := h.capped; omega
    · simp only [DM.ents, replicate_ents, h1]; simp [Go.Proofs.YtgjpaecpljifpaaGreat.ents]
  · exact ⟨h, rfl⟩

theorem del_none {cap : Nat} {d : DM V} (h : d.Ok hash cap) {key : ByteArray} (tb : Nat) (hf : (d.step hash).find hash key = none) :
    (d.del hash key tb).1.Ok hash cap ∧ (d.del hash key tb).1.ents.Perm d.ents := by
  unfold DM.del
  rw [hf]
  exact step_ok h

theorem del_some {cap : Nat} {d : DM V} (h : d.Ok hash cap) {key : ByteArray} (tb : Nat) {e : Ent V} (hf : (d.step hash).find hash key = some e) :
    (d.del hash key tb).1.Ok hash cap ∧ (d.del hash key tb).1.ents.Perm (drop key d.ents) := by
  obtain ⟨a, p⟩ := step_ok h
  unfold DM.del
  rw [hf]
  obtain ⟨h1, h2⟩ := find_some hf
  obtain ⟨b, q⟩ := shrink_ok (withouts_ok a ⟨e, h1, h2⟩) tb
  refine ⟨b, ?_⟩
  show (DM.shrink _ tb).ents.Perm _
  rw [q]
  simp only [DM.ents, without_ents]
  rw [← drop_append]
  exact p.filter _

theorem find_iff {cap : Nat} {d : DM V} (h : d.Ok hash cap) {key : ByteArray} {e : Ent V} : d.find hash key = some e ↔ e ∈ d.ents ∧ e.key = key :=
  ⟨find_some, fun ⟨a, b⟩ => by rw [← b]; exact find_of_mem h a⟩

theorem clear_ok {cap : Nat} (d : DM V) : d.clear.Ok hash cap := by
  refine ⟨⟨.inl rfl, ?_, ?_⟩, ⟨.inl rfl, ?_, ?_⟩, ?_, fun _ => rfl, fun _ => rfl, ?_, fun h0 => absurd rfl h0, ?_, Nat.zero_le _, by simp [DM.clear], by simp [DM.clear]⟩
  · intro i c e hc; simp [DM.clear] at hc
  · intro i c hc; simp [DM.clear] at hc
  · intro i c e hc; simp [DM.clear] at hc
  · intro i c hc; simp [DM.clear] at hc
  · intro e he; simp [DM.clear, Go.Proofs.YtgjpaecpljifpaaGreat.ents] at he
  · intro i c hi; exact absurd hi (Nat.not_lt_zero _)
  · simp [DM.clear, Go.Proofs.YtgjpaecpljifpaaGreat.ents]
theorem clear_ents (d : DM V) : d.clear.ents = [] := by simp [DM.ents, DM.clear, Go.Proofs.YtgjpaecpljifpaaGreat.ents]

theorem all_ents {cap : Nat} {d : DM V} (h : d.Ok hash cap) : d.all = d.ents := by
  unfold DM.all DM.ents
  have : Go.Proofs.YtgjpaecpljifpaaGreat.ents (d.old.take d.at_) = [] := by
    unfold Go.Proofs.YtgjpaecpljifpaaGreat.ents
    rw [List.flatten_eq_nil_iff]
    intro c hc
    obtain ⟨i, hi⟩ := List.mem_iff_getElem?.1 hc
    rw [List.getElem?_take] at hi
    split at hi
    · rename_i hlt; exact h.front i c hlt hi
    · cases hi
  have h2 : Go.Proofs.YtgjpaecpljifpaaGreat.ents d.old = Go.Proofs.YtgjpaecpljifpaaGreat.ents (d.old.take d.at_) ++ Go.Proofs.YtgjpaecpljifpaaGreat.ents (d.old.drop d.at_) := by
    unfold Go.Proofs.YtgjpaecpljifpaaGreat.ents
    rw [← List.flatten_append, List.take_append_drop]
  rw [h2, this]; rfl

theorem moved_seed (d : DM V) : (d.moved hash).seed = d.seed := by unfold DM.moved; dsimp only; split <;> rfl
theorem turned_seed (d : DM V) : d.turned.seed = d.seed := by unfold DM.turned; split <;> rfl
theorem step_seed (d : DM V) : (d.step hash).seed = d.seed := by
  unfold DM.step
  split
  · rfl
  · rw [turned_seed, moved_seed]
theorem room_seed (d : DM V) (tb : Nat) : (d.room tb).seed = d.seed := by
  unfold DM.room
  split
  · rfl
  · split <;> rfl
theorem add_seed (d : DM V) (e : Ent V) : (d.add hash e).seed = d.seed := by unfold DM.add; split <;> rfl
theorem set_seed (d : DM V) (key : ByteArray) (v : V) (blk tb : Nat) : (d.set hash key v blk tb).seed = d.seed := by
  unfold DM.set
  split
  · exact step_seed d
  · rw [add_seed, room_seed, step_seed]
theorem shrink_seed (d : DM V) (tb : Nat) : (d.shrink tb).seed = d.seed := by unfold DM.shrink; split <;> rfl
theorem del_seed (d : DM V) (key : ByteArray) (tb : Nat) : (d.del hash key tb).1.seed = d.seed := by
  unfold DM.del
  split
  · exact step_seed d
  · show (DM.shrink _ tb).seed = _
    rw [shrink_seed]; exact step_seed d
theorem perm_find {cap cap' : Nat} {d d' : DM V} (h : d.Ok hash cap) (h' : d'.Ok hash cap') (p : d'.ents.Perm d.ents) (key : ByteArray) : d'.find hash key = d.find hash key := by
  cases hf : d.find hash key with
  | some e =>
    obtain ⟨h1, h2⟩ := find_some hf
    exact (find_iff h').2 ⟨p.mem_iff.2 h1, h2⟩
  | none =>
    cases hf' : d'.find hash key with
    | none => rfl
    | some e =>
      obtain ⟨h1, h2⟩ := find_some hf'
      exact absurd h2 (find_none h hf e (p.mem_iff.1 h1))
theorem step_find {cap : Nat} {d : DM V} (h : d.Ok hash cap) (key : ByteArray) : (d.step hash).find hash key = d.find hash key :=
  perm_find h (step_ok h).1 (step_ok h).2 key
/-- Where the tables of a dict behind a step lie. -/
theorem step_oldB (d : DM V) : ((d.step hash).oldB = d.oldB ∧ ((d.step hash).old = [] ↔ d.old = [])) ∨ ((d.step hash).oldB = d.youngB ∧ d.young ≠ []) := by
  unfold DM.step
  split
  · exact .inl ⟨rfl, Iff.rfl⟩
  · rename_i hm
    have h1 : (d.moved hash).oldB = d.oldB ∧ (d.moved hash).youngB = d.youngB ∧ ((d.moved hash).old = [] ↔ d.old = []) := by
      unfold DM.moved
      dsimp only
      split
      · exact ⟨rfl, rfl, Iff.rfl⟩
      · exact ⟨rfl, rfl, nil_of_length (by simp)⟩
    unfold DM.turned
    split
    · exact .inr ⟨h1.2.1, hm⟩
    · exact .inl ⟨h1.1, h1.2.2⟩
theorem step_youngB (d : DM V) : (d.step hash).young = [] ∨ ((d.step hash).youngB = d.youngB ∧ d.young ≠ []) := by
  unfold DM.step
  split
  · rename_i hm; exact .inl hm
  · rename_i hm
    have h1 : (d.moved hash).youngB = d.youngB := by
      unfold DM.moved
      dsimp only
      split <;> rfl
    unfold DM.turned
    split
    · exact .inl rfl
    · exact .inr ⟨h1, hm⟩
end
end Go.Proofs.YtgjpaecpljifpaaGreat

/- KeyspaceKnown: the chapter's examples. -/
import Derived.Test.YtgjpaecpljifpaaGreatLawC
import Derived.Deep.RegionWith
import Derived.Deep.RegionHeld
namespace Go.Proofs.YtgjpaecpljifpaaGreat
open Go Go.RowKit Go.Proofs.YtgjpaecpljifpaaGreat Go.Maps Go.WideMaps

def tv : ByteArray := ⟨#[118]⟩
def tw : ByteArray := ⟨#[119]⟩
def K2 (v : Nat) : AS := (W1.put kk v tv false 1).1
def K3 (v u : Nat) : AS := ((K2 v).put kl u tw false 1).1
def K4 (v u : Nat) : AS := (K3 v u).met kk
def K5 (v u : Nat) : AS := (K4 v u).met kl
def K6 (v u : Nat) : AS := (K5 v u).got kk
def K7 (v u : Nat) : AS := (K6 v u).met kl
def K8 (v u : Nat) : AS := (K7 v u).met kk
def K9 (v u : Nat) : AS := (K8 v u).met kl
def K10 (v u : Nat) : AS := (K9 v u).tick 5
def K11 (v u : Nat) : AS := { K10 v u with touched := fun _ => false }
def K12 (v u : Nat) : AS := ((K11 v u).setDue kk 5).1
def K13 (v u : Nat) : AS := { K12 v u with touched := fun _ => false }
def K14 (v u : Nat) : AS := ((K13 v u).setDue kk 9).1
def K15 (v u : Nat) : AS := ((K14 v u).setDue kl 9007199254740993).1
def K16 (v u : Nat) : AS := ((K15 v u).setDue kl 9007199254740992).1
def K17 (v u x : Nat) : AS := ((K16 v u).put kl x ByteArray.empty true 0).1
def K18 (v u x y : Nat) : AS := ((K17 v u x).put km y ByteArray.empty false 17).1
def K19 (v u x y : Nat) : AS := (K18 v u x y).met km
def K20 (v u x y : Nat) : AS := ((K19 v u x y).changed km true 0).1
def K21 (v u x y : Nat) : AS := ((K20 v u x y).changed km true 0).1

/-- A call of Text, and the text is none of the space's. -/
theorem sp_Text {w0 w : World} {b n : Nat} {A : AS} {X : Nat → Prop} (h : Sp w0 w b A n X) (s : ByteArray) :
    Calls Tryz.prog 11 #[.string s] w fun en w' => ∃ vb, en = .returned (.pointer (some ⟨vb, 0, none⟩)) ∧ Sp w0 w' b A n (fun r => X r ∨ r = vb) ∧ Same X w w' ∧
      ∀ w2 : World, (∀ r, X r ∨ r = vb → w2.heap[r]? = w'.heap[r]?) → ValAt w2 vb s false s.size :=
  (Text_any s w).mono fun _ _ ⟨h1, h2⟩ => ⟨_, h1, by rw [← h2]; exact h.text s⟩

theorem K12_get (v u : Nat) (k : ByteArray) : (K12 v u).get k = (if k = kk then none else if k = kk then some ⟨v, 1, 3, 0⟩ else if k = kl then some ⟨u, 1, 2, 0⟩ else if k = kl then some ⟨u, 1, 0, 0⟩ else if k = kk then some ⟨v, 1, 1, 0⟩ else if k = kk then some ⟨v, 1, 0, 0⟩ else none) := by kernel_rfl
theorem K12_at (v u : Nat) (k : ByteArray) : (K12 v u).get k = if k = kl then some ⟨u, 1, 2, 0⟩ else none := by
  rw [K12_get]
  have hne : kl ≠ kk := by decide
  by_cases h1 : k = kk
  · subst h1; rw [if_pos rfl, if_neg hne.symm]
  · by_cases h2 : k = kl
    · subst h2; rw [if_neg h1, if_neg h1, if_pos rfl, if_pos rfl]
    · simp only [if_neg h1, if_neg h2]
theorem keysAre_one {A : AS} {key : ByteArray} {r : Rec} (h : ∀ k, A.get k = if k = key then some r else none) : KeysAre A [key] := by
  refine ⟨by simp, fun k => ?_⟩
  rw [h, List.mem_singleton]
  split <;> simp [*]
theorem past_one {A : AS} {key : ByteArray} {r : Rec} (h : ∀ k, A.get k = if k = key then some r else none) (hp : A.past r.at_ = false) : ∀ k x, A.get k = some x → A.past x.at_ = false := by
  intro k x hx
  rw [h] at hx
  split at hx
  · injection hx with hx; rw [← hx]; exact hp
  · cases hx
theorem keysAre_none {A : AS} (h : ∀ k, A.get k = none) : KeysAre A [] := ⟨by simp, fun k => by rw [h]; simp⟩
theorem past_none {A : AS} (h : ∀ k, A.get k = none) : ∀ k x, A.get k = some x → A.past x.at_ = false := fun k x hx => by rw [h] at hx; cases hx

theorem K17_get (v u x : Nat) (k : ByteArray) : (K17 v u x).get k = (if k = kl then none else if k = kl then some ⟨u, 1, 2, 9007199254740992⟩ else if k = kk then none else if k = kk then some ⟨v, 1, 3, 0⟩ else if k = kl then some ⟨u, 1, 2, 0⟩ else if k = kl then some ⟨u, 1, 0, 0⟩ else if k = kk then some ⟨v, 1, 1, 0⟩ else if k = kk then some ⟨v, 1, 0, 0⟩ else none) := by kernel_rfl
theorem K17_none (v u x : Nat) (k : ByteArray) : (K17 v u x).get k = none := by
  rw [K17_get]
  by_cases h1 : k = kl
  · rw [if_pos h1]
  · by_cases h2 : k = kk
    · simp only [if_neg h1, if_pos h2]
    · simp only [if_neg h1, if_neg h2]

theorem Gone.tells {w w' : World} {q : Nat} {d : DQ} {i : Nat} (h : Gone w q d i w') (t : d.Tight) (hi : i < d.texts.length) :
    ∃ d', DqAt w' q d' ∧ d'.Tight ∧ d'.texts = d.texts.eraseIdx i ∧ (∀ r, dfp q d' r → dfp q d r) ∧ Keeps (dfp q d) w w' := by
  obtain ⟨pre, c, post, sv', h1, h2, h3, h4⟩ := h
  refine ⟨_, h2, rest_tight t h1 (h1.at_ hi).1, rest_texts h1 hi, fun r hr => ?_, h4⟩
  rcases hr with hr | hr | ⟨x, hx, hr⟩
  · exact .inl hr
  · exact .inr (.inl (h3 ▸ hr))
  · refine .inr (.inr ?_)
    have hc : c ∈ d.cs := by rw [h1.eq]; simp
    have hm : ∀ z, z ∈ pre ∨ z ∈ post → z ∈ d.cs := fun z hz => by rw [h1.eq]; simp; rcases hz with hz | hz <;> simp [hz]
    unfold restCs at hx
    dsimp only at hx
    split at hx
    · exact ⟨x, hm x (List.mem_append.1 hx), hr⟩
    · rw [List.mem_append, List.mem_cons] at hx
      rcases hx with hx | rfl | hx
      · exact ⟨x, hm x (.inl hx), hr⟩
      · exact ⟨c, hc, hr⟩
      · exact ⟨x, hm x (.inr hx), hr⟩
theorem DqAt.not_in {w : World} {q : Nat} {d : DQ} (h : DqAt w q d) {r : Nat} {cs : Array Value} {t : TypeId} (hb : Blk w r cs t) (h1 : t ≠ 200) (h2 : t ≠ 205) (h3 : t ≠ 204) : ¬ dfp q d r := by
  rintro (e | e | ⟨c, hc, e⟩)
  · exact hb.ne h.str h1 e
  · obtain ⟨cur, hcur⟩ := ownsRow_blk h.row e
    exact hb.ne (show Blk w r cur _ from hcur) h2 rfl
  · exact hb.ne (h.ck c hc) h3 e

theorem K20_get (v u x y : Nat) (k : ByteArray) : (K20 v u x y).get k = (if k = km then none else if k = km then some ⟨y, 17, 4, 0⟩ else if k = km then some ⟨y, 17, 0, 0⟩ else (K17 v u x).get k) := by kernel_rfl
theorem K20_none (v u x y : Nat) (k : ByteArray) : (K20 v u x y).get k = none := by
  rw [K20_get]
  by_cases h1 : k = km
  · rw [if_pos h1]
  · simp only [if_neg h1, K17_none]

theorem changed_gone {w0 w : World} {b n : Nat} {X : Nat → Prop} {v u x y : Nat} (h : Sp w0 w b (K20 v u x y) n X) :
    Calls Tryz.prog 24 #[.pointer (some ⟨b, 0, none⟩), .string ⟨#[109]⟩] w fun en w' => en = .returned (.bool false) ∧ Sp w0 w' b (K21 v u x y) n X := by
  refine (sp_Changed (key := km) (text := ByteArray.empty) (empty := true) (cost := 0) h (by decide) fun W r hr _ => ?_).mono fun en w' ⟨h1, h2, _⟩ => ⟨h1.trans (by kernel_rfl), h2⟩
  rw [show (AS.met (K20 v u x y) km).get km = none by kernel_rfl] at hr
  cases hr

def badCells : Array Value := #[.int .u64 0, .int .i64 (-1), .int .i64 0, .int .i64 0, .int .u64 0, .int .i64 0, .int .i64 1, .int .i64 0, .int .u64 0, .int .i64 0, .int .i64 2, .int .i64 17, .int .u64 0, .int .i64 0, .int .i64 3, .int .i64 1, .int .u64 0, .int .i64 0, .int .i64 (-1), .int .i64 0, .int .u64 0, .int .i64 0, .int .i64 0, .int .i64 (-1)]
theorem bad_at {j : Nat} (hj : j < 6) : ∃ c : Cfg, c.bad = true ∧ badCells[j * 4]? = some (.int .u64 c.seed) ∧ badCells[j * 4 + 1]? = some (.int .i64 c.most) ∧ badCells[j * 4 + 2]? = some (.int .i64 c.policy) ∧ badCells[j * 4 + 3]? = some (.int .i64 c.samples) := by
  match j, hj with
  | 0, _ => exact ⟨⟨0, -1, 0, 0⟩, rfl, rfl, rfl, rfl, rfl⟩
  | 1, _ => exact ⟨⟨0, 0, 1, 0⟩, rfl, rfl, rfl, rfl, rfl⟩
  | 2, _ => exact ⟨⟨0, 0, 2, 17⟩, rfl, rfl, rfl, rfl, rfl⟩
  | 3, _ => exact ⟨⟨0, 0, 3, 1⟩, rfl, rfl, rfl, rfl, rfl⟩
  | 4, _ => exact ⟨⟨0, 0, -1, 0⟩, rfl, rfl, rfl, rfl, rfl⟩
  | 5, _ => exact ⟨⟨0, 0, 0, -1⟩, rfl, rfl, rfl, rfl, rfl⟩

/-- A call of Of for a list, and the list is none of the space's. -/
theorem sp_OfList {w0 w : World} {b n : Nat} {A : AS} {X : Nat → Prop} (h : Sp w0 w b A n X) (seed : Int) {l : List ByteArray} {iv : Value} {pa ra : Option Addr} {pc rc : Nat} (hi : Strs w iv l) (hls : ∀ x ∈ l, x.size ≤ maxLen) (hw : wrongTL ByteArray.empty l = 0) :
    Calls Tryz.prog 21 #[.agg (plainTL 2 ByteArray.empty iv pa ra pc rc), .int .u64 seed] w fun en w' => ∃ vb q d, en = .returned (.tuple #[.pointer (some ⟨vb, 0, none⟩), .int .i64 0]) ∧ Sp w0 w' b A n (fun r => X r ∨ (r = vb ∨ dfp q d r)) ∧
      Blk w' vb (listCells q) 114 ∧ DqAt w' q d ∧ d.Tight ∧ d.texts = l ∧ Same X w w' ∧ ∀ r, dfp q d r → w0.heap.size ≤ r := by
  refine (Of_list seed l iv pa ra pc rc w hi hls hw).mono ?_
  rintro en w' ⟨vb, q, d, h1, h2, h3, h4, h5, h6, h7, h8⟩
  refine ⟨vb, q, d, h1, h.more h8 (Y := fun r => r = vb ∨ dfp q d r) fun r hr => ?_, h3, h4, h5, h6, (h.fresh h8).2, fun r hr => Nat.le_trans h.base.size (h7 r hr)⟩
  rcases hr with rfl | hr
  · exact ⟨h2, h3.lt⟩
  · exact ⟨h7 r hr, h4.lt hr⟩
theorem list_val {w : World} {vb q : Nat} {d : DQ} {X : Nat → Prop} {l : List ByteArray} (hb : Blk w vb (listCells q) 114) (hd : DqAt w q d) (hl : d.texts = l) (hX : X vb) (hXd : ∀ r, dfp q d r → X r) :
    ∀ w' : World, (∀ r, X r → w'.heap[r]? = w.heap[r]?) → ValAt w' vb ByteArray.empty l.isEmpty (weigh l) := by
  intro w' hw'
  subst hl
  exact list_at (hb.of_heap (hw' _ hX)) (hd.of_heap fun r hr => hw' r (hXd r hr))

set_option maxRecDepth 100000 in
set_option maxHeartbeats 8000000 in
theorem known_any (w : World) : Calls Tryz.prog 3 #[] w fun e w' => e = .returned (.bool true) ∧ Keeps (fun _ => False) w w' := by
  go_enter Tryz.func3, Tryz.ntmps3
  go_wp2_with fail
  go_at_call 8
  refine (wakes_any w).mono ?_
  rintro e w0 ⟨rfl, hk0⟩
  have HK0 := Lib.hid hk0
  clear hk0
  go_wp2_with fail
  go_at_call 9
  refine (sp_New ⟨0, 0, 0, 0⟩ w0 (by decide)).mono ?_
  rintro e w1 ⟨b, rfl, hS1⟩
  have HS1 : Hid (Sp w0 w1 b W1 0 fun _ => False) := hS1
  clear hS1
  go_wp2_with fail
  go_at_call 11
  refine (sp_Text HS1.out _).mono ?_
  rintro e w2 ⟨v, rfl, hS2, _, hv2⟩
  have HS2 : Hid (Sp w0 w2 b (W1) 0 (fun r => r = v)) := hS2.less (by simp)
  have HV2 : Hid (∀ wq : World, (∀ r, (fun r => r = v) r → wq.heap[r]? = w2.heap[r]?) → ValAt wq v tv false 1) := fun wq h2 => hv2 wq fun r hr => h2 r (by simpa using hr)
  clear hS2 hv2 HS1
  go_wp2_with fail
  go_at_call 10
  refine (sp_Put (key := kk) (text := tv) (empty := false) (cost := 1) HS2.out (by decide) (by decide) HV2.out).mono ?_
  rintro e w3 ⟨he, hS3, _⟩
  obtain rfl : e = .returned (.int .i64 0) := he.trans (by kernel_rfl)
  have HS3 : Hid (Sp w0 w3 b (K2 v) 1 (fun r => r = v)) := hS3
  clear hS3 he HS2
  go_wp2_with fail
  go_at_call 11
  refine (sp_Text HS3.out _).mono ?_
  rintro e w4 ⟨u, rfl, hS4, _, hv4⟩
  have HS4 : Hid (Sp w0 w4 b (K2 v) 1 (fun r => r = v ∨ r = u)) := hS4.less (by simp)
  have HV4 : Hid (∀ wq : World, (∀ r, (fun r => r = v ∨ r = u) r → wq.heap[r]? = w4.heap[r]?) → ValAt wq u tw false 1) := fun wq h2 => hv4 wq fun r hr => h2 r (by simpa using hr)
  clear hS4 hv4 HS3
  go_wp2_with fail
  go_at_call 10
  refine (sp_Put (key := kl) (text := tw) (empty := false) (cost := 1) HS4.out (by decide) (by decide) HV4.out).mono ?_
  rintro e w5 ⟨he, hS5, _⟩
  obtain rfl : e = .returned (.int .i64 0) := he.trans (by kernel_rfl)
  have HS5 : Hid (Sp w0 w5 b (K3 v u) 2 (fun r => r = v ∨ r = u)) := hS5
  clear hS5 he HS4
  go_wp2_with fail
  go_at_call 12
  refine (sp_Stamp (key := kk) HS5.out (by decide)).mono ?_
  rintro e w6 ⟨he, hS6, _⟩
  obtain rfl : e = .returned (.tuple #[.int .u64 1, .bool true]) := he.trans (by kernel_rfl)
  have HS6 : Hid (Sp w0 w6 b (K4 v u) 2 (fun r => r = v ∨ r = u)) := hS6
  clear hS6 he HS5
  go_wp2_with fail
  go_at_call 12
  refine (sp_Stamp (key := kl) HS6.out (by decide)).mono ?_
  rintro e w7 ⟨he, hS7, _⟩
  obtain rfl : e = .returned (.tuple #[.int .u64 2, .bool true]) := he.trans (by kernel_rfl)
  have HS7 : Hid (Sp w0 w7 b (K5 v u) 2 (fun r => r = v ∨ r = u)) := hS7
  clear hS7 he HS6
  go_wp2_with fail
  go_at_call 13
  refine (sp_Get (key := kk) HS7.out (by decide)).mono ?_
  rintro e w8 ⟨he, hS8, _⟩
  obtain rfl : e = .returned (.tuple #[.pointer (some ⟨v, 0, none⟩), .bool true]) := he.trans (by kernel_rfl)
  have HS8 : Hid (Sp w0 w8 b (K6 v u) 2 (fun r => r = v ∨ r = u)) := hS8
  clear hS8 he HS7
  go_wp2_with fail
  go_at_call 14
  refine (sp_Look (key := kl) HS8.out (by decide)).mono ?_
  rintro e w9 ⟨he, hS9, _⟩
  obtain rfl : e = .returned (.tuple #[.pointer (some ⟨u, 0, none⟩), .bool true]) := he.trans (by kernel_rfl)
  have HS9 : Hid (Sp w0 w9 b (K7 v u) 2 (fun r => r = v ∨ r = u)) := hS9
  clear hS9 he HS8
  go_wp2_with fail
  go_at_call 12
  refine (sp_Stamp (key := kk) HS9.out (by decide)).mono ?_
  rintro e w10 ⟨he, hS10, _⟩
  obtain rfl : e = .returned (.tuple #[.int .u64 3, .bool true]) := he.trans (by kernel_rfl)
  have HS10 : Hid (Sp w0 w10 b (K8 v u) 2 (fun r => r = v ∨ r = u)) := hS10
  clear hS10 he HS9
  go_wp2_with fail
  go_at_call 12
  refine (sp_Stamp (key := kl) HS10.out (by decide)).mono ?_
  rintro e w11 ⟨he, hS11, _⟩
  obtain rfl : e = .returned (.tuple #[.int .u64 2, .bool true]) := he.trans (by kernel_rfl)
  have HS11 : Hid (Sp w0 w11 b (K9 v u) 2 (fun r => r = v ∨ r = u)) := hS11
  clear hS11 he HS10
  go_wp2_with fail
  go_at_call 15
  refine (sp_Tick 5 HS11.out).mono ?_
  rintro e w12 ⟨he, hS12, _⟩
  obtain rfl : e = .returned (.int .i64 0) := he.trans (by kernel_rfl)
  have HS12 : Hid (Sp w0 w12 b (K10 v u) 2 (fun r => r = v ∨ r = u)) := hS12
  clear hS12 he HS11
  go_wp2_with fail
  go_at_call 16
  refine (sp_Touched HS12.out).mono ?_
  rintro e w13 ⟨tv13, _, rfl, _, _, hS13, _⟩
  have HS13 : Hid (Sp w0 w13 b (K11 v u) 2 (fun r => r = v ∨ r = u)) := hS13
  clear hS13 HS12
  go_wp2_with fail
  go_at_call 17
  refine (sp_SetDeadline (key := kk) 5 HS13.out (by decide)).mono ?_
  rintro e w14 ⟨he, hS14, _⟩
  obtain rfl : e = .returned (.bool true) := he.trans (by kernel_rfl)
  have HS14 : Hid (Sp w0 w14 b (K12 v u) 2 (fun r => r = v ∨ r = u)) := hS14
  clear hS14 he HS13
  go_wp2_with fail
  go_at_call 18
  refine (sp_Len HS14.out (past_one (K12_at v u) (by kernel_rfl)) (keysAre_one (K12_at v u))).mono ?_
  rintro e w15 ⟨he, hS15, _⟩
  obtain rfl : e = .returned (.int .i64 1) := he.trans (by kernel_rfl)
  have HS15 := Lib.hid hS15
  clear hS15 he HS14
  go_wp2_with fail
  go_at_call 19
  refine (sp_Steps HS15.out).mono ?_
  rintro e w16 ⟨sv, rfl, hst, hS16, _⟩
  rw [show (K12 v u).steps = [] by kernel_rfl] at hst
  obtain ⟨sa, sc, rfl, _⟩ := hst.lies
  have HS16 : Hid (Sp w0 w16 b (K12 v u) 2 (fun r => r = v ∨ r = u)) := hS16
  clear hst hS16 HS15
  go_wp2_with fail
  go_at_call 16
  refine (sp_Touched HS16.out).mono ?_
  rintro e w17 ⟨tv17, l17, rfl, htold, hstr, hS17, _⟩
  have hl := told_one htold kk (by decide) (fun k => by
    show (false || decide (k = kk)) = true ↔ k = kk
    simp)
  rw [hl] at hstr
  have HStr : Hid (Strs w17 tv17 [kk]) := hstr
  have HS17 := Lib.hid hS17
  clear htold hstr hS17 hl HS16
  go_wp2_with fail
  go_at_call 20
  refine (sameTexts_any (HStr.out.alloc _) (strs_new w17 kk _)).mono ?_
  rintro e w18 ⟨he, n18, hn18⟩
  obtain rfl : e = .returned (.bool true) := he.trans (by kernel_rfl)
  have HS18 : Hid (Sp w0 w18 b (K13 v u) 2 (fun r => r = v ∨ r = u)) := (HS17.out.fresh (w' := w18) (by rw [← hn18]; exact ((Keeps.refl _ _).alloc _).drewN _)).1
  clear he hn18 HS17 HStr
  go_wp2_with fail
  go_at_call 17
  refine (sp_SetDeadline (key := kk) 9 HS18.out (by decide)).mono ?_
  rintro e w19 ⟨he, hS19, _⟩
  obtain rfl : e = .returned (.bool false) := he.trans (by kernel_rfl)
  have HS19 : Hid (Sp w0 w19 b (K14 v u) 2 (fun r => r = v ∨ r = u)) := hS19
  clear hS19 he HS18
  go_wp2_with fail
  go_at_call 17
  refine (sp_SetDeadline (key := kl) 9007199254740993 HS19.out (by decide)).mono ?_
  rintro e w20 ⟨he, hS20, _⟩
  obtain rfl : e = .returned (.bool false) := he.trans (by kernel_rfl)
  have HS20 : Hid (Sp w0 w20 b (K15 v u) 2 (fun r => r = v ∨ r = u)) := hS20
  clear hS20 he HS19
  go_wp2_with fail
  go_at_call 17
  refine (sp_SetDeadline (key := kl) 9007199254740992 HS20.out (by decide)).mono ?_
  rintro e w21 ⟨he, hS21, _⟩
  obtain rfl : e = .returned (.bool true) := he.trans (by kernel_rfl)
  have HS21 : Hid (Sp w0 w21 b (K16 v u) 2 (fun r => r = v ∨ r = u)) := hS21
  clear hS21 he HS20
  go_wp2_with fail
  go_at_call 21
  refine (sp_OfList HS21.out 0 (l := []) (iv := .slice none 0 0) (pa := none) (ra := none) (pc := 0) (rc := 0) ⟨none, 0, rfl, Nat.le_refl _, by simp, fun j s hs => by simp at hs⟩ (fun x hx => by cases hx) (by kernel_rfl)).mono ?_
  rintro e w22 ⟨x, q, d, rfl, hS22, hb22, hd22, _, ht22, _, _⟩
  have HS22 := Lib.hid hS22
  have HV22 := Lib.hid (list_val (X := fun r => (r = v ∨ r = u) ∨ (r = x ∨ dfp q d r)) hb22 hd22 ht22 (.inr (.inl rfl)) (fun r hr => .inr (.inr hr)))
  clear hS22 hb22 hd22 ht22 HS21
  go_wp2_with fail
  go_at_call 21
  have hS22a := HS22.out.fresh (w' := w22.alloc (.cells #[.string ⟨#[120]⟩] 9)) ((Keeps.refl _ _).alloc _)
  refine (sp_OfList hS22a.1 0 (l := [⟨#[120]⟩]) (pa := none) (ra := none) (pc := 0) (rc := 0) (strs_new w22 _ _) (fun x hx => by simp at hx; subst hx; decide) (by kernel_rfl)).mono ?_
  rintro e w23 ⟨y, p, e2, rfl, hS23, hb23, hd23, htt23, ht23, hm23, hn23⟩
  have HN23 := Lib.hid hn23
  clear hn23
  have HS23 := Lib.hid hS23
  have HV23 : Hid (∀ wq : World, (∀ r, (fun r => (r = v ∨ r = u) ∨ (r = x ∨ dfp q d r)) r → wq.heap[r]? = w23.heap[r]?) → ValAt wq x ByteArray.empty true 0) := fun wq hq => HV22.out wq fun r hr => (hq r hr).trans ((hm23.same r hr).trans (hS22a.2.same r hr))
  have HB23 := Lib.hid hb23
  have HD23 := Lib.hid hd23
  have HTT := Lib.hid htt23
  have HT23 := Lib.hid ht23
  clear hS23 hb23 hd23 ht23 htt23 HS22 hS22a hm23 HV22
  go_wp2_with fail
  go_at_call 10
  refine (sp_Put (key := kl) (text := ByteArray.empty) (empty := true) (cost := 0) HS23.out (by decide) (by decide) (fun wq hq => HV23.out wq fun r hr => hq r (.inl hr))).mono ?_
  rintro e w24 ⟨he, hS24, hm24⟩
  obtain rfl : e = .returned (.int .i64 0) := he.trans (by kernel_rfl)
  have HS24 : Hid (Sp w0 w24 b (K17 v u x) 3 (fun r => ((r = v ∨ r = u) ∨ (r = x ∨ dfp q d r)) ∨ (r = y ∨ dfp p e2 r))) := hS24
  have HM24 := Lib.hid hm24
  clear hS24 he HS23 hm24
  go_wp2_with fail
  go_at_call 18
  refine (sp_Len HS24.out (past_none (K17_none v u x)) (keysAre_none (K17_none v u x))).mono ?_
  rintro e w25 ⟨he, hS25, hm25⟩
  obtain rfl : e = .returned (.int .i64 0) := he.trans (by kernel_rfl)
  have HS25 := Lib.hid hS25
  have HM25 := Lib.hid hm25
  clear hS25 he HS24 hm25
  go_wp2_with fail
  have hval : ∀ W, (∀ r, (fun r => ((r = v ∨ r = u) ∨ (r = x ∨ dfp q d r)) ∨ (r = y ∨ dfp p e2 r)) r → W.heap[r]? = w25.heap[r]?) → Blk W y (listCells p) 114 ∧ DqAt W p e2 := fun W hW =>
    ⟨HB23.out.of_heap ((hW y (.inr (.inl rfl))).trans ((HM25.out.same y (.inr (.inl rfl))).trans (HM24.out.same y (.inr (.inl rfl))))),
     HD23.out.of_heap fun r hr => (hW r (.inr (.inr hr))).trans ((HM25.out.same r (.inr (.inr hr))).trans (HM24.out.same r (.inr (.inr hr))))⟩
  have HVal := Lib.hid hval
  clear hval
  go_at_call 10
  refine (sp_Put (key := km) (text := ByteArray.empty) (empty := false) (cost := 17) HS25.out (by decide) (by decide) (fun wq hq => by have h9 := HVal.out wq hq; have h8 := list_at h9.1 h9.2; rw [HT23.out] at h8; exact h8)).mono ?_
  rintro e w26 ⟨he, hS26, hm26⟩
  obtain rfl : e = .returned (.int .i64 0) := he.trans (by kernel_rfl)
  have HS26 : Hid (Sp w0 w26 b (K18 v u x y) 4 (fun r => ((r = v ∨ r = u) ∨ (r = x ∨ dfp q d r)) ∨ (r = y ∨ dfp p e2 r))) := hS26
  have HM26 := Lib.hid hm26
  clear hS26 he HS25 hm26
  go_wp2_with fail
  go_at_call 14
  refine (sp_Look (key := km) HS26.out (by decide)).mono ?_
  rintro e w27 ⟨he, hS27, hm27⟩
  obtain rfl : e = .returned (.tuple #[.pointer (some ⟨y, 0, none⟩), .bool true]) := he.trans (by kernel_rfl)
  have HS27 : Hid (Sp w0 w27 b (K19 v u x y) 4 (fun r => ((r = v ∨ r = u) ∨ (r = x ∨ dfp q d r)) ∨ (r = y ∨ dfp p e2 r))) := hS27
  have HM27 := Lib.hid hm27
  clear hS27 he HS26 hm27
  go_wp2_with fail
  have h27 := HVal.out w27 fun r hr => (HM27.out.same r hr).trans (HM26.out.same r hr)
  have HB27 := Lib.hid h27.1
  have HD27 := Lib.hid h27.2
  clear h27
  go_at_call 22
  refine (list_AsList y p w27 HB27.out).mono ?_
  rintro e w28 ⟨rfl, hk28⟩
  have HS28 := Lib.hid (HS27.out.fresh hk28).1
  have HB28 := Lib.hid (hk28.blk HB27.out id)
  have HD28 := Lib.hid (HD27.out.keeps hk28 fun _ _ => id)
  clear hk28 HS27 HB27 HD27
  go_wp2_with fail
  go_at_call 23
  refine (dq_Pop true HD28.out HTT.out (by rw [HT23.out]; simp)).mono ?_
  rintro e w29 ⟨he, hg⟩
  obtain rfl : e = .returned (.tuple #[.string ⟨#[120]⟩, .bool true]) := he.trans (by rw [HT23.out]; rfl)
  obtain ⟨d3, hd29, _, ht29, hf29, hk29⟩ := hg.tells HTT.out (by rw [HT23.out]; decide)
  rw [HT23.out] at ht29
  have hS29 : Sp w0 w29 b (K19 v u x y) 4 (fun r => r = y ∨ dfp p d3 r) := (HS28.out.keeps hk29 fun r hr => ⟨.inr (.inr hr), HN23.out r hr⟩).less fun r hr => .inr (hr.imp id (hf29 r))
  have hb29 := hk29.blk HB28.out (HD28.out.not_in HB28.out (by decide) (by decide) (by decide))
  have hv29 := list_val (X := fun r => r = y ∨ dfp p d3 r) hb29 hd29 (l := []) ht29 (.inl rfl) (fun r hr => .inr hr)
  have HS29 := Lib.hid hS29
  have HV29 : Hid (∀ wq : World, (∀ r, (r = y ∨ dfp p d3 r) → wq.heap[r]? = w29.heap[r]?) → ValAt wq y ByteArray.empty true 0) := hv29
  clear he hg hd29 ht29 hf29 hk29 hS29 hb29 hv29 HS28 HB28 HD28
  go_upto_region 25 with fail
  obtain ⟨BC, big, hB⟩ := big_is
  have hmk := hB.2.2.1
  have hcv1 : ∀ W : World, (convert 57 9 (.slice (some ⟨W.heap.size, 0, none⟩) 1048577 1048577)).run Tryz.prog (W.alloc (.cells BC 5)) = .ok (.string big) (W.alloc (.cells BC 5)) := fun W => hB.2.2.2 _ _ (Blk.new _ _ _)
  have hcv2 : ∀ (W : World) (o : Obj), (convert 57 9 (.slice (some ⟨W.heap.size, 0, none⟩) 1048577 1048577)).run Tryz.prog ((W.alloc (.cells BC 5)).alloc o) = .ok (.string big) ((W.alloc (.cells BC 5)).alloc o) := fun W o => hB.2.2.2 _ _ ((Blk.new _ _ _).alloc _)
  have hcv3 : ∀ (W : World) (o : Obj), (convert 57 9 (.slice (some ⟨W.heap.size + 1, 0, none⟩) 1048577 1048577)).run Tryz.prog ((W.alloc o).alloc (.cells BC 5)) = .ok (.string big) ((W.alloc o).alloc (.cells BC 5)) := fun W o => hB.2.2.2 _ _ (by simpa using Blk.new (W.alloc o) _ _)
  have HB := Lib.hid hB
  clear hB
  have hc1 : Calls Tryz.prog 24 #[.pointer (some ⟨b, 0, none⟩), .string ⟨#[109]⟩] w29.drew fun en w' => en = .returned (.bool true) ∧ Sp w0 w' b (K20 v u x y) 4 (fun r => r = y ∨ dfp p d3 r) := by
    have hS := (HS29.out.fresh (w' := w29.drew) (Keeps.refl _ w29).drew).1
    refine (sp_Changed (key := km) (text := ByteArray.empty) (empty := true) (cost := 0) hS (by decide) fun W r hr hW => ?_).mono fun en w' ⟨h1, h2, _⟩ => ⟨h1.trans (by kernel_rfl), h2⟩
    have : (AS.met (K19 v u x y) km).get km = some ⟨y, 17, 4, 0⟩ := by kernel_rfl
    rw [this] at hr
    injection hr with hr
    subst hr
    exact HV29.out W hW
  have HC1 := Lib.hid hc1
  have HPN := Lib.hid (past_none (K20_none v u x y))
  have HKN := Lib.hid (keysAre_none (K20_none v u x y))
  clear hc1
  go_cut [185] (fun s w' => s = .bool false ∧ ∃ A9 n9, Sp w0 w' b A9 n9 (fun _ => False) ∧ A9.now = 5)
  case first =>
    have n5 : 4 + 1 < mostKeys := by decide
    have n6 : 4 + 1 + 1 < mostKeys := by decide
    have kt : (⟨#[116]⟩ : ByteArray).size ≤ maxLen := by decide
    go_region_held (fun w' => True) (trivial) ((first
      | (go_at_call 24; (with_reducible refine (changed_gone HS31.out).mono ?_); rintro e w32 ⟨rfl, hS32⟩; have HS32 := Lib.hid hS32; clear hS32)
      | (go_at_call 24; (with_reducible refine HC1.out.mono ?_); rintro e w30 ⟨rfl, hS30⟩; have HS30 := Lib.hid hS30; clear hS30)
      | (go_at_call 18; (with_reducible refine (sp_Len HS30.out HPN.out HKN.out).mono ?_); rintro e w31 ⟨rfl, hS31, _⟩; have HS31 := Lib.hid hS31; clear hS31)
      | (go_at_call 10; (with_reducible refine (Put_none b _ _).mono ?_); rintro e w' ⟨rfl, rfl⟩)
      | (go_at_call 10; (with_reducible refine (put_longT HS33.out HB.out n6 _ kt).mono ?_); rintro e w34 ⟨rfl, hS34⟩; have HS34 := Lib.hid hS34; clear hS34)
      | (go_at_call 10; (with_reducible refine (put_longA HS32.out HB.out n5).mono ?_); rintro e w33 ⟨rfl, hS33⟩; have HS33 := Lib.hid hS33; clear hS33)
      | (go_at_call 10; (with_reducible refine (put_longB HS32.out HB.out n5).mono ?_); rintro e w33 ⟨rfl, hS33⟩; have HS33 := Lib.hid hS33; clear hS33)
      | (go_at_call 11; (with_reducible refine (Text_lit _ _).mono ?_); rintro e w' ⟨rfl, rfl⟩)))
    all_goals go_wp2_with fail
    all_goals go_meet
    all_goals exact ⟨rfl, _, _, HS34.out, by kernel_rfl⟩
  case rest =>
    obtain ⟨rfl, A9, n9, hS9, hA9⟩ := hcut
    have HS40 := Lib.hid hS9
    have HA9 := Lib.hid hA9
    clear hS9 hA9 hmk hcv1 hcv2 hcv3
    go_wp2_with fail
    go_at_call 15
    refine (sp_Tick (-1) HS40.out).mono ?_
    rintro e w41 ⟨he, hS41, _⟩
    obtain rfl : e = .returned (.int .i64 3) := he.trans (by kernel_rfl)
    have HS41 := Lib.hid hS41
    clear hS41 he
    go_wp2_with fail
    go_at_call 15
    refine (sp_Tick (9007199254740993) HS41.out).mono ?_
    rintro e w42 ⟨he, hS42, _⟩
    obtain rfl : e = .returned (.int .i64 3) := he.trans (by kernel_rfl)
    have HS42 := Lib.hid hS42
    clear hS42 he
    go_wp2_with fail
    go_at_call 15
    refine (sp_Tick (7) HS42.out).mono ?_
    rintro e w43 ⟨he, hS43, _⟩
    obtain rfl : e = .returned (.int .i64 0) := he.trans (by kernel_rfl)
    have HS43 := Lib.hid hS43
    clear hS43 he
    go_wp2_with fail
    go_at_call 15
    refine (sp_Tick (3) HS43.out).mono ?_
    rintro e w44 ⟨he, hS44, _⟩
    obtain rfl : e = .returned (.int .i64 0) := he.trans (by kernel_rfl)
    have HS44 := Lib.hid hS44
    clear hS44 he
    go_wp2_with fail
    go_at_call 25
    refine (sp_Now HS44.out).mono ?_
    rintro e w45 ⟨he, rfl⟩
    obtain rfl : e = .returned (.int .i64 7) := he.trans (by
      have h7 : ((((A9.tick (-1)).tick 9007199254740993).tick 7).tick 3).now = 7 := by
        simp [AS.tick, HA9.out]
        decide
      rw [h7])
    clear he
    go_wp2_with fail
    have hbW : Blk (w44.alloc (.cells badCells 29)) w44.heap.size badCells 29 := Blk.new _ _ _
    obtain ⟨WL, hWL⟩ : ∃ WL, w44.alloc (.cells badCells 29) = WL := ⟨_, rfl⟩
    rw [hWL] at hbW
    have hWL' := hWL
    simp only [badCells] at hWL'
    rw [hWL']
    have HbW := Lib.hid hbW
    have HWLK : Hid (Keeps (fun _ => False) w44 WL) := by rw [← hWL]; exact (Keeps.refl _ _).alloc _
    clear hbW hWL hWL'
    go_loopw [217] (fun i wr => ∃ j : Nat, j ≤ 6 ∧ i = .int .i64 j ∧ Hid (Keeps (fun _ => False) WL wr)) (fun i _ => 6 - (intOf i).toNat)
    case atStart => exact ⟨0, Nat.zero_le _, rfl, Lib.hid (Keeps.refl _ _)⟩
    case round =>
      obtain ⟨j, hj, rfl, hk⟩ := hrel
      by_cases hlt : j < 6
      · obtain ⟨c, hbad, h0, h1, h2, h3⟩ := bad_at hlt
        have hbr := hk.out.blk HbW.out id
        have q0 : wr.cell? ⟨w44.heap.size, j * 4, none⟩ = some (.int .u64 c.seed) := (hbr.cell _).trans h0
        have q1 : wr.cell? ⟨w44.heap.size, j * 4 + 1, none⟩ = some (.int .i64 c.most) := (hbr.cell _).trans h1
        have q2 : wr.cell? ⟨w44.heap.size, j * 4 + 2, none⟩ = some (.int .i64 c.policy) := (hbr.cell _).trans h2
        have q3 : wr.cell? ⟨w44.heap.size, j * 4 + 3, none⟩ = some (.int .i64 c.samples) := (hbr.cell _).trans h3
        have HNew := Lib.hid (fun o => New_bad c (wr.alloc o) hbad)
        clear hbad h0 h1 h2 h3 hbr
        go_wp2_with fail
        go_at_call 9
        refine (HNew.out _).mono ?_
        rintro e w46 ⟨rfl, hk46⟩
        have HK46 := Lib.hid ((hk.out.alloc _).trans hk46)
        clear hk46 q0 q1 q2 q3 HNew
        go_wp2_with fail
        go_roundw
        case rel => exact ⟨j + 1, hlt, by go_num, HK46⟩
        case measure => simp [intOf]; omega
      · obtain rfl : j = 6 := by omega
        clear hj hlt
        go_wp2_with (first
          | (go_at_call 26; refine (Clear_nil _).mono ?_; rintro e w51 ⟨rfl, hk51⟩; have HK51 := Lib.hid hk51; clear hk51)
          | (go_at_call 13; refine (Get_nil _ _).mono ?_; rintro e w' ⟨rfl, rfl⟩)
          | (go_at_call 15; refine (Tick_nil _ _).mono ?_; rintro e w' ⟨rfl, rfl⟩)
          | (go_at_call 10; refine (Put_nil _ _ _).mono ?_; rintro e w' ⟨rfl, rfl⟩)
          | (go_at_call 18; refine (Len_nil _).mono ?_; rintro e w52 ⟨rfl, hk52⟩; have HK52 := Lib.hid hk52; clear hk52)
          | (go_at_call 27; refine (Used_nil _).mono ?_; rintro e w' ⟨rfl, rfl⟩)
          | (go_at_call 28; refine (Stored_nil _).mono ?_; rintro e w53 ⟨rfl, hk53⟩; have HK53 := Lib.hid hk53; clear hk53)
          | (go_at_call 29; refine (Delete_nil _ _).mono ?_; rintro e w' ⟨rfl, rfl⟩)
          | (go_at_call 30; refine (Sweep_nil _ _).mono ?_; rintro e w54 ⟨rfl, hk54⟩; have HK54 := Lib.hid hk54; clear hk54)
          | (go_at_call 31; refine (Config_nil _).mono ?_; rintro e w55 ⟨rfl, hk55⟩; have HK55 := Lib.hid hk55; clear hk55; simp only [cfgCells]))
        go_ret
        refine ⟨rfl, ?_⟩
        have hWL := HWLK.out
        exact (HK0.out.trans (HS44.out.base.trans hWL)).trans (hk.out.trans (HK51.out.trans (HK52.out.trans (HK53.out.trans (HK54.out.trans HK55.out)))))
end Go.Proofs.YtgjpaecpljifpaaGreat

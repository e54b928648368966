/- A deque in memory: find, lay, At. -/
import Derived.Test.YtgjpaecpljifpaaGreatDqC
import Derived.Deep.RegionWith
namespace Go.Proofs.YtgjpaecpljifpaaGreat
open Go Go.RowKit Go.Proofs.YtgjpaecpljifpaaGreat

/-- The chunk that holds a place. -/
structure Found (cs : List Ck) (i : Nat) (pre : List Ck) (c : Ck) (post : List Ck) : Prop where
  eq : cs = pre ++ c :: post
  le : (texts pre).length ≤ i
  lt : i < (texts pre).length + c.2.length ∨ post = []

theorem at_split {cs pre post : List Ck} {c : Ck} (h : cs = pre ++ c :: post) : cs[pre.length]? = some c := by subst h; simp
theorem len_split {cs pre post : List Ck} {c : Ck} (h : cs = pre ++ c :: post) : cs.length = pre.length + 1 + post.length := by subst h; simp; omega

set_option maxRecDepth 100000 in
set_option maxHeartbeats 1000000 in
theorem dq_find {w : World} {q : Nat} {d : DQ} (i : Nat) (h : DqAt w q d) (t : d.Tight) (h0 : d.cs ≠ []) (hi : i ≤ d.texts.length) :
    Calls Tryz.prog 149 #[.pointer (some ⟨q, 0, none⟩), .int .i64 i] w fun e w' => (∃ pre c post, Found d.cs i pre c post ∧ e = .returned (.tuple #[.int .i64 pre.length, .int .i64 (i - (texts pre).length : Nat)])) ∧ w = w' := by
  have c0 : w.cell? ⟨q, 0, none⟩ = some d.sv := h.str.cell 0
  have hncs := h.n_cs t
  have hfew := h.few
  have hrow : ∀ pre c post, d.cs = pre ++ c :: post → ∃ g cap, d.sv = .slice (some ⟨g, 0, none⟩) (pre.length + 1 + post.length) cap ∧ w.cell? ⟨g, pre.length, none⟩ = some (.pointer (some ⟨c.1, 0, none⟩)) ∧ w.cell? ⟨c.1, 32, none⟩ = some (.int .i64 c.2.length) ∧ c.2.length ≤ 32 ∧ pre.length + 1 + post.length ≤ 1048576 := by
    intro pre c post he
    obtain ⟨g, cap, h1, h2, h3, h4, h5, h6⟩ := h.row_cell (at_split he)
    have hc : c ∈ d.cs := by rw [he]; simp
    rw [len_split he] at h1 hncs
    exact ⟨g, cap, h1, h5, (h.ck c hc).cell 32 |>.trans (ckCells_n (h.full c hc)), h.full c hc, hncs⟩
  obtain ⟨x, xs, hx⟩ := List.exists_cons_of_ne_nil h0
  obtain ⟨g, cap, hsv, _, _, _, hb⟩ := hrow [] x xs hx
  have hi' : (i : Int) ≤ 1048576 := by omega
  have HRow := Lib.hid hrow
  have HX := Lib.hid hx
  clear hrow h t h0 hx hncs hfew hi hsv hb
  go_enter Tryz.func149, Tryz.ntmps149
  go_wp2_with fail
  go_loopg [1, 6] xs.length (fun n p k wr => w = wr ∧ ∃ pre c post, Hid (d.cs = pre ++ c :: post) ∧ post.length = n ∧ (texts pre).length ≤ i ∧ p = .int .i64 (i - (texts pre).length : Nat) ∧ k = .int .i64 pre.length)
  case atStart => exact ⟨rfl, [], x, xs, HX, rfl, by simp [texts], by simp [texts], rfl⟩
  case round =>
    obtain ⟨rfl, pre, c, post, hcs, rfl, hle, rfl, rfl⟩ := hrel
    obtain ⟨g', cap', hsv', r1, r2, r3, r4⟩ := HRow.out pre c post hcs.out
    obtain ⟨y, hy⟩ : ∃ y, i - (texts pre).length = y := ⟨_, rfl⟩
    have hy' : (y : Int) ≤ 1048576 := by omega
    rw [hy]
    obtain ⟨n, hn⟩ : ∃ n, pre.length + 1 + post.length = n := ⟨_, rfl⟩
    rw [hn] at hsv' r4
    have r4' : (n : Int) ≤ 1048576 := by omega
    have r3' : (c.2.length : Int) ≤ 32 := by omega
    have hk : (pre.length : Int) < (n : Int) := by omega
    have HN := Lib.hid hn
    have HY := Lib.hid hy
    clear hn hy r4 r3
    by_cases hp : post.length = 0
    · have g1 : decide ((pre.length : Int) < (n : Int) - 1) = false := by have := HN.out; simp; omega
      obtain rfl := List.length_eq_zero_iff.1 hp
      clear hp
      go_wp2_with fail
      go_ret2
      exact ⟨⟨pre, c, [], ⟨hcs.out, hle, .inr rfl⟩, by rw [HY.out]; rfl⟩, rfl⟩
    · have g1 : decide ((pre.length : Int) < (n : Int) - 1) = true := by have := HN.out; simp; omega
      by_cases hc : c.2.length ≤ y
      · obtain ⟨c2, post2, rfl⟩ := List.exists_cons_of_length_pos (Nat.pos_of_ne_zero hp)
        have g2 : decide ((c.2.length : Int) ≤ (y : Int)) = true := by simp; omega
        have g3 : ((c.2.length : Int) ≤ (y : Int)) := by omega
        have HP := Lib.hid hp
        clear hp hc
        go_wp2_with fail
        go_roundg post2.length
        case rel =>
          have h1 : (texts (pre ++ [c])).length = (texts pre).length + c.2.length := by rw [texts_append]; simp [texts]
          have := HY.out
          exact ⟨rfl, pre ++ [c], c2, post2, Lib.hid (by rw [hcs.out]; simp), rfl, by omega, by rw [h1]; congr 1; omega, by simp⟩
        case measure => simp
      · have g2 : decide ((c.2.length : Int) ≤ (y : Int)) = false := by simp; omega
        have HP := Lib.hid hp
        have HC := Lib.hid hc
        clear hp hc
        go_wp2_with fail
        go_ret2
        exact ⟨⟨pre, c, post, ⟨hcs.out, hle, .inl (by have := HC.out; have := HY.out; omega)⟩, by rw [HY.out]; rfl⟩, rfl⟩

/-- A chunk's texts are others now. -/
theorem DqAt.relaid {w w' : World} {q : Nat} {d : DQ} (h : DqAt w q d) {pre post : List Ck} {c : Ck} (hcs : d.cs = pre ++ c :: post) (l' : List ByteArray) (hq : Blk w' q (dqCells ⟨pre ++ (c.1, l') :: post, d.sv⟩) 200)
    (hc : Blk w' c.1 (ckCells l') 204) (hk : Keeps (fun r => r = q ∨ r = c.1) w w') (hl : l'.length ≤ 32) (hfew : (texts (pre ++ (c.1, l') :: post)).length ≤ 1048576) (hshort : ∀ s ∈ texts (pre ++ (c.1, l') :: post), s.size ≤ 1048576) :
    DqAt w' q ⟨pre ++ (c.1, l') :: post, d.sv⟩ := by
  have hcm : c ∈ d.cs := by rw [hcs]; simp
  have honce := h.once
  rw [hcs, List.map_append, List.map_cons] at honce
  refine ⟨hq, ?_, fun x hx => ?_, by simpa using honce, fun x hx => ?_, hfew, hshort⟩
  · have := h.row
    rw [hcs] at this
    refine ownsRow_of_heap' (by simpa [ckPtr] using this) fun g hg => hk.same g (h.row.lt g hg).2 ?_
    rintro (e | e)
    · exact (h.ne.1 g hg).1 e
    · exact (h.ne.1 g hg).2 c hcm e
  · have hx' : x = (c.1, l') ∨ (x ∈ d.cs ∧ x.1 ≠ c.1) := by
      rw [List.nodup_append] at honce
      obtain ⟨h1, h2, h3⟩ := honce
      rw [List.mem_append, List.mem_cons] at hx
      rcases hx with hx | hx | hx
      · exact .inr ⟨by rw [hcs]; simp [hx], h3 _ (List.mem_map_of_mem hx) _ List.mem_cons_self⟩
      · exact .inl hx
      · refine .inr ⟨by rw [hcs]; simp [hx], fun e => (List.nodup_cons.1 h2).1 ?_⟩
        rw [← e]; exact List.mem_map_of_mem hx
    rcases hx' with rfl | ⟨hx1, hx2⟩
    · exact hc
    · exact hk.blk (h.ck x hx1) (by rintro (e | e); exact h.ne.2 x hx1 e; exact hx2 e)
  · rw [List.mem_append, List.mem_cons] at hx
    rcases hx with hx | rfl | hx
    · exact h.full x (by rw [hcs]; simp [hx])
    · exact hl
    · exact h.full x (by rw [hcs]; simp [hx])

theorem texts_split (pre post : List Ck) (b : Nat) (l : List ByteArray) : texts (pre ++ (b, l) :: post) = texts pre ++ (l ++ texts post) := by rw [texts_append, texts_cons]

/-- What DqAt tells of one chunk. -/
theorem DqAt.chunk {w : World} {q : Nat} {d : DQ} (h : DqAt w q d) {pre post : List Ck} {c : Ck} (hcs : d.cs = pre ++ c :: post) :
    ∃ g cap, d.sv = .slice (some ⟨g, 0, none⟩) d.cs.length cap ∧ pre.length < d.cs.length ∧ w.cell? ⟨g, pre.length, none⟩ = some (.pointer (some ⟨c.1, 0, none⟩)) ∧ Blk w c.1 (ckCells c.2) 204 ∧ c.2.length ≤ 32 ∧ c ∈ d.cs ∧ g ≠ q ∧ g ≠ c.1 ∧ c.1 ≠ q := by
  obtain ⟨g, cap, h1, h2, h3, h4, h5, h6⟩ := h.row_cell (at_split hcs)
  have hc : c ∈ d.cs := by rw [hcs]; simp
  have hn := h.ne.1 g (by rw [h1]; rfl)
  exact ⟨g, cap, h1, h2, h5, h.ck c hc, h.full c hc, hc, hn.1, hn.2 c hc, h.ne.2 c hc⟩

set_option maxRecDepth 100000 in
set_option maxHeartbeats 1000000 in
theorem dq_At {w : World} {q : Nat} {d : DQ} (i : Int) (h : DqAt w q d) (t : d.Tight) :
    Calls Tryz.prog 72 #[.pointer (some ⟨q, 0, none⟩), .int .i64 i] w fun e w' => e = .returned (.tuple #[.string (if 0 ≤ i then d.texts.getD i.toNat ByteArray.empty else ByteArray.empty), .bool (decide (0 ≤ i) && decide (i < d.texts.length))]) ∧ w = w' := by
  by_cases h0 : i < 0
  · rw [if_neg (by omega), show decide (0 ≤ i) = false by simp; omega]
    go_enter Tryz.func72, Tryz.ntmps72
    go_wp2_with fail
    go_ret2
    exact ⟨rfl, rfl⟩
  obtain ⟨n, rfl⟩ := Int.eq_ofNat_of_zero_le (Int.not_lt.1 h0)
  rw [if_pos (by omega), show decide ((0 : Int) ≤ (n : Int)) = true by simp]
  have hfew := h.few
  by_cases h1 : d.texts.length ≤ n
  · rw [Int.toNat_natCast, List.getD, List.getElem?_eq_none h1, show decide ((n : Int) < (d.texts.length : Int)) = false by simp; omega]
    have g1 : decide (d.texts.length ≤ n) = true := by simp; omega
    have g0 : decide ((n : Int) < 0) = false := by simp
    have H := Lib.hid h
    clear h0 h1 h hfew
    go_enter Tryz.func72, Tryz.ntmps72
    go_wp2_with (go_at_call 71; refine (dq_Len H.out).mono ?_; rintro e w' ⟨rfl, rfl⟩)
    go_ret2
    exact ⟨rfl, rfl⟩
  rw [Int.toNat_natCast, show decide ((n : Int) < (d.texts.length : Int)) = true by simp; omega]
  have g1 : decide (d.texts.length ≤ n) = false := by simp; omega
  have g0 : decide ((n : Int) < 0) = false := by simp
  have hne : d.cs ≠ [] := by
    intro e
    have : d.texts.length = 0 := by simp [DQ.texts, e, texts]
    omega
  have c0 : w.cell? ⟨q, 0, none⟩ = some d.sv := h.str.cell 0
  have hfind := dq_find n h t hne (by omega)
  have hat : ∀ pre c post, Found d.cs n pre c post → ∃ g cap, d.sv = .slice (some ⟨g, 0, none⟩) d.cs.length cap ∧ pre.length < d.cs.length ∧ w.cell? ⟨g, pre.length, none⟩ = some (.pointer (some ⟨c.1, 0, none⟩)) ∧ n - (texts pre).length < 32 ∧
      w.cell? ⟨c.1, n - (texts pre).length, none⟩ = some (.string (d.texts.getD n ByteArray.empty)) := by
    intro pre c post hf
    obtain ⟨g, cap, r1, r2, r3, r4, r5, _⟩ := h.chunk hf.eq
    have he : d.texts = texts pre ++ (c.2 ++ texts post) := by rw [DQ.texts, hf.eq]; exact texts_split pre post c.1 c.2
    have hlt : n - (texts pre).length < c.2.length := by
      have := hf.le
      rcases hf.lt with h9 | h9
      · omega
      · have h8 : d.texts.length = (texts pre).length + c.2.length := by rw [he, h9]; simp [texts]
        omega
    refine ⟨g, cap, r1, r2, r3, by omega, (r4.cell _).trans (ckCells_text ?_)⟩
    have hle := hf.le
    have : d.texts[n]? = c.2[n - (texts pre).length]? := by
      rw [he, List.getElem?_append_right (by omega), List.getElem?_append_left (by omega)]
    rw [List.getD, this, List.getElem?_eq_getElem hlt]
    rfl
  have hncs := h.n_cs t
  have H := Lib.hid h
  have HF := Lib.hid hfind
  have HA := Lib.hid hat
  clear h0 h1 h hfew hfind hat hne
  go_enter Tryz.func72, Tryz.ntmps72
  go_wp2_with (first | (go_at_call 71; refine (dq_Len H.out).mono ?_; rintro e w' ⟨rfl, rfl⟩) | (go_at_call 149; refine HF.out.mono ?_; rintro e w' ⟨⟨pre, c, post, hfo, rfl⟩, rfl⟩; obtain ⟨g, cap, r1, r2, r3, r4, r5⟩ := HA.out pre c post hfo; generalize n - (texts pre).length = y at *))
  go_ret2
  exact ⟨rfl, rfl⟩
end Go.Proofs.YtgjpaecpljifpaaGreat

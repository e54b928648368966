/- A deque in memory: a chunk more at the end of the row; Push behind all. -/
import Derived.Test.YtgjpaecpljifpaaGreatDqH
import Derived.Maps.AppendAt
namespace Go.Proofs.YtgjpaecpljifpaaGreat
open Go Go.RowKit Go.Proofs.YtgjpaecpljifpaaGreat

set_option maxRecDepth 100000 in
set_option maxHeartbeats 1000000 in
/-- slices.Insert at the end. -/
theorem dq_Insert_end {w : World} {sv : Value} {n : Nat} {xs : List Value} (v : Nat) (u : Value) (h : w.ownsRow 0 205 1 sv n xs) (hv : w.cell? ⟨v, 0, none⟩ = some u) (hu : u.oneCell' = true) (hn : n ≤ 2097152) :
    Calls Tryz.prog 132 #[sv, .int .i64 n, .slice (some ⟨v, 0, none⟩) 1 1] w
      fun e w' => ∃ sv', e = .returned sv' ∧ w'.ownsRow 0 205 1 sv' (n + 1) (xs ++ [u]) ∧ Keeps (fun r => sv.ownBlock = some r) w w' ∧ (sv'.ownBlock = sv.ownBlock ∨ sv'.ownBlock = some w.heap.size) := by
  obtain ⟨i0, hi, hz0, hz1, hz2⟩ := info_parts infoCk
  have hn' : (n : Int) ≤ 2097152 := by omega
  have hnews : ∀ j x, [u][j]? = some x → w.cell? ((⟨v, 0, none⟩ : Addr).add j) = some x := fun j x hj => by
    cases j with
    | zero => simp at hj; subst hj; exact hv
    | succ j => simp at hj
  have HNews := Lib.hid hnews
  have H := Lib.hid h
  have HU := Lib.hid hu
  clear hnews hv hu
  rcases h.2 with ⟨rfl, rfl⟩ | ⟨g, cap, cur, rfl, _, _, hc1, hc2, _, _⟩
  · clear h hn
    go_enter Tryz.func132, Tryz.ntmps132
    go_wp2_with (at_builtin; refine wpList_append_own_at _ rfl _ _ 198 rfl 0 205 i0 (.pointer none) 1 8 Tryz.underlying198 hi hz0 hz1 hz2 rfl (by decide) _ _ _ rfl H.out ⟨v, 0, none⟩ 1 1 [u] rfl rfl HNews.out ?_ ?_ ?_ (Nat.zero_le _) ?_)
    case refine_1 => simpa using HU.out
    case refine_2 => unfold maxLen; omega
    case refine_3 => omega
    intro v' wn hown hgrow _ hat
    have HO := Lib.hid hown
    have HG := Lib.hid hgrow
    have HA := Lib.hid hat
    clear hown hgrow hat hi hz0 hz1 hz2
    go_wp2_with fail
    go_ret
    exact ⟨v', rfl, HO.out, Keeps.grown (Keeps.refl _ w) HG.out (fun r h _ => h), HA.out⟩
  · have hc1' : (n : Int) ≤ (cap : Int) := by omega
    unfold maxLen at hc2
    have hc2' : (cap : Int) ≤ 9223372036854775807 := by omega
    clear h hn hc2 hc1
    by_cases hcn : cap = n
    · subst hcn
      go_enter Tryz.func132, Tryz.ntmps132
      go_wp2_with (at_builtin; refine wpList_append_own_at _ rfl _ _ 198 rfl 0 205 i0 (.pointer none) 1 8 Tryz.underlying198 hi hz0 hz1 hz2 rfl (by decide) _ _ _ rfl H.out ⟨v, 0, none⟩ 1 1 [u] rfl rfl HNews.out ?_ ?_ ?_ (Nat.zero_le _) ?_)
      case refine_1 => simpa using HU.out
      case refine_2 => unfold maxLen; omega
      case refine_3 => omega
      intro v' wn hown hgrow _ hat
      have HO := Lib.hid hown
      have HG := Lib.hid hgrow
      have HA := Lib.hid hat
      clear hown hgrow hat hi hz0 hz1 hz2
      go_wp2_with fail
      go_ret
      exact ⟨v', rfl, HO.out, Keeps.grown (Keeps.refl _ w) HG.out (fun r h _ => h), HA.out⟩
    · have hcn' : ¬ (n = cap) := fun e => hcn e.symm
      go_enter Tryz.func132, Tryz.ntmps132
      go_wp2_with (at_builtin; refine wpList_append_own_at _ rfl _ _ 198 rfl 0 205 i0 (.pointer none) 1 8 Tryz.underlying198 hi hz0 hz1 hz2 rfl (by decide) _ _ _ rfl H.out ⟨v, 0, none⟩ 1 1 [u] rfl rfl HNews.out ?_ ?_ ?_ (Nat.zero_le _) ?_)
      case refine_1 => simpa using HU.out
      case refine_2 => unfold maxLen; omega
      case refine_3 => omega
      intro v' wn hown hgrow _ hat
      have HO := Lib.hid hown
      have HG := Lib.hid hgrow
      have HA := Lib.hid hat
      clear hown hgrow hat hi hz0 hz1 hz2
      go_wp2_with fail
      go_ret
      exact ⟨v', rfl, HO.out, Keeps.grown (Keeps.refl _ w) HG.out (fun r h _ => h), HA.out⟩
end Go.Proofs.YtgjpaecpljifpaaGreat

/- The order of those that are due, in plain words. -/
import Derived.Test.YtgjpaecpljifpaaGreatSpT
import Derived.Shelf.SlSortCmp.NoneTotal
import Derived.Test.YtgjpaecpljifpaaGreatSpH
namespace Go.Proofs.YtgjpaecpljifpaaGreat
open Go Go.RowKit Go.Proofs.YtgjpaecpljifpaaGreat Go.Maps Go.WideMaps Go.Sort Go.Shelf

theorem cmpText_lt (x y : ByteArray) : cmpText x y < 0 ↔ x.toList < y.toList := by
  unfold cmpText
  rw [bytesLess_eq]
  by_cases h : x.toList < y.toList
  · simp [h]
  · simp only [h, decide_false, Bool.false_eq_true, if_false, iff_false]
    split <;> decide
theorem dueCmp_lt (ax ay : Int) (kx ky : ByteArray) : dueCmp ax ay kx ky < 0 ↔ ax < ay ∨ (ax = ay ∧ kx.toList < ky.toList) := by
  unfold dueCmp orInt cmpInt
  by_cases h1 : ax < ay
  · simp [h1]
  · by_cases h2 : ay < ax
    · have h3 : ax ≠ ay := by omega
      simp [h1, h2, h3]
    · have h3 : ax = ay := by omega
      simp [h3, cmpText_lt]

theorem due_swo {α : Type} (a : α → Int) (k : α → ByteArray) : SWO (ltOf fun x y : α => dueCmp (a x) (a y) (k x) (k y)) where
  irrefl x := by
    simp only [ltOf, decide_eq_false_iff_not, dueCmp_lt]
    rintro (h | ⟨_, h⟩)
    · omega
    · exact List.lt_irrefl _ h
  trans x y z h1 h2 := by
    simp only [ltOf, decide_eq_true_eq, dueCmp_lt] at *
    rcases h1 with h1 | ⟨e1, h1⟩
    · rcases h2 with h2 | ⟨e2, h2⟩
      · exact .inl (by omega)
      · exact .inl (by omega)
    · rcases h2 with h2 | ⟨e2, h2⟩
      · exact .inl (by omega)
      · exact .inr ⟨by omega, List.lt_trans h1 h2⟩
  ntrans x y z h1 h2 := by
    simp only [ltOf, decide_eq_false_iff_not, dueCmp_lt, not_or, not_and] at *
    refine ⟨by omega, fun e => ?_⟩
    have e1 : a x = a y := by omega
    have e2 : a y = a z := by omega
    have g1 := h1.2 e1
    have g2 := h2.2 e2
    rw [List.not_lt] at g1 g2 ⊢
    exact List.le_trans g2 g1

/-- Neither ahead of the other: one deadline, one key. -/
theorem due_same {ax ay : Int} {kx ky : ByteArray} (h1 : ¬ dueCmp ax ay kx ky < 0) (h2 : ¬ dueCmp ay ax ky kx < 0) : ax = ay ∧ kx = ky := by
  rw [dueCmp_lt] at h1 h2
  have e : ax = ay := by omega
  refine ⟨e, ?_⟩
  have g1 : ¬ kx.toList < ky.toList := fun h => h1 (.inr ⟨e, h⟩)
  have g2 : ¬ ky.toList < kx.toList := fun h => h2 (.inr ⟨e.symm, h⟩)
  have : kx.toList = ky.toList := List.le_antisymm (List.not_lt.1 g2) (List.not_lt.1 g1)
  exact text_eq (by rw [this]; simp)
end Go.Proofs.YtgjpaecpljifpaaGreat

namespace Go.Proofs.YtgjpaecpljifpaaGreat
open Go Go.RowKit Go.Proofs.YtgjpaecpljifpaaGreat
abbrev DEnt := Ent Nat
def dueCells (l : List DEnt) : List Value := l.flatMap fun e => [.string e.key, .pointer (some ⟨e.val, 0, none⟩)]
theorem dueCells_snoc (l : List DEnt) (e : DEnt) : dueCells (l ++ [e]) = dueCells l ++ [.string e.key, .pointer (some ⟨e.val, 0, none⟩)] := by simp [dueCells]

end Go.Proofs.YtgjpaecpljifpaaGreat

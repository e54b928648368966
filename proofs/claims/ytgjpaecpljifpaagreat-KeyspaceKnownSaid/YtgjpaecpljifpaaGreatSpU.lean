/- A space in memory: those that are due, sorted. -/
import Derived.Test.YtgjpaecpljifpaaGreatDueM
import Derived.Test.YtgjpaecpljifpaaGreatSortK
import Derived.Test.YtgjpaecpljifpaaGreatShelf
namespace Go.Proofs.YtgjpaecpljifpaaGreat
open Go Go.RowKit Go.Proofs.YtgjpaecpljifpaaGreat Go.Maps Go.WideMaps Go.Sort Go.Shelf

abbrev LateE (L : Lay) := { e : DEnt // e ∈ L.late.ents }
def dueEnc {L : Lay} (x : LateE L) : List Value := [.string x.1.key, .pointer (some ⟨x.1.val, 0, none⟩)]
theorem dueCells_map {L : Lay} (l : List (LateE L)) : dueCells (l.map fun x => x.1) = l.flatMap dueEnc := by
  unfold dueCells dueEnc; rw [List.flatMap_map]
def dueCf (L : Lay) (x y : LateE L) : Int := dueCmp (L.rc x.1.val).at_ (L.rc y.1.val).at_ x.1.key y.1.key

theorem due_sort {W : World} {b : Nat} {A : AS} {L : Lay} {U : List ByteArray} (h : SpaceAt W b A L U) {base g cap : Nat} (x0 : LateE L) (l : List (LateE L)) (hsz : l.length < 4611686018427387904)
    (hrow : W.ownsRow base 154 2 (.slice (some ⟨g, 0, none⟩) l.length cap) l.length (dueCells (l.map fun x => x.1))) :
    Calls Tryz.prog 81 #[.slice (some ⟨g, 0, none⟩) l.length cap, .func (.func 82) #[] #[]] W
      fun e w' => e = .returned (.tuple #[]) ∧ ∃ l' : List (LateE L), l' = l.mergeSort (fun x y => !(ltOf (dueCf L)) y x) ∧ w'.ownsRow base 154 2 (.slice (some ⟨g, 0, none⟩) l.length cap) l.length (dueCells (l'.map fun x => x.1)) ∧ Keeps (fun r => r = g) W w' := by
  haveI : Inhabited (LateE L) := ⟨x0⟩
  have hk : ∀ x : LateE L, (dueEnc x).length = 2 := fun _ => rfl
  rw [dueCells_map] at hrow
  rcases hrow.2 with ⟨h0, _⟩ | ⟨g', cap', cur, hv, hbase, hb, h1, h2, h3, h4⟩
  · cases h0
  cases hv
  have hH : HoldsK dueEnc 2 W g 0 l.toArray := holdsK_of_block dueEnc 2 hk (by decide) (show Blk W g cur _ from hb) l h4
  have hent : ∀ (x : LateE L), Blk W x.1.val (recCells (L.rc x.1.val)) 106 := fun x => h.parts.ent _ (by
    have hl : DE.look L.late x.1.key = some x.1.val := (DE.look_iff h.parts.late.ok).2 ⟨x.1, x.2, rfl, rfl⟩
    have hd := h.due x.1.key
    rw [hl] at hd
    exact ⟨x.1.key, (Option.filter_eq_some_iff.1 hd.symm).1⟩)
  have hne : ∀ x : LateE L, x.1.val ≠ g := fun x => (hent x).ne (show Blk W g cur 154 from hb) (by decide)
  have hcmp : CmpLays Tryz.prog 82 #[] dueEnc 2 (dueCf L) g 0 l.toArray.size W := fun m os dk _ x y =>
    due_cmp x.1.val y.1.val (L.rc x.1.val) (L.rc y.1.val) x.1.key y.1.key _ ((sortK_keeps dueEnc 2 W g m dk os).blk (hent x) (hne x)) ((sortK_keeps dueEnc 2 W g m dk os).blk (hent y) (hne y))
  have eg : ∀ args w, (callFunc 82 args).run Tryz.prog w = .ok (.enter 82 args) w := enters_of Tryz.func82 (by kernel_rfl) rfl
  have hcon := AnyQ.slices_SortFunc_total Tryz.sortDue 2 Tryz.isAgg154 Tryz.sizeOf154 dueEnc hk (fun x v hv => by simp [dueEnc] at hv; rcases hv with rfl | rfl <;> rfl) (dueCf L) (due_swo (fun x : LateE L => (L.rc x.1.val).at_) fun x => x.1.key)
    82 #[] g 0 cap l.toArray W eg hcmp hH (show Blk W g cur _ from hb).lt (by simpa using hsz) (fun x y h1 h2 => by
      have := due_same (ax := (L.rc x.1.val).at_) (ay := (L.rc y.1.val).at_) (kx := x.1.key) (ky := y.1.key) (of_decide_eq_false h1) (of_decide_eq_false h2)
      exact Subtype.ext (ok_uniq h.parts.late.ok x.2 y.2 this.2))
  change Calls Tryz.prog 81 _ _ _ at hcon
  rw [show l.toArray.size = l.length by simp] at hcon
  refine hcon.mono ?_
  rintro e w' ⟨rfl, n, os, rfl⟩
  refine ⟨rfl, _, rfl, ?_, sortK_keeps _ _ _ _ _ _ _⟩
  rw [dueCells_map]
  exact ownsRow_sortK dueEnc 2 hk (by decide) (by simp) hbase (show Blk W g cur _ from hb) h1 h2 h3
end Go.Proofs.YtgjpaecpljifpaaGreat

/- draw.Hash: what it computes. -/
import Derived.Test.YtgjpaecpljifpaaGreatProg
import Derived.WalkKit
namespace Go.Proofs.YtgjpaecpljifpaaGreat
open Go Go.RowKit
def hstep (h : Int) (b : UInt8) : Int := IntKind.u64.wrap (bits BinOp.xor IntKind.u64 h (IntKind.u64.wrap (b.toNat : Int)) * 1099511628211)
def hfold (seed : Int) (l : List UInt8) : Int := l.foldl hstep (bits BinOp.xor IntKind.u64 14695981039346656037 seed)
def hmix (h : Int) : Int := IntKind.u64.wrap (bits BinOp.xor IntKind.u64 h (h / 4294967296) * 11400714819323198485)
def hfin (h : Int) : Int := bits BinOp.xor IntKind.u64 (hmix h) (hmix h / 536870912)
/-- draw.Hash. -/
def hashI (seed : Int) (s : ByteArray) : Int := hfin (hfold seed s.data.toList)
def hashN (seed : Int) (s : ByteArray) : Nat := (hashI seed s).toNat
theorem take_snoc (s : ByteArray) (k : Nat) (h : k < s.size) : s.data.toList.take (k + 1) = s.data.toList.take k ++ [s[k]] := by
  rw [List.take_succ_eq_append_getElem (by simpa using h)]; rfl
theorem hfold_snoc (seed : Int) (l : List UInt8) (b : UInt8) : hfold seed (l ++ [b]) = hstep (hfold seed l) b := by simp [hfold]
theorem bits_u64_bd (op : BinOp) (h : op = .xor ∨ op = .and ∨ op = .or) (a b : Int) : 0 ≤ bits op .u64 a b ∧ bits op .u64 a b < 18446744073709551616 := by
  rcases h with rfl | rfl | rfl <;> (simp only [bits]; rw [IntKind.wrap_u64]; omega)
theorem hash_bd (seed : Int) (s : ByteArray) : 0 ≤ hashI seed s ∧ hashI seed s < 18446744073709551616 := bits_u64_bd .xor (.inl rfl) _ _
theorem hash_nat (seed : Int) (s : ByteArray) : ((hashN seed s : Nat) : Int) = hashI seed s := Int.toNat_of_nonneg (hash_bd seed s).1
theorem hashN_lt (seed : Int) (s : ByteArray) : hashN seed s < 18446744073709551616 := by have := hash_bd seed s; unfold hashN; omega
/-- The bucket, as the walk writes it. -/
theorem slot_eq (seed : Int) (s : ByteArray) (n : Nat) (hn : ∃ k, n = 2 ^ k) (hlt : n ≤ 9223372036854775807) :
    bits BinOp.and IntKind.u64 (hashI seed s) ((n : Int) - 1) = ((hashN seed s % n : Nat) : Int) := by
  obtain ⟨k, rfl⟩ := hn
  have hp : 0 < 2 ^ k := Nat.pow_pos (by omega)
  have e : ((2 ^ k : Nat) : Int) - 1 = ((2 ^ k - 1 : Nat) : Int) := by omega
  rw [e, ← hash_nat, bits_and_u64_nat _ _ (hashN_lt _ _) (by omega), Nat.and_two_pow_sub_one_eq_mod]
set_option maxHeartbeats 400000 in
theorem hash_any (seed : Int) (s : ByteArray) (w : World) (hs : s.size ≤ maxLen) :
    Calls Tryz.prog 305 #[.int .u64 seed, .string s] w fun e w' => e = .returned (.int .u64 (hashI seed s)) ∧ w = w' := by
  unfold maxLen at hs
  go_enter Tryz.func305, Tryz.ntmps305
  go_wp2
  go_loop [5, 11] (fun h i => ∃ k : Nat, k ≤ s.size ∧ i = .int .i64 k ∧ h = .int .u64 (hfold seed (s.data.toList.take k))) (fun _ i => s.size - (intOf i).toNat)
  case atStart => exact ⟨0, Nat.zero_le _, rfl, rfl⟩
  case round =>
    obtain ⟨k, hk, rfl, rfl⟩ := hrel
    by_cases hlt : k < s.size
    · go_wp2
      go_round
      case rel => exact ⟨k + 1, by omega, by go_num, by rw [take_snoc s k hlt, hfold_snoc]; rfl⟩
      case measure => simp [intOf]; omega
    · go_wp2
      go_ret
      exact ⟨by rw [List.take_of_length_le (by simp; omega)]; rfl, rfl⟩
end Go.Proofs.YtgjpaecpljifpaaGreat

/- Plain arithmetic for the proofs. No conditions beyond those written. -/
import GoSem.Core.View
namespace Burn.Intn
open Go
theorem w64 (n : Int) : IntKind.i64.wrap n = (n + 9223372036854775808) % 18446744073709551616 - 9223372036854775808 := by
 simp only [IntKind.wrap, IntKind.bits, IntKind.signed, Bool.true_and]
 split <;> rename_i h <;> simp only [ge_iff_le, decide_eq_true_eq] at h <;> omega
theorem u64 (n : Int) : IntKind.u64.wrap n = n % 18446744073709551616 := by
 simp only [IntKind.wrap, IntKind.bits, IntKind.signed, Bool.false_and, Bool.false_eq_true, if_false]
 rfl
def bitsZ (t : Int) : Int := if t = 1 then 1 else if t = 2 then 8 else if t = 3 then 32 else if t = 4 then 64 else 0
def mZ (t : Int) : Int := if t = 1 then 2 else if t = 2 then 256 else if t = 3 then 4294967296 else if t = 4 then 18446744073709551616 else 1
def hZ (t : Int) : Int := if t = 2 then 128 else if t = 3 then 2147483648 else if t = 4 then 9223372036854775808 else 0
def wrapZ (t n : Int) : Int := (n + hZ t) % mZ t - hZ t
def unsZ (t n : Int) : Int := n % mZ t
theorem tcases (t : Int) : t = 1 ∨ t = 2 ∨ t = 3 ∨ t = 4 ∨ (t ≠ 1 ∧ t ≠ 2 ∧ t ≠ 3 ∧ t ≠ 4) := by omega
theorem other {t : Int} (h : t ≠ 1 ∧ t ≠ 2 ∧ t ≠ 3 ∧ t ≠ 4) : bitsZ t = 0 ∧ mZ t = 1 ∧ hZ t = 0 := by
 obtain ⟨h1, h2, h3, h4⟩ := h
 simp [bitsZ, mZ, hZ, h1, h2, h3, h4]
theorem wrap_other {t : Int} (h : t ≠ 1 ∧ t ≠ 2 ∧ t ≠ 3 ∧ t ≠ 4) (n : Int) : wrapZ t n = 0 := by
 obtain ⟨_, h2, h3⟩ := other h
 simp only [wrapZ, h2, h3]; omega
theorem uns_other {t : Int} (h : t ≠ 1 ∧ t ≠ 2 ∧ t ≠ 3 ∧ t ≠ 4) (n : Int) : unsZ t n = 0 := by
 obtain ⟨_, h2, h3⟩ := other h
 simp only [unsZ, h2]; omega
theorem wrap1 (n : Int) : wrapZ 1 n = n % 2 := by simp [wrapZ, hZ, mZ]
theorem wrap2 (n : Int) : wrapZ 2 n = (n + 128) % 256 - 128 := by simp [wrapZ, hZ, mZ]
theorem wrap3 (n : Int) : wrapZ 3 n = (n + 2147483648) % 4294967296 - 2147483648 := by simp [wrapZ, hZ, mZ]
theorem wrap4 (n : Int) : wrapZ 4 n = (n + 9223372036854775808) % 18446744073709551616 - 9223372036854775808 := by simp [wrapZ, hZ, mZ]
theorem and1 (n : Int) : IntKind.i64.wrap ((BitVec.ofInt IntKind.i64.bits n &&& BitVec.ofInt IntKind.i64.bits 1).toNat : Int) = n % 2 := by
 have h : ((BitVec.ofInt IntKind.i64.bits n &&& BitVec.ofInt IntKind.i64.bits 1).toNat : Int) = n % 2 := by
  show ((BitVec.ofInt 64 n &&& BitVec.ofInt 64 1).toNat : Int) = n % 2
  rw [BitVec.toNat_and, BitVec.toNat_ofInt, BitVec.toNat_ofInt, show ((1 : Int) % ((2 ^ 64 : Nat) : Int)).toNat = 1 from by decide, Nat.and_one_is_mod]
  omega
 rw [h, w64]
 omega
theorem sh (n : Int) (j : Nat) (hj : j = 56 ∨ j = 32 ∨ j = 0) : (IntKind.i64.wrap (n * 2 ^ j)).fdiv (2 ^ j) = wrapZ (if j = 56 then 2 else if j = 32 then 3 else 4) n := by
 rcases hj with rfl | rfl | rfl
 ·rw [Int.fdiv_eq_ediv_of_nonneg _ (by decide), w64]; simp only [if_true, wrap2]; omega
 ·rw [Int.fdiv_eq_ediv_of_nonneg _ (by decide), w64]; simp only [if_true, wrap3, Nat.reduceEqDiff, if_false]; omega
 ·rw [Int.fdiv_eq_ediv_of_nonneg _ (by decide), w64]; simp only [wrap4, Nat.reduceEqDiff, if_false]; omega
end Burn.Intn
namespace Burn.Intn
open Go
end Burn.Intn
namespace Burn.Ref
open Go Burn.Intn
structure LaneP where
 n : Int
 p : Bool
 u : Bool
structure ValP where
 t : Int
 o : Int
 l0 : LaneP
 l1 : LaneP
 l2 : LaneP
 l3 : LaneP
end Burn.Ref

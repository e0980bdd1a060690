/- A part of the proofs over this program: an abstract machine that the kernel evaluates, its soundness, and what the functions compute (IntnArith). -/
import Derived.Test.YthdkgphnleibmaaDoorAeIntnPure
/-! fixed-width integers: ranges, signs, overflow -/
namespace Burn.Intn
open Go
theorem minmax (t : Int) : -9223372036854775808 ≤ minZ t ∧ maxZ t ≤ 9223372036854775807 ∧ minZ t ≤ 0 ∧ 0 ≤ maxZ t := by
  rcases tcases t with rfl | rfl | rfl | rfl | h
  · simp [minZ, maxZ, hZ, mZ]
  · simp [minZ, maxZ, hZ, mZ]
  · simp [minZ, maxZ, hZ, mZ]
  · simp [minZ, maxZ, hZ, mZ]
  · simp [minZ, maxZ, other h]
theorem wr (t n : Int) : minZ t ≤ wrapZ t n ∧ wrapZ t n ≤ maxZ t := by
  rcases tcases t with rfl | rfl | rfl | rfl | h
  · rw [wrap1]; simp [minZ, maxZ, hZ, mZ]; omega
  · rw [wrap2]; simp [minZ, maxZ, hZ, mZ]; omega
  · rw [wrap3]; simp [minZ, maxZ, hZ, mZ]; omega
  · rw [wrap4]; simp [minZ, maxZ, hZ, mZ]; omega
  · rw [wrap_other h]; simp [minZ, maxZ, other h]
theorem wr64 (t n : Int) : -9223372036854775808 ≤ wrapZ t n ∧ wrapZ t n ≤ 9223372036854775807 := by
  have := wr t n
  have := minmax t
  omega
theorem wrap_id {t s : Int} (h1 : minZ t ≤ s) (h2 : s ≤ maxZ t) : wrapZ t s = s := by
  rcases tcases t with rfl | rfl | rfl | rfl | h
  · rw [wrap1]; simp [minZ, maxZ, hZ, mZ] at h1 h2; omega
  · rw [wrap2]; simp [minZ, maxZ, hZ, mZ] at h1 h2; omega
  · rw [wrap3]; simp [minZ, maxZ, hZ, mZ] at h1 h2; omega
  · rw [wrap4]; simp [minZ, maxZ, hZ, mZ] at h1 h2; omega
  · rw [wrap_other h]; simp [minZ, maxZ, other h] at h1 h2; omega
theorem wrap_w64 (t s : Int) : wrapZ t (IntKind.i64.wrap s) = wrapZ t s := by
  rw [w64]
  rcases tcases t with rfl | rfl | rfl | rfl | h
  · rw [wrap1, wrap1]; omega
  · rw [wrap2, wrap2]; omega
  · rw [wrap3, wrap3]; omega
  · rw [wrap4, wrap4]; omega
  · rw [wrap_other h, wrap_other h]
def fitB (t n : Int) (w : Bool) : Bool := if bitsZ t = 0 then false else (w || wrapZ t n != n)
theorem bits0 {t : Int} (h : bitsZ t = 0) : t ≠ 1 ∧ t ≠ 2 ∧ t ≠ 3 ∧ t ≠ 4 := by
  refine ⟨?_, ?_, ?_, ?_⟩ <;> (rintro rfl; simp [bitsZ] at h)
theorem fit_eq {t s : Int} {w : Bool} (hw : w = decide (s < -9223372036854775808 ∨ 9223372036854775807 < s)) (h0 : bitsZ t = 0 → s = 0) : fitB t (IntKind.i64.wrap s) w = decide (s < minZ t ∨ maxZ t < s) := by
  have hm := minmax t
  unfold fitB
  split
  · rename_i h
    rw [h0 h]
    symm
    simp only [decide_eq_false_iff_not]
    omega
  · rw [hw]
    by_cases ho : s < -9223372036854775808 ∨ 9223372036854775807 < s
    · rw [decide_eq_true ho, Bool.true_or]
      symm
      simp only [decide_eq_true_eq]
      omega
    · rw [decide_eq_false ho, Bool.false_or]
      have hs : IntKind.i64.wrap s = s := by rw [w64]; omega
      rw [hs]
      by_cases hr : s < minZ t ∨ maxZ t < s
      · rw [decide_eq_true hr]
        have := wr t s
        simp only [bne_iff_ne, ne_eq]
        omega
      · rw [decide_eq_false hr, wrap_id (by omega) (by omega)]
        simp
/-! signs -/
def xorZ (a b : Int) : Int := IntKind.i64.wrap ((BitVec.ofInt IntKind.i64.bits a ^^^ BitVec.ofInt IntKind.i64.bits b).toNat : Int)
def andZ (a b : Int) : Int := IntKind.i64.wrap ((BitVec.ofInt IntKind.i64.bits a &&& BitVec.ofInt IntKind.i64.bits b).toNat : Int)
theorem w64r (n : Int) : -9223372036854775808 ≤ IntKind.i64.wrap n ∧ IntKind.i64.wrap n ≤ 9223372036854775807 := by rw [w64]; omega
theorem sgn (v : BitVec 64) : IntKind.i64.wrap (v.toNat : Int) < 0 ↔ v.msb = true := by
  rw [BitVec.msb_eq_decide, w64]
  have := v.isLt
  simp only [decide_eq_true_eq, Nat.add_one_sub_one, Nat.reduceSub, Nat.reducePow]
  omega
theorem msb_ofInt {a : Int} (h : -9223372036854775808 ≤ a ∧ a ≤ 9223372036854775807) : (BitVec.ofInt 64 a).msb = decide (a < 0) := by
  rw [BitVec.msb_eq_decide, BitVec.toNat_ofInt]
  apply decide_eq_decide.2
  simp only [Nat.reduceSub, Nat.reducePow]
  omega
theorem xor_neg {a b : Int} (ha : -9223372036854775808 ≤ a ∧ a ≤ 9223372036854775807) (hb : -9223372036854775808 ≤ b ∧ b ≤ 9223372036854775807) : xorZ a b < 0 ↔ ¬ (a < 0 ↔ b < 0) := by
  show IntKind.i64.wrap ((BitVec.ofInt 64 a ^^^ BitVec.ofInt 64 b).toNat : Int) < 0 ↔ _
  rw [sgn, BitVec.msb_xor, msb_ofInt ha, msb_ofInt hb]
  by_cases h1 : a < 0 <;> by_cases h2 : b < 0 <;> simp [h1, h2]
theorem and_neg {a b : Int} (ha : -9223372036854775808 ≤ a ∧ a ≤ 9223372036854775807) (hb : -9223372036854775808 ≤ b ∧ b ≤ 9223372036854775807) : andZ a b < 0 ↔ a < 0 ∧ b < 0 := by
  show IntKind.i64.wrap ((BitVec.ofInt 64 a &&& BitVec.ofInt 64 b).toNat : Int) < 0 ↔ _
  rw [sgn, BitVec.msb_and, msb_ofInt ha, msb_ofInt hb]
  by_cases h1 : a < 0 <;> by_cases h2 : b < 0 <;> simp [h1, h2]
theorem add_wide {a b : Int} (ha : -9223372036854775808 ≤ a ∧ a ≤ 9223372036854775807) (hb : -9223372036854775808 ≤ b ∧ b ≤ 9223372036854775807) :
    decide (andZ (xorZ a (IntKind.i64.wrap (a + b))) (xorZ b (IntKind.i64.wrap (a + b))) < 0) = decide (a + b < -9223372036854775808 ∨ 9223372036854775807 < a + b) := by
  apply decide_eq_decide.2
  rw [and_neg (a := xorZ a _) (b := xorZ b _) (w64r _) (w64r _), xor_neg ha (w64r _), xor_neg hb (w64r _), w64]
  omega
theorem sub_wide {a b : Int} (ha : -9223372036854775808 ≤ a ∧ a ≤ 9223372036854775807) (hb : -9223372036854775808 ≤ b ∧ b ≤ 9223372036854775807) :
    decide (andZ (xorZ a b) (xorZ a (IntKind.i64.wrap (a - b))) < 0) = decide (a - b < -9223372036854775808 ∨ 9223372036854775807 < a - b) := by
  apply decide_eq_decide.2
  rw [and_neg (a := xorZ a b) (b := xorZ a _) (w64r _) (w64r _), xor_neg ha hb, xor_neg ha (w64r _), w64]
  omega
/-! products -/
theorem mul_abs {a b : Int} : (¬ (a < 0 ↔ b < 0) → a * b = -((a.natAbs * b.natAbs : Nat) : Int)) ∧ ((a < 0 ↔ b < 0) → a * b = ((a.natAbs * b.natAbs : Nat) : Int)) := by
  have h1 : (a.natAbs : Int) = if a < 0 then -a else a := by split <;> omega
  have h2 : (b.natAbs : Int) = if b < 0 then -b else b := by split <;> omega
  rw [Int.natCast_mul, h1, h2]
  by_cases ha : a < 0 <;> by_cases hb : b < 0 <;> simp [ha, hb, Int.neg_mul, Int.mul_neg]
theorem mul64b {a b : Int} (ha : -9223372036854775808 ≤ a ∧ a ≤ 9223372036854775807) (hb : -9223372036854775808 ≤ b ∧ b ≤ 9223372036854775807) : ((a.natAbs * b.natAbs : Nat) : Int) ≤ 85070591730234615865843651857942052864 := by
  have : a.natAbs * b.natAbs ≤ 9223372036854775808 * 9223372036854775808 := Nat.mul_le_mul (by omega) (by omega)
  omega
end Burn.Intn

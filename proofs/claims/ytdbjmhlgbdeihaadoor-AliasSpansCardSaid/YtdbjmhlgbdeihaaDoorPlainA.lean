/- Plain arithmetic for the proofs. No conditions beyond those written. -/
import Derived.Test.YtdbjmhlgbdeihaaDoorEngineD
import GoSem.Core.View
/-! lists of lists -/
namespace Burn.Cfg
open Go Go.BE
def eqL {α : Type} (e : α → α → Bool) : List α → List α → Bool
  | [], [] => true
  | a :: l, b :: m => e a b && eqL e l m
  | _, _ => false
theorem eqL_len {α : Type} {e : α → α → Bool} : ∀ {l m : List α}, l.length ≠ m.length → eqL e l m = false
  | [], [], h => absurd rfl h
  | [], _ :: _, _ => rfl
  | _ :: _, [], _ => rfl
  | a :: l, b :: m, h => by
    rw [eqL, eqL_len (l := l) (m := m) (by simpa using h), Bool.and_false]
theorem eqL_refl {α : Type} {e : α → α → Bool} (h : ∀ a, e a a = true) : ∀ l, eqL e l l = true
  | [] => rfl
  | a :: l => by rw [eqL, h, eqL_refl h l]; rfl
theorem and_step {E : Ctx} {c : Cfg} {b r : Bool} (hn : Runs E c (fun x h => x = vb r ∧ h = [])) : ((!b) = true → vb false = vb (b && r)) ∧ ((!b) = false → Runs E c (fun x h => x = vb (b && r) ∧ h = [])) := ite_step hn
theorem or3_step {E : Ctx} {c : Cfg} {a b d r : Bool} (hn : Runs E c (fun x h => x = vb r ∧ h = [])) : (a = true → vb true = vb ((a || (b || d)) || r)) ∧ (a = false → (b = true → vb true = vb ((a || (b || d)) || r)) ∧ (b = false → (d = true → vb true = vb ((a || (b || d)) || r)) ∧ (d = false → Runs E c (fun x h => x = vb ((a || (b || d)) || r) ∧ h = [])))) := by
  cases a <;> cases b <;> cases d <;> simp <;> exact hn
theorem and7 (a b c d e f g r : Bool) : (a = true → (b = true → (c = true → (d = true → (e = true → (f = true → (g = true → vb r = vb (a && (b && (c && (d && (e && (f && (g && r)))))))) ∧ (g = false → vb false = vb (a && (b && (c && (d && (e && (f && (g && r))))))))) ∧ (f = false → vb false = vb (a && (b && (c && (d && (e && (f && (g && r))))))))) ∧ (e = false → vb false = vb (a && (b && (c && (d && (e && (f && (g && r))))))))) ∧ (d = false → vb false = vb (a && (b && (c && (d && (e && (f && (g && r))))))))) ∧ (c = false → vb false = vb (a && (b && (c && (d && (e && (f && (g && r))))))))) ∧ (b = false → vb false = vb (a && (b && (c && (d && (e && (f && (g && r))))))))) ∧ (a = false → vb false = vb (a && (b && (c && (d && (e && (f && (g && r)))))))) := by
  cases a <;> cases b <;> cases c <;> cases d <;> cases e <;> cases f <;> cases g <;> simp
/-- the number of elements of all lists in it, with one for each list -/
def szV {α : Type} (f : α → Nat) : (n : Nat) → DenV α n → Nat
  | 0, _ => 0
  | n + 1, x => f x.1 + szV f n x.2
def szD : (S : Sh) → Den S → Nat
  | .int _, _ | .bool, _ | .unit, _ => 0
  | .str, x => ByteArray.size x
  | .pair a b, x => szD a x.1 + szD b x.2
  | .arr n a, x => szV (szD a) n x
  | .sl _ a, x => List.foldr (α := Den a) (fun y n => szD a y + 1 + n) 0 x
  | .ptr a, x => match (x : Option (Den a)) with | some y => szD a y | none => 0
end Burn.Cfg
/-! fixed-width integers: the plain mathematics -/
namespace Burn.Intn
open Go
theorem w64 (n : Int) : IntKind.i64.wrap n = (n + 9223372036854775808) % 18446744073709551616 - 9223372036854775808 := by
  simp only [IntKind.wrap, IntKind.bits, IntKind.signed, Bool.true_and]
  split <;> rename_i h <;> simp only [ge_iff_le, decide_eq_true_eq] at h <;> omega
theorem u64 (n : Int) : IntKind.u64.wrap n = n % 18446744073709551616 := by
  simp only [IntKind.wrap, IntKind.bits, IntKind.signed, Bool.false_and, Bool.false_eq_true, if_false]
  rfl
/-- the number of bits, 2 to that, the half for signed ones -/
def bitsZ (t : Int) : Int := if t = 1 then 1 else if t = 2 then 8 else if t = 3 then 32 else if t = 4 then 64 else 0
def mZ (t : Int) : Int := if t = 1 then 2 else if t = 2 then 256 else if t = 3 then 4294967296 else if t = 4 then 18446744073709551616 else 1
def hZ (t : Int) : Int := if t = 2 then 128 else if t = 3 then 2147483648 else if t = 4 then 9223372036854775808 else 0
def wrapZ (t n : Int) : Int := (n + hZ t) % mZ t - hZ t
def unsZ (t n : Int) : Int := n % mZ t
def minZ (t : Int) : Int := - hZ t
def maxZ (t : Int) : Int := mZ t - hZ t - 1
theorem tcases (t : Int) : t = 1 ∨ t = 2 ∨ t = 3 ∨ t = 4 ∨ (t ≠ 1 ∧ t ≠ 2 ∧ t ≠ 3 ∧ t ≠ 4) := by omega
theorem other {t : Int} (h : t ≠ 1 ∧ t ≠ 2 ∧ t ≠ 3 ∧ t ≠ 4) : bitsZ t = 0 ∧ mZ t = 1 ∧ hZ t = 0 := by
  obtain ⟨h1, h2, h3, h4⟩ := h
  simp [bitsZ, mZ, hZ, h1, h2, h3, h4]
theorem wrap_other {t : Int} (h : t ≠ 1 ∧ t ≠ 2 ∧ t ≠ 3 ∧ t ≠ 4) (n : Int) : wrapZ t n = 0 := by
  obtain ⟨_, h2, h3⟩ := other h
  simp only [wrapZ, h2, h3]; omega
theorem uns_other {t : Int} (h : t ≠ 1 ∧ t ≠ 2 ∧ t ≠ 3 ∧ t ≠ 4) (n : Int) : unsZ t n = 0 := by
  obtain ⟨_, h2, h3⟩ := other h
  simp only [unsZ, h2]; omega
theorem wrap1 (n : Int) : wrapZ 1 n = n % 2 := by simp [wrapZ, hZ, mZ]
theorem wrap2 (n : Int) : wrapZ 2 n = (n + 128) % 256 - 128 := by simp [wrapZ, hZ, mZ]
theorem wrap3 (n : Int) : wrapZ 3 n = (n + 2147483648) % 4294967296 - 2147483648 := by simp [wrapZ, hZ, mZ]
theorem wrap4 (n : Int) : wrapZ 4 n = (n + 9223372036854775808) % 18446744073709551616 - 9223372036854775808 := by simp [wrapZ, hZ, mZ]
theorem and1 (n : Int) : IntKind.i64.wrap ((BitVec.ofInt IntKind.i64.bits n &&& BitVec.ofInt IntKind.i64.bits 1).toNat : Int) = n % 2 := by
  have h : ((BitVec.ofInt IntKind.i64.bits n &&& BitVec.ofInt IntKind.i64.bits 1).toNat : Int) = n % 2 := by
    show ((BitVec.ofInt 64 n &&& BitVec.ofInt 64 1).toNat : Int) = n % 2
    rw [BitVec.toNat_and, BitVec.toNat_ofInt, BitVec.toNat_ofInt, show ((1 : Int) % ((2 ^ 64 : Nat) : Int)).toNat = 1 from by decide, Nat.and_one_is_mod]
    omega
  rw [h, w64]
  omega
theorem sh (n : Int) (j : Nat) (hj : j = 56 ∨ j = 32 ∨ j = 0) : (IntKind.i64.wrap (n * 2 ^ j)).fdiv (2 ^ j) = wrapZ (if j = 56 then 2 else if j = 32 then 3 else 4) n := by
  rcases hj with rfl | rfl | rfl
  · rw [Int.fdiv_eq_ediv_of_nonneg _ (by decide), w64]; simp only [if_true, wrap2]; omega
  · rw [Int.fdiv_eq_ediv_of_nonneg _ (by decide), w64]; simp only [if_true, wrap3, Nat.reduceEqDiff, if_false]; omega
  · rw [Int.fdiv_eq_ediv_of_nonneg _ (by decide), w64]; simp only [wrap4, Nat.reduceEqDiff, if_false]; omega
theorem ush (n : Int) (j : Nat) (hj : j = 63 ∨ j = 56 ∨ j = 32 ∨ j = 0) : (IntKind.u64.wrap (IntKind.u64.wrap n * 2 ^ j)).fdiv (2 ^ j) = unsZ (if j = 63 then 1 else if j = 56 then 2 else if j = 32 then 3 else 4) n := by
  rcases hj with rfl | rfl | rfl | rfl
  · rw [Int.fdiv_eq_ediv_of_nonneg _ (by decide), u64, u64]; simp only [if_true, unsZ, mZ]; omega
  · rw [Int.fdiv_eq_ediv_of_nonneg _ (by decide), u64, u64]; simp [unsZ, mZ]; omega
  · rw [Int.fdiv_eq_ediv_of_nonneg _ (by decide), u64, u64]; simp [unsZ, mZ]; omega
  · rw [Int.fdiv_eq_ediv_of_nonneg _ (by decide), u64, u64]; simp [unsZ, mZ]
end Burn.Intn
/-! fixed-width integers: ranges, signs, overflow -/
namespace Burn.Intn
open Go
theorem minmax (t : Int) : -9223372036854775808 ≤ minZ t ∧ maxZ t ≤ 9223372036854775807 ∧ minZ t ≤ 0 ∧ 0 ≤ maxZ t := by
  rcases tcases t with rfl | rfl | rfl | rfl | h
  · simp [minZ, maxZ, hZ, mZ]
  · simp [minZ, maxZ, hZ, mZ]
  · simp [minZ, maxZ, hZ, mZ]
  · simp [minZ, maxZ, hZ, mZ]
  · simp [minZ, maxZ, other h]
theorem wr (t n : Int) : minZ t ≤ wrapZ t n ∧ wrapZ t n ≤ maxZ t := by
  rcases tcases t with rfl | rfl | rfl | rfl | h
  · rw [wrap1]; simp [minZ, maxZ, hZ, mZ]; omega
  · rw [wrap2]; simp [minZ, maxZ, hZ, mZ]; omega
  · rw [wrap3]; simp [minZ, maxZ, hZ, mZ]; omega
  · rw [wrap4]; simp [minZ, maxZ, hZ, mZ]; omega
  · rw [wrap_other h]; simp [minZ, maxZ, other h]
theorem wr64 (t n : Int) : -9223372036854775808 ≤ wrapZ t n ∧ wrapZ t n ≤ 9223372036854775807 := by
  have := wr t n
  have := minmax t
  omega
theorem wrap_id {t s : Int} (h1 : minZ t ≤ s) (h2 : s ≤ maxZ t) : wrapZ t s = s := by
  rcases tcases t with rfl | rfl | rfl | rfl | h
  · rw [wrap1]; simp [minZ, maxZ, hZ, mZ] at h1 h2; omega
  · rw [wrap2]; simp [minZ, maxZ, hZ, mZ] at h1 h2; omega
  · rw [wrap3]; simp [minZ, maxZ, hZ, mZ] at h1 h2; omega
  · rw [wrap4]; simp [minZ, maxZ, hZ, mZ] at h1 h2; omega
  · rw [wrap_other h]; simp [minZ, maxZ, other h] at h1 h2; omega
theorem wrap_w64 (t s : Int) : wrapZ t (IntKind.i64.wrap s) = wrapZ t s := by
  rw [w64]
  rcases tcases t with rfl | rfl | rfl | rfl | h
  · rw [wrap1, wrap1]; omega
  · rw [wrap2, wrap2]; omega
  · rw [wrap3, wrap3]; omega
  · rw [wrap4, wrap4]; omega
  · rw [wrap_other h, wrap_other h]
def fitB (t n : Int) (w : Bool) : Bool := if bitsZ t = 0 then false else (w || wrapZ t n != n)
theorem bits0 {t : Int} (h : bitsZ t = 0) : t ≠ 1 ∧ t ≠ 2 ∧ t ≠ 3 ∧ t ≠ 4 := by
  refine ⟨?_, ?_, ?_, ?_⟩ <;> (rintro rfl; simp [bitsZ] at h)
theorem fit_eq {t s : Int} {w : Bool} (hw : w = decide (s < -9223372036854775808 ∨ 9223372036854775807 < s)) (h0 : bitsZ t = 0 → s = 0) : fitB t (IntKind.i64.wrap s) w = decide (s < minZ t ∨ maxZ t < s) := by
  have hm := minmax t
  unfold fitB
  split
  · rename_i h
    rw [h0 h]
    symm
    simp only [decide_eq_false_iff_not]
    omega
  · rw [hw]
    by_cases ho : s < -9223372036854775808 ∨ 9223372036854775807 < s
    · rw [decide_eq_true ho, Bool.true_or]
      symm
      simp only [decide_eq_true_eq]
      omega
    · rw [decide_eq_false ho, Bool.false_or]
      have hs : IntKind.i64.wrap s = s := by rw [w64]; omega
      rw [hs]
      by_cases hr : s < minZ t ∨ maxZ t < s
      · rw [decide_eq_true hr]
        have := wr t s
        simp only [bne_iff_ne, ne_eq]
        omega
      · rw [decide_eq_false hr, wrap_id (by omega) (by omega)]
        simp
/-! signs -/
def xorZ (a b : Int) : Int := IntKind.i64.wrap ((BitVec.ofInt IntKind.i64.bits a ^^^ BitVec.ofInt IntKind.i64.bits b).toNat : Int)
def andZ (a b : Int) : Int := IntKind.i64.wrap ((BitVec.ofInt IntKind.i64.bits a &&& BitVec.ofInt IntKind.i64.bits b).toNat : Int)
theorem w64r (n : Int) : -9223372036854775808 ≤ IntKind.i64.wrap n ∧ IntKind.i64.wrap n ≤ 9223372036854775807 := by rw [w64]; omega
theorem sgn (v : BitVec 64) : IntKind.i64.wrap (v.toNat : Int) < 0 ↔ v.msb = true := by
  rw [BitVec.msb_eq_decide, w64]
  have := v.isLt
  simp only [decide_eq_true_eq, Nat.add_one_sub_one, Nat.reduceSub, Nat.reducePow]
  omega
theorem msb_ofInt {a : Int} (h : -9223372036854775808 ≤ a ∧ a ≤ 9223372036854775807) : (BitVec.ofInt 64 a).msb = decide (a < 0) := by
  rw [BitVec.msb_eq_decide, BitVec.toNat_ofInt]
  apply decide_eq_decide.2
  simp only [Nat.reduceSub, Nat.reducePow]
  omega
theorem xor_neg {a b : Int} (ha : -9223372036854775808 ≤ a ∧ a ≤ 9223372036854775807) (hb : -9223372036854775808 ≤ b ∧ b ≤ 9223372036854775807) : xorZ a b < 0 ↔ ¬ (a < 0 ↔ b < 0) := by
  show IntKind.i64.wrap ((BitVec.ofInt 64 a ^^^ BitVec.ofInt 64 b).toNat : Int) < 0 ↔ _
  rw [sgn, BitVec.msb_xor, msb_ofInt ha, msb_ofInt hb]
  by_cases h1 : a < 0 <;> by_cases h2 : b < 0 <;> simp [h1, h2]
theorem and_neg {a b : Int} (ha : -9223372036854775808 ≤ a ∧ a ≤ 9223372036854775807) (hb : -9223372036854775808 ≤ b ∧ b ≤ 9223372036854775807) : andZ a b < 0 ↔ a < 0 ∧ b < 0 := by
  show IntKind.i64.wrap ((BitVec.ofInt 64 a &&& BitVec.ofInt 64 b).toNat : Int) < 0 ↔ _
  rw [sgn, BitVec.msb_and, msb_ofInt ha, msb_ofInt hb]
  by_cases h1 : a < 0 <;> by_cases h2 : b < 0 <;> simp [h1, h2]
theorem add_wide {a b : Int} (ha : -9223372036854775808 ≤ a ∧ a ≤ 9223372036854775807) (hb : -9223372036854775808 ≤ b ∧ b ≤ 9223372036854775807) :
    decide (andZ (xorZ a (IntKind.i64.wrap (a + b))) (xorZ b (IntKind.i64.wrap (a + b))) < 0) = decide (a + b < -9223372036854775808 ∨ 9223372036854775807 < a + b) := by
  apply decide_eq_decide.2
  rw [and_neg (a := xorZ a _) (b := xorZ b _) (w64r _) (w64r _), xor_neg ha (w64r _), xor_neg hb (w64r _), w64]
  omega
theorem sub_wide {a b : Int} (ha : -9223372036854775808 ≤ a ∧ a ≤ 9223372036854775807) (hb : -9223372036854775808 ≤ b ∧ b ≤ 9223372036854775807) :
    decide (andZ (xorZ a b) (xorZ a (IntKind.i64.wrap (a - b))) < 0) = decide (a - b < -9223372036854775808 ∨ 9223372036854775807 < a - b) := by
  apply decide_eq_decide.2
  rw [and_neg (a := xorZ a b) (b := xorZ a _) (w64r _) (w64r _), xor_neg ha hb, xor_neg ha (w64r _), w64]
  omega
/-! products -/
theorem mul_abs {a b : Int} : (¬ (a < 0 ↔ b < 0) → a * b = -((a.natAbs * b.natAbs : Nat) : Int)) ∧ ((a < 0 ↔ b < 0) → a * b = ((a.natAbs * b.natAbs : Nat) : Int)) := by
  have h1 : (a.natAbs : Int) = if a < 0 then -a else a := by split <;> omega
  have h2 : (b.natAbs : Int) = if b < 0 then -b else b := by split <;> omega
  rw [Int.natCast_mul, h1, h2]
  by_cases ha : a < 0 <;> by_cases hb : b < 0 <;> simp [ha, hb, Int.neg_mul, Int.mul_neg]
theorem mul64b {a b : Int} (ha : -9223372036854775808 ≤ a ∧ a ≤ 9223372036854775807) (hb : -9223372036854775808 ≤ b ∧ b ≤ 9223372036854775807) : ((a.natAbs * b.natAbs : Nat) : Int) ≤ 85070591730234615865843651857942052864 := by
  have : a.natAbs * b.natAbs ≤ 9223372036854775808 * 9223372036854775808 := Nat.mul_le_mul (by omega) (by omega)
  omega
end Burn.Intn
/-! values and their refinement: the plain mathematics -/
namespace Burn.Ref
open Go Burn.Intn
structure LaneP where
  n : Int
  p : Bool
  u : Bool
structure ValP where
  t : Int
  o : Int
  l0 : LaneP
  l1 : LaneP
  l2 : LaneP
  l3 : LaneP
def nlZ (t : Int) : Int := if t = 1 ∨ t = 2 ∨ t = 3 ∨ t = 4 ∨ t = 5 then 1 else if t = 6 then 2 else if t = 7 then 4 else 0
def ltZ (t : Int) : Int := if t = 5 then 4 else if t = 6 ∨ t = 7 then 3 else t
/-- a lane that counts is valid -/
def laneB (t : Int) (l : LaneP) : Bool := if l.p || l.u then (l.n == 0 && l.p != l.u) else wrapZ t l.n == l.n
/-- a lane that does not count is empty -/
def noneB (l : LaneP) : Bool := l.n == 0 && !l.p && !l.u
def lanesB (n t : Int) : List LaneP → Int → Bool
  | [], _ => true
  | l :: ls, i => (if i < n then laneB t l else noneB l) && lanesB n t ls (i + 1)
def ValP.lanes (v : ValP) : List LaneP := [v.l0, v.l1, v.l2, v.l3]
def validB (v : ValP) : Bool := nlZ v.t != 0 && lanesB (nlZ v.t) (ltZ v.t) v.lanes 0 && (if v.t == 5 && !v.l0.p then decide (v.o ≥ -1) else v.o == 0)
def laneRef (a b : LaneP) : Bool := b.p || ((a.n == b.n) && (a.p == b.p) && (a.u == b.u)) || b.u && !a.p
def lanesRef (n : Int) : List (LaneP × LaneP) → Int → Bool
  | [], _ => true
  | l :: ls, i => if i < n then laneRef l.1 l.2 && lanesRef n ls (i + 1) else true
def refB (a b : ValP) : Bool := validB a && validB b && a.t == b.t && lanesRef (nlZ a.t) (a.lanes.zip b.lanes) 0 && (a.t != 5 || b.l0.p || a.o == b.o)
end Burn.Ref

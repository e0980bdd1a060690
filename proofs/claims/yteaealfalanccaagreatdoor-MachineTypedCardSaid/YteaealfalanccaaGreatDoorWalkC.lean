/- What the functions that the law reaches compute, one contract each. No conditions beyond those written. -/
import Derived.Test.YteaealfalanccaaGreatDoorWalkB
namespace Burn.MTT
open Go Go.BE Go.Proofs
set_option maxRecDepth 100000
set_option linter.unusedVariables false
set_option linter.unusedSimpArgs false
open Burn.Intn Burn.Ref
def immOp (x : Ins) : Bool := cond (z x.1 == (1 : Int)) true (cond (z x.1 == (26 : Int)) true (z x.1 == (33 : Int)))
def fldR (x : Ins) : Bool := cond (cond (bOf x.2.2.2.2.2.2.2.1) (cond (z x.1 != (5 : Int)) (cond (z x.1 != (6 : Int)) (z x.1 != (7 : Int)) false) false) false) true (cond (cond (z x.2.2.2.2.1 != (0 : Int)) (!(immOp x)) false) true (cond (cond (z x.2.2.2.2.2.1 != (0 : Int)) (cond (z x.1 != (25 : Int)) (z x.1 != (30 : Int)) false) false) true (cond (z x.2.2.2.2.2.2.1 != (0 : Int)) (z x.1 != (26 : Int)) false)))
def symR (x : Ins) (m : Md) : Bool := cond (cond (z x.1 == (25 : Int)) (cond (decide (z x.2.2.2.2.2.1 < (0 : Int))) true (decide (z x.2.2.2.2.2.1 ≥ (ln qaf m.1 : Int)))) false) true (cond (z x.1 == (30 : Int)) (cond (decide (z x.2.2.2.2.2.1 < (0 : Int))) true (decide (z x.2.2.2.2.2.1 ≥ (ln qab m.2.1 : Int)))) false)
def opnI (x : Ins) (f : Fn) (m : Md) (i : Nat) : Int := cond (!(opR x m i (gd I f.2.2.2.1 (z (gd I x.2.2.2.1 i)).toNat) (gd I f.2.2.2.1 (z (gd I x.2.2.2.1 0)).toNat))) 9 0
def rs1 (x : Ins) (f : Fn) : Bool := cond (cond (z x.2.1 == (0 : Int)) (z x.2.2.1 != (-1 : Int)) false) true (cond (cond (z x.2.1 != (0 : Int)) (cond (z x.2.2.1 == (-1 : Int)) (z x.1 != (30 : Int)) false) false) true (cond (decide (z x.2.2.1 ≥ (0 : Int))) (z (gd I f.2.2.2.1 (z x.2.2.1).toNat) != z x.2.1) false))
def rs2 (x : Ins) : Bool := cond (z x.1 == (26 : Int)) (cond (z (accP x.2.2.2.2.2.2.1).2 != (1 : Int)) true (z (accP x.2.2.2.2.2.2.1).1 != z x.2.2.2.2.2.2.1)) false
def rs3 (x : Ins) : Bool := cond (cond (z x.1 == (1 : Int)) (wrapZ x.2.1 x.2.2.2.2.1 != z x.2.2.2.2.1) false) true (cond (z x.1 == (26 : Int)) (cond (decide (z x.2.2.2.2.1 < (1 : Int))) true (decide (z x.2.2.2.2.1 > (256 : Int)))) false)
def rs4 (x : Ins) (f : Fn) : Bool := cond (z x.1 == (33 : Int)) (cond (decide (z x.2.2.2.2.1 < (0 : Int))) true (cond (decide (z x.2.2.2.2.1 > (3 : Int))) true (cond (decide (z x.2.2.2.2.1 > (1 : Int))) (z (gd I f.2.2.2.1 (z (gd I x.2.2.2.1 0)).toNat) == (6 : Int)) false))) false
def chk4 (b : Bool) : Int := cond b 10 0
def chk3 (x : Ins) (f : Fn) (b : Bool) : Int := cond b 10 (chk4 (rs4 x f))
def chk2 (x : Ins) (f : Fn) (b : Bool) : Int := cond b 9 (chk3 x f (rs3 x))
def chk1 (x : Ins) (f : Fn) (b : Bool) : Int := cond b 9 (chk2 x f (rs2 x))
def dstB (x : Ins) (f : Fn) : Bool := cond (decide (z x.2.2.1 < (-1 : Int))) true (decide (z x.2.2.1 ≥ (ln I f.2.2.2.1 : Int)))
def chkS (x : Ins) (f : Fn) (m : Md) (b : Bool) : Int := cond b 10 (cond (!(rsR x m)) 9 (orE (qap (opnI x f m) (ln I x.2.2.2.1) 0) (chk1 x f (rs1 x f))))
def chkC (x : Ins) (f : Fn) (m : Md) (b : Bool) : Int := cond b 3 (orE (argE f x.2.2.2.1) (chkS x f m (dstB x f)))
def cntB (x : Ins) (m : Md) : Bool := cond (!(bOf (cnR x m).2)) true (z (cnR x m).1 != (ln I x.2.2.2.1 : Int))
def chkY (x : Ins) (f : Fn) (m : Md) (b : Bool) : Int := cond b 8 (chkC x f m (cntB x m))
def chkL (x : Ins) (f : Fn) (m : Md) (b : Bool) : Int := cond b 3 (chkY x f m (symR x m))
def opB (x : Ins) : Bool := cond (decide (z x.1 < (1 : Int))) true (decide (z x.1 > (33 : Int)))
def chkO (x : Ins) (f : Fn) (m : Md) (b : Bool) : Int := cond b 8 (chkL x f m (fldR x))
def chkR (x : Ins) (f : Fn) (m : Md) : Int := chkO x f m (opB x)
theorem op8 (op : Int) : op = 5 ∨ op = 6 ∨ op = 7 ∨ op = 26 ∨ op = 1 ∨ op = 33 ∨ op = 25 ∨ op = 30 ∨ ((op == 5) = false ∧ (op == 6) = false ∧ (op == 7) = false ∧ (op == 26) = false ∧ (op == 1) = false ∧ (op == 33) = false ∧ (op == 25) = false ∧ (op == 30) = false) := by
 simp only [beq_eq_false_iff_ne]
 omega
theorem z_fld {x : Ins} : fldP x = cond (fldR x) 3 0 := by
 unfold fldP fldR immOp bne
 rcases op8 (z x.1) with h | h | h | h | h | h | h | h | ⟨h5, h6, h7, h26, h1, h33, h25, h30⟩
 iterate 8
  ·rw [h]
   cases bOf x.2.2.2.2.2.2.2.1 <;> cases z x.2.2.2.2.1 == (0 : Int) <;> cases z x.2.2.2.2.2.1 == (0 : Int) <;> cases z x.2.2.2.2.2.2.1 == (0 : Int) <;> rfl
 ·rw [h5, h6, h7, h26, h1, h33, h25, h30]
  cases bOf x.2.2.2.2.2.2.2.1 <;> cases z x.2.2.2.2.1 == (0 : Int) <;> cases z x.2.2.2.2.2.1 == (0 : Int) <;> cases z x.2.2.2.2.2.2.1 == (0 : Int) <;> rfl
theorem z_sym {x : Ins} {m : Md} : symP x m = cond (symR x m) 8 0 := by
 unfold symP symR
 by_cases h1 : z x.1 = 25
 ·have h2 : (z x.1 == (25 : Int)) = true := beq_iff_eq.mpr h1
  have h3 : (z x.1 == (30 : Int)) = false := by rw [h1]; rfl
  rw [h2, h3]
  cases decide (z x.2.2.2.2.2.1 < (0 : Int)) <;> cases decide (z x.2.2.2.2.2.1 ≥ (ln qaf m.1 : Int)) <;> rfl
 ·have h2 : (z x.1 == (25 : Int)) = false := beq_eq_false_iff_ne.mpr h1
  rw [h2]
  cases z x.1 == (30 : Int) <;> cases decide (z x.2.2.2.2.2.1 < (0 : Int)) <;> cases decide (z x.2.2.2.2.2.1 ≥ (ln qab m.2.1 : Int)) <;> rfl
theorem rs1_eq {x : Ins} {f : Fn} (h : -1 ≤ z x.2.2.1) : rs1 x f = !(resP x f) := by
 unfold rs1 resP
 by_cases h0 : z x.2.1 = 0
 ·by_cases h1 : z x.2.2.1 = -1
  ·simp [h0, h1]
  ·have h2 : (z x.2.2.1 == -1) = false := beq_eq_false_iff_ne.mpr h1
   simp [h0, h2, bne]
 ·have h3 : (z x.2.1 == 0) = false := beq_eq_false_iff_ne.mpr h0
  by_cases h1 : z x.2.2.1 = -1
  ·simp [h3, h1, bne]
  ·have h2 : (z x.2.2.1 == -1) = false := beq_eq_false_iff_ne.mpr h1
   have h4 : decide (z x.2.2.1 ≥ 0) = true := decide_eq_true (by omega)
   simp [h3, h2, h4, bne]
def allP (p : Nat → Bool) : Nat → Nat → Bool
 | 0, _ => true
 | n + 1, i => p i && allP p n (i + 1)
theorem all_E (p : Nat → Bool) (e : Int) : ∀ n i, orE (qap (fun i => cond (!(p i)) 9 0) n i) e = cond (!(allP p n i)) 9 e
 | 0, i => rfl
 | n + 1, i => by
  have ih := all_E p e n (i + 1)
  simp only [qap, allP]
  cases h : p i
  ·rfl
  ·exact ih
def opP (x : Ins) (f : Fn) (m : Md) (i : Nat) : Bool := opR x m i (gd I f.2.2.2.1 (z (gd I x.2.2.2.1 i)).toNat) (gd I f.2.2.2.1 (z (gd I x.2.2.2.1 0)).toNat)
theorem wide_iff {t : Int} : wideP t = true ↔ 2 ≤ t ∧ t ≤ 4 := by unfold wideP; cases h : decide (t ≥ 2) <;> simp at h ⊢ <;> omega
theorem int_iff {t : Int} : intP t = true ↔ 1 ≤ t ∧ t ≤ 4 := by unfold intP; cases h : decide (t ≥ 1) <;> simp at h ⊢ <;> omega
theorem typ_iff {t : Int} : typP t = true ↔ 1 ≤ t ∧ t ≤ 7 := by unfold typP; cases h : decide (t ≥ 1) <;> simp at h ⊢ <;> omega
theorem vec_iff {t : Int} : vecP t = true ↔ t = 6 ∨ t = 7 := by unfold vecP; cases h : t == 6 <;> simp at h ⊢ <;> omega
theorem cel_cases (t : Int) : t = 2 ∨ t = 3 ∨ t = 4 ∨ t = 5 ∨ t = 6 ∨ t = 7 ∨ ((t == 2) = false ∧ (t == 3) = false ∧ (t == 4) = false ∧ (t == 5) = false ∧ (t == 6) = false ∧ (t == 7) = false) := by
 simp only [beq_eq_false_iff_ne]
 omega
theorem cell_iff {t : Int} : decide (z (accP t).2 > 0) = true ↔ 2 ≤ t ∧ t ≤ 7 := by
 rcases cel_cases t with rfl | rfl | rfl | rfl | rfl | rfl | ⟨h2, h3, h4, h5, h6, h7⟩
 iterate 6 exact ⟨fun _ => by omega, fun _ => rfl⟩
 unfold accP
 rw [h2, h3, h4, h5, h6, h7]
 simp at h2 h3 h4 h5 h6 h7
 exact ⟨fun h => by simp at h, fun h => by omega⟩
theorem calN_eq (g : Fn) (args : List (Den I)) (t : Int) : ∀ n i, calN g args t n i = (allP (fun i => cond (decide (z (gd I g.2.1 i) ≥ (0 : Int))) (cond (decide (z (gd I g.2.1 i) < (ln I g.2.2.2.1 : Int))) (z (gd I args i) == z (gd I g.2.2.2.1 (z (gd I g.2.1 i)).toNat)) false) false) n i && (t == z g.2.2.1))
 | 0, i => by simp [calN, allP]
 | n + 1, i => by
  rw [calN, calN_eq g args t n (i + 1), allP]
  by_cases h1 : z (gd I g.2.1 i) < 0
  ·rw [decide_eq_true h1, decide_eq_false (show ¬ z (gd I g.2.1 i) ≥ 0 by omega)]; rfl
  ·rw [decide_eq_false h1, decide_eq_true (show z (gd I g.2.1 i) ≥ 0 by omega)]
   by_cases h2 : z (gd I g.2.1 i) ≥ (ln I g.2.2.2.1 : Int)
   ·rw [decide_eq_true h2, decide_eq_false (show ¬ z (gd I g.2.1 i) < (ln I g.2.2.2.1 : Int) by omega)]; rfl
   ·rw [decide_eq_false h2, decide_eq_true (show z (gd I g.2.1 i) < (ln I g.2.2.2.1 : Int) by omega)]
    by_cases h3 : z (gd I g.2.2.2.1 (z (gd I g.2.1 i)).toNat) = z (gd I args i)
    ·rw [h3]; simp
    ·have h4 : (z (gd I g.2.2.2.1 (z (gd I g.2.1 i)).toNat) != z (gd I args i)) = true := by simpa using h3
     have h5 : (z (gd I args i) == z (gd I g.2.2.2.1 (z (gd I g.2.1 i)).toNat)) = false := by simpa using fun h => h3 h.symm
     rw [h4, h5]; rfl
theorem allP_congr {p q : Nat → Bool} : ∀ {n i}, (∀ j, i ≤ j → j < i + n → p j = q j) → allP p n i = allP q n i
 | 0, _, _ => rfl
 | n + 1, i, h => by rw [allP, allP, h i (Nat.le_refl _) (by omega), allP_congr fun j h1 h2 => h j (by omega) (by omega)]
theorem argT_gd {f : Fn} {l : List (Den I)} {i : Nat} (h : i < ln I l) : gd I (argT f l (ln I l)) i = gd I f.2.2.2.1 (z (gd I l i)).toNat := by
 have h' : i < l.length := h
 unfold argT
 have hl : l.take (ln I l) = l := List.take_length
 rw [hl]
 show ((l.map _)[i]?).getD _ = _
 rw [List.getElem?_map]
 have hg : gd I l i = l[i] := by unfold gd; simp [List.getElem?_eq_getElem h']
 rw [List.getElem?_eq_getElem h', hg]
 rfl
theorem len0 {l : List (Den I)} (h : ln I l = 0) : l = [] := List.eq_nil_of_length_eq_zero h
theorem len1 {l : List (Den I)} (h : ln I l = 1) : ∃ a, l = [a] := List.length_eq_one_iff.mp h
theorem len2 {l : List (Den I)} (h : ln I l = 2) : ∃ a b, l = [a, b] := by
 match l, h with
 | [a, b], _ => exact ⟨a, b, rfl⟩
theorem len3 {l : List (Den I)} (h : ln I l = 3) : ∃ a b c, l = [a, b, c] := by
 match l, h with
 | [a, b, c], _ => exact ⟨a, b, c, rfl⟩
theorem len4 {l : List (Den I)} (h : ln I l = 4) : ∃ a b c d, l = [a, b, c, d] := by
 match l, h with
 | [a, b, c, d], _ => exact ⟨a, b, c, d, rfl⟩
theorem gd0 {a : Den I} {l : List (Den I)} : gd I (a :: l) 0 = a := rfl
theorem gd1x {a b : Int} : gd I ([a, b] : List (Den I)) 1 = b := rfl
theorem cel_iff {t : Int} : z (accP t).2 > 0 ↔ 2 ≤ t ∧ t ≤ 7 := by rw [← cell_iff]; simp
theorem tl21 {a b c : Int} : wn I ([a, b, c] : List (Den I)) 1 2 = ([b, c] : List (Den I)) := rfl
theorem bits_iff {a t : Int} (ha : a = 1 ∨ a = 2 ∨ a = 3 ∨ a = 4) : (bitsZ a < bitsZ t ↔ a < t ∧ t ≤ 4) ∧ (bitsZ a > bitsZ t ↔ t < a ∨ 4 < t) := by
 have ht : bitsZ t = 1 ∧ t = 1 ∨ bitsZ t = 8 ∧ t = 2 ∨ bitsZ t = 32 ∧ t = 3 ∨ bitsZ t = 64 ∧ t = 4 ∨ bitsZ t = 0 ∧ (t < 1 ∨ 4 < t) := by
  unfold bitsZ
  repeat' split
  all_goals omega
 have h1 : bitsZ 1 = 1 := rfl
 have h2 : bitsZ 2 = 8 := rfl
 have h3 : bitsZ 3 = 32 := rfl
 have h4 : bitsZ 4 = 64 := rfl
 rcases ha with rfl | rfl | rfl | rfl <;> simp only [h1, h2, h3, h4] <;> omega
theorem cond_iff {c a b : Bool} : cond c a b = true ↔ (c = true ∧ a = true) ∨ (¬ c = true ∧ b = true) := by cases c <;> simp
theorem typ2 {x : Ins} {m : Md} {ta tb : Int} {k : Int} (hk : z x.1 = k) (h : 5 ≤ k ∧ k ≤ 20 ∨ k = 27 ∨ k = 29) : tydP x [ta, tb] m = (rsR x m && (opR x m 0 ta ta && opR x m 1 tb ta)) := by
 have : k = 5 ∨ k = 6 ∨ k = 7 ∨ k = 8 ∨ k = 9 ∨ k = 10 ∨ k = 11 ∨ k = 12 ∨ k = 13 ∨ k = 14 ∨ k = 15 ∨ k = 16 ∨ k = 17 ∨ k = 18 ∨ k = 19 ∨ k = 20 ∨ k = 27 ∨ k = 29 := by omega
 clear h
 rcases this with rfl | rfl | rfl | rfl | rfl | rfl | rfl | rfl | rfl | rfl | rfl | rfl | rfl | rfl | rfl | rfl | rfl | rfl
 all_goals (unfold tydP rsR opR; rw [hk]; (try rw [show wn I ([ta, tb, tc] : List (Den I)) 1 (ln I ([ta, tb, tc] : List (Den I)) - 1) = ([tb, tc] : List (Den I)) from rfl]); (repeat rw [gd1x]); (repeat rw [gd0]); simp only [samF, gd0, tl21, Int.reduceBEq, cond_true, cond_false, Bool.and_true]; rw [Bool.eq_iff_iff]; simp only [cond_iff, wide_iff, int_iff, typ_iff, vec_iff, cell_iff, cel_iff, cellP_iff, Bool.and_eq_true, beq_iff_eq, bne_iff_ne, decide_eq_true_eq, ne_eq, reduceCtorEq, and_true, true_and, and_false, or_false, not_true, not_false_iff, false_or, Classical.not_not, false_and, or_true, true_or, Int.reduceLT, Int.reduceGT, decide_true, decide_false]; (try simp only [z]); all_goals (try omega))
theorem typ3 {x : Ins} {m : Md} {ta tb tc : Int} (hk : z x.1 = 21) : tydP x [ta, tb, tc] m = (rsR x m && (opR x m 0 ta ta && (opR x m 1 tb ta && opR x m 2 tc ta))) := by
 (unfold tydP rsR opR; rw [hk]; (try rw [show wn I ([ta, tb, tc] : List (Den I)) 1 (ln I ([ta, tb, tc] : List (Den I)) - 1) = ([tb, tc] : List (Den I)) from rfl]); (repeat rw [gd1x]); (repeat rw [gd0]); simp only [samF, gd0, tl21, Int.reduceBEq, cond_true, cond_false, Bool.and_true]; rw [Bool.eq_iff_iff]; simp only [cond_iff, wide_iff, int_iff, typ_iff, vec_iff, cell_iff, cel_iff, cellP_iff, Bool.and_eq_true, beq_iff_eq, bne_iff_ne, decide_eq_true_eq, ne_eq, reduceCtorEq, and_true, true_and, and_false, or_false, not_true, not_false_iff, false_or, Classical.not_not, false_and, or_true, true_or, Int.reduceLT, Int.reduceGT, decide_true, decide_false]; (try simp only [z]); all_goals (try omega))
theorem typ1 {x : Ins} {m : Md} {ta : Int} {k : Int} (hk : z x.1 = k) (h : k = 3 ∨ k = 4 ∨ k = 28 ∨ k = 31 ∨ k = 33) : tydP x [ta] m = (rsR x m && (opR x m 0 ta ta)) := by
 rcases h with rfl | rfl | rfl | rfl | rfl
 all_goals (unfold tydP rsR opR; rw [hk]; (try rw [show wn I ([ta, tb, tc] : List (Den I)) 1 (ln I ([ta, tb, tc] : List (Den I)) - 1) = ([tb, tc] : List (Den I)) from rfl]); (repeat rw [gd1x]); (repeat rw [gd0]); simp only [samF, gd0, tl21, Int.reduceBEq, cond_true, cond_false, Bool.and_true]; rw [Bool.eq_iff_iff]; simp only [cond_iff, wide_iff, int_iff, typ_iff, vec_iff, cell_iff, cel_iff, cellP_iff, Bool.and_eq_true, beq_iff_eq, bne_iff_ne, decide_eq_true_eq, ne_eq, reduceCtorEq, and_true, true_and, and_false, or_false, not_true, not_false_iff, false_or, Classical.not_not, false_and, or_true, true_or, Int.reduceLT, Int.reduceGT, decide_true, decide_false]; (try simp only [z]); all_goals (try omega))
theorem typ1b {x : Ins} {m : Md} {ta : Int} {k : Int} (hk : z x.1 = k) (h : k = 22 ∨ k = 23 ∨ k = 24) : tydP x [ta] m = (rsR x m && (opR x m 0 ta ta)) := by
 by_cases hb : ta = 1 ∨ ta = 2 ∨ ta = 3 ∨ ta = 4
 ·have hB := bits_iff (t := z x.2.1) hb
  have e1 : decide (bitsZ ta < bitsZ x.2.1) = decide (ta < z x.2.1 ∧ z x.2.1 ≤ 4) := decide_eq_decide.mpr hB.1
  have e2 : decide (bitsZ ta > bitsZ x.2.1) = decide (z x.2.1 < ta ∨ 4 < z x.2.1) := decide_eq_decide.mpr hB.2
  rcases h with rfl | rfl | rfl
  all_goals (unfold tydP rsR opR; rw [hk]; (try rw [show wn I ([ta, tb, tc] : List (Den I)) 1 (ln I ([ta, tb, tc] : List (Den I)) - 1) = ([tb, tc] : List (Den I)) from rfl]); (repeat rw [gd1x]); (repeat rw [gd0]); simp only [samF, gd0, tl21, Int.reduceBEq, cond_true, cond_false, Bool.and_true]; (try rw [e1]); (try rw [e2]); rw [Bool.eq_iff_iff]; simp only [e1, e2, cond_iff, wide_iff, int_iff, typ_iff, vec_iff, cell_iff, cel_iff, cellP_iff, Bool.and_eq_true, beq_iff_eq, bne_iff_ne, decide_eq_true_eq, ne_eq, reduceCtorEq, and_true, true_and, and_false, or_false, not_true, not_false_iff, false_or, Classical.not_not, false_and, or_true, true_or, Int.reduceLT, Int.reduceGT, decide_true, decide_false]; (try simp only [z]); all_goals omega)
 ·rcases h with rfl | rfl | rfl
  all_goals (unfold tydP rsR opR; rw [hk]; (try rw [show wn I ([ta, tb, tc] : List (Den I)) 1 (ln I ([ta, tb, tc] : List (Den I)) - 1) = ([tb, tc] : List (Den I)) from rfl]); (repeat rw [gd1x]); (repeat rw [gd0]); simp only [samF, gd0, tl21, Int.reduceBEq, cond_true, cond_false, Bool.and_true]; rw [Bool.eq_iff_iff]; simp only [cond_iff, wide_iff, int_iff, typ_iff, vec_iff, cell_iff, cel_iff, cellP_iff, Bool.and_eq_true, beq_iff_eq, bne_iff_ne, decide_eq_true_eq, ne_eq, reduceCtorEq, and_true, true_and, and_false, or_false, not_true, not_false_iff, false_or, Classical.not_not, false_and, or_true, true_or, Int.reduceLT, Int.reduceGT, decide_true, decide_false]; (try simp only [z]); all_goals (try omega))
theorem typ0 {x : Ins} {m : Md} {k : Int} (hk : z x.1 = k) (h : k = 1 ∨ k = 2 ∨ k = 25 ∨ k = 26) : tydP x [] m = rsR x m := by
 rcases h with rfl | rfl | rfl | rfl <;> (unfold tydP rsR; rw [hk]; rfl)
theorem tp2 {x : Ins} {m : Md} {ta tb : Int} (hk : z x.1 = 32) (hn : (ln I x.2.2.2.1 : Int) = 2) : tydP x [ta, tb] m = (rsR x m && (opR x m 0 ta ta && opR x m 1 tb ta)) := by
 have hq : (ln I ([ta, tb] : List (Den I)) : Int) = 2 := rfl
 have hr : True := trivial
 unfold tydP rsR opR; rw [hk]; rw [hn]; simp only [hn, hq, hr]; (try rw [show wn I ([ta, tb, tc] : List (Den I)) 1 (ln I ([ta, tb, tc] : List (Den I)) - 1) = ([tb, tc] : List (Den I)) from rfl]); (repeat rw [gd1x]); (repeat rw [gd0]); simp only [samF, gd0, tl21, Int.reduceBEq, cond_true, cond_false, Bool.and_true]; rw [Bool.eq_iff_iff]; simp only [cond_iff, wide_iff, int_iff, typ_iff, vec_iff, cell_iff, cel_iff, cellP_iff, Bool.and_eq_true, beq_iff_eq, bne_iff_ne, decide_eq_true_eq, ne_eq, reduceCtorEq, and_true, true_and, and_false, or_false, not_true, not_false_iff, false_or, Classical.not_not, false_and, or_true, true_or, Int.reduceLT, Int.reduceGT, decide_true, decide_false]; (try simp only [z]); all_goals (try omega)
theorem tp4 {x : Ins} {m : Md} {ta tb tc td : Int} (hk : z x.1 = 32) (hn : (ln I x.2.2.2.1 : Int) = 4) : tydP x [ta, tb, tc, td] m = (rsR x m && (opR x m 0 ta ta && (opR x m 1 tb ta && (opR x m 2 tc ta && opR x m 3 td ta)))) := by
 have hq : (ln I ([ta, tb, tc, td] : List (Den I)) : Int) = 4 := rfl
 have hr : True := trivial
 unfold tydP rsR opR; rw [hk]; rw [hn]; simp only [hn, hq, hr]; (try rw [show wn I ([ta, tb, tc] : List (Den I)) 1 (ln I ([ta, tb, tc] : List (Den I)) - 1) = ([tb, tc] : List (Den I)) from rfl]); (repeat rw [gd1x]); (repeat rw [gd0]); simp only [samF, gd0, tl21, Int.reduceBEq, cond_true, cond_false, Bool.and_true]; rw [Bool.eq_iff_iff]; simp only [cond_iff, wide_iff, int_iff, typ_iff, vec_iff, cell_iff, cel_iff, cellP_iff, Bool.and_eq_true, beq_iff_eq, bne_iff_ne, decide_eq_true_eq, ne_eq, reduceCtorEq, and_true, true_and, and_false, or_false, not_true, not_false_iff, false_or, Classical.not_not, false_and, or_true, true_or, Int.reduceLT, Int.reduceGT, decide_true, decide_false]; (try simp only [z]); all_goals (try omega)
theorem cnt_eq {x : Ins} {m : Md} (h : 1 ≤ z x.1 ∧ z x.1 ≤ 33) : cntP x m = cond (cntB x m) 3 0 := by
 have hr : cntP x m = cond (z x.1 == 30) (cond ((ln I x.2.2.2.1 : Int) != (ln I (gd qab m.2.1 (z x.2.2.2.2.2.1).toNat).2.1 : Int)) 3 0) (cond (z x.1 == 32) (cond ((ln I x.2.2.2.1 : Int) == 4) (cond ((ln I x.2.2.2.1 : Int) != 4) 3 0) (cond ((ln I x.2.2.2.1 : Int) != 2) 3 0)) (cond ((ln I x.2.2.2.1 : Int) != rowN (z x.1)) 3 0)) := rfl
 rw [hr]
 unfold cntB cnR
 have hb : ∀ a b : Int, (a != b) = (b != a) := fun a b => by rw [Bool.eq_iff_iff]; simp; exact ⟨fun h e => h e.symm, fun h e => h e.symm⟩
 have hz : ∀ k : Int, z x.1 = k → (k = 30 ∨ k = 32 ∨ ∃ n, rowN k = n) → True := fun _ _ _ => trivial
 have : z x.1 = 1 ∨ z x.1 = 2 ∨ z x.1 = 3 ∨ z x.1 = 4 ∨ z x.1 = 5 ∨ z x.1 = 6 ∨ z x.1 = 7 ∨ z x.1 = 8 ∨ z x.1 = 9 ∨ z x.1 = 10 ∨ z x.1 = 11 ∨ z x.1 = 12 ∨ z x.1 = 13 ∨ z x.1 = 14 ∨ z x.1 = 15 ∨ z x.1 = 16 ∨ z x.1 = 17 ∨ z x.1 = 18 ∨ z x.1 = 19 ∨ z x.1 = 20 ∨ z x.1 = 21 ∨ z x.1 = 22 ∨ z x.1 = 23 ∨ z x.1 = 24 ∨ z x.1 = 25 ∨ z x.1 = 26 ∨ z x.1 = 27 ∨ z x.1 = 28 ∨ z x.1 = 29 ∨ z x.1 = 31 ∨ z x.1 = 33 ∨ z x.1 = 30 ∨ z x.1 = 32 := by omega
 rcases this with h | h | h | h | h | h | h | h | h | h | h | h | h | h | h | h | h | h | h | h | h | h | h | h | h | h | h | h | h | h | h | h | h
 iterate 31
  ·rw [h]
   first
   | exact congrArg (fun b => cond b (3 : Int) 0) (hb _ 0)
   | exact congrArg (fun b => cond b (3 : Int) 0) (hb _ 1)
   | exact congrArg (fun b => cond b (3 : Int) 0) (hb _ 2)
   | exact congrArg (fun b => cond b (3 : Int) 0) (hb _ 3)
 ·rw [h]
  exact congrArg (fun b => cond b (3 : Int) 0) (hb _ _)
 ·rw [h]
  by_cases h4 : (ln I x.2.2.2.1 : Int) = 4
  ·rw [h4]; rfl
  ·have e4 : ((ln I x.2.2.2.1 : Int) == 4) = false := beq_eq_false_iff_ne.mpr h4
   by_cases h2 : (ln I x.2.2.2.1 : Int) = 2
   ·rw [h2]; rfl
   ·have e2 : ((ln I x.2.2.2.1 : Int) == 2) = false := beq_eq_false_iff_ne.mpr h2
    simp [bne, e4, e2, bOf]
theorem typ_eq {x : Ins} {f : Fn} {m : Md} (h : 1 ≤ z x.1 ∧ z x.1 ≤ 33) (hc : cntB x m = false) : tydP x (argT f x.2.2.2.1 (ln I x.2.2.2.1)) m = (rsR x m && allP (opP x f m) (ln I x.2.2.2.1) 0) := by
 have hn : cntP x m = 0 := by rw [cnt_eq h, hc]; rfl
 have hcr := cnt_row (x := x) (m := m) (by rw [hn]; rfl)
 have hl : ∀ k n : Int, z x.1 = k → rowN k = n → k ≠ 30 → k ≠ 32 → (ln I x.2.2.2.1 : Int) = n := fun k n h1 h2 h3 h4 => by
  rw [hcr.2.2 (by omega) (by omega), h1, h2]
 have f0 : ∀ k : Int, z x.1 = k → (k = 1 ∨ k = 2 ∨ k = 25 ∨ k = 26) → rowN k = 0 → tydP x (argT f x.2.2.2.1 (ln I x.2.2.2.1)) m = (rsR x m && allP (opP x f m) (ln I x.2.2.2.1) 0) := fun k hk hj hr => by
  have hlen := len0 (l := x.2.2.2.1) (by have := hl k 0 hk hr (by omega) (by omega); omega)
  rw [hlen]
  exact (typ0 hk hj).trans (by rw [show allP (opP x f m) (ln I ([] : List (Den I))) 0 = true from rfl, Bool.and_true])
 have f1 : ∀ k : Int, z x.1 = k → (k = 3 ∨ k = 4 ∨ k = 28 ∨ k = 31 ∨ k = 33 ∨ k = 22 ∨ k = 23 ∨ k = 24) → rowN k = 1 → tydP x (argT f x.2.2.2.1 (ln I x.2.2.2.1)) m = (rsR x m && allP (opP x f m) (ln I x.2.2.2.1) 0) := fun k hk hj hr => by
  obtain ⟨a, hlen⟩ := len1 (l := x.2.2.2.1) (by have := hl k 1 hk hr (by omega) (by omega); omega)
  have hgo : tydP x [gd I f.2.2.2.1 (z a).toNat] m = (rsR x m && (opR x m 0 (gd I f.2.2.2.1 (z a).toNat) (gd I f.2.2.2.1 (z a).toNat))) := by
   by_cases h2 : k = 22 ∨ k = 23 ∨ k = 24
   ·exact typ1b hk h2
   ·exact typ1 hk (by omega)
  have e1 : argT f x.2.2.2.1 (ln I x.2.2.2.1) = [gd I f.2.2.2.1 (z a).toNat] := by rw [hlen]; rfl
  have e2 : allP (opP x f m) (ln I x.2.2.2.1) 0 = (opR x m 0 (gd I f.2.2.2.1 (z a).toNat) (gd I f.2.2.2.1 (z a).toNat)) := by
   unfold opP
   rw [hlen]
   exact Bool.and_true _
  rw [e1, e2]
  exact hgo
 have f2 : (∀ ta tb : Int, tydP x [ta, tb] m = (rsR x m && (opR x m 0 ta ta && opR x m 1 tb ta))) → (ln I x.2.2.2.1 : Int) = 2 → tydP x (argT f x.2.2.2.1 (ln I x.2.2.2.1)) m = (rsR x m && allP (opP x f m) (ln I x.2.2.2.1) 0) := fun hgo hr => by
  obtain ⟨a, b, hlen⟩ := len2 (l := x.2.2.2.1) (by omega)
  have e1 : argT f x.2.2.2.1 (ln I x.2.2.2.1) = [gd I f.2.2.2.1 (z a).toNat, gd I f.2.2.2.1 (z b).toNat] := by rw [hlen]; rfl
  have e2 : allP (opP x f m) (ln I x.2.2.2.1) 0 = (opR x m 0 (gd I f.2.2.2.1 (z a).toNat) (gd I f.2.2.2.1 (z a).toNat) && opR x m 1 (gd I f.2.2.2.1 (z b).toNat) (gd I f.2.2.2.1 (z a).toNat)) := by
   unfold opP
   rw [hlen]
   exact congrArg (_ && ·) (Bool.and_true _)
  rw [e1, e2]
  exact hgo _ _
 have f3 : z x.1 = 21 → tydP x (argT f x.2.2.2.1 (ln I x.2.2.2.1)) m = (rsR x m && allP (opP x f m) (ln I x.2.2.2.1) 0) := fun hk => by
  obtain ⟨a, b, c, hlen⟩ := len3 (l := x.2.2.2.1) (by have := hl 21 3 hk rfl (by omega) (by omega); omega)
  have e1 : argT f x.2.2.2.1 (ln I x.2.2.2.1) = [gd I f.2.2.2.1 (z a).toNat, gd I f.2.2.2.1 (z b).toNat, gd I f.2.2.2.1 (z c).toNat] := by rw [hlen]; rfl
  have e2 : allP (opP x f m) (ln I x.2.2.2.1) 0 = (opR x m 0 (gd I f.2.2.2.1 (z a).toNat) (gd I f.2.2.2.1 (z a).toNat) && (opR x m 1 (gd I f.2.2.2.1 (z b).toNat) (gd I f.2.2.2.1 (z a).toNat) && opR x m 2 (gd I f.2.2.2.1 (z c).toNat) (gd I f.2.2.2.1 (z a).toNat))) := by
   unfold opP
   rw [hlen]
   exact congrArg (_ && ·) (congrArg (_ && ·) (Bool.and_true _))
  rw [e1, e2]
  exact typ3 hk
 have f4 : z x.1 = 32 → (ln I x.2.2.2.1 : Int) = 4 → tydP x (argT f x.2.2.2.1 (ln I x.2.2.2.1)) m = (rsR x m && allP (opP x f m) (ln I x.2.2.2.1) 0) := fun hk hr => by
  obtain ⟨a, b, c, d, hlen⟩ := len4 (l := x.2.2.2.1) (by omega)
  have e1 : argT f x.2.2.2.1 (ln I x.2.2.2.1) = [gd I f.2.2.2.1 (z a).toNat, gd I f.2.2.2.1 (z b).toNat, gd I f.2.2.2.1 (z c).toNat, gd I f.2.2.2.1 (z d).toNat] := by rw [hlen]; rfl
  have e2 : allP (opP x f m) (ln I x.2.2.2.1) 0 = (opR x m 0 (gd I f.2.2.2.1 (z a).toNat) (gd I f.2.2.2.1 (z a).toNat) && (opR x m 1 (gd I f.2.2.2.1 (z b).toNat) (gd I f.2.2.2.1 (z a).toNat) && (opR x m 2 (gd I f.2.2.2.1 (z c).toNat) (gd I f.2.2.2.1 (z a).toNat) && opR x m 3 (gd I f.2.2.2.1 (z d).toNat) (gd I f.2.2.2.1 (z a).toNat)))) := by
   unfold opP
   rw [hlen]
   exact congrArg (_ && ·) (congrArg (_ && ·) (congrArg (_ && ·) (Bool.and_true _)))
  rw [e1, e2]
  exact tp4 hk hr
 have f30 : z x.1 = 30 → tydP x (argT f x.2.2.2.1 (ln I x.2.2.2.1)) m = (rsR x m && allP (opP x f m) (ln I x.2.2.2.1) 0) := fun hk => by
  have hln : (ln I (gd qab m.2.1 (z x.2.2.2.2.2.1).toNat).2.1) = ln I x.2.2.2.1 := by have := hcr.1 hk; omega
  have e1 : tydP x (argT f x.2.2.2.1 (ln I x.2.2.2.1)) m = calF x (argT f x.2.2.2.1 (ln I x.2.2.2.1)) m := by unfold tydP; rw [hk]; rfl
  have e2 : rsR x m = (z x.2.1 == z (gd qab m.2.1 (z x.2.2.2.2.2.1).toNat).2.2.1) := by unfold rsR; rw [hk]; rfl
  rw [e1, calF, calN_eq, e2, Bool.and_comm, hln]
  refine congrArg (_ && ·) (allP_congr fun j _ hj => ?_)
  unfold opP opR
  rw [hk, argT_gd (by omega)]
  rfl
 have hw : z x.1 = 1 ∨ z x.1 = 2 ∨ z x.1 = 25 ∨ z x.1 = 26 ∨ z x.1 = 3 ∨ z x.1 = 4 ∨ z x.1 = 28 ∨ z x.1 = 31 ∨ z x.1 = 33 ∨ z x.1 = 22 ∨ z x.1 = 23 ∨ z x.1 = 24 ∨ z x.1 = 5 ∨ z x.1 = 6 ∨ z x.1 = 7 ∨ z x.1 = 8 ∨ z x.1 = 9 ∨ z x.1 = 10 ∨ z x.1 = 11 ∨ z x.1 = 12 ∨ z x.1 = 13 ∨ z x.1 = 14 ∨ z x.1 = 15 ∨ z x.1 = 16 ∨ z x.1 = 17 ∨ z x.1 = 18 ∨ z x.1 = 19 ∨ z x.1 = 20 ∨ z x.1 = 27 ∨ z x.1 = 29 ∨ z x.1 = 21 ∨ z x.1 = 30 ∨ z x.1 = 32 := by omega
 rcases hw with h | h | h | h | h | h | h | h | h | h | h | h | h | h | h | h | h | h | h | h | h | h | h | h | h | h | h | h | h | h | h | h | h
 iterate 4
  ·exact f0 _ h (by omega) rfl
 iterate 8
  ·exact f1 _ h (by omega) rfl
 iterate 18
  ·exact f2 (fun ta tb => typ2 h (by omega)) (hl _ 2 h rfl (by omega) (by omega))
 ·exact f3 h
 ·exact f30 h
 ·rcases hcr.2.1 h with h2 | h4
  ·exact f2 (fun ta tb => tp2 h h2) h2
  ·exact f4 h h4
theorem name_eq {op : Int} : ((nameP op).toList == ByteArray.empty.toList) = cond (decide (op < (1 : Int))) true (decide (op > (33 : Int))) := by
 rw [toList_nil]
 by_cases h1 : op < 1
 ·have : nameP op = ByteArray.empty := by unfold nameP; rw [decide_eq_true h1]; rfl
  rw [this, decide_eq_true h1]
  rfl
 ·by_cases h2 : op > 33
  ·have : nameP op = ByteArray.empty := by
    unfold nameP
    rw [decide_eq_false h1, show decide (op > (ln qaq rowsP : Int)) = true from decide_eq_true h2]
    rfl
   rw [this, decide_eq_false h1, decide_eq_true h2]
   rfl
  ·rw [decide_eq_false h1, decide_eq_false h2]
   have : op = 1 ∨ op = 2 ∨ op = 3 ∨ op = 4 ∨ op = 5 ∨ op = 6 ∨ op = 7 ∨ op = 8 ∨ op = 9 ∨ op = 10 ∨ op = 11 ∨ op = 12 ∨ op = 13 ∨ op = 14 ∨ op = 15 ∨ op = 16 ∨ op = 17 ∨ op = 18 ∨ op = 19 ∨ op = 20 ∨ op = 21 ∨ op = 22 ∨ op = 23 ∨ op = 24 ∨ op = 25 ∨ op = 26 ∨ op = 27 ∨ op = 28 ∨ op = 29 ∨ op = 30 ∨ op = 31 ∨ op = 32 ∨ op = 33 := by omega
   rcases this with rfl | rfl | rfl | rfl | rfl | rfl | rfl | rfl | rfl | rfl | rfl | rfl | rfl | rfl | rfl | rfl | rfl | rfl | rfl | rfl | rfl | rfl | rfl | rfl | rfl | rfl | rfl | rfl | rfl | rfl | rfl | rfl | rfl <;> rfl
theorem lane_types {x : Ins} {args : List (Den I)} {m : Md} (h : z x.1 = 33) (ht : tydP x args m = true) : z (gd I args 0) = 6 ∨ z (gd I args 0) = 7 := by
 unfold tydP at ht
 rw [h] at ht
 have ht' : cond (z x.2.1 == 3) (vecP (gd I args 0)) false = true := ht
 cases h3 : z x.2.1 == 3
 ·rw [h3] at ht'; exact Bool.noConfusion ht'
 ·rw [h3] at ht'; exact vec_iff.mp ht'
theorem imm_eq {x : Ins} {f : Fn} {m : Md} {args : List (Den I)} (ht : tydP x args m = true) (h0 : z x.1 = 33 → gd I args 0 = gd I f.2.2.2.1 (z (gd I x.2.2.2.1 0)).toNat) : chk2 x f (rs2 x) = immP x args := by
 have ht' := fun h => lane_types h ht
 unfold chk2 chk3 chk4 rs2 rs3 rs4 immP
 by_cases h26 : z x.1 = 26
 ·rw [h26]
  cases h1 : z (accP x.2.2.2.2.2.2.1).2 != (1 : Int)
  ·cases h2 : z (accP x.2.2.2.2.2.2.1).1 != z x.2.2.2.2.2.2.1
   ·by_cases h3 : z x.2.2.2.2.1 < 1
    ·rw [decide_eq_true h3, decide_eq_false (show ¬ z x.2.2.2.2.1 ≥ 1 by omega)]; rfl
    ·rw [decide_eq_false h3, decide_eq_true (show z x.2.2.2.2.1 ≥ 1 by omega)]
     by_cases h4 : z x.2.2.2.2.1 > 256
     ·rw [decide_eq_true h4, decide_eq_false (show ¬ z x.2.2.2.2.1 ≤ 256 by omega)]; rfl
     ·rw [decide_eq_false h4, decide_eq_true (show z x.2.2.2.2.1 ≤ 256 by omega)]; rfl
   ·rfl
  ·rfl
 ·have e26 : (z x.1 == 26) = false := beq_eq_false_iff_ne.mpr h26
  rw [e26]
  by_cases h1 : z x.1 = 1
  ·rw [h1]
   unfold bne
   cases wrapZ x.2.1 x.2.2.2.2.1 == z x.2.2.2.2.1 <;> rfl
  ·have e1 : (z x.1 == 1) = false := beq_eq_false_iff_ne.mpr h1
   rw [e1]
   by_cases h33 : z x.1 = 33
   ·have hv := ht' h33
    rw [← h0 h33, h33]
    by_cases h3 : z x.2.2.2.2.1 < 0
    ·rw [decide_eq_true h3, decide_eq_false (show ¬ z x.2.2.2.2.1 ≥ 0 by omega)]; rfl
    ·rw [decide_eq_false h3, decide_eq_true (show z x.2.2.2.2.1 ≥ 0 by omega)]
     rcases hv with hv | hv
     ·rw [show gd I args 0 = 6 from hv]
      have e : z (accP 6).2 = 2 := rfl
      rw [e]
      by_cases h4 : z x.2.2.2.2.1 < 2
      ·rw [decide_eq_true h4, decide_eq_false (show ¬ z x.2.2.2.2.1 > 3 by omega), decide_eq_false (show ¬ z x.2.2.2.2.1 > 1 by omega)]; rfl
      ·rw [decide_eq_false h4, decide_eq_true (show z x.2.2.2.2.1 > 1 by omega)]
       cases decide (z x.2.2.2.2.1 > 3) <;> rfl
     ·rw [show gd I args 0 = 7 from hv]
      have e : z (accP 7).2 = 4 := rfl
      rw [e]
      by_cases h4 : z x.2.2.2.2.1 < 4
      ·rw [decide_eq_true h4, decide_eq_false (show ¬ z x.2.2.2.2.1 > 3 by omega)]
       cases decide (z x.2.2.2.2.1 > 1) <;> rfl
      ·rw [decide_eq_false h4, decide_eq_true (show z x.2.2.2.2.1 > 3 by omega)]; rfl
   ·have e33 : (z x.1 == 33) = false := beq_eq_false_iff_ne.mpr h33
    rw [e33]
    rfl
theorem orE_congr {a b c : Int} (h : a = 0 → b = c) : orE a b = orE a c := by
 unfold orE
 cases h0 : a == 0
 ·rfl
 ·exact h (eq_of_beq h0)
theorem chk_eq (x : Ins) (f : Fn) (m : Md) : chkR x f m = chkF x f m := by
 unfold chkR chkO chkF
 rw [name_eq]
 show cond (opB x) 8 _ = cond (opB x) 8 _
 cases hop : opB x
 ·have h1 : 1 ≤ z x.1 ∧ z x.1 ≤ 33 := by
   unfold opB at hop
   cases h : decide (z x.1 < (1 : Int)) <;> rw [h] at hop
   ·have h' : ¬ z x.1 < 1 := of_decide_eq_false h
    have h2 : ¬ z x.1 > 33 := of_decide_eq_false hop
    omega
   ·exact Bool.noConfusion hop
  show chkL x f m (fldR x) = cond (fldP x != (0 : Int)) (fldP x) _
  rw [z_fld, chkL]
  cases fldR x
  ·show chkY x f m (symR x m) = cond (symP x m != (0 : Int)) (symP x m) _
   rw [z_sym, chkY]
   cases symR x m
   ·show chkC x f m (cntB x m) = cond (cntP x m != (0 : Int)) (cntP x m) _
    rw [cnt_eq h1, chkC]
    cases hc : cntB x m
    ·show orE _ _ = orE _ _
     refine orE_congr fun harg => ?_
     rw [chkS, dstB, chkT]
     by_cases hd1 : z x.2.2.1 < -1
     ·rw [decide_eq_true hd1]; rfl
     ·rw [decide_eq_false hd1]
      by_cases hd2 : z x.2.2.1 ≥ (ln I f.2.2.2.1 : Int)
      ·rw [decide_eq_true hd2]; rfl
      ·rw [decide_eq_false hd2]
       show cond (!(rsR x m)) 9 (orE (qap (fun i => cond (!(opP x f m i)) 9 0) (ln I x.2.2.2.1) 0) (chk1 x f (rs1 x f))) = cond (!(tydP x (argT f x.2.2.2.1 (ln I x.2.2.2.1)) m)) 9 (cond (!(resP x f)) 9 (immP x (argT f x.2.2.2.1 (ln I x.2.2.2.1))))
       rw [all_E]
       have ht := typ_eq (f := f) h1 hc
       cases htv : tydP x (argT f x.2.2.2.1 (ln I x.2.2.2.1)) m
       ·rw [htv] at ht
        cases hr : rsR x m
        ·rfl
        ·rw [hr] at ht
         have : allP (opP x f m) (ln I x.2.2.2.1) 0 = false := ht.symm
         rw [this]
         rfl
       ·have ht2 := ht
        rw [htv] at ht2
        have hb := Bool.and_eq_true_iff.mp ht2.symm
        rw [hb.1, hb.2]
        show chk1 x f (rs1 x f) = cond (!(resP x f)) 9 _
        rw [chk1, rs1_eq (by omega), imm_eq htv fun h33 => ?_]
        have hn : cntP x m = 0 := by rw [cnt_eq h1, hc]; rfl
        have hcr := (cnt_row (x := x) (m := m) (by rw [hn]; rfl)).2.2 (by omega) (by omega)
        rw [h33, show rowN 33 = 1 from rfl] at hcr
        exact argT_gd (by omega)
    ·rfl
   ·rfl
  ·rfl
 ·rfl
def L_V26 : List (FuncId × FSpec) := [] ++ L_V25
theorem L_V26_ok : ∀ x ∈ L_V26, qal (ctx []) x.1 x.2 := L_V25_ok
end Burn.MTT
namespace Burn.MTT
open Go Go.BE Go.Proofs
set_option maxRecDepth 100000
set_option linter.unusedVariables false
set_option linter.unusedSimpArgs false
open Burn.Intn Burn.Ref
def mrg_V27 : FuncId → List Nat
 | 55 => [23, 31, 36, 43, 48, 53, 61, 62, 71, 76, 77, 86, 87, 102, 103, 119, 120, 121, 136, 154, 166, 205, 214, 219, 220, 235, 236, 254, 255, 268, 281, 282, 283, 295, 310, 311, 312]
 | _ => []
noncomputable abbrev E_V27 : Ctx := { ctx L_V26 with mrg := mrg_V27 }
theorem E_V27_ok : EOK E_V27 := have h : EOK (ctx L_V26) := qbq L_V26_ok; ⟨h.ty, h.env, h.fns, h.mixed⟩
def cuts_V27 : CutL := [([], 55, 0, [3, 4, 5, 140, 141, 142], [], []),
 ([], 55, 2, [3, 4, 5, 172, 173, 174], [], [])]
def rets_V27 : FuncId → List (Option Fx)
 | _ => []
def H_V27 : Hints := { cut := cutOf cuts_V27, ret := rets_V27 }
noncomputable def r12_Check_L0 (in_ : Den qac) (f : Den qab) (m : Den qad) (t141 : Int) (t142 : Int) (t140 : List (Den I)) : Cfg := hcfg E_V27 qey 0 [(3, (.rtp qac in_)), (4, (.rtp qab f)), (5, (.rtp qad m)), (140, (.osl 0 0 [] none)), (141, (vi t141)), (142, (vi t142))] [(0, ⟨(.arr 0 8 I t140), 0, [], false, none⟩)] 1
noncomputable def r12_Check_L2 (in_ : Den qac) (f : Den qab) (m : Den qad) (t172 : List (Den I)) (t173 : Int) (t174 : Int) : Cfg := hcfg E_V27 qey 2 [(3, (.rtp qac in_)), (4, (.rtp qab f)), (5, (.rtp qad m)), (172, (.tv (.sl 8 I) t172)), (173, (vi t173)), (174, (vi t174))] [] 0
theorem r12_Check_t (in_ : Den qac) (f : Den qab) (m : Den qad) : run E_V27 H_V27 qey 3000 (start E_V27 qey [(.tv qac in_), (.tv qab f), (.tv qad m)]) = (cond (cond (decide ((z in_.1) < (1 : Int))) true (decide ((z in_.1) > (33 : Int)))) (rt (vi (8 : Int)) []) (cond (cond (cond (cond (cond (cond (cond (bOf in_.2.2.2.2.2.2.2.1) ((z in_.1) != (5 : Int)) false) ((z in_.1) != (6 : Int)) false) ((z in_.1) != (7 : Int)) false) true (cond ((z in_.2.2.2.2.1) != (0 : Int)) (!(cond (cond ((z in_.1) == (1 : Int)) true ((z in_.1) == (26 : Int))) true ((z in_.1) == (33 : Int)))) false)) true (cond (cond ((z in_.2.2.2.2.2.1) != (0 : Int)) ((z in_.1) != (25 : Int)) false) ((z in_.1) != (30 : Int)) false)) true (cond ((z in_.2.2.2.2.2.2.1) != (0 : Int)) ((z in_.1) != (26 : Int)) false)) (rt (vi (3 : Int)) []) (cond (cond (cond ((z in_.1) == (25 : Int)) (cond (decide ((z in_.2.2.2.2.2.1) < (0 : Int))) true (decide ((z in_.2.2.2.2.2.1) ≥ ((ln qaf m.1) : Int)))) false) true (cond ((z in_.1) == (30 : Int)) (cond (decide ((z in_.2.2.2.2.2.1) < (0 : Int))) true (decide ((z in_.2.2.2.2.2.1) ≥ ((ln qab m.2.1) : Int)))) false)) (rt (vi (8 : Int)) []) (.chk (z in_.1 = 30 → 0 ≤ z in_.2.2.2.2.2.1 ∧ z in_.2.2.2.2.2.1 < (ln qab m.2.1 : Nat)) (.know (okAVs [(vi (z ((cnR in_ m).1))), (vb (bOf ((cnR in_ m).2)))]) (cond (cond (!(bOf ((cnR in_ m).2))) true ((z ((cnR in_ m).1)) != ((ln I in_.2.2.2.1) : Int))) (rt (vi (3 : Int)) []) (.chk (((0 : Nat) + (ln I in_.2.2.2.1)) * 8 ≤ roomB) (hd (r12_Check_L0 in_ f m ((ln I (ap I ([] : List (Den I)) in_.2.2.2.1)) : Int) (0 : Int) (ap I ([] : List (Den I)) in_.2.2.2.1)))))))))) := by kernel_rfl
theorem r12_Check_L0_t (in_ : Den qac) (f : Den qab) (m : Den qad) (t141 : Int) (t142 : Int) (t140 : List (Den I)) : run E_V27 H_V27 qey 3000 (r12_Check_L0 in_ f m t141 t142 t140) = (cond (decide (t142 < t141)) (.chk (0 ≤ t142 ∧ t142 < (ln I t140)) (.chk (t142.toNat < (ln I t140)) (cond (cond (decide ((z (gd I t140 t142.toNat)) < (0 : Int))) true (decide ((z (gd I t140 t142.toNat)) ≥ ((ln I f.2.2.2.1) : Int)))) (rt (vi (10 : Int)) []) (hd (r12_Check_L0 in_ f m t141 (IntKind.wrap .i64 (t142 + (1 : Int))) t140))))) (cond (cond (decide ((z in_.2.2.1) < (-1 : Int))) true (decide ((z in_.2.2.1) ≥ ((ln I f.2.2.2.1) : Int)))) (rt (vi (10 : Int)) []) (.chk (z in_.1 = 30 → 0 ≤ z in_.2.2.2.2.2.1 ∧ z in_.2.2.2.2.2.1 < (ln qab m.2.1 : Nat)) (.know True (cond (!(rsR in_ m)) (rt (vi (9 : Int)) []) (hd (r12_Check_L2 in_ f m in_.2.2.2.1 ((ln I in_.2.2.2.1) : Int) (0 : Int)))))))) := by kernel_rfl
theorem r12_Check_L2_t (in_ : Den qac) (f : Den qab) (m : Den qad) (t172 : List (Den I)) (t173 : Int) (t174 : Int) : run E_V27 H_V27 qey 3000 (r12_Check_L2 in_ f m t172 t173 t174) = (cond (decide (t174 < t173)) (.chk (0 ≤ t174 ∧ t174 < (ln I t172)) (.chk (0 ≤ (z (gd I t172 t174.toNat)) ∧ (z (gd I t172 t174.toNat)) < (ln I f.2.2.2.1)) (.chk (0 ≤ (0 : Int) ∧ (0 : Int) < (ln I in_.2.2.2.1)) (.chk (0 ≤ (z (gd I in_.2.2.2.1 (0 : Nat))) ∧ (z (gd I in_.2.2.2.1 (0 : Nat))) < (ln I f.2.2.2.1)) (.chk (z in_.1 = 30 → (0 ≤ z in_.2.2.2.2.2.1 ∧ z in_.2.2.2.2.2.1 < (ln qab m.2.1 : Nat)) ∧ 0 ≤ z t174 ∧ z t174 < (ln I (gd qab m.2.1 (z in_.2.2.2.2.2.1).toNat).2.1 : Nat)) (.know True (cond (!(opR in_ m t174 (gd I f.2.2.2.1 (((z (gd I t172 t174.toNat))).toNat)) (gd I f.2.2.2.1 (((z (gd I in_.2.2.2.1 (0 : Nat)))).toNat)))) (rt (vi (9 : Int)) []) (hd (r12_Check_L2 in_ f m t172 t173 (IntKind.wrap .i64 (t174 + (1 : Int)))))))))))) (.chk (((cond (cond ((z in_.2.1) == (0 : Int)) ((z in_.2.2.1) != (-1 : Int)) false) true (cond (cond ((z in_.2.1) != (0 : Int)) ((z in_.2.2.1) == (-1 : Int)) false) ((z in_.1) != (30 : Int)) false)) = false → (((decide ((z in_.2.2.1) ≥ (0 : Int))) = true → (0 ≤ (z in_.2.2.1) ∧ (z in_.2.2.1) < (ln I f.2.2.2.1)))))) (cond (cond (cond (cond ((z in_.2.1) == (0 : Int)) ((z in_.2.2.1) != (-1 : Int)) false) true (cond (cond ((z in_.2.1) != (0 : Int)) ((z in_.2.2.1) == (-1 : Int)) false) ((z in_.1) != (30 : Int)) false)) true (cond (decide ((z in_.2.2.1) ≥ (0 : Int))) ((z (gd I f.2.2.2.1 (((z in_.2.2.1)).toNat))) != (z in_.2.1)) false)) (rt (vi (9 : Int)) []) (.chk (True) (.know (okAVs [(vi (z ((accP in_.2.2.2.2.2.2.1).1))), (vi (z ((accP in_.2.2.2.2.2.2.1).2)))]) (cond (cond ((z in_.1) == (26 : Int)) (cond ((z ((accP in_.2.2.2.2.2.2.1).2)) != (1 : Int)) true ((z ((accP in_.2.2.2.2.2.2.1).1)) != (z in_.2.2.2.2.2.2.1))) false) (rt (vi (9 : Int)) []) (.chk ((((z in_.1) == (1 : Int)) = true → (True))) (cond (cond (cond ((z in_.1) == (1 : Int)) ((wrapZ in_.2.1 in_.2.2.2.2.1) != (z in_.2.2.2.2.1)) false) true (cond ((z in_.1) == (26 : Int)) (cond (decide ((z in_.2.2.2.2.1) < (1 : Int))) true (decide ((z in_.2.2.2.2.1) > (256 : Int)))) false)) (rt (vi (10 : Int)) []) (.chk ((((z in_.1) == (33 : Int)) = true → (((cond (decide ((z in_.2.2.2.2.1) < (0 : Int))) true (decide ((z in_.2.2.2.2.1) > (3 : Int)))) = false → (((decide ((z in_.2.2.2.2.1) > (1 : Int))) = true → (0 ≤ (0 : Int) ∧ (0 : Int) < (ln I in_.2.2.2.1)))))))) (.chk ((((z in_.1) == (33 : Int)) = true → (((cond (decide ((z in_.2.2.2.2.1) < (0 : Int))) true (decide ((z in_.2.2.2.2.1) > (3 : Int)))) = false → (((decide ((z in_.2.2.2.2.1) > (1 : Int))) = true → (0 ≤ (z (gd I in_.2.2.2.1 (0 : Nat))) ∧ (z (gd I in_.2.2.2.1 (0 : Nat))) < (ln I f.2.2.2.1)))))))) (cond (cond ((z in_.1) == (33 : Int)) (cond (cond (decide ((z in_.2.2.2.2.1) < (0 : Int))) true (decide ((z in_.2.2.2.2.1) > (3 : Int)))) true (cond (decide ((z in_.2.2.2.2.1) > (1 : Int))) ((z (gd I f.2.2.2.1 (((z (gd I in_.2.2.2.1 (0 : Nat)))).toNat))) == (6 : Int)) false)) false) (rt (vi (10 : Int)) []) (rt (vi (0 : Int)) [])))))))))))) := by kernel_rfl
theorem argI_ok {f : Fn} {l : List (Den I)} {i : Nat} (h : argI f l i = 0) : 0 ≤ z (gd I l i) ∧ z (gd I l i) < (ln I f.2.2.2.1 : Nat) := by
 unfold argI at h
 cases h1 : decide (z (gd I l i) < 0) <;> cases h2 : decide (z (gd I l i) ≥ (ln I f.2.2.2.1 : Int)) <;> simp [h1, h2] at h
 exact ⟨by simpa using h1, by simpa using h2⟩
theorem RunI.eq {E : Ctx} {c : Cfg} {e d : Int} (h : RunI E c e) (hd : d = e) : RunI E c d := hd ▸ h
theorem c_and (a b c : Bool) : cond (cond a b false) c false = cond a (cond b c false) false := by cases a <;> rfl
theorem c_or (a b c : Bool) : cond (cond a true b) true c = cond a true (cond b true c) := by cases a <;> rfl
theorem cnR_use {x : Ins} {m : Md} (h : cntB x m = false) : (z x.1 = 30 → ln I x.2.2.2.1 = ln I (gd qab m.2.1 (z x.2.2.2.2.2.1).toNat).2.1) ∧ (z x.1 = 33 → 0 < ln I x.2.2.2.1) := by
 have hn : 1 ≤ z x.1 ∧ z x.1 ≤ 33 → (cntP x m != 0) = false := fun h1 => by rw [cnt_eq h1, h]; rfl
 refine ⟨fun hk => ?_, fun hk => ?_⟩
 ·have := (cnt_row (hn (by omega))).1 hk
  omega
 ·have := (cnt_row (hn (by omega))).2.2 (by omega) (by omega)
  rw [hk, show rowN 33 = 1 from rfl] at this
  omega
theorem fld_m {x : Ins} {b : Bool} (h : cond (cond (cond (cond (cond (cond (bOf x.2.2.2.2.2.2.2.1) (z x.1 != (5 : Int)) false) (z x.1 != (6 : Int)) false) (z x.1 != (7 : Int)) false) true (cond (z x.2.2.2.2.1 != (0 : Int)) (!(cond (cond (z x.1 == (1 : Int)) true (z x.1 == (26 : Int))) true (z x.1 == (33 : Int)))) false)) true (cond (cond (z x.2.2.2.2.2.1 != (0 : Int)) (z x.1 != (25 : Int)) false) (z x.1 != (30 : Int)) false)) true (cond (z x.2.2.2.2.2.2.1 != (0 : Int)) (z x.1 != (26 : Int)) false) = b) : fldR x = b := by
 rw [← h]
 unfold fldR immOp
 simp only [c_and, c_or]
theorem rs1_m {x : Ins} {f : Fn} {b : Bool} (h : cond (cond (cond (z x.2.1 == (0 : Int)) (z x.2.2.1 != (-1 : Int)) false) true (cond (cond (z x.2.1 != (0 : Int)) (z x.2.2.1 == (-1 : Int)) false) (z x.1 != (30 : Int)) false)) true (cond (decide (z x.2.2.1 ≥ (0 : Int))) (z (gd I f.2.2.2.1 (z x.2.2.1).toNat) != z x.2.1) false) = b) : rs1 x f = b := by
 rw [← h]
 unfold rs1
 simp only [c_and, c_or]
theorem rs4_m {x : Ins} {f : Fn} {b : Bool} (h : cond (z x.1 == (33 : Int)) (cond (cond (decide (z x.2.2.2.2.1 < (0 : Int))) true (decide (z x.2.2.2.2.1 > (3 : Int)))) true (cond (decide (z x.2.2.2.2.1 > (1 : Int))) (z (gd I f.2.2.2.1 (z (gd I x.2.2.2.1 0)).toNat) == (6 : Int)) false)) false = b) : rs4 x f = b := by
 rw [← h]
 unfold rs4
 simp only [c_and, c_or]
theorem IsI.of' {a x : Int} (h : a = x) : IsI a (vi x) [] := ⟨congrArg vi h.symm, rfl⟩
theorem r12_Check_l2 (x : Ins) (f : Fn) (m : Md) (hx : okD qac x) (hd : -1 ≤ z x.2.2.1 ∧ z x.2.2.1 < (ln I f.2.2.2.1 : Nat)) (ha : ∀ j, j < ln I x.2.2.2.1 → argI f x.2.2.2.1 j = 0) (h30 : z x.1 = 30 → (0 ≤ z x.2.2.2.2.2.1 ∧ z x.2.2.2.2.2.1 < (ln qab m.2.1 : Nat)) ∧ ln I x.2.2.2.1 = ln I (gd qab m.2.1 (z x.2.2.2.2.2.1).toNat).2.1) (h33 : z x.1 = 33 → 0 < ln I x.2.2.2.1) : ∀ i, i ≤ ln I x.2.2.2.1 → RunI E_V27 (r12_Check_L2 x f m x.2.2.2.1 (ln I x.2.2.2.1 : Nat) i) (orE (qap (opnI x f m) (ln I x.2.2.2.1 - i) i) (chk1 x f (rs1 x f))) :=
 qba (.tree E_V27_ok (r12_Check_L2_t ..) (by
  rw [Nat.sub_self, qap, show orE 0 (chk1 x f (rs1 x f)) = chk1 x f (rs1 x f) from rfl]
  simp only [sS, sL,  Nat.lt_irrefl]
  have hk : ∀ {A B : Prop}, (z x.1 == (33 : Int)) = true → A → B → (0 : Int) ≤ 0 ∧ (0 : Int) < (ln I x.2.2.2.1 : Nat) := fun h _ _ => ⟨Int.le_refl _, by have := h33 (beq_t h); omega⟩
  refine ⟨fun _ h0 => ⟨of_decide_eq_true h0, hd.2⟩, fun _ => ⟨fun h1 => .of' (Bool.cond_pos (rs1_m h1)), fun h1 _ => ⟨fun h2 => .of' ((Bool.cond_neg (rs1_m h1)).trans (Bool.cond_pos h2)), fun h2 => ⟨fun h3 => .of' ((Bool.cond_neg (rs1_m h1)).trans ((Bool.cond_neg h2).trans (Bool.cond_pos h3))), fun h3 => ⟨fun h _ _ => hk h trivial trivial, fun _ => ⟨fun h _ _ => argI_ok (ha 0 (h33 (beq_t h))), fun _ => ⟨fun h4 => .of' ((Bool.cond_neg (rs1_m h1)).trans ((Bool.cond_neg h2).trans ((Bool.cond_neg h3).trans (Bool.cond_pos (rs4_m h4))))), fun h4 => .of' ((Bool.cond_neg (rs1_m h1)).trans ((Bool.cond_neg h2).trans ((Bool.cond_neg h3).trans (Bool.cond_neg (rs4_m h4)))))⟩⟩⟩⟩⟩⟩⟩))
  fun i hi ih => .tree E_V27_ok (r12_Check_L2_t ..) (by
   rw [sub1 hi]
   simp only [sS, sL,  hi, wrapS hi (qas hx.2.2.2.1.1)]
   refine ⟨argI_ok (ha i hi), fun _ => ⟨⟨Int.le_refl _, by show (0 : Int) < (ln I x.2.2.2.1 : Nat); omega⟩, fun _ => ⟨argI_ok (ha 0 (by omega)), fun _ => ⟨fun h => ⟨(h30 h).1, by have := (h30 h).2; first | omega | exact ⟨by omega, by omega⟩⟩, fun _ => ⟨fun h1 => .oe (x := 9) (by simp only [opnI, h1, cond_true]) rfl, fun h1 => RunI.oe ih (by simp only [opnI, h1, cond_false])⟩⟩⟩⟩⟩)
theorem dstB_ok {x : Ins} {f : Fn} (h : dstB x f = false) : -1 ≤ z x.2.2.1 ∧ z x.2.2.1 < (ln I f.2.2.2.1 : Nat) := by
 unfold dstB at h
 cases h1 : decide (z x.2.2.1 < (-1 : Int)) <;> rw [h1] at h
 ·exact ⟨by simpa using h1, by simpa using (show decide (z x.2.2.1 ≥ (ln I f.2.2.2.1 : Int)) = false from h)⟩
 ·exact Bool.noConfusion h
theorem argI_m {f : Fn} {l : List (Den I)} {i : Nat} {b : Bool} (h : cond (decide (z (gd I l i) < (0 : Int))) true (decide (z (gd I l i) ≥ (ln I f.2.2.2.1 : Int))) = b) : argI f l i = cond b 10 0 := by
 unfold argI
 rw [← h]
 cases decide (z (gd I l i) < (0 : Int)) <;> rfl
theorem r12_Check_l0 (x : Ins) (f : Fn) (m : Md) (hx : okD qac x) (h30 : z x.1 = 30 → (0 ≤ z x.2.2.2.2.2.1 ∧ z x.2.2.2.2.2.1 < (ln qab m.2.1 : Nat)) ∧ ln I x.2.2.2.1 = ln I (gd qab m.2.1 (z x.2.2.2.2.2.1).toNat).2.1) (h33 : z x.1 = 33 → 0 < ln I x.2.2.2.1) : ∀ i, i ≤ ln I x.2.2.2.1 → (∀ j, j < i → argI f x.2.2.2.1 j = 0) → RunI E_V27 (r12_Check_L0 x f m (ln I x.2.2.2.1 : Nat) i x.2.2.2.1) (orE (qap (argI f x.2.2.2.1) (ln I x.2.2.2.1 - i) i) (chkS x f m (dstB x f))) :=
 qba (fun ha => .tree E_V27_ok (r12_Check_L0_t ..) (by
  rw [Nat.sub_self, qap, show orE 0 (chkS x f m (dstB x f)) = chkS x f m (dstB x f) from rfl]
  simp only [sS, sL,  Nat.lt_irrefl]
  refine ⟨fun h1 => .of' (Bool.cond_pos h1), fun h1 => ⟨fun h => (h30 h).1, fun _ => ⟨fun h2 => .of' ((Bool.cond_neg h1).trans (Bool.cond_pos h2)), fun h2 => RunI.eq (r12_Check_l2 x f m hx (dstB_ok h1) ha h30 h33 0 (Nat.zero_le _)) ((Bool.cond_neg h1).trans (Bool.cond_neg h2))⟩⟩⟩))
  fun i hi ih ha => .tree E_V27_ok (r12_Check_L0_t ..) (by
   rw [sub1 hi]
   simp only [sS, sL,  hi, wrapS hi (qas hx.2.2.2.1.1)]
   refine ⟨fun h1 => .oe (x := 10) (argI_m h1) rfl, fun h1 => RunI.oe (ih fun j h => (Nat.lt_succ_iff_lt_or_eq.mp h).elim (ha j) (fun e => e ▸ argI_m h1)) (argI_m h1)⟩)
def k_r12_Check : Con := con [.d qac, .d qab, .d qad] I (fun x => True) fun x => chkF x.1 x.2.1 x.2.2.1
theorem m_r12_Check (in_ : Den qac) (f : Den qab) (m : Den qad) (h_in_ : okD qac in_) (h_f : okD qab f) (h_m : okD qad m) (hp : True) : Runs E_V27 (start E_V27 qey [(.tv qac in_), (.tv qab f), (.tv qad m)]) (fun r_ h_ => r_ = (vi (chkF in_ f m)) ∧ h_ = []) := .tree E_V27_ok (r12_Check_t in_ f m) (by
 show Tre.wp (contL _ (IsI (chkF in_ f m))) _
 rw [← chk_eq]
 simp only [sS, implies_true]
 refine ⟨fun h1 => .of' (Bool.cond_pos h1), fun h1 => ⟨fun h2 => .of' ((Bool.cond_neg h1).trans (Bool.cond_pos (fld_m h2))), fun h2 => ⟨fun h3 => .of' ((Bool.cond_neg h1).trans ((Bool.cond_neg (fld_m h2)).trans (Bool.cond_pos h3))), fun h3 => ?_⟩⟩⟩
 have hs : z in_.1 = 30 → 0 ≤ z in_.2.2.2.2.2.1 ∧ z in_.2.2.2.2.2.1 < (ln qab m.2.1 : Nat) := (sym_ok (by rw [z_sym, show symR in_ m = false from h3]; rfl)).2
 refine ⟨hs, fun _ _ => ⟨fun h4 => .of' ((Bool.cond_neg h1).trans ((Bool.cond_neg (fld_m h2)).trans ((Bool.cond_neg h3).trans (Bool.cond_pos h4)))), fun h4 => ?_⟩⟩
 have hu := cnR_use (show cntB in_ m = false from h4)
 have hroom : (0 + ln I in_.2.2.2.1) * 8 ≤ roomB := by
  have : ln I in_.2.2.2.1 * 8 ≤ roomB := h_in_.2.2.2.1.1.1
  omega
 exact ⟨hroom, fun _ => RunI.eq (r12_Check_l0 in_ f m h_in_ (fun h => ⟨hs h, hu.1 h⟩) hu.2 0 (Nat.zero_le _) (fun j h => absurd h (Nat.not_lt_zero _))) ((Bool.cond_neg h1).trans ((Bool.cond_neg (fld_m h2)).trans ((Bool.cond_neg h3).trans (Bool.cond_neg h4))))⟩)
theorem c_r12_Check : qal E_V27 qey k_r12_Check.spec := qam fun x hx hp => ⟨rfl, m_r12_Check x.1 x.2.1 x.2.2.1 hx.1 hx.2.1 hx.2.2.1 hp⟩
def L_V27 : List (FuncId × FSpec) := [(qey, k_r12_Check.spec)] ++ L_V26
theorem L_V27_ok : ∀ x ∈ L_V27, qal (ctx []) x.1 x.2 := by
 unfold L_V27
 simp only [List.cons_append, List.nil_append, List.forall_mem_cons]
 exact ⟨c_r12_Check, L_V26_ok⟩
end Burn.MTT
namespace Burn.MTT
open Go Go.BE Go.Proofs
set_option maxRecDepth 100000
set_option linter.unusedVariables false
set_option linter.unusedSimpArgs false
open Burn.Intn Burn.Ref
noncomputable abbrev E_V28 : Ctx := ctx L_V27
theorem qib : EOK E_V28 := qbq L_V27_ok
def cuts_V28 : CutL := [([], 24, 0, [1, 2, 14, 15], [], []),
 ([], 24, 2, [1, 2, 34, 35], [], []),
 ([], 25, 0, [1, 2, 4, 5, 6, 22, 23, 24], [], []),
 ([], 25, 2, [1, 2, 4, 5, 51, 52, 53], [], []),
 ([], 25, 4, [1, 2, 4, 5, 9, 10, 51, 52, 53, 80, 81, 82], [], [])]
def rets_V28 : FuncId → List (Option Fx)
 | 24 => [some (.dat qaj)]
 | 25 => [some (.dat qaj)]
 | _ => []
def H_V28 : Hints := { cut := cutOf cuts_V28, ret := rets_V28 }
noncomputable def r14_heads_L0 (m : Den qad) (t14 : Int) (t15 : Int) (t2 : Den qaj) : Cfg := hcfg E_V28 qex 0 [(1, (.rtp qad m)), (2, (.tref 0 0 [] (0 : Nat) [])), (14, (vi t14)), (15, (vi t15))] [(0, ⟨(.arr 0 40 qaj ([t2] : List (Den qaj))), 0, [], false, none⟩)] 1
noncomputable def r14_heads_L2 (m : Den qad) (t34 : Int) (t35 : Int) (t2 : Den qaj) : Cfg := hcfg E_V28 qex 2 [(1, (.rtp qad m)), (2, (.tref 0 0 [] (0 : Nat) [])), (34, (vi t34)), (35, (vi t35))] [(0, ⟨(.arr 0 40 qaj ([t2] : List (Den qaj))), 0, [], false, none⟩)] 1
theorem r14_heads_t (m : Den qad) : run E_V28 H_V28 qex 3000 (start E_V28 qex [(.tv qad m)]) = (cond (decide (((ln qaf m.1) : Int) > (32 : Int))) (.chk (True) (.know (okD qaj (diagR (11 : Int) (1 : Int) (-1 : Int) (-1 : Int) (-1 : Int))) (.chk ((0 : Nat) < (1 : Nat)) (.chk ((0 : Nat) < (1 : Nat)) (rt (.tv qaj (diagR (11 : Int) (1 : Int) (-1 : Int) (-1 : Int) (-1 : Int))) []))))) (hd (r14_heads_L0 m ((ln qaf m.1) : Int) (0 : Int) ((0 : Int), (0 : Int), (0 : Int), (0 : Int), (0 : Int), ())))) := by kernel_rfl
theorem r14_heads_L0_t (m : Den qad) (t14 : Int) (t15 : Int) (t2 : Den qaj) : run E_V28 H_V28 qex 3000 (r14_heads_L0 m t14 t15 t2) = (cond (decide (t15 < t14)) (.chk (0 ≤ z t15 ∧ z t15 < (ln qaf m.1 : Nat)) (.know (okD (.int .i64) (gloR m t15)) (cond ((gloR m t15) != (0 : Int)) (.chk (True) (.know (okD qaj (diagR (gloR m t15) (1 : Int) t15 (-1 : Int) (-1 : Int))) (.chk ((0 : Nat) < (1 : Nat)) (.chk ((0 : Nat) < (1 : Nat)) (rt (.tv qaj (diagR (gloR m t15) (1 : Int) t15 (-1 : Int) (-1 : Int))) []))))) (hd (r14_heads_L0 m t14 (IntKind.wrap .i64 (t15 + (1 : Int))) t2))))) (cond (decide (((ln qab m.2.1) : Int) > (32 : Int))) (.chk (True) (.know (okD qaj (diagR (11 : Int) (2 : Int) (-1 : Int) (-1 : Int) (-1 : Int))) (.chk ((0 : Nat) < (1 : Nat)) (.chk ((0 : Nat) < (1 : Nat)) (rt (.tv qaj (diagR (11 : Int) (2 : Int) (-1 : Int) (-1 : Int) (-1 : Int))) []))))) (hd (r14_heads_L2 m ((ln qab m.2.1) : Int) (0 : Int) t2)))) := by kernel_rfl
theorem r14_heads_L2_t (m : Den qad) (t34 : Int) (t35 : Int) (t2 : Den qaj) : run E_V28 H_V28 qex 3000 (r14_heads_L2 m t34 t35 t2) = (cond (decide (t35 < t34)) (.chk (0 ≤ z t35 ∧ z t35 < (ln qab m.2.1 : Nat)) (.know (okD (.int .i64) (sigR m t35)) (cond ((sigR m t35) != (0 : Int)) (.chk (True) (.know (okD qaj (diagR (sigR m t35) (2 : Int) t35 (-1 : Int) (-1 : Int))) (.chk ((0 : Nat) < (1 : Nat)) (.chk ((0 : Nat) < (1 : Nat)) (rt (.tv qaj (diagR (sigR m t35) (2 : Int) t35 (-1 : Int) (-1 : Int))) []))))) (hd (r14_heads_L2 m t34 (IntKind.wrap .i64 (t35 + (1 : Int))) t2))))) (.chk ((0 : Nat) < (1 : Nat)) (.chk ((0 : Nat) < (1 : Nat)) (rt (.tv qaj ((0 : Int), (0 : Int), (0 : Int), (0 : Int), (0 : Int), ())) [])))) := by kernel_rfl
noncomputable def r14_body_L0 (i : Int) (m : Den qad) (n : Int) (t22 : List (Den qaa)) (t23 : Int) (t24 : Int) (t4 : Den qaj) (f_0 : ByteArray) (f_1 : List (Den I)) (f_2 : Int) (f_3 : List (Den I)) (f_4 : List (Den qaa)) : Cfg := hcfg E_V28 qeq 0 [(1, (vi i)), (2, (.rtp qad m)), (4, (.tref 0 0 [] (0 : Nat) [])), (5, (.ref 1 0)), (6, (vi n)), (22, (.tv (.sl 136 qaa) t22)), (23, (vi t23)), (24, (vi t24))] [(0, ⟨(.arr 0 40 qaj ([t4] : List (Den qaj))), 0, [], false, none⟩), (1, ⟨(.cells [(vs f_0), (.tv (.sl 8 I) f_1), (vi f_2), (.tv (.sl 8 I) f_3), (.tv (.sl 136 qaa) f_4)]), 1, [], false, none⟩)] 2
noncomputable def r14_body_L2 (i : Int) (m : Den qad) (t51 : List (Den qaa)) (t52 : Int) (t53 : Int) (t4 : Den qaj) (f_0 : ByteArray) (f_1 : List (Den I)) (f_2 : Int) (f_3 : List (Den I)) (f_4 : List (Den qaa)) : Cfg := hcfg E_V28 qeq 2 [(1, (vi i)), (2, (.rtp qad m)), (4, (.tref 0 0 [] (0 : Nat) [])), (5, (.ref 1 0)), (51, (.tv (.sl 136 qaa) t51)), (52, (vi t52)), (53, (vi t53))] [(0, ⟨(.arr 0 40 qaj ([t4] : List (Den qaj))), 0, [], false, none⟩), (1, ⟨(.cells [(vs f_0), (.tv (.sl 8 I) f_1), (vi f_2), (.tv (.sl 8 I) f_3), (.tv (.sl 136 qaa) f_4)]), 1, [], false, none⟩)] 2
noncomputable def r14_body_L4 (i : Int) (m : Den qad) (k : Int) (t51 : List (Den qaa)) (t52 : Int) (t53 : Int) (t80 : List (Den qac)) (t81 : Int) (t82 : Int) (t4 : Den qaj) (f_0 : ByteArray) (f_1 : List (Den I)) (f_2 : Int) (f_3 : List (Den I)) (f_4 : List (Den qaa)) (b_0 : List (Den I)) (b_1 : List (Den qac)) (b_2 : Int) (b_3 : List (Den I)) (b_4 : List (Den I)) (b_5 : List (Den qae)) (b_6 : Int) : Cfg := hcfg E_V28 qeq 4 [(1, (vi i)), (2, (.rtp qad m)), (4, (.tref 0 0 [] (0 : Nat) [])), (5, (.ref 1 0)), (9, (vi k)), (10, (.ref 2 0)), (51, (.tv (.sl 136 qaa) t51)), (52, (vi t52)), (53, (vi t53)), (80, (.tv (.sl 80 qac) t80)), (81, (vi t81)), (82, (vi t82))] [(0, ⟨(.arr 0 40 qaj ([t4] : List (Den qaj))), 0, [], false, none⟩), (1, ⟨(.cells [(vs f_0), (.tv (.sl 8 I) f_1), (vi f_2), (.tv (.sl 8 I) f_3), (.tv (.sl 136 qaa) f_4)]), 1, [], false, none⟩), (2, ⟨(.cells [(.tv (.sl 8 I) b_0), (.tv (.sl 80 qac) b_1), (vi b_2), (.tv (.sl 8 I) b_3), (.tv (.sl 8 I) b_4), (.tv (.sl 32 qae) b_5), (vi b_6)]), 2, [], false, none⟩)] 3
theorem r14_body_t (m : Den qad) (i : Int) : run E_V28 H_V28 qeq 3000 (start E_V28 qeq [(.tv qad m), (vi i)]) = (.chk (0 ≤ i ∧ i < (ln qab m.2.1)) (hd (r14_body_L0 i m (0 : Int) ((gd qab m.2.1 i.toNat).2.2.2.2.1) ((ln qaa ((gd qab m.2.1 i.toNat).2.2.2.2.1)) : Int) (0 : Int) ((0 : Int), (0 : Int), (0 : Int), (0 : Int), (0 : Int), ()) (tOf ((gd qab m.2.1 i.toNat).1)) ((gd qab m.2.1 i.toNat).2.1) (z ((gd qab m.2.1 i.toNat).2.2.1)) ((gd qab m.2.1 i.toNat).2.2.2.1) ((gd qab m.2.1 i.toNat).2.2.2.2.1)))) := by kernel_rfl
theorem r14_body_L0_t (i : Int) (m : Den qad) (n : Int) (t22 : List (Den qaa)) (t23 : Int) (t24 : Int) (t4 : Den qaj) (f_0 : ByteArray) (f_1 : List (Den I)) (f_2 : Int) (f_3 : List (Den I)) (f_4 : List (Den qaa)) : run E_V28 H_V28 qeq 3000 (r14_body_L0 i m n t22 t23 t24 t4 f_0 f_1 f_2 f_3 f_4) = (cond (decide (t24 < t23)) (.chk (0 ≤ t24 ∧ t24 < (ln qaa t22)) (hd (r14_body_L0 i m (IntKind.wrap .i64 (n + ((ln qac ((gd qaa t22 t24.toNat).2.1)) : Int))) t22 t23 (IntKind.wrap .i64 (t24 + (1 : Int))) t4 f_0 f_1 f_2 f_3 f_4))) (cond (((ln qaa f_4) : Int) == (0 : Int)) (.chk (True) (.know (okD qaj (diagR (4 : Int) (2 : Int) i (-1 : Int) (-1 : Int))) (.chk ((0 : Nat) < (1 : Nat)) (.chk ((0 : Nat) < (1 : Nat)) (rt (.tv qaj (diagR (4 : Int) (2 : Int) i (-1 : Int) (-1 : Int))) []))))) (cond (decide (((ln qaa f_4) : Int) > (400 : Int))) (.chk (True) (.know (okD qaj (diagR (11 : Int) (2 : Int) i (-1 : Int) (-1 : Int))) (.chk ((0 : Nat) < (1 : Nat)) (.chk ((0 : Nat) < (1 : Nat)) (rt (.tv qaj (diagR (11 : Int) (2 : Int) i (-1 : Int) (-1 : Int))) []))))) (cond (decide (n > (4000 : Int))) (.chk (True) (.know (okD qaj (diagR (11 : Int) (2 : Int) i (-1 : Int) (-1 : Int))) (.chk ((0 : Nat) < (1 : Nat)) (.chk ((0 : Nat) < (1 : Nat)) (rt (.tv qaj (diagR (11 : Int) (2 : Int) i (-1 : Int) (-1 : Int))) []))))) (hd (r14_body_L2 i m f_4 ((ln qaa f_4) : Int) (0 : Int) t4 f_0 f_1 f_2 f_3 f_4)))))) := by kernel_rfl
theorem r14_body_L2_t (i : Int) (m : Den qad) (t51 : List (Den qaa)) (t52 : Int) (t53 : Int) (t4 : Den qaj) (f_0 : ByteArray) (f_1 : List (Den I)) (f_2 : Int) (f_3 : List (Den I)) (f_4 : List (Den qaa)) : run E_V28 H_V28 qeq 3000 (r14_body_L2 i m t51 t52 t53 t4 f_0 f_1 f_2 f_3 f_4) = (cond (decide (t53 < t52)) (.chk (0 ≤ t53 ∧ t53 < (ln qaa t51)) (cond (t53 == (0 : Int)) (cond (decide (((ln I ((gd qaa t51 t53.toNat).1)) : Int) > (0 : Int))) (.chk (True) (.know (okD qaj (diagR (3 : Int) (2 : Int) i t53 (-1 : Int))) (.chk ((0 : Nat) < (1 : Nat)) (.chk ((0 : Nat) < (1 : Nat)) (rt (.tv qaj (diagR (3 : Int) (2 : Int) i t53 (-1 : Int))) []))))) (.chk (True) (.know (okD (.int .i64) (parE (f_0, f_1, f_2, f_3, f_4, ()) (gd qaa t51 t53.toNat).1)) (cond ((parE (f_0, f_1, f_2, f_3, f_4, ()) (gd qaa t51 t53.toNat).1) != (0 : Int)) (.chk (True) (.know (okD qaj (diagR (parE (f_0, f_1, f_2, f_3, f_4, ()) (gd qaa t51 t53.toNat).1) (2 : Int) i t53 (-1 : Int))) (.chk ((0 : Nat) < (1 : Nat)) (.chk ((0 : Nat) < (1 : Nat)) (rt (.tv qaj (diagR (parE (f_0, f_1, f_2, f_3, f_4, ()) (gd qaa t51 t53.toNat).1) (2 : Int) i t53 (-1 : Int))) []))))) (hd (r14_body_L4 i m t53 t51 t52 t53 ((gd qaa t51 t53.toNat).2.1) ((ln qac ((gd qaa t51 t53.toNat).2.1)) : Int) (0 : Int) t4 f_0 f_1 f_2 f_3 f_4 ((gd qaa t51 t53.toNat).1) ((gd qaa t51 t53.toNat).2.1) (z ((gd qaa t51 t53.toNat).2.2.1.1)) ((gd qaa t51 t53.toNat).2.2.1.2.1) ((gd qaa t51 t53.toNat).2.2.1.2.2.1) ((gd qaa t51 t53.toNat).2.2.1.2.2.2.1) (z ((gd qaa t51 t53.toNat).2.2.1.2.2.2.2.1)))))))) (.chk (True) (.know (okD (.int .i64) (parE (f_0, f_1, f_2, f_3, f_4, ()) (gd qaa t51 t53.toNat).1)) (cond ((parE (f_0, f_1, f_2, f_3, f_4, ()) (gd qaa t51 t53.toNat).1) != (0 : Int)) (.chk (True) (.know (okD qaj (diagR (parE (f_0, f_1, f_2, f_3, f_4, ()) (gd qaa t51 t53.toNat).1) (2 : Int) i t53 (-1 : Int))) (.chk ((0 : Nat) < (1 : Nat)) (.chk ((0 : Nat) < (1 : Nat)) (rt (.tv qaj (diagR (parE (f_0, f_1, f_2, f_3, f_4, ()) (gd qaa t51 t53.toNat).1) (2 : Int) i t53 (-1 : Int))) []))))) (hd (r14_body_L4 i m t53 t51 t52 t53 ((gd qaa t51 t53.toNat).2.1) ((ln qac ((gd qaa t51 t53.toNat).2.1)) : Int) (0 : Int) t4 f_0 f_1 f_2 f_3 f_4 ((gd qaa t51 t53.toNat).1) ((gd qaa t51 t53.toNat).2.1) (z ((gd qaa t51 t53.toNat).2.2.1.1)) ((gd qaa t51 t53.toNat).2.2.1.2.1) ((gd qaa t51 t53.toNat).2.2.1.2.2.1) ((gd qaa t51 t53.toNat).2.2.1.2.2.2.1) (z ((gd qaa t51 t53.toNat).2.2.1.2.2.2.2.1))))))))) (.chk ((0 : Nat) < (1 : Nat)) (.chk ((0 : Nat) < (1 : Nat)) (rt (.tv qaj ((0 : Int), (0 : Int), (0 : Int), (0 : Int), (0 : Int), ())) [])))) := by kernel_rfl
theorem r14_body_L4_t (i : Int) (m : Den qad) (k : Int) (t51 : List (Den qaa)) (t52 : Int) (t53 : Int) (t80 : List (Den qac)) (t81 : Int) (t82 : Int) (t4 : Den qaj) (f_0 : ByteArray) (f_1 : List (Den I)) (f_2 : Int) (f_3 : List (Den I)) (f_4 : List (Den qaa)) (b_0 : List (Den I)) (b_1 : List (Den qac)) (b_2 : Int) (b_3 : List (Den I)) (b_4 : List (Den I)) (b_5 : List (Den qae)) (b_6 : Int) : run E_V28 H_V28 qeq 3000 (r14_body_L4 i m k t51 t52 t53 t80 t81 t82 t4 f_0 f_1 f_2 f_3 f_4 b_0 b_1 b_2 b_3 b_4 b_5 b_6) = (cond (decide (t82 < t81)) (.chk (0 ≤ t82 ∧ t82 < (ln qac t80)) (.chk (True) (.know (okD (.int .i64) (chkF (gd qac t80 t82.toNat) (f_0, f_1, f_2, f_3, f_4, ()) m)) (cond ((chkF (gd qac t80 t82.toNat) (f_0, f_1, f_2, f_3, f_4, ()) m) != (0 : Int)) (.chk (True) (.know (okD qaj (diagR (chkF (gd qac t80 t82.toNat) (f_0, f_1, f_2, f_3, f_4, ()) m) (2 : Int) i k t82)) (.chk ((0 : Nat) < (1 : Nat)) (.chk ((0 : Nat) < (1 : Nat)) (rt (.tv qaj (diagR (chkF (gd qac t80 t82.toNat) (f_0, f_1, f_2, f_3, f_4, ()) m) (2 : Int) i k t82)) []))))) (hd (r14_body_L4 i m k t51 t52 t53 t80 t81 (IntKind.wrap .i64 (t82 + (1 : Int))) t4 f_0 f_1 f_2 f_3 f_4 b_0 b_1 b_2 b_3 b_4 b_5 b_6)))))) (.chk (True) (.know (okD (.int .i64) (trmE m (f_0, f_1, f_2, f_3, f_4, ()) (b_2, b_3, b_4, b_5, b_6, ()))) (cond ((trmE m (f_0, f_1, f_2, f_3, f_4, ()) (b_2, b_3, b_4, b_5, b_6, ())) != (0 : Int)) (.chk (True) (.know (okD qaj (diagR (trmE m (f_0, f_1, f_2, f_3, f_4, ()) (b_2, b_3, b_4, b_5, b_6, ())) (2 : Int) i k ((ln qac b_1) : Int))) (.chk ((0 : Nat) < (1 : Nat)) (.chk ((0 : Nat) < (1 : Nat)) (rt (.tv qaj (diagR (trmE m (f_0, f_1, f_2, f_3, f_4, ()) (b_2, b_3, b_4, b_5, b_6, ())) (2 : Int) i k ((ln qac b_1) : Int))) []))))) (hd (r14_body_L2 i m t51 t52 (IntKind.wrap .i64 (t53 + (1 : Int))) t4 f_0 f_1 f_2 f_3 f_4)))))) := by kernel_rfl
def nD (d : Dg) : Dg := cond (errB d) d noD
def IsG (d : Dg) (r : AV) (h : Heap) : Prop := r = .tv qaj d ∧ h = []
def RunG (E : Ctx) (c : Cfg) (d : Dg) : Prop := Runs E c (IsG d)
theorem IsG.mk {d x : Dg} (h : x = d) : IsG d (.tv qaj x) [] := ⟨congrArg _ h, rfl⟩
theorem RunG.eq {E : Ctx} {c : Cfg} {e d : Dg} (h : RunG E c e) (hd : d = e) : RunG E c d := hd ▸ h
theorem nD_hit {a b : Dg} (h : errB a = true) : nD (orD a b) = a := by rw [or_hit h, nD, h, cond_true]
theorem nD_miss {a b : Dg} (h : errB a = false) : nD (orD a b) = nD b := by rw [qdw h]
theorem at_hit {p : Plc} {e : Int} (h : (e != 0) = true) : errB (atD p e) = true := by rw [errAt, ← bne, h]
theorem at_miss {p : Plc} {e : Int} (h : (e != 0) = false) : errB (atD p e) = false := by rw [errAt, ← bne, h]
def hdsF (m : Md) : Dg := nD (orD (gloD m.1) (sigD m.2.1))
def bdyF (m : Md) (fn : Int) : Dg := nD (bodF m fn)
theorem r14_heads_l2 (m : Md) (hm : okD qad m) (x : Dg) : ∀ i, i ≤ ln qab m.2.1 → RunG E_V28 (r14_heads_L2 m (ln qab m.2.1 : Nat) i x) (nD (qco (fun i => atD (plF i) (sigI m.2.1 i)) (ln qab m.2.1 - i) i)) :=
 qba (.tree qib (r14_heads_L2_t ..) (by
  rw [Nat.sub_self, qco]
  simp only [sS, sL,  Nat.lt_irrefl]
  exact .mk rfl))
  fun i hi ih => .tree qib (r14_heads_L2_t ..) (by
   rw [sub1 hi, qco]
   simp only [sS, sL,  hi, wrapS hi (qas hm.2.1.1)]
   exact fun _ => ⟨fun h1 _ => .mk (nD_hit (a := atD (plF i) (sigI m.2.1 i)) (at_hit h1)).symm, fun h1 => RunG.eq ih (nD_miss (at_miss h1))⟩)
theorem r14_heads_l0 (m : Md) (hm : okD qad m) (x : Dg) : ∀ i, i ≤ ln qaf m.1 → RunG E_V28 (r14_heads_L0 m (ln qaf m.1 : Nat) i x) (nD (orD (qco (fun i => atD (plG i) (gloI m.1 i)) (ln qaf m.1 - i) i) (sigD m.2.1))) :=
 qba (.tree qib (r14_heads_L0_t ..) (by
  rw [Nat.sub_self, qco, no_or]
  simp only [sS, sL,  Nat.lt_irrefl]
  refine ⟨fun h1 _ => .mk ?_, fun h1 => (r14_heads_l2 m hm x 0 (Nat.zero_le _)).eq ?_⟩
  ·unfold sigD
   rw [show decide ((ln qab m.2.1 : Int) ≤ 32) = false by simpa using h1]
   rfl
  ·unfold sigD
   rw [show decide ((ln qab m.2.1 : Int) ≤ 32) = true by simpa using h1]
   rfl))
  fun i hi ih => .tree qib (r14_heads_L0_t ..) (by
   rw [sub1 hi, qco, or_assoc]
   simp only [sS, sL,  hi, wrapS hi (qas hm.1.1)]
   exact fun _ => ⟨fun h1 _ => .mk (nD_hit (a := atD (plG i) (gloI m.1 i)) (at_hit h1)).symm, fun h1 => RunG.eq ih (nD_miss (at_miss h1))⟩)
def k_r14_heads : Con := con [.d qad] qaj (fun x => True) fun x => hdsF x.1
theorem m_r14_heads (m : Den qad) (h_m : okD qad m) (hp : True) : Runs E_V28 (start E_V28 qex [(.tv qad m)]) (fun r_ h_ => r_ = (.tv qaj (hdsF m)) ∧ h_ = []) := .tree qib (r14_heads_t m) (by
 show Tre.wp (contL _ (IsG (hdsF m))) _
 simp only [sS]
 refine ⟨fun h1 _ => .mk ?_, fun h1 => (r14_heads_l0 m h_m _ 0 (Nat.zero_le _)).eq ?_⟩
 ·unfold hdsF gloD
  rw [show decide ((ln qaf m.1 : Int) ≤ 32) = false by simpa using h1]
  rfl
 ·unfold hdsF gloD
  rw [show decide ((ln qaf m.1 : Int) ≤ 32) = true by simpa using h1]
  rfl)
theorem c_r14_heads : qal E_V28 qex k_r14_heads.spec := qam fun x hx hp => ⟨rfl, m_r14_heads x.1 hx.1 hp⟩
theorem r14_body_l4 (m : Md) (f : Fn) (fn i : Nat) (b : Blk) (d x : Dg) (hi : i < ln qaa f.2.2.2.2.1) (hok : okD qab f) (hb : okD qaa b)
  (ih : RunG E_V28 (r14_body_L2 fn m f.2.2.2.2.1 (ln qaa f.2.2.2.2.1 : Nat) (i + 1 : Nat) x (tOf f.1) f.2.1 (z f.2.2.1) f.2.2.2.1 f.2.2.2.2.1) (nD d)) : ∀ k, k ≤ ln qac b.2.1 → RunG E_V28 (r14_body_L4 fn m i f.2.2.2.2.1 (ln qaa f.2.2.2.2.1 : Nat) i b.2.1 (ln qac b.2.1 : Nat) k x (tOf f.1) f.2.1 (z f.2.2.1) f.2.2.2.1 f.2.2.2.2.1 b.1 b.2.1 (z b.2.2.1.1) b.2.2.1.2.1 b.2.2.1.2.2.1 b.2.2.1.2.2.2.1 (z b.2.2.1.2.2.2.2.1)) (nD (orD (qco (insI m f fn i b) (ln qac b.2.1 - k) k) (orD (trmF (plB fn i (ln qac b.2.1 : Nat)) m f b.2.2.1) d))) :=
 qba (.tree qib (r14_body_L4_t ..) (by
  rw [Nat.sub_self, qco, no_or]
  simp only [sS, sL,  Nat.lt_irrefl, wrapS hi (qas hok.2.2.2.2.1.1)]
  exact fun _ => ⟨fun h1 _ => .mk (nD_hit (a := trmF (plB fn i (ln qac b.2.1 : Nat)) m f b.2.2.1) (at_hit h1)).symm, fun h1 => RunG.eq ih (nD_miss (at_miss h1))⟩))
  fun k hk ihk => .tree qib (r14_body_L4_t ..) (by
   rw [sub1 hk, qco, or_assoc]
   simp only [sS, sL,  hk, wrapS hk (qas hb.2.1.1)]
   exact fun _ => ⟨fun h1 _ => .mk (nD_hit (a := insI m f fn i b k) (at_hit h1)).symm, fun h1 => RunG.eq ihk (nD_miss (at_miss h1))⟩)
theorem blkH_z {b : Blk} {i : Nat} (h : ((i : Int) == 0) = false) : blkH b i = 0 := by
 unfold blkH
 rw [show decide ((i : Int) > 0) = true by simp at h ⊢; omega]
 rfl
theorem blkH_e {b : Blk} {i : Nat} (h : decide ((ln I b.1 : Int) > 0) = false) : blkH b i = 0 := by
 unfold blkH
 rw [show ((ln I b.1 : Int) == 0) = true by simp at h ⊢; omega]
 cases decide ((i : Int) > 0) <;> rfl
theorem blkH_x {b : Blk} {i : Nat} (h : ((i : Int) == 0) = true) (h2 : decide ((ln I b.1 : Int) > 0) = true) : blkH b i = 3 := by
 unfold blkH
 rw [show decide ((i : Int) > 0) = false by simp at h ⊢; omega, show ((ln I b.1 : Int) == 0) = false by simp at h2 ⊢; omega]
 rfl
theorem r14_body_l2 (m : Md) (f : Fn) (fn : Nat) (x : Dg) (hok : okD qab f) : ∀ i, i ≤ ln qaa f.2.2.2.2.1 → RunG E_V28 (r14_body_L2 fn m f.2.2.2.2.1 (ln qaa f.2.2.2.2.1 : Nat) i x (tOf f.1) f.2.1 (z f.2.2.1) f.2.2.2.1 f.2.2.2.2.1) (nD (qco (blkD m f fn) (ln qaa f.2.2.2.2.1 - i) i)) :=
 qba (.tree qib (r14_body_L2_t ..) (by
  rw [Nat.sub_self, qco]
  simp only [sS, sL,  Nat.lt_irrefl]
  exact .mk rfl))
  fun i hi ih => .tree qib (r14_body_L2_t ..) (by
   have hb := ok_gd hok.2.2.2.2.1 hi
   have go := r14_body_l4 m f fn i (gd qaa f.2.2.2.2.1 i) _ x hi hok hb ih 0 (Nat.zero_le _)
   have gp : ∀ {q}, q = blkH (gd qaa f.2.2.2.2.1 i) i → q = 0 → ∀ {P Q : Dg}, nD (orD (atD (plB fn i (-1)) (blkH (gd qaa f.2.2.2.2.1 i) i)) (orD P Q)) = nD (orD P Q) := fun h h0 => nD_miss (by rw [← h, h0]; rfl)
   rw [sub1 hi, qco, blkD, blkE, or_assoc, or_assoc, or_assoc]
   simp only [sS, sL,  hi]
   refine ⟨fun h1 => ⟨fun h2 _ => .mk ?_, fun h2 _ => ⟨fun h3 _ => .mk ?_, fun h3 => RunG.eq go ?_⟩⟩, fun h1 _ => ⟨fun h3 _ => .mk ?_, fun h3 => RunG.eq go ?_⟩⟩
   ·rw [blkH_x h1 h2]
    exact (nD_hit (a := atD (plB fn i (-1)) 3) rfl).symm
   ·rw [blkH_e h2, nD_miss at_zero]
    exact (nD_hit (a := parF (plB fn i (-1)) f (gd qaa f.2.2.2.2.1 i).1) (at_hit h3)).symm
   ·rw [blkH_e h2, nD_miss at_zero]
    exact nD_miss (at_miss h3)
   ·rw [blkH_z h1, nD_miss at_zero]
    exact (nD_hit (a := parF (plB fn i (-1)) f (gd qaa f.2.2.2.2.1 i).1) (at_hit h3)).symm
   ·rw [blkH_z h1, nD_miss at_zero]
    exact nD_miss (at_miss h3))
theorem r14_body_l0 (m : Md) (f : Fn) (fn : Nat) (x : Dg) (hok : okD qab f) : ∀ i, i ≤ ln qaa f.2.2.2.2.1 → ∀ n, RunG E_V28 (r14_body_L0 fn m n f.2.2.2.2.1 (ln qaa f.2.2.2.2.1 : Nat) i x (tOf f.1) f.2.1 (z f.2.2.1) f.2.2.2.1 f.2.2.2.2.1) (nD (cond (!(decide ((ln qaa f.2.2.2.2.1 : Int) > (0 : Int)))) (atD (plF fn) 4) (bodB m f fn (sumW n (f.2.2.2.2.1.drop i))))) :=
 qba (fun n => .tree qib (r14_body_L0_t ..) (by
  rw [show f.2.2.2.2.1.drop (ln qaa f.2.2.2.2.1) = [] from drop_ln, sumW]
  simp only [sS, sL,  Nat.lt_irrefl]
  refine ⟨fun h1 _ => .mk ?_, fun h1 => ⟨fun h2 _ => .mk ?_, fun h2 => ⟨fun h3 _ => .mk ?_, fun h3 => (r14_body_l2 m f fn x hok 0 (Nat.zero_le _)).eq ?_⟩⟩⟩
  ·rw [show decide ((ln qaa f.2.2.2.2.1 : Int) > 0) = false by simp at h1 ⊢; omega]
   rfl
  ·rw [show decide ((ln qaa f.2.2.2.2.1 : Int) > 0) = true by simp at h1 ⊢; omega, bodB, show decide ((ln qaa f.2.2.2.2.1 : Int) ≤ 400) = false by simp at h2 ⊢; omega]
   rfl
  ·rw [show decide ((ln qaa f.2.2.2.2.1 : Int) > 0) = true by simp at h1 ⊢; omega, bodB, show decide ((ln qaa f.2.2.2.2.1 : Int) ≤ 400) = true by simp at h2 ⊢; omega, show decide (n ≤ 4000) = false by simp at h3 ⊢; omega]
   rfl
  ·rw [show decide ((ln qaa f.2.2.2.2.1 : Int) > 0) = true by simp at h1 ⊢; omega, bodB, show decide ((ln qaa f.2.2.2.2.1 : Int) ≤ 400) = true by simp at h2 ⊢; omega, show decide (n ≤ 4000) = true by simp at h3 ⊢; omega]
   rfl))
  fun i hi ih n => .tree qib (r14_body_L0_t ..) (by
   rw [show f.2.2.2.2.1.drop i = gd qaa f.2.2.2.2.1 i :: f.2.2.2.2.1.drop (i + 1) from qgz hi, sumW]
   simp only [sS, sL,  hi, wrapS hi (qas hok.2.2.2.2.1.1)]
   exact ih _)
def k_r14_body : Con := con [.d qad, .d I] qaj (fun x => 0 ≤ z x.2.1 ∧ z x.2.1 < (ln qab x.1.2.1 : Nat)) fun x => bdyF x.1 x.2.1
theorem m_r14_body (m : Den qad) (i : Int) (h_m : okD qad m) (h_i : okD I i) (hp : 0 ≤ z i ∧ z i < (ln qab m.2.1 : Nat)) : Runs E_V28 (start E_V28 qeq [(.tv qad m), (vi i)]) (fun r_ h_ => r_ = (.tv qaj (bdyF m i)) ∧ h_ = []) := .tree qib (r14_body_t m i) (by
 have h1 : 0 ≤ i := hp.1
 have h2 : i < (ln qab m.2.1 : Nat) := hp.2
 obtain ⟨n, rfl⟩ : ∃ n : Nat, i = n := ⟨i.toNat, by omega⟩
 have hn : n < ln qab m.2.1 := by omega
 have hgo := ok_gd h_m.2.1 hn
 show Tre.wp (contL _ (IsG (bdyF m n))) _
 simp only [sS, sL,  hn]
 exact r14_body_l0 m (gd qab m.2.1 n) n _ hgo 0 (Nat.zero_le _) 0)
theorem c_r14_body : qal E_V28 qeq k_r14_body.spec := qam fun x hx hp => ⟨rfl, m_r14_body x.1 x.2.1 hx.1 hx.2.1 hp⟩
def L_V28 : List (FuncId × FSpec) := [(qex, k_r14_heads.spec), (qeq, k_r14_body.spec)] ++ L_V27
theorem L_V28_ok : ∀ x ∈ L_V28, qal (ctx []) x.1 x.2 := by
 unfold L_V28
 simp only [List.cons_append, List.nil_append, List.forall_mem_cons]
 exact ⟨c_r14_heads, c_r14_body, L_V27_ok⟩
end Burn.MTT
namespace Burn.MTT
open Go Go.BE Go.Proofs
set_option maxRecDepth 100000
set_option linter.unusedVariables false
set_option linter.unusedSimpArgs false
noncomputable abbrev E_V29 : Ctx := ctx L_V28
theorem E_V29_ok : EOK E_V29 := qbq L_V28_ok
def cuts_V29 : CutL := [([], 10, 0, [1, 2, 3, 9, 10], [], [])]
def rets_V29 : FuncId → List (Option Fx)
 | 10 => [some (.dat qaj)]
 | _ => []
def H_V29 : Hints := { cut := cutOf cuts_V29, ret := rets_V29 }
noncomputable def r14_Module_L0 (m : Den qad) (t9 : Int) (t10 : Int) (t2 : Den qaj) (d : Den qaj) : Cfg := hcfg E_V29 qgj 0 [(1, (.rtp qad m)), (2, (.tref 0 0 [] (0 : Nat) [])), (3, (.tref 1 1 [] (0 : Nat) [])), (9, (vi t9)), (10, (vi t10))] [(0, ⟨(.arr 0 40 qaj ([t2] : List (Den qaj))), 0, [], false, none⟩), (1, ⟨(.arr 0 40 qaj ([d] : List (Den qaj))), 1, [], false, none⟩)] 2
theorem r14_Module_t (m : Den qad) : run E_V29 H_V29 qgj 3000 (start E_V29 qgj [(.tv qad m)]) = (.chk (True) (.know (okD qaj (hdsF m)) (.chk ((0 : Nat) < (1 : Nat)) (hd (r14_Module_L0 m ((ln qab m.2.1) : Int) (0 : Int) ((0 : Int), (0 : Int), (0 : Int), (0 : Int), (0 : Int), ()) (hdsF m)))))) := by kernel_rfl
theorem r14_Module_L0_t (m : Den qad) (t9 : Int) (t10 : Int) (t2 : Den qaj) (d : Den qaj) : run E_V29 H_V29 qgj 3000 (r14_Module_L0 m t9 t10 t2 d) = (cond (decide (t10 < t9)) (.chk ((0 : Nat) < (1 : Nat)) (cond ((z d.1) != (0 : Int)) (.chk ((0 : Nat) < (1 : Nat)) (.chk ((0 : Nat) < (1 : Nat)) (.chk ((0 : Nat) < (1 : Nat)) (rt (.tv qaj d) [])))) (.chk (0 ≤ z t10 ∧ z t10 < (ln qab m.2.1 : Nat)) (.know (okD qaj (bdyF m t10)) (.chk ((0 : Nat) < (1 : Nat)) (hd (r14_Module_L0 m t9 (IntKind.wrap .i64 (t10 + (1 : Int))) t2 (bdyF m t10)))))))) (.chk ((0 : Nat) < (1 : Nat)) (.chk ((0 : Nat) < (1 : Nat)) (.chk ((0 : Nat) < (1 : Nat)) (rt (.tv qaj d) []))))) := by kernel_rfl
theorem nD_code {d : Dg} : (z (nD d).1 != 0) = errB d := by
 unfold nD
 cases h : errB d
 ·rfl
 ·exact h
theorem r14_Module_l0 (m : Md) (hm : okD qad m) (x : Dg) : ∀ i, i ≤ ln qab m.2.1 → ∀ d, RunG E_V29 (r14_Module_L0 m (ln qab m.2.1 : Nat) i x (nD d)) (nD (orD d (qco (modB m) (ln qab m.2.1 - i) i))) :=
 qba (fun d => .tree E_V29_ok (r14_Module_L0_t ..) (by
  rw [Nat.sub_self, qco]
  simp only [sS, sL,  Nat.lt_irrefl]
  refine .mk ?_
  cases h : errB d
  ·rw [qdw h, nD, h]; rfl
  ·rw [or_hit h]))
  fun i hi ih d => .tree E_V29_ok (r14_Module_L0_t ..) (by
   rw [sub1 hi, qco]
   simp only [sS, sL,  hi, wrapS hi (qas hm.2.1.1)]
   refine ⟨fun h1 => ?_, fun h1 => ?_⟩
   ·rw [nD_code] at h1
    exact .mk (by rw [or_hit h1])
   ·rw [nD_code] at h1
    rw [qdw h1]
    exact fun _ => ih (modB m i))
def k_r14_Module : Con := con [.d qad] qaj (fun x => True) fun x => qeo x.1
theorem m_r14_Module (m : Den qad) (h_m : okD qad m) (hp : True) : Runs E_V29 (start E_V29 qgj [(.tv qad m)]) (fun r_ h_ => r_ = (.tv qaj (qeo m)) ∧ h_ = []) := .tree E_V29_ok (r14_Module_t m) (by
 show Tre.wp (contL _ (IsG (qeo m))) _
 simp only [sS, sL,  Nat.sub_zero]
 exact fun _ => (r14_Module_l0 m h_m _ 0 (Nat.zero_le _) (orD (gloD m.1) (sigD m.2.1))).eq (by rw [or_assoc]; rfl))
theorem c_r14_Module : qal E_V29 qgj k_r14_Module.spec := qam fun x hx hp => ⟨rfl, m_r14_Module x.1 hx.1 hp⟩
def L_V29 : List (FuncId × FSpec) := [(qgj, k_r14_Module.spec)] ++ L_V28
theorem L_V29_ok : ∀ x ∈ L_V29, qal (ctx []) x.1 x.2 := by
 unfold L_V29
 simp only [List.cons_append, List.nil_append, List.forall_mem_cons]
 exact ⟨c_r14_Module, L_V28_ok⟩
end Burn.MTT
namespace Burn.MTT
open Go Go.BE Go.Proofs
set_option maxRecDepth 100000
set_option linter.unusedVariables false
set_option linter.unusedSimpArgs false
open Burn.Intn Burn.Ref
noncomputable abbrev E_V30 : Ctx := ctx L_V29
theorem E_V30_ok : EOK E_V30 := qbq L_V29_ok
def cuts_V30 : CutL := [([], 39, 0, [5, 6, 7], [], [])]
def rets_V30 : FuncId → List (Option Fx)
 | _ => []
def H_V30 : Hints := { cut := cutOf cuts_V30, ret := rets_V30 }
theorem machine_within_t (n : Int) (low : Int) (high : Int) : run E_V30 H_V30 qfh 3000 (start E_V30 qfh [(vi n), (vi low), (vi high)]) = (cond (decide (n ≥ low)) (rt (vb (decide (n ≤ high))) []) (rt (vb false) [])) := by kernel_rfl
theorem machine_isType_t (t : Int) : run E_V30 H_V30 qfj 3000 (start E_V30 qfj [(vi t)]) = (cond (decide (t ≥ (1 : Int))) (rt (vb (decide (t ≤ (7 : Int)))) []) (rt (vb false) [])) := by kernel_rfl
theorem machine_unless_t (holds : Bool) (e : Int) : run E_V30 H_V30 qfi 3000 (start E_V30 qfi [(vb holds), (vi e)]) = (cond holds (rt (vi (0 : Int)) []) (rt (vi e) [])) := by kernel_rfl
theorem machine_flag_t (is : Bool) : run E_V30 H_V30 qhq 3000 (start E_V30 qhq [(vb is)]) = (cond is (rt (vi (1 : Int)) []) (rt (vi (0 : Int)) [])) := by kernel_rfl
theorem machine_checker_virtual_t (c : Den qah) : run E_V30 H_V30 qbv 3000 (start E_V30 qbv [(.tv qah c)]) = (rt (vb ((z c.2.1.2.2.2.2.1) == (0 : Int))) []) := by kernel_rfl
noncomputable def qhz (t5 : List (Den I)) (t6 : Int) (t7 : Int) : Cfg := hcfg E_V30 qdk 0 [(5, (.tv (.sl 8 I) t5)), (6, (vi t6)), (7, (vi t7))] [] 0
theorem machine_first_t (l : List (Den I)) : run E_V30 H_V30 qdk 3000 (start E_V30 qdk [(.tv (.sl 8 I) l)]) = (hd (qhz l ((ln I l) : Int) (0 : Int))) := by kernel_rfl
theorem machine_first_L0_t (t5 : List (Den I)) (t6 : Int) (t7 : Int) : run E_V30 H_V30 qdk 3000 (qhz t5 t6 t7) = (cond (decide (t7 < t6)) (.chk (0 ≤ t7 ∧ t7 < (ln I t5)) (cond ((z (gd I t5 t7.toNat)) != (0 : Int)) (rt (vi (z (gd I t5 t7.toNat))) []) (hd (qhz t5 t6 (IntKind.wrap .i64 (t7 + (1 : Int))))))) (rt (vi (0 : Int)) [])) := by kernel_rfl
abbrev MFn := Den qan
abbrev Chr := Den qah
def fstF : List (Den I) → Int
 | [] => 0
 | e :: l => cond (z e != (0 : Int)) (z e) (fstF l)
def witP (n : Int) (low : Int) (high : Int) : Bool := (cond (decide (n ≥ low)) (decide (n ≤ high)) false)

def k_machine_within : Con := con [.d I, .d I, .d I] .bool (fun x => True) fun x => witP x.1 x.2.1 x.2.2.1
theorem m_machine_within (n : Int) (low : Int) (high : Int) (h_n : okD I n) (h_low : okD I low) (h_high : okD I high) (hp : True) : Runs E_V30 (start E_V30 qfh [(vi n), (vi low), (vi high)]) (fun r_ h_ => r_ = (vb (witP n low high)) ∧ h_ = []) := .tree E_V30_ok (machine_within_t n low high) (by
 show Tre.wp (Qv _ (fun x_ => (vb x_)) (witP n low high)) _
 unfold witP
 refine qag (fun h1 => ⟨rfl, rfl⟩) (fun h1 => ?_)
 exact ⟨rfl, rfl⟩)
theorem c_machine_within : qal E_V30 qfh k_machine_within.spec := qam fun x hx hp => ⟨rfl, m_machine_within x.1 x.2.1 x.2.2.1 hx.1 hx.2.1 hx.2.2.1 hp⟩

def k_machine_isType : Con := con [.d I] .bool (fun x => True) fun x => typP x.1
theorem m_machine_isType (t : Int) (h_t : okD I t) (hp : True) : Runs E_V30 (start E_V30 qfj [(vi t)]) (fun r_ h_ => r_ = (vb (typP t)) ∧ h_ = []) := .tree E_V30_ok (machine_isType_t t) (by
 refine qdv (fun h1 => ?_) (fun h1 => ?_)
 ·have h1_ := of_decide_eq_true h1
  exact ⟨by first | rw [show typP t = _ from (Bool.cond_pos h1)] | simp only [typP, h1, cond_true, cond_false], rfl⟩
 ·have h1_ := of_decide_eq_false h1
  exact ⟨by first | rw [show typP t = _ from (Bool.cond_neg h1)] | simp only [typP, h1, cond_true, cond_false], rfl⟩)
theorem c_machine_isType : qal E_V30 qfj k_machine_isType.spec := qam fun x hx hp => ⟨rfl, m_machine_isType x.1 hx.1 hp⟩
def unlP (holds : Bool) (e : Int) : Int := (cond holds (0 : Int) e)

def k_machine_unless : Con := con [.d .bool, .d I] I (fun x => True) fun x => unlP x.1 x.2.1
theorem m_machine_unless (holds : Bool) (e : Int) (h_holds : okD .bool holds) (h_e : okD I e) (hp : True) : Runs E_V30 (start E_V30 qfi [(vb holds), (vi e)]) (fun r_ h_ => r_ = (vi (unlP holds e)) ∧ h_ = []) := .tree E_V30_ok (machine_unless_t holds e) (by
 show Tre.wp (Qv _ (fun x_ => (vi x_)) (unlP holds e)) _
 unfold unlP
 refine qag (fun h1 => ⟨rfl, rfl⟩) (fun h1 => ?_)
 exact ⟨rfl, rfl⟩)
theorem c_machine_unless : qal E_V30 qfi k_machine_unless.spec := qam fun x hx hp => ⟨rfl, m_machine_unless x.1 x.2.1 hx.1 hx.2.1 hp⟩
def flgP (is : Bool) : Int := (cond is (1 : Int) (0 : Int))

def k_machine_flag : Con := con [.d .bool] I (fun x => True) fun x => flgP x.1
theorem m_machine_flag (is : Bool) (h_is : okD .bool is) (hp : True) : Runs E_V30 (start E_V30 qhq [(vb is)]) (fun r_ h_ => r_ = (vi (flgP is)) ∧ h_ = []) := .tree E_V30_ok (machine_flag_t is) (by
 show Tre.wp (Qv _ (fun x_ => (vi x_)) (flgP is)) _
 unfold flgP
 refine qag (fun h1 => ⟨rfl, rfl⟩) (fun h1 => ?_)
 exact ⟨rfl, rfl⟩)
theorem c_machine_flag : qal E_V30 qhq k_machine_flag.spec := qam fun x hx hp => ⟨rfl, m_machine_flag x.1 hx.1 hp⟩
def vrtP (c : Den qah) : Bool := ((z c.2.1.2.2.2.2.1) == (0 : Int))

def qhi : Con := con [.d qah] .bool (fun x => True) fun x => vrtP x.1
theorem m_machine_checker_virtual (c : Den qah) (h_c : okD qah c) (hp : True) : Runs E_V30 (start E_V30 qbv [(.tv qah c)]) (fun r_ h_ => r_ = (vb (vrtP c)) ∧ h_ = []) := .tree E_V30_ok (machine_checker_virtual_t c) (by
 show Tre.wp (Qv _ (fun x_ => (vb x_)) (vrtP c)) _
 unfold vrtP
 exact ⟨rfl, rfl⟩)
theorem c_machine_checker_virtual : qal E_V30 qbv qhi.spec := qam fun x hx hp => ⟨rfl, m_machine_checker_virtual x.1 hx.1 hp⟩
def rgM (f : Den qan) (r : Int) : Bool := (cond ((z f.2.2.2.2.1) == (0 : Int)) (cond (decide (r ≥ (0 : Int))) (decide (r < ((ln I f.2.2.2.1) : Int))) false) (cond (decide (r ≥ (0 : Int))) (decide (r < (z f.2.2.2.2.1))) false))
theorem machine_first_l (l : List (Den I)) (hl : ln I l < 9223372036854775807) : ∀ i, i ≤ ln I l → RunI E_V30 (qhz l (ln I l : Nat) i) (fstF (l.drop i)) :=
 qba (.tree E_V30_ok (machine_first_L0_t ..) (by
  rw [show l.drop (ln I l) = [] from drop_ln]
  simp only [sS, sL,  Nat.lt_irrefl]
  exact ⟨rfl, rfl⟩))
  fun i hi ih => .tree E_V30_ok (machine_first_L0_t ..) (by
   rw [show l.drop i = gd I l i :: l.drop (i + 1) from qgz hi, fstF]
   simp only [sS, sL,  hi, wrapS hi hl]
   refine ⟨fun h1 => ?_, fun h1 => ?_⟩
   ·rw [h1]; exact ⟨rfl, rfl⟩
   ·rw [h1]; exact ih)
def k_machine_first : Con := con [.d (.sl 8 I)] I (fun x => True) fun x => fstF x.1
theorem m_machine_first (l : List (Den I)) (h_l : okD (.sl 8 I) l) (hp : True) : Runs E_V30 (start E_V30 qdk [(.tv (.sl 8 I) l)]) (fun r_ h_ => r_ = (vi (fstF l)) ∧ h_ = []) := .tree E_V30_ok (machine_first_t l) (by
 show Tre.wp (contL _ (IsI (fstF l))) _
 simp only [sS, sL,  Nat.sub_zero]
 exact machine_first_l l (qas h_l.1) 0 (Nat.zero_le _))
theorem c_machine_first : qal E_V30 qdk k_machine_first.spec := qam fun x hx hp => ⟨rfl, m_machine_first x.1 hx.1 hp⟩
def L_V30 : List (FuncId × FSpec) := [(qfh, k_machine_within.spec), (qfj, k_machine_isType.spec), (qfi, k_machine_unless.spec), (qhq, k_machine_flag.spec), (qbv, qhi.spec), (qdk, k_machine_first.spec)] ++ L_V29
theorem L_V30_ok : ∀ x ∈ L_V30, qal (ctx []) x.1 x.2 := by
 unfold L_V30
 simp only [List.cons_append, List.nil_append, List.forall_mem_cons]
 exact ⟨c_machine_within, c_machine_isType, c_machine_unless, c_machine_flag, c_machine_checker_virtual, c_machine_first, L_V29_ok⟩
end Burn.MTT
namespace Burn.MTT
open Go Go.BE Go.Proofs
set_option maxRecDepth 100000
set_option linter.unusedVariables false
set_option linter.unusedSimpArgs false
open Burn.Intn Burn.Ref
noncomputable abbrev E_V31 : Ctx := ctx L_V30
theorem E_V31_ok : EOK E_V31 := qbq L_V30_ok
def cuts_V31 : CutL := []
def rets_V31 : FuncId → List (Option Fx)
 | _ => []
def H_V31 : Hints := { cut := cutOf cuts_V31, ret := rets_V31 }
theorem machine_checker_register_t (c : Den qah) (r : Int) : run E_V31 H_V31 qbr 3000 (start E_V31 qbr [(.tv qah c), (vi r)]) = (.chk (True) (.know True (cond (vrtP c) (cond (decide (r ≥ (0 : Int))) (rt (vb (decide (r < ((ln I c.2.1.2.2.2.1) : Int)))) []) (rt (vb false) [])) (cond (decide (r ≥ (0 : Int))) (rt (vb (decide (r < (z c.2.1.2.2.2.2.1)))) []) (rt (vb false) []))))) := by kernel_rfl
def regC (c : Chr) (r : Int) : Bool := rgM c.2.1 r
def allC (f : MFn) : List (Den I) → Bool
 | [] => true
 | r :: l => cond (rgM f (z r)) (allC f l) false
def rgsF (c : Chr) (l : List (Den I)) : Bool := allC c.2.1 l

def qgv : Con := con [.d qah, .d I] .bool (fun x => True) fun x => regC x.1 x.2.1
theorem m_machine_checker_register (c : Den qah) (r : Int) (h_c : okD qah c) (h_r : okD I r) (hp : True) : Runs E_V31 (start E_V31 qbr [(.tv qah c), (vi r)]) (fun r_ h_ => r_ = (vb (regC c r)) ∧ h_ = []) := .tree E_V31_ok (machine_checker_register_t c r) (by
 refine ⟨trivial, fun _ => ?_⟩
 refine fun _ => ?_
 refine qdv (fun h1 => ?_) (fun h1 => ?_)
 ·refine qdv (fun h2 => ?_) (fun h2 => ?_)
  ·have h2_ := of_decide_eq_true h2
   exact ⟨by simp only [regC, rgM, show (z c.2.1.2.2.2.2.1 == (0 : Int)) = vrtP c from rfl, h1, h2, cond_true, cond_false, cond_true, cond_false], rfl⟩
  ·have h2_ := of_decide_eq_false h2
   exact ⟨by simp only [regC, rgM, show (z c.2.1.2.2.2.2.1 == (0 : Int)) = vrtP c from rfl, h1, h2, cond_true, cond_false, cond_true, cond_false], rfl⟩
 ·refine qdv (fun h3 => ?_) (fun h3 => ?_)
  ·have h3_ := of_decide_eq_true h3
   exact ⟨by simp only [regC, rgM, show (z c.2.1.2.2.2.2.1 == (0 : Int)) = vrtP c from rfl, h1, h3, cond_true, cond_false, cond_true, cond_false], rfl⟩
  ·have h3_ := of_decide_eq_false h3
   exact ⟨by simp only [regC, rgM, show (z c.2.1.2.2.2.2.1 == (0 : Int)) = vrtP c from rfl, h1, h3, cond_true, cond_false, cond_true, cond_false], rfl⟩)
theorem c_machine_checker_register : qal E_V31 qbr qgv.spec := qam fun x hx hp => ⟨rfl, m_machine_checker_register x.1 x.2.1 hx.1 hx.2.1 hp⟩
def L_V31 : List (FuncId × FSpec) := [(qbr, qgv.spec)] ++ L_V30
theorem L_V31_ok : ∀ x ∈ L_V31, qal (ctx []) x.1 x.2 := by
 unfold L_V31
 simp only [List.cons_append, List.nil_append, List.forall_mem_cons]
 exact ⟨c_machine_checker_register, L_V30_ok⟩
end Burn.MTT
namespace Burn.MTT
open Go Go.BE Go.Proofs
set_option maxRecDepth 100000
set_option linter.unusedVariables false
set_option linter.unusedSimpArgs false
open Burn.Intn Burn.Ref
def mrg_V32 : FuncId → List Nat
 | 49 => [15, 62, 69]
 | _ => []
noncomputable abbrev E_V32 : Ctx := { ctx L_V31 with mrg := mrg_V32 }
theorem E_V32_ok : EOK E_V32 := have h : EOK (ctx L_V31) := qbq L_V31_ok; ⟨h.ty, h.env, h.fns, h.mixed⟩
def cuts_V32 : CutL := [([], 78, 0, [2, 7, 8, 9], [], [])]
def rets_V32 : FuncId → List (Option Fx)
 | _ => []
def H_V32 : Hints := { cut := cutOf cuts_V32, ret := rets_V32 }
noncomputable def qcg (c : Den qah) (t7 : List (Den I)) (t8 : Int) (t9 : Int) : Cfg := hcfg E_V32 qbb 0 [(2, (.rtp qah c)), (7, (.tv (.sl 8 I) t7)), (8, (vi t8)), (9, (vi t9))] [] 0
theorem machine_checker_registers_t (c : Den qah) (l : List (Den I)) : run E_V32 H_V32 qbb 3000 (start E_V32 qbb [(.tv qah c), (.tv (.sl 8 I) l)]) = (hd (qcg c l ((ln I l) : Int) (0 : Int))) := by kernel_rfl
theorem qev (c : Den qah) (t7 : List (Den I)) (t8 : Int) (t9 : Int) : run E_V32 H_V32 qbb 3000 (qcg c t7 t8 t9) = (cond (decide (t9 < t8)) (.chk (0 ≤ t9 ∧ t9 < (ln I t7)) (.chk (True) (.know True (cond (!(regC c (gd I t7 t9.toNat))) (rt (vb false) []) (hd (qcg c t7 t8 (IntKind.wrap .i64 (t9 + (1 : Int))))))))) (rt (vb true) [])) := by kernel_rfl
theorem machine_checker_operands_t (c : Den qah) (in_ : Den qac) : run E_V32 H_V32 qbt 3000 (start E_V32 qbt [(.tv qah c), (.tv qac in_)]) = (cond ((z in_.1) == (1 : Int)) (rt (vi (0 : Int)) []) (cond ((z in_.1) == (2 : Int)) (rt (vi (0 : Int)) []) (cond ((z in_.1) == (25 : Int)) (rt (vi (0 : Int)) []) (cond ((z in_.1) == (26 : Int)) (rt (vi (0 : Int)) []) (cond ((z in_.1) == (4 : Int)) (rt (vi (1 : Int)) []) (cond ((z in_.1) == (22 : Int)) (rt (vi (1 : Int)) []) (cond ((z in_.1) == (23 : Int)) (rt (vi (1 : Int)) []) (cond ((z in_.1) == (24 : Int)) (rt (vi (1 : Int)) []) (cond ((z in_.1) == (28 : Int)) (rt (vi (1 : Int)) []) (cond ((z in_.1) == (31 : Int)) (rt (vi (1 : Int)) []) (cond ((z in_.1) == (33 : Int)) (rt (vi (1 : Int)) []) (cond ((z in_.1) == (21 : Int)) (rt (vi (3 : Int)) []) (cond ((z in_.1) == (32 : Int)) (cond ((z in_.2.1) == (6 : Int)) (rt (vi (2 : Int)) []) (rt (vi (4 : Int)) [])) (cond ((z in_.1) == (30 : Int)) (.chk (0 ≤ (z in_.2.2.2.2.2.1) ∧ (z in_.2.2.2.2.2.1) < (ln qab c.1.2.1)) (rt (vi ((ln I ((gd qab c.1.2.1 (((z in_.2.2.2.2.2.1)).toNat)).2.1)) : Int)) [])) (rt (vi (2 : Int)) []))))))))))))))) := by kernel_rfl
theorem machine_checker_shape_t (c : Den qah) (t : Den qai) : run E_V32 H_V32 qcj 3000 (start E_V32 qcj [(.tv qah c), (.tv qai t)]) = (cond (cond ((z t.1) != (6 : Int)) ((z t.2.2.2.2.1) != (0 : Int)) false) (rt (vb false) []) (cond ((z t.1) == (1 : Int)) (rt (vb (cond (cond (((ln I t.2.1) : Int) == (0 : Int)) (((ln I t.2.2.1) : Int) == (0 : Int)) false) (((ln qae t.2.2.2.1) : Int) == (1 : Int)) false)) []) (cond ((z t.1) == (2 : Int)) (rt (vb (cond (cond (((ln I t.2.1) : Int) == (1 : Int)) (((ln I t.2.2.1) : Int) == (0 : Int)) false) (((ln qae t.2.2.2.1) : Int) == (2 : Int)) false)) []) (cond ((z t.1) == (3 : Int)) (rt (vb (cond (cond (((ln I t.2.1) : Int) == (1 : Int)) (((ln I t.2.2.1) : Int) == ((ln I t.2.2.1) : Int)) false) (((ln qae t.2.2.2.1) : Int) == (IntKind.wrap .i64 (((ln I t.2.2.1) : Int) + (1 : Int)))) false)) []) (cond ((z t.1) == (4 : Int)) (.chk (True) (.know (okD (.int .i64) (flgP ((z c.2.1.2.2.1) != (0 : Int)))) (rt (vb (cond (cond (((ln I t.2.1) : Int) == (flgP ((z c.2.1.2.2.1) != (0 : Int)))) (((ln I t.2.2.1) : Int) == (0 : Int)) false) (((ln qae t.2.2.2.1) : Int) == (0 : Int)) false)) []))) (cond ((z t.1) == (5 : Int)) (rt (vb (cond (cond (((ln I t.2.1) : Int) == (0 : Int)) (((ln I t.2.2.1) : Int) == (1 : Int)) false) (((ln qae t.2.2.2.1) : Int) == (0 : Int)) false)) []) (cond ((z t.1) == (6 : Int)) (.chk (0 ≤ (z t.2.2.2.2.1) ∧ (z t.2.2.2.2.1) < (ln qab c.1.2.1)) (rt (vb (cond (cond (((ln I t.2.1) : Int) == ((ln I ((gd qab c.1.2.1 (((z t.2.2.2.2.1)).toNat)).2.1)) : Int)) (((ln I t.2.2.1) : Int) == (0 : Int)) false) (((ln qae t.2.2.2.1) : Int) == (0 : Int)) false)) [])) (rt (vb (cond (cond (((ln I t.2.1) : Int) == (0 : Int)) (((ln I t.2.2.1) : Int) == (0 : Int)) false) (((ln qae t.2.2.2.1) : Int) == (0 : Int)) false)) [])))))))) := by kernel_rfl
theorem machine_checker_registers_l (c : Chr) (l : List (Den I)) (hl : ln I l < 9223372036854775807) : ∀ i, i ≤ ln I l → Runs E_V32 (qcg c l (ln I l : Nat) i) (fun r h => r = vb (allC c.2.1 (l.drop i)) ∧ h = []) :=
 qba (.tree E_V32_ok (qev ..) (by
  rw [show l.drop (ln I l) = [] from drop_ln]
  simp only [sS, sL,  Nat.lt_irrefl, allC]))
  fun i hi ih => .tree E_V32_ok (qev ..) (by
   rw [show l.drop i = gd I l i :: l.drop (i + 1) from qgz hi, allC]
   simp only [sS, sL,  hi, wrapS hi hl]
   refine ⟨fun h1 => ?_, fun h1 => ?_⟩
   ·rw [show rgM c.2.1 (z (gd I l i)) = false from by simpa [regC] using h1]; rfl
   ·rw [show rgM c.2.1 (z (gd I l i)) = true from by simpa [regC] using h1]; exact ih)
def qgd : Con := con [.d qah, .d (.sl 8 I)] .bool (fun x => True) fun x => rgsF x.1 x.2.1
theorem m_machine_checker_registers (c : Den qah) (l : List (Den I)) (h_c : okD qah c) (h_l : okD (.sl 8 I) l) (hp : True) : Runs E_V32 (start E_V32 qbb [(.tv qah c), (.tv (.sl 8 I) l)]) (fun r_ h_ => r_ = (vb (rgsF c l)) ∧ h_ = []) := .tree E_V32_ok (machine_checker_registers_t c l) (by
 simp only [sS, sL,  Nat.sub_zero]
 exact machine_checker_registers_l c l (qas h_l.1) 0 (Nat.zero_le _))
theorem c_machine_checker_registers : qal E_V32 qbb qgd.spec := qam fun x hx hp => ⟨rfl, m_machine_checker_registers x.1 x.2.1 hx.1 hx.2.1 hp⟩
def opsP (c : Den qah) (in_ : Den qac) : Int := (cond ((z in_.1) == (1 : Int)) (0 : Int) (cond ((z in_.1) == (2 : Int)) (0 : Int) (cond ((z in_.1) == (25 : Int)) (0 : Int) (cond ((z in_.1) == (26 : Int)) (0 : Int) (cond ((z in_.1) == (4 : Int)) (1 : Int) (cond ((z in_.1) == (22 : Int)) (1 : Int) (cond ((z in_.1) == (23 : Int)) (1 : Int) (cond ((z in_.1) == (24 : Int)) (1 : Int) (cond ((z in_.1) == (28 : Int)) (1 : Int) (cond ((z in_.1) == (31 : Int)) (1 : Int) (cond ((z in_.1) == (33 : Int)) (1 : Int) (cond ((z in_.1) == (21 : Int)) (3 : Int) (cond ((z in_.1) == (32 : Int)) (cond ((z in_.2.1) == (6 : Int)) (2 : Int) (4 : Int)) (cond ((z in_.1) == (30 : Int)) ((ln I ((gd qab c.1.2.1 (((z in_.2.2.2.2.2.1)).toNat)).2.1)) : Int) (2 : Int)))))))))))))))

def qgx : Con := con [.d qah, .d qac] I (fun x => z x.2.1.1 = 30 → 0 ≤ z x.2.1.2.2.2.2.2.1 ∧ z x.2.1.2.2.2.2.2.1 < (ln qab x.1.1.2.1 : Nat)) fun x => opsP x.1 x.2.1
theorem m_machine_checker_operands (c : Den qah) (in_ : Den qac) (h_c : okD qah c) (h_in_ : okD qac in_) (hp : z in_.1 = 30 → 0 ≤ z in_.2.2.2.2.2.1 ∧ z in_.2.2.2.2.2.1 < (ln qab c.1.2.1 : Nat)) : Runs E_V32 (start E_V32 qbt [(.tv qah c), (.tv qac in_)]) (fun r_ h_ => r_ = (vi (opsP c in_)) ∧ h_ = []) := .tree E_V32_ok (machine_checker_operands_t c in_) (by
 have hp_ := hp
 try simp only [z] at hp_
 show Tre.wp (Qv _ (fun x_ => (vi x_)) (opsP c in_)) _
 unfold opsP
 refine qag (fun h1 => ⟨rfl, rfl⟩) (fun h1 => ?_)
 have h1_ := beq_f h1
 refine qag (fun h2 => ⟨rfl, rfl⟩) (fun h2 => ?_)
 have h2_ := beq_f h2
 refine qag (fun h3 => ⟨rfl, rfl⟩) (fun h3 => ?_)
 have h3_ := beq_f h3
 refine qag (fun h4 => ⟨rfl, rfl⟩) (fun h4 => ?_)
 have h4_ := beq_f h4
 refine qag (fun h5 => ⟨rfl, rfl⟩) (fun h5 => ?_)
 have h5_ := beq_f h5
 refine qag (fun h6 => ⟨rfl, rfl⟩) (fun h6 => ?_)
 have h6_ := beq_f h6
 refine qag (fun h7 => ⟨rfl, rfl⟩) (fun h7 => ?_)
 have h7_ := beq_f h7
 refine qag (fun h8 => ⟨rfl, rfl⟩) (fun h8 => ?_)
 have h8_ := beq_f h8
 refine qag (fun h9 => ⟨rfl, rfl⟩) (fun h9 => ?_)
 have h9_ := beq_f h9
 refine qag (fun h10 => ⟨rfl, rfl⟩) (fun h10 => ?_)
 have h10_ := beq_f h10
 refine qag (fun h11 => ⟨rfl, rfl⟩) (fun h11 => ?_)
 have h11_ := beq_f h11
 refine qag (fun h12 => ⟨rfl, rfl⟩) (fun h12 => ?_)
 have h12_ := beq_f h12
 refine qag (fun h13 => ?_) (fun h13 => ?_)
 ·refine qag (fun h14 => ⟨rfl, rfl⟩) (fun h14 => ?_)
  exact ⟨rfl, rfl⟩
 ·have h13_ := beq_f h13
  refine qag (fun h15 => ?_) (fun h15 => ⟨rfl, rfl⟩)
  have h15_ := beq_t h15
  refine ⟨by first | omega | exact (hp (by assumption)) | (have g_ := hp (by assumption); omega) | assumption | exact hp.1 | exact hp.2 | exact hp.2.1 | (simp_all; done) | (simp_all; omega), fun _ => ?_⟩
  exact ⟨rfl, rfl⟩)
theorem c_machine_checker_operands : qal E_V32 qbt qgx.spec := qam fun x hx hp => ⟨rfl, m_machine_checker_operands x.1 x.2.1 hx.1 hx.2.1 hp⟩
def opsR (m : Den qad) (in_ : Den qac) : Int := (cond ((z in_.1) == (1 : Int)) (0 : Int) (cond ((z in_.1) == (2 : Int)) (0 : Int) (cond ((z in_.1) == (25 : Int)) (0 : Int) (cond ((z in_.1) == (26 : Int)) (0 : Int) (cond ((z in_.1) == (4 : Int)) (1 : Int) (cond ((z in_.1) == (22 : Int)) (1 : Int) (cond ((z in_.1) == (23 : Int)) (1 : Int) (cond ((z in_.1) == (24 : Int)) (1 : Int) (cond ((z in_.1) == (28 : Int)) (1 : Int) (cond ((z in_.1) == (31 : Int)) (1 : Int) (cond ((z in_.1) == (33 : Int)) (1 : Int) (cond ((z in_.1) == (21 : Int)) (3 : Int) (cond ((z in_.1) == (32 : Int)) (cond ((z in_.2.1) != (6 : Int)) (4 : Int) (2 : Int)) (cond ((z in_.1) == (30 : Int)) ((ln I ((gd qab m.2.1 (((z in_.2.2.2.2.2.1)).toNat)).2.1)) : Int) (2 : Int)))))))))))))))
def shpC (c : Den qah) (t : Den qai) : Bool := (cond (cond ((z t.1) != (6 : Int)) ((z t.2.2.2.2.1) != (0 : Int)) false) false (cond ((z t.1) == (1 : Int)) (cond (cond (((ln I t.2.1) : Int) == (0 : Int)) (((ln I t.2.2.1) : Int) == (0 : Int)) false) (((ln qae t.2.2.2.1) : Int) == (1 : Int)) false) (cond ((z t.1) == (2 : Int)) (cond (cond (((ln I t.2.1) : Int) == (1 : Int)) (((ln I t.2.2.1) : Int) == (0 : Int)) false) (((ln qae t.2.2.2.1) : Int) == (2 : Int)) false) (cond ((z t.1) == (3 : Int)) (cond (cond (((ln I t.2.1) : Int) == (1 : Int)) (((ln I t.2.2.1) : Int) == ((ln I t.2.2.1) : Int)) false) (((ln qae t.2.2.2.1) : Int) == (IntKind.wrap .i64 (((ln I t.2.2.1) : Int) + (1 : Int)))) false) (cond ((z t.1) == (4 : Int)) (cond (cond (((ln I t.2.1) : Int) == (flgP ((z c.2.1.2.2.1) != (0 : Int)))) (((ln I t.2.2.1) : Int) == (0 : Int)) false) (((ln qae t.2.2.2.1) : Int) == (0 : Int)) false) (cond ((z t.1) == (5 : Int)) (cond (cond (((ln I t.2.1) : Int) == (0 : Int)) (((ln I t.2.2.1) : Int) == (1 : Int)) false) (((ln qae t.2.2.2.1) : Int) == (0 : Int)) false) (cond ((z t.1) == (6 : Int)) (cond (cond (((ln I t.2.1) : Int) == ((ln I ((gd qab c.1.2.1 (((z t.2.2.2.2.1)).toNat)).2.1)) : Int)) (((ln I t.2.2.1) : Int) == (0 : Int)) false) (((ln qae t.2.2.2.1) : Int) == (0 : Int)) false) (cond (cond (((ln I t.2.1) : Int) == (0 : Int)) (((ln I t.2.2.1) : Int) == (0 : Int)) false) (((ln qae t.2.2.2.1) : Int) == (0 : Int)) false))))))))

def k_machine_checker_shape : Con := con [.d qah, .d qai] .bool (fun x => z x.2.1.1 = 6 → 0 ≤ z x.2.1.2.2.2.2.1 ∧ z x.2.1.2.2.2.2.1 < (ln qab x.1.1.2.1 : Nat)) fun x => shpC x.1 x.2.1
theorem m_machine_checker_shape (c : Den qah) (t : Den qai) (h_c : okD qah c) (h_t : okD qai t) (hp : z t.1 = 6 → 0 ≤ z t.2.2.2.2.1 ∧ z t.2.2.2.2.1 < (ln qab c.1.2.1 : Nat)) : Runs E_V32 (start E_V32 qcj [(.tv qah c), (.tv qai t)]) (fun r_ h_ => r_ = (vb (shpC c t)) ∧ h_ = []) := .tree E_V32_ok (machine_checker_shape_t c t) (by
 have hp_ := hp
 try simp only [z] at hp_
 show Tre.wp (Qv _ (fun x_ => (vb x_)) (shpC c t)) _
 unfold shpC
 refine qag (fun h1 => ⟨rfl, rfl⟩) (fun h1 => ?_)
 refine qag (fun h2 => ⟨rfl, rfl⟩) (fun h2 => ?_)
 have h2_ := beq_f h2
 refine qag (fun h3 => ⟨rfl, rfl⟩) (fun h3 => ?_)
 have h3_ := beq_f h3
 refine qag (fun h4 => ⟨rfl, rfl⟩) (fun h4 => ?_)
 have h4_ := beq_f h4
 refine qag (fun h5 => ⟨trivial, fun _ => fun _ => ⟨rfl, rfl⟩⟩) (fun h5 => ?_)
 have h5_ := beq_f h5
 refine qag (fun h6 => ⟨rfl, rfl⟩) (fun h6 => ?_)
 have h6_ := beq_f h6
 refine qag (fun h7 => ?_) (fun h7 => ⟨rfl, rfl⟩)
 have h7_ := beq_t h7
 refine ⟨by first | omega | exact (hp (by assumption)) | (have g_ := hp (by assumption); omega) | assumption | exact hp.1 | exact hp.2 | exact hp.2.1 | (simp_all; done) | (simp_all; omega), fun _ => ?_⟩
 exact ⟨rfl, rfl⟩)
theorem c_machine_checker_shape : qal E_V32 qcj k_machine_checker_shape.spec := qam fun x hx hp => ⟨rfl, m_machine_checker_shape x.1 x.2.1 hx.1 hx.2.1 hp⟩
def L_V32 : List (FuncId × FSpec) := [(qbb, qgd.spec), (qbt, qgx.spec), (qcj, k_machine_checker_shape.spec)] ++ L_V31
theorem L_V32_ok : ∀ x ∈ L_V32, qal (ctx []) x.1 x.2 := by
 unfold L_V32
 simp only [List.cons_append, List.nil_append, List.forall_mem_cons]
 exact ⟨c_machine_checker_registers, c_machine_checker_operands, c_machine_checker_shape, L_V31_ok⟩
end Burn.MTT
namespace Burn.MTT
open Go Go.BE Go.Proofs
set_option maxRecDepth 100000
set_option linter.unusedVariables false
set_option linter.unusedSimpArgs false
open Burn.Intn Burn.Ref
def mrg_V33 : FuncId → List Nat
 | 46 => [14, 25, 35, 40, 45, 53, 63, 75]
 | _ => []
noncomputable abbrev E_V33 : Ctx := { ctx L_V32 with mrg := mrg_V33 }
theorem E_V33_ok : EOK E_V33 := have h : EOK (ctx L_V32) := qbq L_V32_ok; ⟨h.ty, h.env, h.fns, h.mixed⟩
def cuts_V33 : CutL := []
def rets_V33 : FuncId → List (Option Fx)
 | _ => []
def H_V33 : Hints := { cut := cutOf cuts_V33, ret := rets_V33 }
theorem machine_checker_move_t (c : Den qah) (in_ : Den qac) : run E_V33 H_V33 qcp 3000 (start E_V33 qcp [(.tv qah c), (.tv qac in_)]) = (cond ((z in_.1) == (40 : Int)) (.chk (True) (.chk (True) (.chk (True) (.chk (True) (.know (okD (.int .i64) (unlP (cond (cond (cond (cond ((z in_.2.2.2.2.2.1) == (0 : Int)) ((z in_.2.2.2.2.2.2.1) == (0 : Int)) false) (((ln I in_.2.2.2.1) : Int) == (1 : Int)) false) ((z in_.2.2.1) == (-1 : Int)) false) ((z in_.2.1) == (0 : Int)) false) (3 : Int))) (.know True (.know (okD (.int .i64) (unlP (cond (rgsF c in_.2.2.2.1) (cond (decide ((z in_.2.2.2.2.1) ≥ (0 : Int))) (decide ((z in_.2.2.2.2.1) < (z c.2.1.2.2.2.2.2.1))) false) false) (10 : Int))) (.know (okD (.int .i64) (fstF ([(unlP (cond (cond (cond (cond ((z in_.2.2.2.2.2.1) == (0 : Int)) ((z in_.2.2.2.2.2.2.1) == (0 : Int)) false) (((ln I in_.2.2.2.1) : Int) == (1 : Int)) false) ((z in_.2.2.1) == (-1 : Int)) false) ((z in_.2.1) == (0 : Int)) false) (3 : Int)), (unlP (cond (rgsF c in_.2.2.2.1) (cond (decide ((z in_.2.2.2.2.1) ≥ (0 : Int))) (decide ((z in_.2.2.2.2.1) < (z c.2.1.2.2.2.2.2.1))) false) false) (10 : Int))] : List (Den I)))) (rt (vi (fstF ([(unlP (cond (cond (cond (cond ((z in_.2.2.2.2.2.1) == (0 : Int)) ((z in_.2.2.2.2.2.2.1) == (0 : Int)) false) (((ln I in_.2.2.2.1) : Int) == (1 : Int)) false) ((z in_.2.2.1) == (-1 : Int)) false) ((z in_.2.1) == (0 : Int)) false) (3 : Int)), (unlP (cond (rgsF c in_.2.2.2.1) (cond (decide ((z in_.2.2.2.2.1) ≥ (0 : Int))) (decide ((z in_.2.2.2.2.1) < (z c.2.1.2.2.2.2.2.1))) false) false) (10 : Int))] : List (Den I)))) []))))))))) (.chk (True) (.chk (True) (.chk (True) (.chk (True) (.chk (True) (.chk (True) (.know (okD (.int .i64) (unlP (cond (cond ((z in_.2.2.2.2.2.1) == (0 : Int)) ((z in_.2.2.2.2.2.2.1) == (0 : Int)) false) (((ln I in_.2.2.2.1) : Int) == (0 : Int)) false) (3 : Int))) (.know True (.know (okD (.int .i64) (unlP (typP in_.2.1) (9 : Int))) (.know True (.know (okD (.int .i64) (unlP (cond (regC c in_.2.2.1) (cond (decide ((z in_.2.2.2.2.1) ≥ (0 : Int))) (decide ((z in_.2.2.2.2.1) < (z c.2.1.2.2.2.2.2.1))) false) false) (10 : Int))) (.know (okD (.int .i64) (fstF ([(unlP (cond (cond ((z in_.2.2.2.2.2.1) == (0 : Int)) ((z in_.2.2.2.2.2.2.1) == (0 : Int)) false) (((ln I in_.2.2.2.1) : Int) == (0 : Int)) false) (3 : Int)), (unlP (typP in_.2.1) (9 : Int)), (unlP (cond (regC c in_.2.2.1) (cond (decide ((z in_.2.2.2.2.1) ≥ (0 : Int))) (decide ((z in_.2.2.2.2.1) < (z c.2.1.2.2.2.2.2.1))) false) false) (10 : Int))] : List (Den I)))) (rt (vi (fstF ([(unlP (cond (cond ((z in_.2.2.2.2.2.1) == (0 : Int)) ((z in_.2.2.2.2.2.2.1) == (0 : Int)) false) (((ln I in_.2.2.2.1) : Int) == (0 : Int)) false) (3 : Int)), (unlP (typP in_.2.1) (9 : Int)), (unlP (cond (regC c in_.2.2.1) (cond (decide ((z in_.2.2.2.2.1) ≥ (0 : Int))) (decide ((z in_.2.2.2.2.1) < (z c.2.1.2.2.2.2.2.1))) false) false) (10 : Int))] : List (Den I)))) [])))))))))))))) := by kernel_rfl
def sltP (f : Den qan) (in_ : Den qac) : Int := (cond (cond (cond (cond ((z in_.2.2.2.2.2.1) != (0 : Int)) true ((z in_.2.2.2.2.2.2.1) != (0 : Int))) true (cond ((z in_.1) == (40 : Int)) (cond (cond (((ln I in_.2.2.2.1) : Int) != (1 : Int)) true ((z in_.2.2.1) != (-1 : Int))) true ((z in_.2.1) != (0 : Int))) false)) true (cond (!((z in_.1) == (40 : Int))) (((ln I in_.2.2.2.1) : Int) != (0 : Int)) false)) (3 : Int) (cond (cond (!((z in_.1) == (40 : Int))) (!(typP in_.2.1)) false) (9 : Int) (cond (cond (cond (cond (cond ((z in_.1) == (40 : Int)) (!(rgM f (gd I in_.2.2.2.1 (0 : Nat)))) false) true (cond (!((z in_.1) == (40 : Int))) (!(rgM f in_.2.2.1)) false)) true (decide ((z in_.2.2.2.2.1) < (0 : Int)))) true (decide ((z in_.2.2.2.2.1) ≥ (z f.2.2.2.2.2.1)))) (10 : Int) (0 : Int))))
def movP (c : Den qah) (in_ : Den qac) : Int := (cond ((z in_.1) == (40 : Int)) (fstF ([(unlP (cond (cond (cond (cond ((z in_.2.2.2.2.2.1) == (0 : Int)) ((z in_.2.2.2.2.2.2.1) == (0 : Int)) false) (((ln I in_.2.2.2.1) : Int) == (1 : Int)) false) ((z in_.2.2.1) == (-1 : Int)) false) ((z in_.2.1) == (0 : Int)) false) (3 : Int)), (unlP (cond (rgsF c in_.2.2.2.1) (cond (decide ((z in_.2.2.2.2.1) ≥ (0 : Int))) (decide ((z in_.2.2.2.2.1) < (z c.2.1.2.2.2.2.2.1))) false) false) (10 : Int))] : List (Den I))) (fstF ([(unlP (cond (cond ((z in_.2.2.2.2.2.1) == (0 : Int)) ((z in_.2.2.2.2.2.2.1) == (0 : Int)) false) (((ln I in_.2.2.2.1) : Int) == (0 : Int)) false) (3 : Int)), (unlP (typP in_.2.1) (9 : Int)), (unlP (cond (regC c in_.2.2.1) (cond (decide ((z in_.2.2.2.2.1) ≥ (0 : Int))) (decide ((z in_.2.2.2.2.1) < (z c.2.1.2.2.2.2.2.1))) false) false) (10 : Int))] : List (Den I))))

def k_machine_checker_move : Con := con [.d qah, .d qac] I (fun x => True) fun x => movP x.1 x.2.1
theorem m_machine_checker_move (c : Den qah) (in_ : Den qac) (h_c : okD qah c) (h_in_ : okD qac in_) (hp : True) : Runs E_V33 (start E_V33 qcp [(.tv qah c), (.tv qac in_)]) (fun r_ h_ => r_ = (vi (movP c in_)) ∧ h_ = []) := .tree E_V33_ok (machine_checker_move_t c in_) (by
 show Tre.wp (Qv _ (fun x_ => (vi x_)) (movP c in_)) _
 unfold movP
 refine qag (fun h1 => ⟨trivial, fun _ => ⟨trivial, fun _ => ⟨trivial, fun _ => ⟨trivial, fun _ => fun _ => fun _ => fun _ => fun _ => ⟨rfl, rfl⟩⟩⟩⟩⟩) (fun h1 => ?_)
 exact ⟨trivial, fun _ => ⟨trivial, fun _ => ⟨trivial, fun _ => ⟨trivial, fun _ => ⟨trivial, fun _ => ⟨trivial, fun _ => fun _ => fun _ => fun _ => fun _ => fun _ => fun _ => ⟨rfl, rfl⟩⟩⟩⟩⟩⟩⟩)
theorem c_machine_checker_move : qal E_V33 qcp k_machine_checker_move.spec := qam fun x hx hp => ⟨rfl, m_machine_checker_move x.1 x.2.1 hx.1 hx.2.1 hp⟩
def L_V33 : List (FuncId × FSpec) := [(qcp, k_machine_checker_move.spec)] ++ L_V32
theorem L_V33_ok : ∀ x ∈ L_V33, qal (ctx []) x.1 x.2 := by
 unfold L_V33
 simp only [List.cons_append, List.nil_append, List.forall_mem_cons]
 exact ⟨c_machine_checker_move, L_V32_ok⟩
end Burn.MTT
namespace Burn.MTT
open Go Go.BE Go.Proofs
set_option maxRecDepth 100000
set_option linter.unusedVariables false
set_option linter.unusedSimpArgs false
open Burn.Intn Burn.Ref
def mrg_V34 : FuncId → List Nat
 | 48 => [22, 37, 38, 46, 55, 56, 65, 70, 71, 102, 103, 112, 113, 125, 126]
 | _ => []
noncomputable abbrev E_V34 : Ctx := { ctx L_V33 with mrg := mrg_V34 }
theorem E_V34_ok : EOK E_V34 := have h : EOK (ctx L_V33) := qbq L_V33_ok; ⟨h.ty, h.env, h.fns, h.mixed⟩
def cuts_V34 : CutL := []
def rets_V34 : FuncId → List (Option Fx)
 | _ => []
def H_V34 : Hints := { cut := cutOf cuts_V34, ret := rets_V34 }
theorem machine_checker_physical_t (c : Den qah) (in_ : Den qac) : run E_V34 H_V34 qbs 3000 (start E_V34 qbs [(.tv qah c), (.tv qac in_)]) = (.chk ((((z in_.1) == (25 : Int)) = true → (True))) (.chk (((cond ((z in_.1) == (25 : Int)) (!(witP in_.2.2.2.2.2.1 (0 : Int) (IntKind.wrap .i64 (((ln qaf c.1.1) : Int) - (1 : Int))))) false) = false → ((((z in_.1) == (30 : Int)) = true → (True))))) (cond (cond (cond ((z in_.1) == (25 : Int)) (!(witP in_.2.2.2.2.2.1 (0 : Int) (IntKind.wrap .i64 (((ln qaf c.1.1) : Int) - (1 : Int))))) false) true (cond ((z in_.1) == (30 : Int)) (!(witP in_.2.2.2.2.2.1 (0 : Int) (IntKind.wrap .i64 (((ln qab c.1.2.1) : Int) - (1 : Int))))) false)) (rt (vi (8 : Int)) []) (.chk ((((z in_.2.1) == (0 : Int)) = false → (True))) (.chk (True) (.know (okAVs [(vi (z ((accP in_.2.2.2.2.2.2.1).1))), (vi (z ((accP in_.2.2.2.2.2.2.1).2)))]) (.chk (z in_.1 = 30 → 0 ≤ z in_.2.2.2.2.2.1 ∧ z in_.2.2.2.2.2.1 < (ln qab c.1.2.1 : Nat)) (.chk (True) (.chk (True) (.chk (((rgsF c in_.2.2.2.1) = true → ((((z in_.2.2.1) == (-1 : Int)) = false → (True))))) (.chk (True) (.chk (True) (.chk (True) (.chk (True) (.know (okD (.int .i64) (opsP c in_)) (.know (okD (.int .i64) (unlP (((ln I in_.2.2.2.1) : Int) == (opsP c in_)) (3 : Int))) (.know True (.know (okD (.int .i64) (unlP (cond (rgsF c in_.2.2.2.1) (cond ((z in_.2.2.1) == (-1 : Int)) true (regC c in_.2.2.1)) false) (10 : Int))) (.know (okD (.int .i64) (unlP (cond (cond (cond (cond ((z in_.2.1) == (0 : Int)) true (typP in_.2.1)) (cond ((z in_.2.1) != (0 : Int)) true ((z in_.2.2.1) == (-1 : Int))) false) (cond (cond ((z in_.2.1) == (0 : Int)) true ((z in_.2.2.1) != (-1 : Int))) true ((z in_.1) == (30 : Int))) false) (cond (!((z in_.1) == (26 : Int))) true ((z ((accP in_.2.2.2.2.2.2.1).2)) == (1 : Int))) false) (9 : Int))) (.know (okD (.int .i64) (unlP (cond (!((z in_.1) == (26 : Int))) true (cond (decide ((z in_.2.2.2.2.1) ≥ (1 : Int))) (decide ((z in_.2.2.2.2.1) ≤ (256 : Int))) false)) (10 : Int))) (.know (okD (.int .i64) (fstF ([(unlP (((ln I in_.2.2.2.1) : Int) == (opsP c in_)) (3 : Int)), (unlP (cond (rgsF c in_.2.2.2.1) (cond ((z in_.2.2.1) == (-1 : Int)) true (regC c in_.2.2.1)) false) (10 : Int)), (unlP (cond (cond (cond (cond ((z in_.2.1) == (0 : Int)) true (typP in_.2.1)) (cond ((z in_.2.1) != (0 : Int)) true ((z in_.2.2.1) == (-1 : Int))) false) (cond (cond ((z in_.2.1) == (0 : Int)) true ((z in_.2.2.1) != (-1 : Int))) true ((z in_.1) == (30 : Int))) false) (cond (!((z in_.1) == (26 : Int))) true ((z ((accP in_.2.2.2.2.2.2.1).2)) == (1 : Int))) false) (9 : Int)), (unlP (cond (!((z in_.1) == (26 : Int))) true (cond (decide ((z in_.2.2.2.2.1) ≥ (1 : Int))) (decide ((z in_.2.2.2.2.1) ≤ (256 : Int))) false)) (10 : Int))] : List (Den I)))) (rt (vi (fstF ([(unlP (((ln I in_.2.2.2.1) : Int) == (opsP c in_)) (3 : Int)), (unlP (cond (rgsF c in_.2.2.2.1) (cond ((z in_.2.2.1) == (-1 : Int)) true (regC c in_.2.2.1)) false) (10 : Int)), (unlP (cond (cond (cond (cond ((z in_.2.1) == (0 : Int)) true (typP in_.2.1)) (cond ((z in_.2.1) != (0 : Int)) true ((z in_.2.2.1) == (-1 : Int))) false) (cond (cond ((z in_.2.1) == (0 : Int)) true ((z in_.2.2.1) != (-1 : Int))) true ((z in_.1) == (30 : Int))) false) (cond (!((z in_.1) == (26 : Int))) true ((z ((accP in_.2.2.2.2.2.2.1).2)) == (1 : Int))) false) (9 : Int)), (unlP (cond (!((z in_.1) == (26 : Int))) true (cond (decide ((z in_.2.2.2.2.1) ≥ (1 : Int))) (decide ((z in_.2.2.2.2.1) ≤ (256 : Int))) false)) (10 : Int))] : List (Den I)))) [])))))))))))))))))))))) := by kernel_rfl
theorem dge (x y : Int) : decide (x ≥ y) = !(decide (x < y)) := by
 by_cases h : x < y
 ·rw [decide_eq_true h, decide_eq_false (by omega)]; rfl
 ·rw [decide_eq_false h, decide_eq_true (by omega)]; rfl
theorem dle (x y : Int) : decide (x ≤ y) = !(decide (x > y)) := by
 by_cases h : x > y
 ·rw [decide_eq_true h, decide_eq_false (by omega)]; rfl
 ·rw [decide_eq_false h, decide_eq_true (by omega)]; rfl
theorem mov_eq (c : Chr) (x : Ins) : movP c x = sltP c.2.1 x := by
 unfold movP sltP bne
 rw [dge, dge]
 cases z x.1 == (40 : Int)
 ·unfold regC
  cases z x.2.2.2.2.2.1 == (0 : Int) <;> cases z x.2.2.2.2.2.2.1 == (0 : Int) <;> cases (ln I x.2.2.2.1 : Int) == (0 : Int) <;> cases typP x.2.1 <;> cases rgM c.2.1 x.2.2.1 <;> cases decide (z x.2.2.2.2.1 < 0) <;> cases decide (z x.2.2.2.2.1 < z c.2.1.2.2.2.2.2.1) <;> rfl
 ·by_cases hl : (ln I x.2.2.2.1 : Int) = 1
  ·obtain ⟨r, hr⟩ := len1 (l := x.2.2.2.1) (by omega)
   have e : rgsF c x.2.2.2.1 = rgM c.2.1 (gd I x.2.2.2.1 0) := by
    rw [hr]
    show cond (rgM c.2.1 r) true false = rgM c.2.1 r
    cases rgM c.2.1 r <;> rfl
   rw [e, hl]
   cases z x.2.2.2.2.2.1 == (0 : Int) <;> cases z x.2.2.2.2.2.2.1 == (0 : Int) <;> cases z x.2.2.1 == (-1 : Int) <;> cases z x.2.1 == (0 : Int) <;> cases rgM c.2.1 (gd I x.2.2.2.1 0) <;> cases decide (z x.2.2.2.2.1 < 0) <;> cases decide (z x.2.2.2.2.1 < z c.2.1.2.2.2.2.2.1) <;> rfl
  ·have e : ((ln I x.2.2.2.1 : Int) == 1) = false := beq_eq_false_iff_ne.mpr hl
   rw [e]
   cases z x.2.2.2.2.2.1 == (0 : Int) <;> cases z x.2.2.2.2.2.2.1 == (0 : Int) <;> cases rgsF c x.2.2.2.1 <;> rfl
theorem ops_eq (c : Chr) (x : Ins) : opsP c x = opsR c.1 x := by
 unfold opsP opsR bne
 cases z x.2.1 == (6 : Int) <;> rfl
theorem wit_eq {n : Int} {l : Nat} (h : (l : Int) < 9223372036854775807) : witP n 0 (IntKind.wrap .i64 ((l : Int) - 1)) = !(cond (decide (n < 0)) true (decide (n ≥ (l : Int)))) := by
 unfold witP
 have : decide (n ≤ (l : Int) - 1) = decide (n < (l : Int)) := decide_eq_decide.mpr (by omega)
 rw [wrap64 _ (by omega) (by omega), this, dge n 0, dge n l]
 cases decide (n < 0) <;> cases decide (n < (l : Int)) <;> rfl
theorem IsI.of {a x : Int} (h : a = x) : IsI a (vi x) [] := ⟨congrArg vi h.symm, rfl⟩
def phyT (f : MFn) (x : Ins) : Int := cond (cond (z x.2.2.1 != (-1 : Int)) (!(rgM f x.2.2.1)) false) 10 (cond (cond (cond (cond (z x.2.1 != (0 : Int)) (!(typP x.2.1)) false) true (cond (z x.2.1 == (0 : Int)) (z x.2.2.1 != (-1 : Int)) false)) true (cond (cond (z x.2.1 != (0 : Int)) (z x.2.2.1 == (-1 : Int)) false) (z x.1 != (30 : Int)) false)) 9 (cond (cond (z x.1 == (26 : Int)) (cond (decide (z x.2.2.2.2.2.2.1 < (2 : Int))) true (decide (z x.2.2.2.2.2.2.1 > (5 : Int)))) false) 9 (cond (cond (z x.1 == (26 : Int)) (cond (decide (z x.2.2.2.2.1 < (1 : Int))) true (decide (z x.2.2.2.2.1 > (256 : Int)))) false) 10 0)))
def phyA (m : Md) (x : Ins) : Bool := cond (cond (z x.1 == (25 : Int)) (cond (decide (z x.2.2.2.2.2.1 < (0 : Int))) true (decide (z x.2.2.2.2.2.1 ≥ (ln qaf m.1 : Int)))) false) true (cond (z x.1 == (30 : Int)) (cond (decide (z x.2.2.2.2.2.1 < (0 : Int))) true (decide (z x.2.2.2.2.2.1 ≥ (ln qab m.2.1 : Int)))) false)
def phyR (m : Md) (f : MFn) (x : Ins) : Int := cond (phyA m x) 8 (cond ((ln I x.2.2.2.1 : Int) != opsR m x) 3 (cond (!(allC f x.2.2.2.1)) 10 (phyT f x)))
def phyC (c : Chr) (x : Ins) : Int := phyR c.1 c.2.1 x
theorem phyA_ok {m : Md} {x : Ins} (h : phyA m x = false) : z x.1 = 30 → 0 ≤ z x.2.2.2.2.2.1 ∧ z x.2.2.2.2.2.1 < (ln qab m.2.1 : Nat) := fun hk => by
 unfold phyA at h
 rw [hk, dge _ (ln qab m.2.1 : Int)] at h
 cases h1 : decide (z x.2.2.2.2.2.1 < 0)
 ·cases h2 : decide (z x.2.2.2.2.2.1 < (ln qab m.2.1 : Int))
  ·rw [h1, h2] at h; exact Bool.noConfusion h
  ·exact ⟨by simpa using h1, by simpa using h2⟩
 ·rw [h1] at h; exact Bool.noConfusion h
theorem cel_eq {t : Int} : (z (accP t).2 == (1 : Int)) = !(cond (decide (t < 2)) true (decide (t > 5))) := by
 have h := celP_iff t
 have h' : celP t = (z (accP t).2 == (1 : Int)) := rfl
 rw [← h', Bool.eq_iff_iff, h]
 by_cases h1 : t < 2
 ·simp [h1]; omega
 ·simp [h1]; omega
theorem phy_eq (c : Chr) (x : Ins) : fstF ([unlP ((ln I x.2.2.2.1 : Int) == opsP c x) 3, unlP (cond (rgsF c x.2.2.2.1) (cond (z x.2.2.1 == (-1 : Int)) true (regC c x.2.2.1)) false) 10, unlP (cond (cond (cond (cond (z x.2.1 == (0 : Int)) true (typP x.2.1)) (cond (z x.2.1 != (0 : Int)) true (z x.2.2.1 == (-1 : Int))) false) (cond (cond (z x.2.1 == (0 : Int)) true (z x.2.2.1 != (-1 : Int))) true (z x.1 == (30 : Int))) false) (cond (!(z x.1 == (26 : Int))) true (z (accP x.2.2.2.2.2.2.1).2 == (1 : Int))) false) 9, unlP (cond (!(z x.1 == (26 : Int))) true (cond (decide (z x.2.2.2.2.1 ≥ (1 : Int))) (decide (z x.2.2.2.2.1 ≤ (256 : Int))) false)) 10] : List (Den I)) = cond ((ln I x.2.2.2.1 : Int) != opsR c.1 x) 3 (cond (!(allC c.2.1 x.2.2.2.1)) 10 (phyT c.2.1 x)) := by
 unfold phyT rgsF regC bne
 rw [ops_eq, cel_eq, dge, dle]
 cases (ln I x.2.2.2.1 : Int) == opsR c.1 x
 ·rfl
 ·cases allC c.2.1 x.2.2.2.1
  ·rfl
  ·cases z x.1 == (26 : Int)
   ·cases z x.2.2.1 == (-1 : Int) <;> cases rgM c.2.1 x.2.2.1 <;> cases z x.2.1 == (0 : Int) <;> cases typP x.2.1 <;> cases z x.1 == (30 : Int) <;> rfl
   ·cases z x.2.2.1 == (-1 : Int) <;> cases rgM c.2.1 x.2.2.1 <;> cases z x.2.1 == (0 : Int) <;> cases typP x.2.1 <;> cases z x.1 == (30 : Int) <;> cases decide (z x.2.2.2.2.2.2.1 < 2) <;> cases decide (z x.2.2.2.2.2.2.1 > 5) <;> cases decide (z x.2.2.2.2.1 < 1) <;> cases decide (z x.2.2.2.2.1 > 256) <;> rfl

def qgw : Con := con [.d qah, .d qac] I (fun x => True) fun x => phyC x.1 x.2.1
theorem m_machine_checker_physical (c : Den qah) (in_ : Den qac) (h_c : okD qah c) (h_in_ : okD qac in_) (hp : True) : Runs E_V34 (start E_V34 qbs [(.tv qah c), (.tv qac in_)]) (fun r_ h_ => r_ = (vi (phyC c in_)) ∧ h_ = []) := .tree E_V34_ok (machine_checker_physical_t c in_) (by
 have e1 := wit_eq (n := z in_.2.2.2.2.2.1) (l := ln qaf c.1.1) (by have := qas h_c.1.1.1; show ((List.length c.1.1 : Nat) : Int) < _; omega)
 have e2 := wit_eq (n := z in_.2.2.2.2.2.1) (l := ln qab c.1.2.1) (by have := qas h_c.1.2.1.1; show ((List.length c.1.2.1 : Nat) : Int) < _; omega)
 show Tre.wp (contL _ (IsI (phyR c.1 c.2.1 in_))) _
 simp only [sS, implies_true]
 rw [show witP in_.2.2.2.2.2.1 0 (IntKind.wrap .i64 ((ln qaf c.1.1 : Int) - 1)) = _ from e1, show witP in_.2.2.2.2.2.1 0 (IntKind.wrap .i64 ((ln qab c.1.2.1 : Int) - 1)) = _ from e2, Bool.not_not, Bool.not_not]
 show (phyA c.1 in_ = true → _) ∧ (phyA c.1 in_ = false → _)
 refine ⟨fun h => ⟨congrArg vi (by unfold phyR; rw [h]; rfl), rfl⟩, fun h _ => ⟨phyA_ok h, fun _ _ _ _ _ _ _ => ⟨congrArg vi (by unfold phyR; rw [h]; exact phy_eq c in_), rfl⟩⟩⟩)
theorem c_machine_checker_physical : qal E_V34 qbs qgw.spec := qam fun x hx hp => ⟨rfl, m_machine_checker_physical x.1 x.2.1 hx.1 hx.2.1 hp⟩
def L_V34 : List (FuncId × FSpec) := [(qbs, qgw.spec)] ++ L_V33
theorem L_V34_ok : ∀ x ∈ L_V34, qal (ctx []) x.1 x.2 := by
 unfold L_V34
 simp only [List.cons_append, List.nil_append, List.forall_mem_cons]
 exact ⟨c_machine_checker_physical, L_V33_ok⟩
end Burn.MTT
namespace Burn.MTT
open Go Go.BE Go.Proofs
set_option maxRecDepth 100000
set_option linter.unusedVariables false
set_option linter.unusedSimpArgs false
open Burn.Intn Burn.Ref
def mrg_V35 : FuncId → List Nat
 | 50 => [42]
 | _ => []
noncomputable abbrev E_V35 : Ctx := { ctx L_V34 with mrg := mrg_V35 }
theorem E_V35_ok : EOK E_V35 := have h : EOK (ctx L_V34) := qbq L_V34_ok; ⟨h.ty, h.env, h.fns, h.mixed⟩
def cuts_V35 : CutL := []
def rets_V35 : FuncId → List (Option Fx)
 | _ => []
def H_V35 : Hints := { cut := cutOf cuts_V35, ret := rets_V35 }
theorem machine_checker_operand_t (c : Den qah) (t : Den qai) (i : Int) : run E_V35 H_V35 qbw 3000 (start E_V35 qbw [(.tv qah c), (.tv qai t), (vi i)]) = (.chk (0 ≤ i ∧ i < (ln I t.2.1)) (.chk (True) (.know True (cond (!(regC c (gd I t.2.1 i.toNat))) (rt (vi (10 : Int)) []) (.chk (True) (.know True (cond (!(vrtP c)) (rt (vi (0 : Int)) []) (.chk (0 ≤ (z (gd I t.2.1 i.toNat)) ∧ (z (gd I t.2.1 i.toNat)) < (ln I c.2.1.2.2.2.1)) (cond ((z t.1) == (2 : Int)) (.chk (True) (.know (okD (.int .i64) (unlP ((z (gd I c.2.1.2.2.2.1 (((z (gd I t.2.1 i.toNat))).toNat))) == (1 : Int)) (9 : Int))) (rt (vi (unlP ((z (gd I c.2.1.2.2.2.1 (((z (gd I t.2.1 i.toNat))).toNat))) == (1 : Int)) (9 : Int))) []))) (cond ((z t.1) == (3 : Int)) (.chk (True) (.know (okD (.int .i64) (unlP (cond ((z (gd I c.2.1.2.2.2.1 (((z (gd I t.2.1 i.toNat))).toNat))) == (3 : Int)) true ((z (gd I c.2.1.2.2.2.1 (((z (gd I t.2.1 i.toNat))).toNat))) == (4 : Int))) (9 : Int))) (rt (vi (unlP (cond ((z (gd I c.2.1.2.2.2.1 (((z (gd I t.2.1 i.toNat))).toNat))) == (3 : Int)) true ((z (gd I c.2.1.2.2.2.1 (((z (gd I t.2.1 i.toNat))).toNat))) == (4 : Int))) (9 : Int))) []))) (cond ((z t.1) == (4 : Int)) (.chk (True) (.know (okD (.int .i64) (unlP ((z (gd I c.2.1.2.2.2.1 (((z (gd I t.2.1 i.toNat))).toNat))) == (z c.2.1.2.2.1)) (9 : Int))) (rt (vi (unlP ((z (gd I c.2.1.2.2.2.1 (((z (gd I t.2.1 i.toNat))).toNat))) == (z c.2.1.2.2.1)) (9 : Int))) []))) (.chk (0 ≤ (z t.2.2.2.2.1) ∧ (z t.2.2.2.2.1) < (ln qab c.1.2.1)) (.chk (0 ≤ i ∧ i < (ln I ((gd qab c.1.2.1 (((z t.2.2.2.2.1)).toNat)).2.1))) (.chk (0 ≤ (z (gd I ((gd qab c.1.2.1 (((z t.2.2.2.2.1)).toNat)).2.1) i.toNat)) ∧ (z (gd I ((gd qab c.1.2.1 (((z t.2.2.2.2.1)).toNat)).2.1) i.toNat)) < (ln I ((gd qab c.1.2.1 (((z t.2.2.2.2.1)).toNat)).2.2.2.1))) (.chk (True) (.know (okD (.int .i64) (unlP ((z (gd I c.2.1.2.2.2.1 (((z (gd I t.2.1 i.toNat))).toNat))) == (z (gd I ((gd qab c.1.2.1 (((z t.2.2.2.2.1)).toNat)).2.2.2.1) (((z (gd I ((gd qab c.1.2.1 (((z t.2.2.2.2.1)).toNat)).2.1) i.toNat))).toNat)))) (9 : Int))) (rt (vi (unlP ((z (gd I c.2.1.2.2.2.1 (((z (gd I t.2.1 i.toNat))).toNat))) == (z (gd I ((gd qab c.1.2.1 (((z t.2.2.2.2.1)).toNat)).2.2.2.1) (((z (gd I ((gd qab c.1.2.1 (((z t.2.2.2.2.1)).toNat)).2.1) i.toNat))).toNat)))) (9 : Int))) []))))))))))))))))) := by kernel_rfl
def trmOK (m : Md) (t : Trm) (i : Int) : Prop := z t.1 ≠ 2 → z t.1 ≠ 3 → z t.1 ≠ 4 → (0 ≤ z t.2.2.2.2.1 ∧ z t.2.2.2.2.1 < (ln qab m.2.1 : Nat)) ∧ (0 ≤ i ∧ i < (ln I (gd qab m.2.1 (z t.2.2.2.2.1).toNat).2.1 : Nat)) ∧ 0 ≤ z (gd I (gd qab m.2.1 (z t.2.2.2.2.1).toNat).2.1 i.toNat) ∧ z (gd I (gd qab m.2.1 (z t.2.2.2.2.1).toNat).2.1 i.toNat) < (ln I (gd qab m.2.1 (z t.2.2.2.2.1).toNat).2.2.2.1 : Nat)
theorem rgC_ok {c : Chr} {r : Int} (h : (!(regC c r)) = false) (hv : (!(vrtP c)) = false) : 0 ≤ r ∧ r < (ln I c.2.1.2.2.2.1 : Nat) := by
 have h1 : rgM c.2.1 r = true := by simpa [regC] using h
 have h2 : (z c.2.1.2.2.2.2.1 == (0 : Int)) = true := by simpa [vrtP] using hv
 unfold rgM at h1
 rw [h2] at h1
 cases h3 : decide (r ≥ 0)
 ·rw [h3] at h1; exact Bool.noConfusion h1
 ·rw [h3] at h1
  exact ⟨of_decide_eq_true h3, of_decide_eq_true h1⟩
def shpM (m : Den qad) (f : Den qan) (t : Den qai) : Bool := (cond (cond ((z t.1) != (6 : Int)) ((z t.2.2.2.2.1) != (0 : Int)) false) false (cond ((z t.1) == (1 : Int)) (cond (cond (((ln I t.2.1) : Int) == (0 : Int)) (((ln I t.2.2.1) : Int) == (0 : Int)) false) (((ln qae t.2.2.2.1) : Int) == (1 : Int)) false) (cond ((z t.1) == (2 : Int)) (cond (cond (((ln I t.2.1) : Int) == (1 : Int)) (((ln I t.2.2.1) : Int) == (0 : Int)) false) (((ln qae t.2.2.2.1) : Int) == (2 : Int)) false) (cond ((z t.1) == (3 : Int)) (cond (((ln I t.2.1) : Int) == (1 : Int)) (((ln qae t.2.2.2.1) : Int) == (IntKind.wrap .i64 (((ln I t.2.2.1) : Int) + (1 : Int)))) false) (cond ((z t.1) == (4 : Int)) (cond ((z f.2.2.1) == (0 : Int)) (cond (cond (((ln I t.2.1) : Int) == (0 : Int)) (((ln I t.2.2.1) : Int) == (0 : Int)) false) (((ln qae t.2.2.2.1) : Int) == (0 : Int)) false) (cond (cond (((ln I t.2.1) : Int) == (1 : Int)) (((ln I t.2.2.1) : Int) == (0 : Int)) false) (((ln qae t.2.2.2.1) : Int) == (0 : Int)) false)) (cond ((z t.1) == (5 : Int)) (cond (cond (((ln I t.2.1) : Int) == (0 : Int)) (((ln I t.2.2.1) : Int) == (1 : Int)) false) (((ln qae t.2.2.2.1) : Int) == (0 : Int)) false) (cond (cond (((ln I t.2.1) : Int) == ((ln I ((gd qab m.2.1 (((z t.2.2.2.2.1)).toNat)).2.1)) : Int)) (((ln I t.2.2.1) : Int) == (0 : Int)) false) (((ln qae t.2.2.2.1) : Int) == (0 : Int)) false)))))))
def typM (m : Den qad) (f : Den qan) (x : Den qai) (i : Int) (t : Int) : Bool := (cond ((z x.1) == (2 : Int)) (t == (1 : Int)) (cond ((z x.1) == (3 : Int)) (cond (t == (3 : Int)) true (t == (4 : Int))) (cond ((z x.1) == (4 : Int)) (t == (z f.2.2.1)) (t == (z (gd I ((gd qab m.2.1 (((z x.2.2.2.2.1)).toNat)).2.2.2.1) (((z (gd I ((gd qab m.2.1 (((z x.2.2.2.2.1)).toNat)).2.1) i.toNat))).toNat)))))))
def opdC (c : Den qah) (t : Den qai) (i : Int) : Int := (cond (!(regC c (gd I t.2.1 i.toNat))) (10 : Int) (cond (!(vrtP c)) (0 : Int) (cond ((z t.1) == (2 : Int)) (unlP ((z (gd I c.2.1.2.2.2.1 (((z (gd I t.2.1 i.toNat))).toNat))) == (1 : Int)) (9 : Int)) (cond ((z t.1) == (3 : Int)) (unlP (cond ((z (gd I c.2.1.2.2.2.1 (((z (gd I t.2.1 i.toNat))).toNat))) == (3 : Int)) true ((z (gd I c.2.1.2.2.2.1 (((z (gd I t.2.1 i.toNat))).toNat))) == (4 : Int))) (9 : Int)) (cond ((z t.1) == (4 : Int)) (unlP ((z (gd I c.2.1.2.2.2.1 (((z (gd I t.2.1 i.toNat))).toNat))) == (z c.2.1.2.2.1)) (9 : Int)) (unlP ((z (gd I c.2.1.2.2.2.1 (((z (gd I t.2.1 i.toNat))).toNat))) == (z (gd I ((gd qab c.1.2.1 (((z t.2.2.2.2.1)).toNat)).2.2.2.1) (((z (gd I ((gd qab c.1.2.1 (((z t.2.2.2.2.1)).toNat)).2.1) i.toNat))).toNat)))) (9 : Int)))))))

def qhj : Con := con [.d qah, .d qai, .d I] I (fun x => (0 ≤ z x.2.2.1 ∧ z x.2.2.1 < (ln I x.2.1.2.1 : Nat)) ∧ trmOK x.1.1 x.2.1 (z x.2.2.1)) fun x => opdC x.1 x.2.1 x.2.2.1
theorem m_machine_checker_operand (c : Den qah) (t : Den qai) (i : Int) (h_c : okD qah c) (h_t : okD qai t) (h_i : okD I i) (hp : (0 ≤ z i ∧ z i < (ln I t.2.1 : Nat)) ∧ trmOK c.1 t (z i)) : Runs E_V35 (start E_V35 qbw [(.tv qah c), (.tv qai t), (vi i)]) (fun r_ h_ => r_ = (vi (opdC c t i)) ∧ h_ = []) := .tree E_V35_ok (machine_checker_operand_t c t i) (by
 have hp_ := hp
 try simp only [z] at hp_
 show Tre.wp (Qv _ (fun x_ => (vi x_)) (opdC c t i)) _
 unfold opdC
 refine ⟨by first | omega | exact (hp.1) | (have g_ := hp.1; omega) | exact (rgC_ok (by assumption) (by assumption)) | (have g_ := rgC_ok (by assumption) (by assumption); omega) | exact ((hp.2 (by assumption) (by assumption) (by assumption)).1) | (have g_ := (hp.2 (by assumption) (by assumption) (by assumption)).1; omega) | exact ((hp.2 (by assumption) (by assumption) (by assumption)).2.1) | (have g_ := (hp.2 (by assumption) (by assumption) (by assumption)).2.1; omega) | exact ((hp.2 (by assumption) (by assumption) (by assumption)).2.2) | (have g_ := (hp.2 (by assumption) (by assumption) (by assumption)).2.2; omega) | assumption | exact hp.1 | exact hp.2 | exact hp.2.1 | (simp_all; done) | (simp_all; omega), fun _ => ?_⟩
 refine ⟨trivial, fun _ => ?_⟩
 refine fun _ => ?_
 refine qag (fun h1 => ⟨rfl, rfl⟩) (fun h1 => ?_)
 refine ⟨trivial, fun _ => ?_⟩
 refine fun _ => ?_
 refine qag (fun h2 => ⟨rfl, rfl⟩) (fun h2 => ?_)
 refine ⟨by first | omega | exact (hp.1) | (have g_ := hp.1; omega) | exact (rgC_ok (by assumption) (by assumption)) | (have g_ := rgC_ok (by assumption) (by assumption); omega) | exact ((hp.2 (by assumption) (by assumption) (by assumption)).1) | (have g_ := (hp.2 (by assumption) (by assumption) (by assumption)).1; omega) | exact ((hp.2 (by assumption) (by assumption) (by assumption)).2.1) | (have g_ := (hp.2 (by assumption) (by assumption) (by assumption)).2.1; omega) | exact ((hp.2 (by assumption) (by assumption) (by assumption)).2.2) | (have g_ := (hp.2 (by assumption) (by assumption) (by assumption)).2.2; omega) | assumption | exact hp.1 | exact hp.2 | exact hp.2.1 | (simp_all; done) | (simp_all; omega), fun _ => ?_⟩
 refine qag (fun h3 => ⟨trivial, fun _ => fun _ => ⟨rfl, rfl⟩⟩) (fun h3 => ?_)
 have h3_ := beq_f h3
 refine qag (fun h4 => ⟨trivial, fun _ => fun _ => ⟨rfl, rfl⟩⟩) (fun h4 => ?_)
 have h4_ := beq_f h4
 refine qag (fun h5 => ⟨trivial, fun _ => fun _ => ⟨rfl, rfl⟩⟩) (fun h5 => ?_)
 have h5_ := beq_f h5
 refine ⟨by first | omega | exact (hp.1) | (have g_ := hp.1; omega) | exact (rgC_ok (by assumption) (by assumption)) | (have g_ := rgC_ok (by assumption) (by assumption); omega) | exact ((hp.2 (by assumption) (by assumption) (by assumption)).1) | (have g_ := (hp.2 (by assumption) (by assumption) (by assumption)).1; omega) | exact ((hp.2 (by assumption) (by assumption) (by assumption)).2.1) | (have g_ := (hp.2 (by assumption) (by assumption) (by assumption)).2.1; omega) | exact ((hp.2 (by assumption) (by assumption) (by assumption)).2.2) | (have g_ := (hp.2 (by assumption) (by assumption) (by assumption)).2.2; omega) | assumption | exact hp.1 | exact hp.2 | exact hp.2.1 | (simp_all; done) | (simp_all; omega), fun _ => ?_⟩
 refine ⟨by first | omega | exact (hp.1) | (have g_ := hp.1; omega) | exact (rgC_ok (by assumption) (by assumption)) | (have g_ := rgC_ok (by assumption) (by assumption); omega) | exact ((hp.2 (by assumption) (by assumption) (by assumption)).1) | (have g_ := (hp.2 (by assumption) (by assumption) (by assumption)).1; omega) | exact ((hp.2 (by assumption) (by assumption) (by assumption)).2.1) | (have g_ := (hp.2 (by assumption) (by assumption) (by assumption)).2.1; omega) | exact ((hp.2 (by assumption) (by assumption) (by assumption)).2.2) | (have g_ := (hp.2 (by assumption) (by assumption) (by assumption)).2.2; omega) | assumption | exact hp.1 | exact hp.2 | exact hp.2.1 | (simp_all; done) | (simp_all; omega), fun _ => ?_⟩
 refine ⟨by first | omega | exact (hp.1) | (have g_ := hp.1; omega) | exact (rgC_ok (by assumption) (by assumption)) | (have g_ := rgC_ok (by assumption) (by assumption); omega) | exact ((hp.2 (by assumption) (by assumption) (by assumption)).1) | (have g_ := (hp.2 (by assumption) (by assumption) (by assumption)).1; omega) | exact ((hp.2 (by assumption) (by assumption) (by assumption)).2.1) | (have g_ := (hp.2 (by assumption) (by assumption) (by assumption)).2.1; omega) | exact ((hp.2 (by assumption) (by assumption) (by assumption)).2.2) | (have g_ := (hp.2 (by assumption) (by assumption) (by assumption)).2.2; omega) | assumption | exact hp.1 | exact hp.2 | exact hp.2.1 | (simp_all; done) | (simp_all; omega), fun _ => ?_⟩
 exact ⟨trivial, fun _ => fun _ => ⟨rfl, rfl⟩⟩)
theorem c_machine_checker_operand : qal E_V35 qbw qhj.spec := qam fun x hx hp => ⟨rfl, m_machine_checker_operand x.1 x.2.1 x.2.2.1 hx.1 hx.2.1 hx.2.2.1 hp⟩
def L_V35 : List (FuncId × FSpec) := [(qbw, qhj.spec)] ++ L_V34
theorem L_V35_ok : ∀ x ∈ L_V35, qal (ctx []) x.1 x.2 := by
 unfold L_V35
 simp only [List.cons_append, List.nil_append, List.forall_mem_cons]
 exact ⟨c_machine_checker_operand, L_V34_ok⟩
end Burn.MTT
namespace Burn.MTT
open Go Go.BE Go.Proofs
set_option maxRecDepth 100000
set_option linter.unusedVariables false
set_option linter.unusedSimpArgs false
open Burn.Intn Burn.Ref
def mrg_V36 : FuncId → List Nat
 | 51 => [23]
 | _ => []
noncomputable abbrev E_V36 : Ctx := { ctx L_V35 with mrg := mrg_V36 }
theorem E_V36_ok : EOK E_V36 := have h : EOK (ctx L_V35) := qbq L_V35_ok; ⟨h.ty, h.env, h.fns, h.mixed⟩
def cuts_V36 : CutL := [([], 51, 0, [2, 3, 11, 12, 13], [], [])]
def rets_V36 : FuncId → List (Option Fx)
 | _ => []
def H_V36 : Hints := { cut := cutOf cuts_V36, ret := rets_V36 }
noncomputable def qbm (c : Den qah) (t : Den qai) (t11 : List (Den I)) (t12 : Int) (t13 : Int) : Cfg := hcfg E_V36 qbj 0 [(2, (.rtp qah c)), (3, (.rtp qai t)), (11, (.tv (.sl 8 I) t11)), (12, (vi t12)), (13, (vi t13))] [] 0
theorem machine_checker_cases_t (c : Den qah) (t : Den qai) : run E_V36 H_V36 qbj 3000 (start E_V36 qbj [(.tv qah c), (.tv qai t)]) = (hd (qbm c t t.2.2.1 ((ln I t.2.2.1) : Int) (0 : Int))) := by kernel_rfl
theorem qgu (c : Den qah) (t : Den qai) (t11 : List (Den I)) (t12 : Int) (t13 : Int) : run E_V36 H_V36 qbj 3000 (qbm c t t11 t12 t13) = (cond (decide (t13 < t12)) (.chk (0 ≤ t13 ∧ t13 < (ln I t11)) (cond ((z t.1) == (3 : Int)) (.chk (True) (.know True (cond (vrtP c) (.chk (0 ≤ (0 : Int) ∧ (0 : Int) < (ln I t.2.1)) (.chk (0 ≤ (z (gd I t.2.1 (0 : Nat))) ∧ (z (gd I t.2.1 (0 : Nat))) < (ln I c.2.1.2.2.2.1)) (.chk (True) (.know (okD (.int .i64) (wrapZ (gd I c.2.1.2.2.2.1 (((z (gd I t.2.1 (0 : Nat)))).toNat)) (gd I t11 t13.toNat))) (.chk (True) (.chk (0 ≤ (0 : Int) ∧ (0 : Int) ≤ t13 ∧ t13 ≤ ((ln I t.2.2.1) : Int)) (.chk (True) (.chk (True) (.chk (True) (.know (okD (.int .i64) (unlP ((wrapZ (gd I c.2.1.2.2.2.1 (((z (gd I t.2.1 (0 : Nat)))).toNat)) (gd I t11 t13.toNat)) == (z (gd I t11 t13.toNat))) (10 : Int))) (.know True (.know (okD (.int .i64) (unlP (!(hasI (wn I t.2.2.1 (0 : Nat) (t13.toNat - (0 : Nat))) (gd I t11 t13.toNat))) (7 : Int))) (.know (okD (.int .i64) (fstF ([(unlP ((wrapZ (gd I c.2.1.2.2.2.1 (((z (gd I t.2.1 (0 : Nat)))).toNat)) (gd I t11 t13.toNat)) == (z (gd I t11 t13.toNat))) (10 : Int)), (unlP (!(hasI (wn I t.2.2.1 (0 : Nat) (t13.toNat - (0 : Nat))) (gd I t11 t13.toNat))) (7 : Int))] : List (Den I)))) (cond ((fstF ([(unlP ((wrapZ (gd I c.2.1.2.2.2.1 (((z (gd I t.2.1 (0 : Nat)))).toNat)) (gd I t11 t13.toNat)) == (z (gd I t11 t13.toNat))) (10 : Int)), (unlP (!(hasI (wn I t.2.2.1 (0 : Nat) (t13.toNat - (0 : Nat))) (gd I t11 t13.toNat))) (7 : Int))] : List (Den I))) != (0 : Int)) (rt (vi (fstF ([(unlP ((wrapZ (gd I c.2.1.2.2.2.1 (((z (gd I t.2.1 (0 : Nat)))).toNat)) (gd I t11 t13.toNat)) == (z (gd I t11 t13.toNat))) (10 : Int)), (unlP (!(hasI (wn I t.2.2.1 (0 : Nat) (t13.toNat - (0 : Nat))) (gd I t11 t13.toNat))) (7 : Int))] : List (Den I)))) []) (hd (qbm c t t11 t12 (IntKind.wrap .i64 (t13 + (1 : Int))))))))))))))))))) (.chk (True) (.know (okD (.int .i64) (wrapZ (4 : Int) (gd I t11 t13.toNat))) (.chk (True) (.chk (0 ≤ (0 : Int) ∧ (0 : Int) ≤ t13 ∧ t13 ≤ ((ln I t.2.2.1) : Int)) (.chk (True) (.chk (True) (.chk (True) (.know (okD (.int .i64) (unlP ((wrapZ (4 : Int) (gd I t11 t13.toNat)) == (z (gd I t11 t13.toNat))) (10 : Int))) (.know True (.know (okD (.int .i64) (unlP (!(hasI (wn I t.2.2.1 (0 : Nat) (t13.toNat - (0 : Nat))) (gd I t11 t13.toNat))) (7 : Int))) (.know (okD (.int .i64) (fstF ([(unlP ((wrapZ (4 : Int) (gd I t11 t13.toNat)) == (z (gd I t11 t13.toNat))) (10 : Int)), (unlP (!(hasI (wn I t.2.2.1 (0 : Nat) (t13.toNat - (0 : Nat))) (gd I t11 t13.toNat))) (7 : Int))] : List (Den I)))) (cond ((fstF ([(unlP ((wrapZ (4 : Int) (gd I t11 t13.toNat)) == (z (gd I t11 t13.toNat))) (10 : Int)), (unlP (!(hasI (wn I t.2.2.1 (0 : Nat) (t13.toNat - (0 : Nat))) (gd I t11 t13.toNat))) (7 : Int))] : List (Den I))) != (0 : Int)) (rt (vi (fstF ([(unlP ((wrapZ (4 : Int) (gd I t11 t13.toNat)) == (z (gd I t11 t13.toNat))) (10 : Int)), (unlP (!(hasI (wn I t.2.2.1 (0 : Nat) (t13.toNat - (0 : Nat))) (gd I t11 t13.toNat))) (7 : Int))] : List (Den I)))) []) (hd (qbm c t t11 t12 (IntKind.wrap .i64 (t13 + (1 : Int)))))))))))))))))))) (.chk (True) (.chk (0 ≤ (0 : Int) ∧ (0 : Int) ≤ t13 ∧ t13 ≤ ((ln I t.2.2.1) : Int)) (.chk (True) (.chk (True) (.chk (True) (.know (okD (.int .i64) (unlP (cond (decide ((z (gd I t11 t13.toNat)) ≥ (16 : Int))) (decide ((z (gd I t11 t13.toNat)) ≤ (255 : Int))) false) (10 : Int))) (.know True (.know (okD (.int .i64) (unlP (!(hasI (wn I t.2.2.1 (0 : Nat) (t13.toNat - (0 : Nat))) (gd I t11 t13.toNat))) (7 : Int))) (.know (okD (.int .i64) (fstF ([(unlP (cond (decide ((z (gd I t11 t13.toNat)) ≥ (16 : Int))) (decide ((z (gd I t11 t13.toNat)) ≤ (255 : Int))) false) (10 : Int)), (unlP (!(hasI (wn I t.2.2.1 (0 : Nat) (t13.toNat - (0 : Nat))) (gd I t11 t13.toNat))) (7 : Int))] : List (Den I)))) (cond ((fstF ([(unlP (cond (decide ((z (gd I t11 t13.toNat)) ≥ (16 : Int))) (decide ((z (gd I t11 t13.toNat)) ≤ (255 : Int))) false) (10 : Int)), (unlP (!(hasI (wn I t.2.2.1 (0 : Nat) (t13.toNat - (0 : Nat))) (gd I t11 t13.toNat))) (7 : Int))] : List (Den I))) != (0 : Int)) (rt (vi (fstF ([(unlP (cond (decide ((z (gd I t11 t13.toNat)) ≥ (16 : Int))) (decide ((z (gd I t11 t13.toNat)) ≤ (255 : Int))) false) (10 : Int)), (unlP (!(hasI (wn I t.2.2.1 (0 : Nat) (t13.toNat - (0 : Nat))) (gd I t11 t13.toNat))) (7 : Int))] : List (Den I)))) []) (hd (qbm c t t11 t12 (IntKind.wrap .i64 (t13 + (1 : Int))))))))))))))))) (rt (vi (0 : Int)) [])) := by kernel_rfl
theorem shm_eq {c : Chr} {t : Trm} (h : 1 ≤ z t.1 ∧ z t.1 ≤ 6) : shpC c t = shpM c.1 c.2.1 t := by
 unfold shpC shpM bne
 have : z t.1 = 1 ∨ z t.1 = 2 ∨ z t.1 = 3 ∨ z t.1 = 4 ∨ z t.1 = 5 ∨ z t.1 = 6 := by omega
 rcases this with h | h | h | h | h | h
 ·rw [h]; rfl
 ·rw [h]; rfl
 ·rw [h, beq_self_eq_true (a := (ln I t.2.2.1 : Int))]
  cases z t.2.2.2.2.1 == (0 : Int) <;> cases (ln I t.2.1 : Int) == 1 <;> rfl
 ·rw [h]
  cases z c.2.1.2.2.1 == (0 : Int) <;> rfl
 ·rw [h]; rfl
 ·rw [h]; rfl
def casT (f : MFn) (t : Trm) (i : Nat) : Bool := cond (z t.1 == (3 : Int)) (wrapZ (cond (z f.2.2.2.2.1 == (0 : Int)) (gd I f.2.2.2.1 (z (gd I t.2.1 0)).toNat) 4) (gd I t.2.2.1 i) != z (gd I t.2.2.1 i)) (cond (decide (z (gd I t.2.2.1 i) < (16 : Int))) true (decide (z (gd I t.2.2.1 i) > (255 : Int))))
def casI5 (f : MFn) (t : Trm) (i : Nat) : Int := cond (casT f t i) 10 (cond (hasI (wn I t.2.2.1 0 i) (gd I t.2.2.1 i)) 7 0)
def casM (f : MFn) (t : Trm) : Int := qap (casI5 f t) (ln I t.2.2.1) 0
def casC (c : Chr) (t : Trm) : Int := casM c.2.1 t
def casOK (f : MFn) (t : Trm) : Prop := (z t.1 = 3 ∨ z t.1 = 5 ∨ ln I t.2.2.1 = 0) ∧ (z t.1 = 3 → z f.2.2.2.2.1 = 0 → 0 < ln I t.2.1 ∧ 0 ≤ z (gd I t.2.1 0) ∧ z (gd I t.2.1 0) < (ln I f.2.2.2.1 : Nat))
theorem fe_both {E : Ctx} {c : Cfg} {D : Nat → Int} {n i : Nat} {e : Int} (he : D i = e) (ih : RunI E c (qap D n (i + 1))) : ((e != 0) = true → IsI (qap D (n + 1) i) (vi e) []) ∧ ((e != 0) = false → RunI E c (qap D (n + 1) i)) :=
 ⟨fun h => .fe he (by unfold bne at h; simpa using h), fun h => RunI.fe ih (by rw [he]; simpa using h)⟩
theorem machine_checker_cases_l (c : Chr) (t : Trm) (hp : casOK c.2.1 t) (hl : ln I t.2.2.1 < 9223372036854775807) : ∀ i, i ≤ ln I t.2.2.1 → RunI E_V36 (qbm c t t.2.2.1 (ln I t.2.2.1 : Nat) i) (qap (casI5 c.2.1 t) (ln I t.2.2.1 - i) i) :=
 qba (.tree E_V36_ok (qgu ..) (by
  rw [Nat.sub_self, qap]
  simp only [sS, sL,  Nat.lt_irrefl]
  exact ⟨rfl, rfl⟩))
  fun i hi ih => .tree E_V36_ok (qgu ..) (by
   rw [sub1 hi]
   simp only [sS, sL,  hi, wrapS hi hl]
   refine ⟨fun h1 => ⟨fun h2 => ?_, fun h2 => ?_⟩, fun h1 => ?_⟩
   ·have hq := hp.2 (beq_t h1) (beq_t h2)
    refine ⟨⟨Int.le_refl _, by show (0 : Int) < (ln I t.2.1 : Nat); omega⟩, fun _ => ⟨hq.2, fun _ _ => ⟨⟨Int.le_refl _, Nat.le_of_lt hi⟩, fun _ _ _ _ => fe_both ?_ ih⟩⟩⟩
    unfold casI5 casT
    rw [h1, show (z c.2.1.2.2.2.2.1 == (0 : Int)) = true from h2]
    unfold bne
    show cond (cond true (!(wrapZ (gd I c.2.1.2.2.2.1 (z (gd I t.2.1 0)).toNat) (gd I t.2.2.1 i) == z (gd I t.2.2.1 i))) _) 10 _ = _
    cases wrapZ (gd I c.2.1.2.2.2.1 (z (gd I t.2.1 0)).toNat) (gd I t.2.2.1 i) == z (gd I t.2.2.1 i) <;> cases hasI (wn I t.2.2.1 0 i) (gd I t.2.2.1 i) <;> rfl
   ·refine fun _ => ⟨⟨Int.le_refl _, Nat.le_of_lt hi⟩, fun _ _ _ _ => fe_both ?_ ih⟩
    unfold casI5 casT
    rw [h1, show (z c.2.1.2.2.2.2.1 == (0 : Int)) = false from h2]
    unfold bne
    show cond (cond true (!(wrapZ 4 (gd I t.2.2.1 i) == z (gd I t.2.2.1 i))) _) 10 _ = _
    cases wrapZ 4 (gd I t.2.2.1 i) == z (gd I t.2.2.1 i) <;> cases hasI (wn I t.2.2.1 0 i) (gd I t.2.2.1 i) <;> rfl
   ·refine ⟨⟨Int.le_refl _, Nat.le_of_lt hi⟩, fun _ _ _ _ => fe_both ?_ ih⟩
    unfold casI5 casT
    rw [h1, dge, dle]
    cases decide (z (gd I t.2.2.1 i) < 16) <;> cases decide (z (gd I t.2.2.1 i) > 255) <;> cases hasI (wn I t.2.2.1 0 i) (gd I t.2.2.1 i) <;> rfl)
def k_machine_checker_cases : Con := con [.d qah, .d qai] I (fun x => casOK x.1.2.1 x.2.1) fun x => casC x.1 x.2.1
theorem m_machine_checker_cases (c : Den qah) (t : Den qai) (h_c : okD qah c) (h_t : okD qai t) (hp : casOK c.2.1 t) : Runs E_V36 (start E_V36 qbj [(.tv qah c), (.tv qai t)]) (fun r_ h_ => r_ = (vi (casC c t)) ∧ h_ = []) := .tree E_V36_ok (machine_checker_cases_t c t) (by
 show Tre.wp (contL _ (IsI (casM c.2.1 t))) _
 simp only [sS, implies_true]
 exact machine_checker_cases_l c t hp (qas h_t.2.2.1.1) 0 (Nat.zero_le _))
theorem c_machine_checker_cases : qal E_V36 qbj k_machine_checker_cases.spec := qam fun x hx hp => ⟨rfl, m_machine_checker_cases x.1 x.2.1 hx.1 hx.2.1 hp⟩
def L_V36 : List (FuncId × FSpec) := [(qbj, k_machine_checker_cases.spec)] ++ L_V35
theorem L_V36_ok : ∀ x ∈ L_V36, qal (ctx []) x.1 x.2 := by
 unfold L_V36
 simp only [List.cons_append, List.nil_append, List.forall_mem_cons]
 exact ⟨c_machine_checker_cases, L_V35_ok⟩
end Burn.MTT
namespace Burn.MTT
open Go Go.BE Go.Proofs
set_option maxRecDepth 100000
set_option linter.unusedVariables false
set_option linter.unusedSimpArgs false
open Burn.Intn Burn.Ref
def okSg (m : Md) : Prop := ∀ j, j < ln qab m.2.1 → ∀ i, i < ln I (gd qab m.2.1 j).2.1 → 0 ≤ z (gd I (gd qab m.2.1 j).2.1 i) ∧ z (gd I (gd qab m.2.1 j).2.1 i) < (ln I (gd qab m.2.1 j).2.2.2.1 : Nat)
def tmA (m : Md) (f : MFn) (t : Trm) (i : Nat) : Int := cond (!(rgM f (gd I t.2.1 i))) 10 (cond (cond (z f.2.2.2.2.1 == (0 : Int)) (!(typM m f t (i : Int) (gd I f.2.2.2.1 (z (gd I t.2.1 i)).toNat))) false) 9 0)
def tmG (f : MFn) (l : List Edg) (i : Nat) : Int := cond (cond (decide (z (gd qae l i).1 < (0 : Int))) true (decide (z (gd qae l i).1 ≥ (ln qaa f.2.2.2.2.2.2.1 : Int)))) 8 (cond (cond (z (gd qae l i).1 == (0 : Int)) true (decide ((ln I (gd qae l i).2.1 : Int) > (0 : Int)))) 3 0)
def tmT (m : Md) (f : MFn) (t : Trm) : Int := cond (cond (z t.1 == (6 : Int)) (z (gd qab m.2.1 (z t.2.2.2.2.1).toNat).2.2.1 != z f.2.2.1) false) 9 (orE (casM f t) (qap (tmG f t.2.2.2.1) (ln qae t.2.2.2.1) 0))
def tmC (m : Md) (f : MFn) (t : Trm) : Int := cond (!(shpM m f t)) 3 (orE (qap (tmA m f t) (ln I t.2.1) 0) (tmT m f t))
def tmK (t : Trm) : Bool := cond (decide (z t.1 < (1 : Int))) true (decide (z t.1 > (6 : Int)))
def tmS (m : Md) (t : Trm) : Bool := cond (z t.1 == (6 : Int)) (cond (decide (z t.2.2.2.2.1 < (0 : Int))) true (decide (z t.2.2.2.2.1 ≥ (ln qab m.2.1 : Int)))) false
def tmL (t : Trm) : Bool := cond (z t.1 == (3 : Int)) (decide ((ln I t.2.2.1 : Int) > (16 : Int))) false
def tmE (m : Md) (f : MFn) (t : Trm) : Int := cond (tmK t) 9 (cond (tmS m t) 8 (cond (tmL t) 11 (tmC m f t)))
def tmEc (c : Chr) (t : Trm) : Int := tmE c.1 c.2.1 t
theorem tmK_ok {t : Trm} (h : tmK t = false) : 1 ≤ z t.1 ∧ z t.1 ≤ 6 := by
 unfold tmK at h
 cases h1 : decide (z t.1 < 1) <;> rw [h1] at h
 ·exact ⟨by simpa using h1, by simpa using h⟩
 ·exact Bool.noConfusion h
theorem tmS_ok {m : Md} {t : Trm} (h : tmS m t = false) : z t.1 = 6 → 0 ≤ z t.2.2.2.2.1 ∧ z t.2.2.2.2.1 < (ln qab m.2.1 : Nat) := fun hk => by
 unfold tmS at h
 rw [hk] at h
 cases h1 : decide (z t.2.2.2.2.1 < 0) <;> rw [h1] at h
 ·exact ⟨by simpa using h1, by simpa using (show decide (z t.2.2.2.2.1 ≥ (ln qab m.2.1 : Int)) = false from h)⟩
 ·exact Bool.noConfusion h
theorem shm_use {m : Md} {f : MFn} {t : Trm} (hk : 1 ≤ z t.1 ∧ z t.1 ≤ 6) (h : shpM m f t = true) : (z t.1 = 3 ∨ z t.1 = 5 ∨ ln I t.2.2.1 = 0) ∧ (z t.1 = 3 → ln I t.2.1 = 1) ∧ (z t.1 = 1 ∨ z t.1 = 5 → ln I t.2.1 = 0) ∧ (z t.1 = 6 → ln I t.2.1 = ln I (gd qab m.2.1 (z t.2.2.2.2.1).toNat).2.1) := by
 have h0 : cond (z t.1 != (6 : Int)) (z t.2.2.2.2.1 != (0 : Int)) false = false := by
  unfold shpM at h
  cases h1 : cond (z t.1 != (6 : Int)) (z t.2.2.2.2.1 != (0 : Int)) false
  ·rfl
  ·rw [h1] at h; exact Bool.noConfusion h
 unfold shpM at h
 rw [h0] at h
 have : z t.1 = 1 ∨ z t.1 = 2 ∨ z t.1 = 3 ∨ z t.1 = 4 ∨ z t.1 = 5 ∨ z t.1 = 6 := by omega
 rcases this with h1 | h1 | h1 | h1 | h1 | h1 <;> rw [h1] at h
 ·simp [Bool.cond_eq_ite] at h; refine ⟨by omega, by omega, by omega, by omega⟩
 ·simp [Bool.cond_eq_ite] at h; refine ⟨by omega, by omega, by omega, by omega⟩
 ·simp [Bool.cond_eq_ite] at h; refine ⟨by omega, by omega, by omega, by omega⟩
 ·have h4 : (cond (cond ((ln I t.2.1 : Int) == 0) ((ln I t.2.2.1 : Int) == 0) false) ((ln qae t.2.2.2.1 : Int) == 0) false = true) ∨ (cond (cond ((ln I t.2.1 : Int) == 1) ((ln I t.2.2.1 : Int) == 0) false) ((ln qae t.2.2.2.1 : Int) == 0) false = true) := by
   cases h5 : z f.2.2.1 == (0 : Int) <;> rw [h5] at h
   ·exact .inr h
   ·exact .inl h
  have h6 : ln I t.2.2.1 = 0 := by
   rcases h4 with h4 | h4 <;> (simp [Bool.cond_eq_ite] at h4; omega)
  refine ⟨by omega, by omega, by omega, by omega⟩
 ·simp [Bool.cond_eq_ite] at h; refine ⟨by omega, by omega, by omega, by omega⟩
 ·simp [Bool.cond_eq_ite] at h; refine ⟨by omega, by omega, by omega, by omega⟩
theorem trm_ok {m : Md} {f : MFn} {t : Trm} (hm : okSg m) (hk : 1 ≤ z t.1 ∧ z t.1 ≤ 6) (hs : z t.1 = 6 → 0 ≤ z t.2.2.2.2.1 ∧ z t.2.2.2.2.1 < (ln qab m.2.1 : Nat)) (h : shpM m f t = true) {i : Nat} (hi : i < ln I t.2.1) : trmOK m t i := fun h2 h3 h4 => by
 have hu := shm_use hk h
 have h6 : z t.1 = 6 := by omega
 have hq := hs h6
 have hl := hu.2.2.2 h6
 have hg := hm (z t.2.2.2.2.1).toNat (by omega) i (by omega)
 exact ⟨hq, ⟨Int.natCast_nonneg _, by omega⟩, hg⟩
theorem orE_hit5 {a b : Int} (h : (a != 0) = true) : orE a b = a := by unfold orE; rw [show (a == 0) = false by simpa [bne] using h]; rfl
theorem orE_miss5 {a b : Int} (h : (a != 0) = false) : orE a b = b := by unfold orE; rw [show (a == 0) = true by simpa [bne] using h]; rfl
theorem unl_not (b : Bool) : unlP b 9 = cond (cond true (!b) false) 9 0 := by cases b <;> rfl
theorem opd_eq (c : Chr) (t : Trm) (i : Nat) : opdC c t (i : Int) = tmA c.1 c.2.1 t i := by
 unfold opdC tmA typM regC vrtP
 show cond (!(rgM c.2.1 (gd I t.2.1 i))) _ _ = cond (!(rgM c.2.1 (gd I t.2.1 i))) _ _
 cases rgM c.2.1 (gd I t.2.1 i)
 ·rfl
 ·cases z c.2.1.2.2.2.2.1 == (0 : Int)
  ·rfl
  ·cases z t.1 == (2 : Int)
   ·cases z t.1 == (3 : Int)
    ·cases z t.1 == (4 : Int)
     ·exact unl_not _
     ·exact unl_not _
    ·exact unl_not _
   ·exact unl_not _
theorem tmG_eq (f : MFn) (l : List Edg) (i : Nat) (h : ln qaa f.2.2.2.2.2.2.1 < 9223372036854775807) : fstF ([unlP (witP (gd qae l i).1 0 (IntKind.wrap .i64 ((ln qaa f.2.2.2.2.2.2.1 : Int) - 1))) 8, unlP (z (gd qae l i).1 != (0 : Int)) 3, unlP ((ln I (gd qae l i).2.1 : Int) == (0 : Int)) 3] : List (Den I)) = tmG f l i := by
 unfold tmG
 rw [show witP (gd qae l i).1 0 (IntKind.wrap .i64 ((ln qaa f.2.2.2.2.2.2.1 : Int) - 1)) = _ from wit_eq (n := z (gd qae l i).1) (by omega)]
 have e : decide ((ln I (gd qae l i).2.1 : Int) > 0) = !((ln I (gd qae l i).2.1 : Int) == 0) := by
  cases h : (ln I (gd qae l i).2.1 : Int) == 0 <;> simp at h ⊢ <;> omega
 rw [e]
 unfold bne
 cases cond (decide (z (gd qae l i).1 < (0 : Int))) true (decide (z (gd qae l i).1 ≥ (ln qaa f.2.2.2.2.2.2.1 : Int))) <;> cases z (gd qae l i).1 == (0 : Int) <;> cases (ln I (gd qae l i).2.1 : Int) == 0 <;> rfl
theorem cas_ok {m : Md} {f : MFn} {t : Trm} (hk : 1 ≤ z t.1 ∧ z t.1 ≤ 6) (h : shpM m f t = true) (ha : ∀ j, j < ln I t.2.1 → tmA m f t j = 0) : casOK f t := by
 have hu := shm_use hk h
 refine ⟨hu.1, fun h3 h0 => ?_⟩
 have hl := hu.2.1 h3
 have hr := ha 0 (by omega)
 unfold tmA at hr
 cases hg : rgM f (gd I t.2.1 0)
 ·rw [hg] at hr; exact absurd hr (show ¬ (10 : Int) = 0 by decide)
 ·unfold rgM at hg
  rw [h0] at hg
  cases h1 : decide (gd I t.2.1 0 ≥ (0 : Int))
  ·rw [h1] at hg; exact Bool.noConfusion hg
  ·rw [h1] at hg
   exact ⟨by omega, of_decide_eq_true h1, of_decide_eq_true hg⟩
theorem trm_head (c : Chr) (t : Trm) (h : ln qab c.1.2.1 < 9223372036854775807) : fstF ([unlP (witP t.1 1 6) 9, unlP (cond (z t.1 != (6 : Int)) true (witP t.2.2.2.2.1 0 (IntKind.wrap .i64 ((ln qab c.1.2.1 : Int) - 1)))) 8, unlP (cond (z t.1 != (3 : Int)) true (decide ((ln I t.2.2.1 : Int) ≤ (16 : Int)))) 11] : List (Den I)) = cond (tmK t) 9 (cond (tmS c.1 t) 8 (cond (tmL t) 11 0)) := by
 unfold tmK tmS tmL
 rw [show witP t.2.2.2.2.1 0 (IntKind.wrap .i64 ((ln qab c.1.2.1 : Int) - 1)) = _ from wit_eq (n := z t.2.2.2.2.1) (by omega), dle (ln I t.2.2.1 : Int) 16]
 have e : witP t.1 1 6 = !(cond (decide (z t.1 < (1 : Int))) true (decide (z t.1 > (6 : Int)))) := by
  unfold witP
  rw [dle, dge]
  cases decide (t.1 < (1 : Int)) <;> cases decide (t.1 > (6 : Int)) <;> rfl
 rw [e]
 unfold bne
 cases cond (decide (z t.1 < (1 : Int))) true (decide (z t.1 > (6 : Int))) <;> cases z t.1 == (6 : Int) <;> cases z t.1 == (3 : Int) <;> cases cond (decide (z t.2.2.2.2.1 < (0 : Int))) true (decide (z t.2.2.2.2.1 ≥ (ln qab c.1.2.1 : Int))) <;> cases decide ((ln I t.2.2.1 : Int) > (16 : Int)) <;> rfl
def L_V37 : List (FuncId × FSpec) := [] ++ L_V36
theorem L_V37_ok : ∀ x ∈ L_V37, qal (ctx []) x.1 x.2 := L_V36_ok
end Burn.MTT
namespace Burn.MTT
open Go Go.BE Go.Proofs
set_option maxRecDepth 100000
set_option linter.unusedVariables false
set_option linter.unusedSimpArgs false
open Burn.Intn Burn.Ref
def mrg_V38 : FuncId → List Nat
 | 19 => [13, 22, 30, 36, 37]
 | 20 => [28, 38, 79]
 | _ => []
noncomputable abbrev E_V38 : Ctx := { ctx L_V37 with mrg := mrg_V38 }
theorem E_V38_ok : EOK E_V38 := have h : EOK (ctx L_V37) := qbq L_V37_ok; ⟨h.ty, h.env, h.fns, h.mixed⟩
def cuts_V38 : CutL := [([], 20, 0, [2, 3, 51, 52], [], []),
 ([], 20, 2, [2, 87, 88, 89], [], [])]
def rets_V38 : FuncId → List (Option Fx)
 | _ => []
def H_V38 : Hints := { cut := cutOf cuts_V38, ret := rets_V38 }
theorem machine_checker_instr_t (c : Den qah) (in_ : Den qac) : run E_V38 H_V38 qck 3000 (start E_V38 qck [(.tv qah c), (.tv qac in_)]) = (.chk (True) (.know (okD .str (nameP in_.1)) (cond (cond (((nameP in_.1)).toList == (ByteArray.empty).toList) (!(cond ((z in_.1) == (40 : Int)) true ((z in_.1) == (41 : Int)))) false) (rt (vi (8 : Int)) []) (.chk (((cond ((z in_.1) == (3 : Int)) true (bOf in_.2.2.2.2.2.2.2.1)) = false → (((cond ((z in_.1) == (40 : Int)) true ((z in_.1) == (41 : Int))) = true → (True))))) (cond (cond (cond ((z in_.1) == (3 : Int)) true (bOf in_.2.2.2.2.2.2.2.1)) true (cond (cond ((z in_.1) == (40 : Int)) true ((z in_.1) == (41 : Int))) (vrtP c) false)) (rt (vi (3 : Int)) []) (cond (cond ((z in_.1) == (40 : Int)) true ((z in_.1) == (41 : Int))) (.chk (True) (.know (okD (.int .i64) (movP c in_)) (rt (vi (movP c in_)) []))) (.chk (True) (.know True (cond (vrtP c) (.chk (True) (.know (okD (.int .i64) (chkF in_ (ByteArray.empty, ([] : List (Den I)), (0 : Int), c.2.1.2.2.2.1, ([] : List (Den qaa)), ()) c.1)) (rt (vi (chkF in_ (ByteArray.empty, ([] : List (Den I)), (0 : Int), c.2.1.2.2.2.1, ([] : List (Den qaa)), ()) c.1)) []))) (.chk (True) (.know (okD (.int .i64) (phyC c in_)) (rt (vi (phyC c in_)) [])))))))))))) := by kernel_rfl
noncomputable def qca (c : Den qah) (t : Den qai) (t51 : Int) (t52 : Int) : Cfg := hcfg E_V38 qat 0 [(2, (.rtp qah c)), (3, (.rtp qai t)), (51, (vi t51)), (52, (vi t52))] [] 0
noncomputable def qbz (c : Den qah) (t87 : List (Den qae)) (t88 : Int) (t89 : Int) : Cfg := hcfg E_V38 qat 2 [(2, (.rtp qah c)), (87, (.tv (.sl 32 qae) t87)), (88, (vi t88)), (89, (vi t89))] [] 0
theorem machine_checker_terminator_t (c : Den qah) (t : Den qai) : run E_V38 H_V38 qat 3000 (start E_V38 qat [(.tv qah c), (.tv qai t)]) = (.chk (True) (.chk (True) (.chk ((((z t.1) != (6 : Int)) = false → (True))) (.chk (True) (.chk (True) (.chk (True) (.know True (.know (okD (.int .i64) (unlP (witP t.1 (1 : Int) (6 : Int)) (9 : Int))) (.know (okD (.int .i64) (unlP (cond ((z t.1) != (6 : Int)) true (witP t.2.2.2.2.1 (0 : Int) (IntKind.wrap .i64 (((ln qab c.1.2.1) : Int) - (1 : Int))))) (8 : Int))) (.know (okD (.int .i64) (unlP (cond ((z t.1) != (3 : Int)) true (decide (((ln I t.2.2.1) : Int) ≤ (16 : Int)))) (11 : Int))) (.know (okD (.int .i64) (fstF ([(unlP (witP t.1 (1 : Int) (6 : Int)) (9 : Int)), (unlP (cond ((z t.1) != (6 : Int)) true (witP t.2.2.2.2.1 (0 : Int) (IntKind.wrap .i64 (((ln qab c.1.2.1) : Int) - (1 : Int))))) (8 : Int)), (unlP (cond ((z t.1) != (3 : Int)) true (decide (((ln I t.2.2.1) : Int) ≤ (16 : Int)))) (11 : Int))] : List (Den I)))) (cond ((fstF ([(unlP (witP t.1 (1 : Int) (6 : Int)) (9 : Int)), (unlP (cond ((z t.1) != (6 : Int)) true (witP t.2.2.2.2.1 (0 : Int) (IntKind.wrap .i64 (((ln qab c.1.2.1) : Int) - (1 : Int))))) (8 : Int)), (unlP (cond ((z t.1) != (3 : Int)) true (decide (((ln I t.2.2.1) : Int) ≤ (16 : Int)))) (11 : Int))] : List (Den I))) != (0 : Int)) (rt (vi (fstF ([(unlP (witP t.1 (1 : Int) (6 : Int)) (9 : Int)), (unlP (cond ((z t.1) != (6 : Int)) true (witP t.2.2.2.2.1 (0 : Int) (IntKind.wrap .i64 (((ln qab c.1.2.1) : Int) - (1 : Int))))) (8 : Int)), (unlP (cond ((z t.1) != (3 : Int)) true (decide (((ln I t.2.2.1) : Int) ≤ (16 : Int)))) (11 : Int))] : List (Den I)))) []) (.chk (z t.1 = 6 → 0 ≤ z t.2.2.2.2.1 ∧ z t.2.2.2.2.1 < (ln qab c.1.2.1 : Nat)) (.know True (cond (!(shpC c t)) (rt (vi (3 : Int)) []) (hd (qca c t ((ln I t.2.1) : Int) (0 : Int)))))))))))))))))) := by kernel_rfl
theorem qej (c : Den qah) (t : Den qai) (t51 : Int) (t52 : Int) : run E_V38 H_V38 qat 3000 (qca c t t51 t52) = (cond (decide (t52 < t51)) (.chk ((0 ≤ z t52 ∧ z t52 < (ln I t.2.1 : Nat)) ∧ trmOK c.1 t (z t52)) (.know (okD (.int .i64) (opdC c t t52)) (cond ((opdC c t t52) != (0 : Int)) (rt (vi (opdC c t t52)) []) (hd (qca c t t51 (IntKind.wrap .i64 (t52 + (1 : Int)))))))) (.chk ((((z t.1) == (6 : Int)) = true → (0 ≤ (z t.2.2.2.2.1) ∧ (z t.2.2.2.2.1) < (ln qab c.1.2.1)))) (cond (cond ((z t.1) == (6 : Int)) ((z ((gd qab c.1.2.1 (((z t.2.2.2.2.1)).toNat)).2.2.1)) != (z c.2.1.2.2.1)) false) (rt (vi (9 : Int)) []) (.chk (casOK c.2.1 t) (.know (okD (.int .i64) (casC c t)) (cond ((casC c t) != (0 : Int)) (rt (vi (casC c t)) []) (hd (qbz c t.2.2.2.1 ((ln qae t.2.2.2.1) : Int) (0 : Int))))))))) := by kernel_rfl
theorem qei (c : Den qah) (t87 : List (Den qae)) (t88 : Int) (t89 : Int) : run E_V38 H_V38 qat 3000 (qbz c t87 t88 t89) = (cond (decide (t89 < t88)) (.chk (0 ≤ t89 ∧ t89 < (ln qae t87)) (.chk (True) (.chk (True) (.chk (True) (.chk (True) (.chk (True) (.know True (.know (okD (.int .i64) (unlP (witP (gd qae t87 t89.toNat).1 (0 : Int) (IntKind.wrap .i64 (((ln qaa c.2.1.2.2.2.2.2.2.1) : Int) - (1 : Int)))) (8 : Int))) (.know (okD (.int .i64) (unlP ((z ((gd qae t87 t89.toNat).1)) != (0 : Int)) (3 : Int))) (.know (okD (.int .i64) (unlP (((ln I ((gd qae t87 t89.toNat).2.1)) : Int) == (0 : Int)) (3 : Int))) (.know (okD (.int .i64) (fstF ([(unlP (witP (gd qae t87 t89.toNat).1 (0 : Int) (IntKind.wrap .i64 (((ln qaa c.2.1.2.2.2.2.2.2.1) : Int) - (1 : Int)))) (8 : Int)), (unlP ((z ((gd qae t87 t89.toNat).1)) != (0 : Int)) (3 : Int)), (unlP (((ln I ((gd qae t87 t89.toNat).2.1)) : Int) == (0 : Int)) (3 : Int))] : List (Den I)))) (cond ((fstF ([(unlP (witP (gd qae t87 t89.toNat).1 (0 : Int) (IntKind.wrap .i64 (((ln qaa c.2.1.2.2.2.2.2.2.1) : Int) - (1 : Int)))) (8 : Int)), (unlP ((z ((gd qae t87 t89.toNat).1)) != (0 : Int)) (3 : Int)), (unlP (((ln I ((gd qae t87 t89.toNat).2.1)) : Int) == (0 : Int)) (3 : Int))] : List (Den I))) != (0 : Int)) (rt (vi (fstF ([(unlP (witP (gd qae t87 t89.toNat).1 (0 : Int) (IntKind.wrap .i64 (((ln qaa c.2.1.2.2.2.2.2.2.1) : Int) - (1 : Int)))) (8 : Int)), (unlP ((z ((gd qae t87 t89.toNat).1)) != (0 : Int)) (3 : Int)), (unlP (((ln I ((gd qae t87 t89.toNat).2.1)) : Int) == (0 : Int)) (3 : Int))] : List (Den I)))) []) (hd (qbz c t87 t88 (IntKind.wrap .i64 (t89 + (1 : Int))))))))))))))))) (rt (vi (0 : Int)) [])) := by kernel_rfl
def insR (m : Den qad) (f : Den qan) (in_ : Den qac) : Int := (cond (cond (!(cond ((z in_.1) == (40 : Int)) true ((z in_.1) == (41 : Int)))) (cond (decide ((z in_.1) < (1 : Int))) true (decide ((z in_.1) > (33 : Int)))) false) (8 : Int) (cond (cond (cond ((z in_.1) == (3 : Int)) true (bOf in_.2.2.2.2.2.2.2.1)) true (cond (cond ((z in_.1) == (40 : Int)) true ((z in_.1) == (41 : Int))) ((z f.2.2.2.2.1) == (0 : Int)) false)) (3 : Int) (cond (cond ((z in_.1) == (40 : Int)) true ((z in_.1) == (41 : Int))) (sltP f in_) (cond ((z f.2.2.2.2.1) == (0 : Int)) (chkF in_ (ByteArray.empty, ([] : List (Den I)), (0 : Int), f.2.2.2.1, ([] : List (Den qaa)), ()) m) (phyR m f in_)))))
def insC (c : Chr) (x : Ins) : Int := insR c.1 c.2.1 x

def k_machine_checker_instr : Con := con [.d qah, .d qac] I (fun x => True) fun x => insC x.1 x.2.1
theorem m_machine_checker_instr (c : Den qah) (in_ : Den qac) (h_c : okD qah c) (h_in_ : okD qac in_) (hp : True) : Runs E_V38 (start E_V38 qck [(.tv qah c), (.tv qac in_)]) (fun r_ h_ => r_ = (vi (insC c in_)) ∧ h_ = []) := .tree E_V38_ok (machine_checker_instr_t c in_) (by
 show Tre.wp (contL _ (IsI (insR c.1 c.2.1 in_))) _
 simp only [sS, implies_true]
 rw [name_eq]
 have hc : ∀ a b : Bool, cond a (!b) false = cond (!b) a false := fun a b => by cases a <;> cases b <;> rfl
 rw [hc]
 refine fun _ => ⟨fun h1 => .of (Bool.cond_pos h1), fun h1 => ⟨fun h2 => .of ((Bool.cond_neg h1).trans (Bool.cond_pos h2)), fun h2 => ⟨fun h3 _ => .of ((Bool.cond_neg h1).trans ((Bool.cond_neg h2).trans ((Bool.cond_pos h3).trans (mov_eq c in_).symm))), fun h3 => ⟨fun h4 _ => .of ((Bool.cond_neg h1).trans ((Bool.cond_neg h2).trans ((Bool.cond_neg h3).trans (Bool.cond_pos h4)))), fun h4 _ => .of ((Bool.cond_neg h1).trans ((Bool.cond_neg h2).trans ((Bool.cond_neg h3).trans (Bool.cond_neg h4))))⟩⟩⟩⟩)
theorem c_machine_checker_instr : qal E_V38 qck k_machine_checker_instr.spec := qam fun x hx hp => ⟨rfl, m_machine_checker_instr x.1 x.2.1 hx.1 hx.2.1 hp⟩
theorem machine_checker_terminator_l2 (c : Chr) (t : Trm) (hc : okD qah c) (ht : okD qai t) : ∀ i, i ≤ ln qae t.2.2.2.1 → RunI E_V38 (qbz c t.2.2.2.1 (ln qae t.2.2.2.1 : Nat) i) (qap (tmG c.2.1 t.2.2.2.1) (ln qae t.2.2.2.1 - i) i) :=
 qba (.tree E_V38_ok (qei ..) (by
  rw [Nat.sub_self, qap]
  simp only [sS, sL,  Nat.lt_irrefl]
  exact ⟨rfl, rfl⟩))
  fun i hi ih => .tree E_V38_ok (qei ..) (by
   rw [sub1 hi]
   simp only [sS, sL,  hi, wrapS hi (qas ht.2.2.2.1.1)]
   exact fun _ _ _ _ => fe_both (tmG_eq c.2.1 t.2.2.2.1 i (qas hc.2.1.2.2.2.2.2.2.1.1)).symm ih)
theorem machine_checker_terminator_l0 (c : Chr) (t : Trm) (hc : okD qah c) (ht : okD qai t) (hm : okSg c.1) (hk : 1 ≤ z t.1 ∧ z t.1 ≤ 6) (hs : z t.1 = 6 → 0 ≤ z t.2.2.2.2.1 ∧ z t.2.2.2.2.1 < (ln qab c.1.2.1 : Nat)) (hp : shpM c.1 c.2.1 t = true) : ∀ i, i ≤ ln I t.2.1 → (∀ j, j < i → tmA c.1 c.2.1 t j = 0) → RunI E_V38 (qca c t (ln I t.2.1 : Nat) i) (orE (qap (tmA c.1 c.2.1 t) (ln I t.2.1 - i) i) (tmT c.1 c.2.1 t)) :=
 qba (fun ha => .tree E_V38_ok (qej ..) (by
  rw [Nat.sub_self, qap, show orE 0 (tmT c.1 c.2.1 t) = tmT c.1 c.2.1 t from rfl]
  simp only [sS, sL,  Nat.lt_irrefl]
  refine ⟨fun h => hs (beq_t h), fun _ => ⟨fun h1 => .of (by unfold tmT; rw [h1]; rfl), fun h1 => ⟨cas_ok hk hp ha, fun _ _ => ⟨fun h2 => .of ?_, fun h2 => RunI.eq (machine_checker_terminator_l2 c t hc ht 0 (Nat.zero_le _)) ?_⟩⟩⟩⟩
  ·unfold tmT
   rw [h1]
   exact orE_hit5 h2
  ·unfold tmT
   rw [h1]
   exact orE_miss5 h2))
  fun i hi ih ha => .tree E_V38_ok (qej ..) (by
   rw [sub1 hi]
   simp only [sS, sL,  hi, wrapS hi (qas ht.2.1.1)]
   refine ⟨trm_ok hm hk hs hp hi, fun _ _ => ⟨fun h1 => .oe (opd_eq c t i).symm (by simpa using h1), fun h1 => ?_⟩⟩
   have h0 : tmA c.1 c.2.1 t i = 0 := by rw [← opd_eq]; simpa using h1
   exact RunI.oe (ih fun j h => (Nat.lt_succ_iff_lt_or_eq.mp h).elim (ha j) (fun e => e ▸ h0)) h0)
def qfp : Con := con [.d qah, .d qai] I (fun x => okSg x.1.1) fun x => tmEc x.1 x.2.1
theorem m_machine_checker_terminator (c : Den qah) (t : Den qai) (h_c : okD qah c) (h_t : okD qai t) (hp : okSg c.1) : Runs E_V38 (start E_V38 qat [(.tv qah c), (.tv qai t)]) (fun r_ h_ => r_ = (vi (tmEc c t)) ∧ h_ = []) := .tree E_V38_ok (machine_checker_terminator_t c t) (by
 have hr : ln qab c.1.2.1 < 9223372036854775807 := qas h_c.1.2.1.1
 show Tre.wp (contL _ (IsI (tmE c.1 c.2.1 t))) _
 simp only [sS, implies_true]
 rw [trm_head c t hr]
 refine fun _ _ _ _ => ⟨fun h => .of ?_, fun h => ?_⟩
 ·unfold tmE
  revert h
  cases tmK t <;> cases tmS c.1 t <;> cases tmL t <;> intro h <;> first | rfl | exact absurd h (by decide)
 ·have h0 : tmK t = false ∧ tmS c.1 t = false ∧ tmL t = false := by
   revert h
   cases tmK t <;> cases tmS c.1 t <;> cases tmL t <;> intro h <;> first | exact ⟨rfl, rfl, rfl⟩ | exact absurd h (by decide)
  obtain ⟨h1, h2, h3⟩ := h0
  have hk := tmK_ok h1
  have hs := tmS_ok h2
  have hE : tmE c.1 c.2.1 t = tmC c.1 c.2.1 t := (Bool.cond_neg h1).trans ((Bool.cond_neg h2).trans (Bool.cond_neg h3))
  rw [hE, shm_eq hk]
  refine ⟨hs, fun _ => ⟨fun h4 => .of (Bool.cond_pos h4), fun h4 => (machine_checker_terminator_l0 c t h_c h_t hp hk hs (by simpa using h4) 0 (Nat.zero_le _) (fun j h => absurd h (Nat.not_lt_zero _))).eq (Bool.cond_neg h4)⟩⟩)
theorem c_machine_checker_terminator : qal E_V38 qat qfp.spec := qam fun x hx hp => ⟨rfl, m_machine_checker_terminator x.1 x.2.1 hx.1 hx.2.1 hp⟩
def L_V38 : List (FuncId × FSpec) := [(qck, k_machine_checker_instr.spec), (qat, qfp.spec)] ++ L_V37
theorem L_V38_ok : ∀ x ∈ L_V38, qal (ctx []) x.1 x.2 := by
 unfold L_V38
 simp only [List.cons_append, List.nil_append, List.forall_mem_cons]
 exact ⟨c_machine_checker_instr, c_machine_checker_terminator, L_V37_ok⟩
end Burn.MTT
namespace Burn.MTT
open Go Go.BE Go.Proofs
set_option maxRecDepth 100000
set_option linter.unusedVariables false
set_option linter.unusedSimpArgs false
open Burn.Intn Burn.Ref
def mrg_V39 : FuncId → List Nat
 | 18 => [19, 28, 29, 39, 40, 54]
 | _ => []
noncomputable abbrev E_V39 : Ctx := { ctx L_V38 with mrg := mrg_V39 }
theorem E_V39_ok : EOK E_V39 := have h : EOK (ctx L_V38) := qbq L_V38_ok; ⟨h.ty, h.env, h.fns, h.mixed⟩
def cuts_V39 : CutL := [([], 18, 0, [1, 3, 62, 63, 64], [], []),
 ([], 18, 2, [1, 3, 73, 74, 75], [], [])]
def rets_V39 : FuncId → List (Option Fx)
 | _ => []
def H_V39 : Hints := { cut := cutOf cuts_V39, ret := rets_V39 }
noncomputable def qdd (c : Den qah) (t62 : List (Den I)) (t63 : Int) (t64 : Int) (f_0 : ByteArray) (f_1 : List (Den I)) (f_2 : Int) (f_3 : List (Den I)) (f_4 : Int) (f_5 : Int) (f_6 : List (Den qaa)) : Cfg := hcfg E_V39 qbc 0 [(1, (.rtp qah c)), (3, (.ref 0 0)), (62, (.tv (.sl 8 I) t62)), (63, (vi t63)), (64, (vi t64))] [(0, ⟨(.cells [(vs f_0), (.tv (.sl 8 I) f_1), (vi f_2), (.tv (.sl 8 I) f_3), (vi f_4), (vi f_5), (.tv (.sl 136 qaa) f_6)]), 0, [], false, none⟩)] 1
noncomputable def qdc (c : Den qah) (t73 : List (Den I)) (t74 : Int) (t75 : Int) (f_0 : ByteArray) (f_1 : List (Den I)) (f_2 : Int) (f_3 : List (Den I)) (f_4 : Int) (f_5 : Int) (f_6 : List (Den qaa)) : Cfg := hcfg E_V39 qbc 2 [(1, (.rtp qah c)), (3, (.ref 0 0)), (73, (.tv (.sl 8 I) t73)), (74, (vi t74)), (75, (vi t75))] [(0, ⟨(.cells [(vs f_0), (.tv (.sl 8 I) f_1), (vi f_2), (.tv (.sl 8 I) f_3), (vi f_4), (vi f_5), (.tv (.sl 136 qaa) f_6)]), 0, [], false, none⟩)] 1
theorem machine_checker_head_t (c : Den qah) : run E_V39 H_V39 qbc 3000 (start E_V39 qbc [(.tv qah c)]) = (.chk (True) (.chk (True) (.chk ((((z c.2.1.2.2.1) == (0 : Int)) = false → (True))) (.chk (True) (.chk (True) (.know (okD (.int .i64) (unlP (cond (cond (cond (decide ((z c.2.1.2.2.2.2.1) ≥ (0 : Int))) (decide ((z c.2.1.2.2.2.2.2.1) ≥ (0 : Int))) false) (cond (decide ((z c.2.1.2.2.2.2.1) > (0 : Int))) true ((z c.2.1.2.2.2.2.2.1) == (0 : Int))) false) (cond ((z c.2.1.2.2.2.2.1) == (0 : Int)) true (((ln I c.2.1.2.2.2.1) : Int) == (0 : Int))) false) (3 : Int))) (.know (okD (.int .i64) (unlP (decide (((ln qaa c.2.1.2.2.2.2.2.2.1) : Int) > (0 : Int))) (4 : Int))) (.know (okD (.int .i64) (unlP (cond ((z c.2.1.2.2.1) == (0 : Int)) true (typP c.2.1.2.2.1)) (9 : Int))) (.know (okD (.int .i64) (fstF ([(unlP (cond (cond (cond (decide ((z c.2.1.2.2.2.2.1) ≥ (0 : Int))) (decide ((z c.2.1.2.2.2.2.2.1) ≥ (0 : Int))) false) (cond (decide ((z c.2.1.2.2.2.2.1) > (0 : Int))) true ((z c.2.1.2.2.2.2.2.1) == (0 : Int))) false) (cond ((z c.2.1.2.2.2.2.1) == (0 : Int)) true (((ln I c.2.1.2.2.2.1) : Int) == (0 : Int))) false) (3 : Int)), (unlP (decide (((ln qaa c.2.1.2.2.2.2.2.2.1) : Int) > (0 : Int))) (4 : Int)), (unlP (cond ((z c.2.1.2.2.1) == (0 : Int)) true (typP c.2.1.2.2.1)) (9 : Int))] : List (Den I)))) (cond ((fstF ([(unlP (cond (cond (cond (decide ((z c.2.1.2.2.2.2.1) ≥ (0 : Int))) (decide ((z c.2.1.2.2.2.2.2.1) ≥ (0 : Int))) false) (cond (decide ((z c.2.1.2.2.2.2.1) > (0 : Int))) true ((z c.2.1.2.2.2.2.2.1) == (0 : Int))) false) (cond ((z c.2.1.2.2.2.2.1) == (0 : Int)) true (((ln I c.2.1.2.2.2.1) : Int) == (0 : Int))) false) (3 : Int)), (unlP (decide (((ln qaa c.2.1.2.2.2.2.2.2.1) : Int) > (0 : Int))) (4 : Int)), (unlP (cond ((z c.2.1.2.2.1) == (0 : Int)) true (typP c.2.1.2.2.1)) (9 : Int))] : List (Den I))) != (0 : Int)) (rt (vi (fstF ([(unlP (cond (cond (cond (decide ((z c.2.1.2.2.2.2.1) ≥ (0 : Int))) (decide ((z c.2.1.2.2.2.2.2.1) ≥ (0 : Int))) false) (cond (decide ((z c.2.1.2.2.2.2.1) > (0 : Int))) true ((z c.2.1.2.2.2.2.2.1) == (0 : Int))) false) (cond ((z c.2.1.2.2.2.2.1) == (0 : Int)) true (((ln I c.2.1.2.2.2.1) : Int) == (0 : Int))) false) (3 : Int)), (unlP (decide (((ln qaa c.2.1.2.2.2.2.2.2.1) : Int) > (0 : Int))) (4 : Int)), (unlP (cond ((z c.2.1.2.2.1) == (0 : Int)) true (typP c.2.1.2.2.1)) (9 : Int))] : List (Den I)))) []) (hd (qdd c c.2.1.2.2.2.1 ((ln I c.2.1.2.2.2.1) : Int) (0 : Int) (tOf c.2.1.1) c.2.1.2.1 (z c.2.1.2.2.1) c.2.1.2.2.2.1 (z c.2.1.2.2.2.2.1) (z c.2.1.2.2.2.2.2.1) c.2.1.2.2.2.2.2.2.1)))))))))))) := by kernel_rfl
theorem qhh (c : Den qah) (t62 : List (Den I)) (t63 : Int) (t64 : Int) (f_0 : ByteArray) (f_1 : List (Den I)) (f_2 : Int) (f_3 : List (Den I)) (f_4 : Int) (f_5 : Int) (f_6 : List (Den qaa)) : run E_V39 H_V39 qbc 3000 (qdd c t62 t63 t64 f_0 f_1 f_2 f_3 f_4 f_5 f_6) = (cond (decide (t64 < t63)) (.chk (0 ≤ t64 ∧ t64 < (ln I t62)) (.chk (True) (.know True (cond (!(typP (gd I t62 t64.toNat))) (rt (vi (9 : Int)) []) (hd (qdd c t62 t63 (IntKind.wrap .i64 (t64 + (1 : Int))) f_0 f_1 f_2 f_3 f_4 f_5 f_6)))))) (hd (qdc c f_1 ((ln I f_1) : Int) (0 : Int) f_0 f_1 f_2 f_3 f_4 f_5 f_6))) := by kernel_rfl
theorem qhg (c : Den qah) (t73 : List (Den I)) (t74 : Int) (t75 : Int) (f_0 : ByteArray) (f_1 : List (Den I)) (f_2 : Int) (f_3 : List (Den I)) (f_4 : Int) (f_5 : Int) (f_6 : List (Den qaa)) : run E_V39 H_V39 qbc 3000 (qdc c t73 t74 t75 f_0 f_1 f_2 f_3 f_4 f_5 f_6) = (cond (decide (t75 < t74)) (.chk (0 ≤ t75 ∧ t75 < (ln I t73)) (.chk (True) (.chk (True) (.chk (0 ≤ (0 : Int) ∧ (0 : Int) ≤ t75 ∧ t75 ≤ ((ln I f_1) : Int)) (.chk (True) (.chk (True) (.chk (True) (.know True (.know (okD (.int .i64) (unlP (regC c (gd I t73 t75.toNat)) (10 : Int))) (.know True (.know (okD (.int .i64) (unlP (!(hasI (wn I f_1 (0 : Nat) (t75.toNat - (0 : Nat))) (gd I t73 t75.toNat))) (7 : Int))) (.know (okD (.int .i64) (fstF ([(unlP (regC c (gd I t73 t75.toNat)) (10 : Int)), (unlP (!(hasI (wn I f_1 (0 : Nat) (t75.toNat - (0 : Nat))) (gd I t73 t75.toNat))) (7 : Int))] : List (Den I)))) (cond ((fstF ([(unlP (regC c (gd I t73 t75.toNat)) (10 : Int)), (unlP (!(hasI (wn I f_1 (0 : Nat) (t75.toNat - (0 : Nat))) (gd I t73 t75.toNat))) (7 : Int))] : List (Den I))) != (0 : Int)) (rt (vi (fstF ([(unlP (regC c (gd I t73 t75.toNat)) (10 : Int)), (unlP (!(hasI (wn I f_1 (0 : Nat) (t75.toNat - (0 : Nat))) (gd I t73 t75.toNat))) (7 : Int))] : List (Den I)))) []) (hd (qdc c t73 t74 (IntKind.wrap .i64 (t75 + (1 : Int))) f_0 f_1 f_2 f_3 f_4 f_5 f_6))))))))))))))) (rt (vi (0 : Int)) [])) := by kernel_rfl
def hdB (f : MFn) : Bool := cond (cond (cond (decide (z f.2.2.2.2.1 < (0 : Int))) true (decide (z f.2.2.2.2.2.1 < (0 : Int)))) true (cond (z f.2.2.2.2.1 == (0 : Int)) (z f.2.2.2.2.2.1 != (0 : Int)) false)) true (cond (z f.2.2.2.2.1 != (0 : Int)) (decide ((ln I f.2.2.2.1 : Int) > (0 : Int))) false)
def hdP (f : MFn) (i : Nat) : Int := cond (!(rgM f (gd I f.2.1 i))) 10 (cond (hasI (wn I f.2.1 0 i) (gd I f.2.1 i)) 7 0)
def hdT (f : MFn) : Int := orE (tyE f.2.2.2.1) (qap (hdP f) (ln I f.2.1) 0)
def hdM (f : MFn) : Int := cond (hdB f) 3 (cond ((ln qaa f.2.2.2.2.2.2.1 : Int) == (0 : Int)) 4 (cond (cond (z f.2.2.1 != (0 : Int)) (!(typP f.2.2.1)) false) 9 (hdT f)))
def hdC (c : Chr) : Int := hdM c.2.1
theorem hd_head (f : MFn) : fstF ([unlP (cond (cond (cond (decide (z f.2.2.2.2.1 ≥ (0 : Int))) (decide (z f.2.2.2.2.2.1 ≥ (0 : Int))) false) (cond (decide (z f.2.2.2.2.1 > (0 : Int))) true (z f.2.2.2.2.2.1 == (0 : Int))) false) (cond (z f.2.2.2.2.1 == (0 : Int)) true ((ln I f.2.2.2.1 : Int) == (0 : Int))) false) 3, unlP (decide ((ln qaa f.2.2.2.2.2.2.1 : Int) > (0 : Int))) 4, unlP (cond (z f.2.2.1 == (0 : Int)) true (typP f.2.2.1)) 9] : List (Den I)) = cond (hdB f) 3 (cond ((ln qaa f.2.2.2.2.2.2.1 : Int) == (0 : Int)) 4 (cond (cond (z f.2.2.1 != (0 : Int)) (!(typP f.2.2.1)) false) 9 0)) := by
 have e1 : cond (cond (cond (decide (z f.2.2.2.2.1 ≥ (0 : Int))) (decide (z f.2.2.2.2.2.1 ≥ (0 : Int))) false) (cond (decide (z f.2.2.2.2.1 > (0 : Int))) true (z f.2.2.2.2.2.1 == (0 : Int))) false) (cond (z f.2.2.2.2.1 == (0 : Int)) true ((ln I f.2.2.2.1 : Int) == (0 : Int))) false = !(hdB f) := by
  have : (hdB f = true) ↔ ¬ (cond (cond (cond (decide (z f.2.2.2.2.1 ≥ (0 : Int))) (decide (z f.2.2.2.2.2.1 ≥ (0 : Int))) false) (cond (decide (z f.2.2.2.2.1 > (0 : Int))) true (z f.2.2.2.2.2.1 == (0 : Int))) false) (cond (z f.2.2.2.2.1 == (0 : Int)) true ((ln I f.2.2.2.1 : Int) == (0 : Int))) false = true) := by
   unfold hdB
   simp only [cond_iff, decide_eq_true_eq, beq_iff_eq, bne_iff_ne, ne_eq, true_and, and_true, Bool.false_eq_true, and_false, or_false]
   omega
  cases hb : hdB f
  ·rw [hb] at this
   have h2 := Classical.not_not.mp (fun h => absurd (this.mpr h) (by decide))
   rw [h2]; rfl
  ·rw [hb] at this
   have h2 := this.mp rfl
   rw [Bool.not_eq_true] at h2
   rw [h2]; rfl
 have e2 : decide ((ln qaa f.2.2.2.2.2.2.1 : Int) > (0 : Int)) = !((ln qaa f.2.2.2.2.2.2.1 : Int) == (0 : Int)) := by
  cases h : (ln qaa f.2.2.2.2.2.2.1 : Int) == 0 <;> simp at h ⊢ <;> omega
 rw [e1, e2]
 unfold bne
 cases hdB f <;> cases (ln qaa f.2.2.2.2.2.2.1 : Int) == (0 : Int) <;> cases z f.2.2.1 == (0 : Int) <;> cases typP f.2.2.1 <;> rfl
theorem machine_checker_head_l2 (c : Chr) (hc : okD qah c) : ∀ i, i ≤ ln I c.2.1.2.1 → RunI E_V39 (qdc c c.2.1.2.1 (ln I c.2.1.2.1 : Nat) i (tOf c.2.1.1) c.2.1.2.1 (z c.2.1.2.2.1) c.2.1.2.2.2.1 (z c.2.1.2.2.2.2.1) (z c.2.1.2.2.2.2.2.1) c.2.1.2.2.2.2.2.2.1) (qap (hdP c.2.1) (ln I c.2.1.2.1 - i) i) :=
 qba (.tree E_V39_ok (qhg ..) (by
  rw [Nat.sub_self, qap]
  simp only [sS, sL,  Nat.lt_irrefl]
  exact ⟨rfl, rfl⟩))
  fun i hi ih => .tree E_V39_ok (qhg ..) (by
   rw [sub1 hi]
   simp only [sS, sL,  hi, wrapS hi (qas hc.2.1.2.1.1)]
   refine ⟨⟨Int.le_refl _, Nat.le_of_lt hi⟩, fun _ _ _ _ => fe_both ?_ ih⟩
   unfold hdP regC
   rw [Nat.sub_zero]
   cases rgM c.2.1 (gd I c.2.1.2.1 i) <;> cases hasI (wn I c.2.1.2.1 0 i) (gd I c.2.1.2.1 i) <;> rfl)
theorem machine_checker_head_l0 (c : Chr) (hc : okD qah c) : ∀ i, i ≤ ln I c.2.1.2.2.2.1 → RunI E_V39 (qdd c c.2.1.2.2.2.1 (ln I c.2.1.2.2.2.1 : Nat) i (tOf c.2.1.1) c.2.1.2.1 (z c.2.1.2.2.1) c.2.1.2.2.2.1 (z c.2.1.2.2.2.2.1) (z c.2.1.2.2.2.2.2.1) c.2.1.2.2.2.2.2.2.1) (orE (qap (tyI c.2.1.2.2.2.1) (ln I c.2.1.2.2.2.1 - i) i) (qap (hdP c.2.1) (ln I c.2.1.2.1) 0)) :=
 qba (.tree E_V39_ok (qhh ..) (by
  rw [Nat.sub_self, qap]
  simp only [sS, sL,  Nat.lt_irrefl]
  exact machine_checker_head_l2 c hc 0 (Nat.zero_le _)))
  fun i hi ih => .tree E_V39_ok (qhh ..) (by
   rw [sub1 hi]
   simp only [sS, sL,  hi, wrapS hi (qas hc.2.1.2.2.2.1.1)]
   exact ⟨fun h1 => .oe (x := 9) (Bool.cond_pos h1) rfl, fun h1 => RunI.oe ih (Bool.cond_neg h1)⟩)
def k_machine_checker_head : Con := con [.d qah] I (fun x => True) fun x => hdC x.1
theorem m_machine_checker_head (c : Den qah) (h_c : okD qah c) (hp : True) : Runs E_V39 (start E_V39 qbc [(.tv qah c)]) (fun r_ h_ => r_ = (vi (hdC c)) ∧ h_ = []) := .tree E_V39_ok (machine_checker_head_t c) (by
 show Tre.wp (contL _ (IsI (hdM c.2.1))) _
 simp only [sS, implies_true]
 rw [hd_head c.2.1]
 refine fun _ _ _ _ => ⟨fun h => .of ?_, fun h => ?_⟩
 ·unfold hdM
  revert h
  cases hdB c.2.1 <;> cases (ln qaa c.2.1.2.2.2.2.2.2.1 : Int) == 0 <;> cases cond (z c.2.1.2.2.1 != (0 : Int)) (!(typP c.2.1.2.2.1)) false <;> intro h <;> first | rfl | exact absurd h (by decide)
 ·have h0 : hdB c.2.1 = false ∧ ((ln qaa c.2.1.2.2.2.2.2.2.1 : Int) == 0) = false ∧ cond (z c.2.1.2.2.1 != (0 : Int)) (!(typP c.2.1.2.2.1)) false = false := by
   revert h
   cases hdB c.2.1 <;> cases (ln qaa c.2.1.2.2.2.2.2.2.1 : Int) == 0 <;> cases cond (z c.2.1.2.2.1 != (0 : Int)) (!(typP c.2.1.2.2.1)) false <;> intro h <;> first | exact ⟨rfl, rfl, rfl⟩ | exact absurd h (by decide)
  exact (machine_checker_head_l0 c h_c 0 (Nat.zero_le _)).eq ((Bool.cond_neg h0.1).trans ((Bool.cond_neg h0.2.1).trans (Bool.cond_neg h0.2.2))))
theorem c_machine_checker_head : qal E_V39 qbc k_machine_checker_head.spec := qam fun x hx hp => ⟨rfl, m_machine_checker_head x.1 hx.1 hp⟩
def L_V39 : List (FuncId × FSpec) := [(qbc, k_machine_checker_head.spec)] ++ L_V38
theorem L_V39_ok : ∀ x ∈ L_V39, qal (ctx []) x.1 x.2 := by
 unfold L_V39
 simp only [List.cons_append, List.nil_append, List.forall_mem_cons]
 exact ⟨c_machine_checker_head, L_V38_ok⟩
end Burn.MTT
namespace Burn.MTT
open Go Go.BE Go.Proofs
set_option maxRecDepth 100000
set_option linter.unusedVariables false
set_option linter.unusedSimpArgs false
open Burn.Intn Burn.Ref
noncomputable abbrev E_V40 : Ctx := ctx L_V39
theorem E_V40_ok : EOK E_V40 := qbq L_V39_ok
def cuts_V40 : CutL := [([], 8, 0, [5, 26, 27, 28], [], []),
 ([], 8, 2, [5, 8, 26, 27, 28, 37, 38, 39], [], [])]
def rets_V40 : FuncId → List (Option Fx)
 | _ => []
def H_V40 : Hints := { cut := cutOf cuts_V40, ret := rets_V40 }
noncomputable def qfb (t26 : List (Den qaa)) (t27 : Int) (t28 : Int) (c_0 : List (Den qaf)) (c_1 : List (Den qab)) (c_2 : ByteArray) (c_3 : List (Den I)) (c_4 : Int) (c_5 : List (Den I)) (c_6 : Int) (c_7 : Int) (c_8 : List (Den qaa)) : Cfg := hcfg E_V40 qcl 0 [(5, (.ref 0 0)), (26, (.tv (.sl 136 qaa) t26)), (27, (vi t27)), (28, (vi t28))] [(0, ⟨(.cells [(.tv (.sl 64 qaf) c_0), (.tv (.sl 96 qab) c_1), (vs c_2), (.tv (.sl 8 I) c_3), (vi c_4), (.tv (.sl 8 I) c_5), (vi c_6), (vi c_7), (.tv (.sl 136 qaa) c_8)]), 0, [], false, none⟩)] 1
noncomputable def qia (t26 : List (Den qaa)) (t27 : Int) (t28 : Int) (t37 : List (Den qac)) (t38 : Int) (t39 : Int) (c_0 : List (Den qaf)) (c_1 : List (Den qab)) (c_2 : ByteArray) (c_3 : List (Den I)) (c_4 : Int) (c_5 : List (Den I)) (c_6 : Int) (c_7 : Int) (c_8 : List (Den qaa)) (b_0 : List (Den I)) (b_1 : List (Den qac)) (b_2 : Int) (b_3 : List (Den I)) (b_4 : List (Den I)) (b_5 : List (Den qae)) (b_6 : Int) : Cfg := hcfg E_V40 qcl 2 [(5, (.ref 0 0)), (8, (.ref 1 0)), (26, (.tv (.sl 136 qaa) t26)), (27, (vi t27)), (28, (vi t28)), (37, (.tv (.sl 80 qac) t37)), (38, (vi t38)), (39, (vi t39))] [(0, ⟨(.cells [(.tv (.sl 64 qaf) c_0), (.tv (.sl 96 qab) c_1), (vs c_2), (.tv (.sl 8 I) c_3), (vi c_4), (.tv (.sl 8 I) c_5), (vi c_6), (vi c_7), (.tv (.sl 136 qaa) c_8)]), 0, [], false, none⟩), (1, ⟨(.cells [(.tv (.sl 8 I) b_0), (.tv (.sl 80 qac) b_1), (vi b_2), (.tv (.sl 8 I) b_3), (.tv (.sl 8 I) b_4), (.tv (.sl 32 qae) b_5), (vi b_6)]), 1, [], false, none⟩)] 2
theorem machine_Check_t (m : Den qad) (f : Den qan) : run E_V40 H_V40 qcl 3000 (start E_V40 qcl [(.tv qad m), (.tv qan f)]) = (.chk (True) (.know (okD qaj (qeo m)) (cond ((z ((qeo m).1)) != (0 : Int)) (rt (vi (2 : Int)) []) (.chk (True) (.know (okD (.int .i64) (hdC (m, f, ()))) (cond ((hdC (m, f, ())) != (0 : Int)) (rt (vi (hdC (m, f, ()))) []) (hd (qfb f.2.2.2.2.2.2.1 ((ln qaa f.2.2.2.2.2.2.1) : Int) (0 : Int) m.1 m.2.1 (tOf f.1) f.2.1 (z f.2.2.1) f.2.2.2.1 (z f.2.2.2.2.1) (z f.2.2.2.2.2.1) f.2.2.2.2.2.2.1)))))))) := by kernel_rfl
theorem machine_Check_L0_t (t26 : List (Den qaa)) (t27 : Int) (t28 : Int) (c_0 : List (Den qaf)) (c_1 : List (Den qab)) (c_2 : ByteArray) (c_3 : List (Den I)) (c_4 : Int) (c_5 : List (Den I)) (c_6 : Int) (c_7 : Int) (c_8 : List (Den qaa)) : run E_V40 H_V40 qcl 3000 (qfb t26 t27 t28 c_0 c_1 c_2 c_3 c_4 c_5 c_6 c_7 c_8) = (cond (decide (t28 < t27)) (.chk (0 ≤ t28 ∧ t28 < (ln qaa t26)) (cond (decide (((ln I ((gd qaa t26 t28.toNat).1)) : Int) > (0 : Int))) (rt (vi (3 : Int)) []) (hd (qia t26 t27 t28 ((gd qaa t26 t28.toNat).2.1) ((ln qac ((gd qaa t26 t28.toNat).2.1)) : Int) (0 : Int) c_0 c_1 c_2 c_3 c_4 c_5 c_6 c_7 c_8 ((gd qaa t26 t28.toNat).1) ((gd qaa t26 t28.toNat).2.1) (z ((gd qaa t26 t28.toNat).2.2.1.1)) ((gd qaa t26 t28.toNat).2.2.1.2.1) ((gd qaa t26 t28.toNat).2.2.1.2.2.1) ((gd qaa t26 t28.toNat).2.2.1.2.2.2.1) (z ((gd qaa t26 t28.toNat).2.2.1.2.2.2.2.1)))))) (rt (vi (0 : Int)) [])) := by kernel_rfl
theorem machine_Check_L2_t (t26 : List (Den qaa)) (t27 : Int) (t28 : Int) (t37 : List (Den qac)) (t38 : Int) (t39 : Int) (c_0 : List (Den qaf)) (c_1 : List (Den qab)) (c_2 : ByteArray) (c_3 : List (Den I)) (c_4 : Int) (c_5 : List (Den I)) (c_6 : Int) (c_7 : Int) (c_8 : List (Den qaa)) (b_0 : List (Den I)) (b_1 : List (Den qac)) (b_2 : Int) (b_3 : List (Den I)) (b_4 : List (Den I)) (b_5 : List (Den qae)) (b_6 : Int) : run E_V40 H_V40 qcl 3000 (qia t26 t27 t28 t37 t38 t39 c_0 c_1 c_2 c_3 c_4 c_5 c_6 c_7 c_8 b_0 b_1 b_2 b_3 b_4 b_5 b_6) = (cond (decide (t39 < t38)) (.chk (0 ≤ t39 ∧ t39 < (ln qac t37)) (.chk (True) (.know (okD (.int .i64) (insC ((c_0, c_1, ()), (c_2, c_3, c_4, c_5, c_6, c_7, c_8, ()), ()) (gd qac t37 t39.toNat))) (cond ((insC ((c_0, c_1, ()), (c_2, c_3, c_4, c_5, c_6, c_7, c_8, ()), ()) (gd qac t37 t39.toNat)) != (0 : Int)) (rt (vi (insC ((c_0, c_1, ()), (c_2, c_3, c_4, c_5, c_6, c_7, c_8, ()), ()) (gd qac t37 t39.toNat))) []) (hd (qia t26 t27 t28 t37 t38 (IntKind.wrap .i64 (t39 + (1 : Int))) c_0 c_1 c_2 c_3 c_4 c_5 c_6 c_7 c_8 b_0 b_1 b_2 b_3 b_4 b_5 b_6)))))) (.chk (okSg ((c_0, c_1, ()), (c_2, c_3, c_4, c_5, c_6, c_7, c_8, ()), ()).1) (.know (okD (.int .i64) (tmEc ((c_0, c_1, ()), (c_2, c_3, c_4, c_5, c_6, c_7, c_8, ()), ()) (b_2, b_3, b_4, b_5, b_6, ()))) (cond ((tmEc ((c_0, c_1, ()), (c_2, c_3, c_4, c_5, c_6, c_7, c_8, ()), ()) (b_2, b_3, b_4, b_5, b_6, ())) != (0 : Int)) (rt (vi (tmEc ((c_0, c_1, ()), (c_2, c_3, c_4, c_5, c_6, c_7, c_8, ()), ()) (b_2, b_3, b_4, b_5, b_6, ()))) []) (hd (qfb t26 t27 (IntKind.wrap .i64 (t28 + (1 : Int))) c_0 c_1 c_2 c_3 c_4 c_5 c_6 c_7 c_8)))))) := by kernel_rfl
def mbJ (m : Md) (f : MFn) (l : List Ins) (k : Nat) : Int := insR m f (gd qac l k)
def mbK (m : Md) (f : MFn) (b : Blk) : Int := cond (decide ((ln I b.1 : Int) > (0 : Int))) 3 (orE (qap (mbJ m f b.2.1) (ln qac b.2.1) 0) (tmE m f b.2.2.1))
def mbI (m : Md) (f : MFn) (i : Nat) : Int := mbK m f (gd qaa f.2.2.2.2.2.2.1 i)
def mchF (m : Md) (f : MFn) : Int := cond (z (qeo m).1 != (0 : Int)) 2 (orE (hdM f) (qap (mbI m f) (ln qaa f.2.2.2.2.2.2.1) 0))
theorem nz {e : Int} (h : (e != 0) = false) : e = 0 := by simpa using h
theorem orE_assoc (a b c : Int) : orE (orE a b) c = orE a (orE b c) := by
 unfold orE
 cases h : a == 0
 ·rw [cond_false, h]; rfl
 ·rfl
theorem firstE_or {D : Nat → Int} {n i : Nat} : qap D (n + 1) i = orE (D i) (qap D n (i + 1)) := rfl
theorem orD_ok {a b : Dg} (h : errB (orD a b) = false) : errB a = false ∧ errB b = false := by
 unfold orD at h
 cases ha : errB a <;> rw [ha] at h
 ·exact ⟨rfl, h⟩
 ·exact absurd (show errB a = false from h) (by rw [ha]; decide)
theorem firstD_ok {D : Nat → Dg} : ∀ {n i : Nat}, errB (qco D n i) = false → ∀ j, i ≤ j → j < i + n → errB (D j) = false
 | 0, i, _, j, h1, h2 => by omega
 | n + 1, i, h, j, h1, h2 => by
  obtain ⟨h3, h4⟩ := orD_ok (a := D i) h
  rcases Nat.eq_or_lt_of_le h1 with rfl | h5
  ·exact h3
  ·exact firstD_ok h4 j h5 (by omega)
theorem firstE_ok {D : Nat → Int} : ∀ {n i : Nat}, qap D n i = 0 → ∀ j, i ≤ j → j < i + n → D j = 0
 | 0, i, _, j, h1, h2 => by omega
 | n + 1, i, h, j, h1, h2 => by
  unfold qap at h
  cases h3 : D i == 0 <;> rw [h3] at h
  ·have h4 : D i = 0 := h
   rw [h4] at h3
   exact absurd h3 (by decide)
  ·rcases Nat.eq_or_lt_of_le h1 with rfl | h5
   ·exact eq_of_beq h3
   ·exact firstE_ok h j h5 (by omega)
theorem orE_ok {a b : Int} (h : orE a b = 0) : a = 0 ∧ b = 0 := by
 unfold orE at h
 cases h1 : a == 0 <;> rw [h1] at h
 ·have h2 : a = 0 := h
  rw [h2] at h1
  exact absurd h1 (by decide)
 ·exact ⟨eq_of_beq h1, h⟩
theorem qea {b : Bool} {k e : Int} (hk : k ≠ 0) (h : cond b k e = 0) : b = false ∧ e = 0 := by
 cases b
 ·exact ⟨rfl, h⟩
 ·exact absurd h hk
theorem mod_ok {m : Md} (h : (z (qeo m).1 != (0 : Int)) = false) : errB (modD m) = false := by
 unfold qeo at h
 cases h1 : errB (modD m)
 ·rfl
 ·rw [h1] at h
  have h2 : (z (modD m).1 != (0 : Int)) = false := h
  rw [← h1]
  exact h2
theorem sg_ok {m : Md} (h : errB (modD m) = false) : okSg m := by
 have h1 := (orD_ok (orD_ok h).2).1
 unfold sigD at h1
 intro j hj i hi
 cases hc : !(decide ((ln qab m.2.1 : Int) ≤ 32)) <;> rw [hc] at h1
 ·have h2 := firstD_ok h1 j (Nat.zero_le _) (by omega)
  have h3 : sigI m.2.1 j = 0 := by
   have : (!(sigI m.2.1 j == 0)) = false := h2
   simpa using this
  have h4 := (qea (k := 7) (by decide) (qea (k := 6) (by decide) h3).2).2
  have h5 : sigU (gd qab m.2.1 j) = 0 := by
   unfold sigT at h4
   cases hr : z (gd qab m.2.1 j).2.2.1 == (0 : Int) <;> rw [hr] at h4
   ·exact (qea (k := 9) (by decide) h4).2
   ·exact h4
  have h6 : sigV (gd qab m.2.1 j) = 0 := by
   unfold sigU at h5
   cases hr : decide ((ln I (gd qab m.2.1 j).2.1 : Int) ≤ (6 : Int)) <;> rw [hr] at h5
   ·exact absurd h5 (show ¬ (11 : Int) = 0 by decide)
   ·exact (qea (k := 11) (by decide) h5).2
  have h7 := firstE_ok (orE_ok h6).2 i (Nat.zero_le _) (by omega)
  have h8 := (qea (k := 10) (by decide) h7).1
  have h9 : regP (gd qab m.2.1 j) (gd I (gd qab m.2.1 j).2.1 i) = true := by simpa using h8
  exact qfz h9
 ·exact Bool.noConfusion (show (true : Bool) = false from h1)
theorem machine_Check_l2 (m : Md) (f : MFn) (b : Blk) (i : Nat) (e : Int) (hf : okD qan f) (hb : okD qaa b) (hm : okSg m) (hi : i < ln qaa f.2.2.2.2.2.2.1)
  (ih : RunI E_V40 (qfb f.2.2.2.2.2.2.1 (ln qaa f.2.2.2.2.2.2.1 : Nat) (i + 1 : Nat) m.1 m.2.1 (tOf f.1) f.2.1 (z f.2.2.1) f.2.2.2.1 (z f.2.2.2.2.1) (z f.2.2.2.2.2.1) f.2.2.2.2.2.2.1) e) : ∀ k, k ≤ ln qac b.2.1 → RunI E_V40 (qia f.2.2.2.2.2.2.1 (ln qaa f.2.2.2.2.2.2.1 : Nat) i b.2.1 (ln qac b.2.1 : Nat) k m.1 m.2.1 (tOf f.1) f.2.1 (z f.2.2.1) f.2.2.2.1 (z f.2.2.2.2.1) (z f.2.2.2.2.2.1) f.2.2.2.2.2.2.1 b.1 b.2.1 (z b.2.2.1.1) b.2.2.1.2.1 b.2.2.1.2.2.1 b.2.2.1.2.2.2.1 (z b.2.2.1.2.2.2.2.1)) (orE (qap (mbJ m f b.2.1) (ln qac b.2.1 - k) k) (orE (tmE m f b.2.2.1) e)) :=
 qba (.tree E_V40_ok (machine_Check_L2_t ..) (by
  rw [Nat.sub_self, qap, show orE 0 (orE (tmE m f b.2.2.1) e) = orE (tmE m f b.2.2.1) e from rfl]
  simp only [sS, sL,  Nat.lt_irrefl, wrapS hi (qas hf.2.2.2.2.2.2.1.1)]
  exact ⟨hm, fun _ _ => ⟨fun h => .of (orE_hit5 h), fun h => RunI.eq ih (orE_miss5 h)⟩⟩))
  fun k hk ihk => .tree E_V40_ok (machine_Check_L2_t ..) (by
   rw [sub1 hk]
   simp only [sS, sL,  hk, wrapS hk (qas hb.2.1.1)]
   exact fun _ => ⟨fun h => .oe (e := mbJ m f b.2.1) rfl (by simpa [bne] using h), fun h => RunI.oe (e := mbJ m f b.2.1) ihk (nz h)⟩)
theorem machine_Check_l0 (m : Md) (f : MFn) (hf : okD qan f) (hm : okSg m) : ∀ i, i ≤ ln qaa f.2.2.2.2.2.2.1 → RunI E_V40 (qfb f.2.2.2.2.2.2.1 (ln qaa f.2.2.2.2.2.2.1 : Nat) i m.1 m.2.1 (tOf f.1) f.2.1 (z f.2.2.1) f.2.2.2.1 (z f.2.2.2.2.1) (z f.2.2.2.2.2.1) f.2.2.2.2.2.2.1) (qap (mbI m f) (ln qaa f.2.2.2.2.2.2.1 - i) i) :=
 qba (.tree E_V40_ok (machine_Check_L0_t ..) (by
  rw [Nat.sub_self, qap]
  simp only [sS, sL,  Nat.lt_irrefl]
  exact ⟨rfl, rfl⟩))
  fun i hi ih => .tree E_V40_ok (machine_Check_L0_t ..) (by
   have hb := ok_gd hf.2.2.2.2.2.2.1 hi
   have go := machine_Check_l2 m f (gd qaa f.2.2.2.2.2.2.1 i) i _ hf hb hm hi ih 0 (Nat.zero_le _)
   rw [sub1 hi]
   simp only [sS, sL,  hi]
   refine ⟨fun h => .fe (x := 3) (Bool.cond_pos h) rfl, fun h => RunI.eq go ?_⟩
   rw [firstE_or, show mbI m f i = _ from Bool.cond_neg h, orE_assoc]
   rfl)
def k_machine_Check : Con := con [.d qad, .d qan] I (fun x => True) fun x => mchF x.1 x.2.1
theorem m_machine_Check (m : Den qad) (f : Den qan) (h_m : okD qad m) (h_f : okD qan f) (hp : True) : Runs E_V40 (start E_V40 qcl [(.tv qad m), (.tv qan f)]) (fun r_ h_ => r_ = (vi (mchF m f)) ∧ h_ = []) := .tree E_V40_ok (machine_Check_t m f) (by
 show Tre.wp (contL _ (IsI (mchF m f))) _
 simp only [sS, implies_true]
 refine fun _ => ⟨fun h => .of (Bool.cond_pos h), fun h => ?_⟩
 have hm := sg_ok (mod_ok h)
 have hE : mchF m f = orE (hdM f) (qap (mbI m f) (ln qaa f.2.2.2.2.2.2.1) 0) := Bool.cond_neg h
 rw [hE]
 exact fun _ => ⟨fun h1 => .of (orE_hit5 h1), fun h1 => (machine_Check_l0 m f h_f hm 0 (Nat.zero_le _)).eq (orE_miss5 h1)⟩)
theorem c_machine_Check : qal E_V40 qcl k_machine_Check.spec := qam fun x hx hp => ⟨rfl, m_machine_Check x.1 x.2.1 hx.1 hx.2.1 hp⟩
def L_V40 : List (FuncId × FSpec) := [(qcl, k_machine_Check.spec)] ++ L_V39
theorem L_V40_ok : ∀ x ∈ L_V40, qal (ctx []) x.1 x.2 := by
 unfold L_V40
 simp only [List.cons_append, List.nil_append, List.forall_mem_cons]
 exact ⟨c_machine_Check, L_V39_ok⟩
end Burn.MTT
namespace Burn.MTT
open Go Go.BE Go.Proofs
set_option maxRecDepth 100000
set_option linter.unusedVariables false
set_option linter.unusedSimpArgs false
open Burn.Intn Burn.Ref
def mrg_V41 : FuncId → List Nat
 | 15 => [13]
 | _ => []
noncomputable abbrev E_V41 : Ctx := { ctx L_V40 with mrg := mrg_V41 }
theorem E_V41_ok : EOK E_V41 := have h : EOK (ctx L_V40) := qbq L_V40_ok; ⟨h.ty, h.env, h.fns, h.mixed⟩
def cuts_V41 : CutL := [([], 26, 0, [0, 1, 5, 6], [], [])]
def rets_V41 : FuncId → List (Option Fx)
 | 26 => [some (.dat (.arr 42 I))]
 | _ => []
def H_V41 : Hints := { cut := cutOf cuts_V41, ret := rets_V41 }
noncomputable def qed (t5 : Den (.arr 42 I)) (t6 : Int) (t0 : Den (.arr 42 I)) (slow : Den (.arr 42 I)) : Cfg := hcfg E_V41 qcd 0 [(0, (.tref 0 0 [] (0 : Nat) [])), (1, (.tref 1 1 [] (0 : Nat) [])), (5, (.tv (.arr 42 I) t5)), (6, (vi t6))] [(0, ⟨(.arr 0 336 (.arr 42 I) ([t0] : List (Den (.arr 42 I)))), 0, [], false, none⟩), (1, ⟨(.arr 0 336 (.arr 42 I) ([slow] : List (Den (.arr 42 I)))), 1, [], false, none⟩)] 2
theorem machine_latencies_t : run E_V41 H_V41 qcd 3000 (start E_V41 qcd []) = (.chk ((0 : Nat) < (1 : Nat)) (.chk ((0 : Nat) < (1 : Nat)) (hd (qed ((0 : Int), ((0 : Int), ((0 : Int), ((0 : Int), ((0 : Int), ((0 : Int), ((0 : Int), ((3 : Int), ((0 : Int), ((0 : Int), ((0 : Int), ((0 : Int), ((0 : Int), ((0 : Int), ((8 : Int), ((8 : Int), ((0 : Int), ((0 : Int), ((0 : Int), ((0 : Int), ((0 : Int), ((0 : Int), ((0 : Int), ((0 : Int), ((0 : Int), ((0 : Int), ((0 : Int), ((0 : Int), ((3 : Int), ((0 : Int), ((5 : Int), ((0 : Int), ((0 : Int), ((0 : Int), ((0 : Int), ((0 : Int), ((0 : Int), ((0 : Int), ((0 : Int), ((0 : Int), ((0 : Int), ((3 : Int), ())))))))))))))))))))))))))))))))))))))))))) (0 : Int) ((0 : Int), ((0 : Int), ((0 : Int), ((0 : Int), ((0 : Int), ((0 : Int), ((0 : Int), ((0 : Int), ((0 : Int), ((0 : Int), ((0 : Int), ((0 : Int), ((0 : Int), ((0 : Int), ((0 : Int), ((0 : Int), ((0 : Int), ((0 : Int), ((0 : Int), ((0 : Int), ((0 : Int), ((0 : Int), ((0 : Int), ((0 : Int), ((0 : Int), ((0 : Int), ((0 : Int), ((0 : Int), ((0 : Int), ((0 : Int), ((0 : Int), ((0 : Int), ((0 : Int), ((0 : Int), ((0 : Int), ((0 : Int), ((0 : Int), ((0 : Int), ((0 : Int), ((0 : Int), ((0 : Int), ((0 : Int), ())))))))))))))))))))))))))))))))))))))))))) ((0 : Int), ((0 : Int), ((0 : Int), ((0 : Int), ((0 : Int), ((0 : Int), ((0 : Int), ((3 : Int), ((0 : Int), ((0 : Int), ((0 : Int), ((0 : Int), ((0 : Int), ((0 : Int), ((8 : Int), ((8 : Int), ((0 : Int), ((0 : Int), ((0 : Int), ((0 : Int), ((0 : Int), ((0 : Int), ((0 : Int), ((0 : Int), ((0 : Int), ((0 : Int), ((0 : Int), ((0 : Int), ((3 : Int), ((0 : Int), ((5 : Int), ((0 : Int), ((0 : Int), ((0 : Int), ((0 : Int), ((0 : Int), ((0 : Int), ((0 : Int), ((0 : Int), ((0 : Int), ((0 : Int), ((3 : Int), ())))))))))))))))))))))))))))))))))))))))))))))) := by kernel_rfl
theorem machine_latencies_L0_t (t5 : Den (.arr 42 I)) (t6 : Int) (t0 : Den (.arr 42 I)) (slow : Den (.arr 42 I)) : run E_V41 H_V41 qcd 3000 (qed t5 t6 t0 slow) = (cond (decide (t6 < (42 : Int))) (.chk (0 ≤ t6 ∧ t6 < (42 : Nat)) (.chk (0 ≤ t6 ∧ t6 < (42 : Nat)) (.chk ((0 : Nat) < (1 : Nat)) (.chk (t6.toNat < 42) (hd (qed t5 (IntKind.wrap .i64 (t6 + (1 : Int))) t0 (vset 42 slow t6.toNat (if (1 : Int) > (z (vget (dz I) 42 t5 t6.toNat)) then (1 : Int) else (z (vget (dz I) 42 t5 t6.toNat)))))))))) (.chk ((0 : Nat) < (1 : Nat)) (.chk ((0 : Nat) < (1 : Nat)) (.chk ((0 : Nat) < (1 : Nat)) (rt (.tv (.arr 42 I) slow) []))))) := by kernel_rfl
theorem machine_Latency_t (x : Den qao) (op : Int) : run E_V41 H_V41 qet 3000 (start E_V41 qet [(.tv qao x), (vi op)]) = (cond (cond (decide (op < (0 : Int))) true (decide (op ≥ ((ln I x.2.2.1) : Int)))) (rt (vi (1 : Int)) []) (.chk (0 ≤ op ∧ op < (ln I x.2.2.1)) (rt (vi (z (gd I x.2.2.1 op.toNat))) []))) := by kernel_rfl
def slowA : Den (.arr 42 I) := ((0 : Int), ((0 : Int), ((0 : Int), ((0 : Int), ((0 : Int), ((0 : Int), ((0 : Int), ((3 : Int), ((0 : Int), ((0 : Int), ((0 : Int), ((0 : Int), ((0 : Int), ((0 : Int), ((8 : Int), ((8 : Int), ((0 : Int), ((0 : Int), ((0 : Int), ((0 : Int), ((0 : Int), ((0 : Int), ((0 : Int), ((0 : Int), ((0 : Int), ((0 : Int), ((0 : Int), ((0 : Int), ((3 : Int), ((0 : Int), ((5 : Int), ((0 : Int), ((0 : Int), ((0 : Int), ((0 : Int), ((0 : Int), ((0 : Int), ((0 : Int), ((0 : Int), ((0 : Int), ((0 : Int), ((3 : Int), ()))))))))))))))))))))))))))))))))))))))))))
def latA : Den (.arr 42 I) := ((1 : Int), ((1 : Int), ((1 : Int), ((1 : Int), ((1 : Int), ((1 : Int), ((1 : Int), ((3 : Int), ((1 : Int), ((1 : Int), ((1 : Int), ((1 : Int), ((1 : Int), ((1 : Int), ((8 : Int), ((8 : Int), ((1 : Int), ((1 : Int), ((1 : Int), ((1 : Int), ((1 : Int), ((1 : Int), ((1 : Int), ((1 : Int), ((1 : Int), ((1 : Int), ((1 : Int), ((1 : Int), ((3 : Int), ((1 : Int), ((5 : Int), ((1 : Int), ((1 : Int), ((1 : Int), ((1 : Int), ((1 : Int), ((1 : Int), ((1 : Int), ((1 : Int), ((1 : Int), ((1 : Int), ((3 : Int), ()))))))))))))))))))))))))))))))))))))))))))
def latS : Nat → Nat → Den (.arr 42 I) → Den (.arr 42 I)
 | 0, _, s => s
 | n + 1, i, s => latS n (i + 1) (vset 42 s i (if (1 : Int) > z (vget (dz I) 42 slowA i) then (1 : Int) else z (vget (dz I) 42 slowA i)))
theorem machine_latencies_l (t0 : Den (.arr 42 I)) : ∀ i : Nat, i ≤ (42 : Nat) → ∀ s, Runs E_V41 (qed slowA i t0 s) (fun r h => r = .tv (.arr 42 I) (latS (42 - i) i s) ∧ h = []) :=
 qba (fun s => .tree E_V41_ok (machine_latencies_L0_t ..) (by
  rw [Nat.sub_self, latS]
  simp only [sS, sL,  Nat.lt_irrefl]
  exact fun h => absurd h (by decide)))
  fun i hi ih s => .tree E_V41_ok (machine_latencies_L0_t ..) (by
   rw [sub1 hi, latS]
   simp only [sS, sL,  hi, wrapS hi (show (42 : Nat) < 9223372036854775807 by decide)]
   exact ⟨fun _ => ih _, fun h => absurd (of_decide_eq_false h) (by omega)⟩)
def k_machine_latencies : Con := con [] (.arr 42 I) (fun x => True) fun x => latA
theorem m_machine_latencies (hp : True) : Runs E_V41 (start E_V41 qcd []) (fun r_ h_ => r_ = (.tv (.arr 42 I) (latA)) ∧ h_ = []) := .tree E_V41_ok (machine_latencies_t) (by
 simp only [sS, implies_true]
 exact (machine_latencies_l _ 0 (Nat.zero_le _) slowA))
theorem c_machine_latencies : qal E_V41 qcd k_machine_latencies.spec := qam fun x hx hp => ⟨rfl, m_machine_latencies hp⟩
def latL : List Int := [1, 1, 1, 1, 1, 1, 1, 3, 1, 1, 1, 1, 1, 1, 8, 8, 1, 1, 1, 1, 1, 1, 1, 1, 1, 1, 1, 1, 3, 1, 5, 1, 1, 1, 1, 1, 1, 1, 1, 1, 1, 3]
def defF : Den qao := ((2 : Int), (16 : Int), latL, ())
def okM (x : Den qao) : Bool := cond (cond (witP x.1 1 8) (witP x.2.1 8 64) false) (decide ((ln I x.2.2.1 : Int) ≤ (64 : Int))) false
def latOK : List (Den I) → Bool
 | [] => true
 | y :: l => cond (witP (z y) 1 100) (latOK l) false
def valF (x : Den qao) : Bool := cond (latOK x.2.2.1) (okM x) false
def latcF (x : Den qao) (op : Int) : Int := (cond (cond (decide (op < (0 : Int))) true (decide (op ≥ ((ln I x.2.2.1) : Int)))) (1 : Int) (z (gd I x.2.2.1 op.toNat)))

def k_machine_Latency : Con := con [.d qao, .d I] I (fun x => True) fun x => latcF x.1 x.2.1
theorem m_machine_Latency (x : Den qao) (op : Int) (h_x : okD qao x) (h_op : okD I op) (hp : True) : Runs E_V41 (start E_V41 qet [(.tv qao x), (vi op)]) (fun r_ h_ => r_ = (vi (latcF x op)) ∧ h_ = []) := .tree E_V41_ok (machine_Latency_t x op) (by
 show Tre.wp (Qv _ (fun x_ => (vi x_)) (latcF x op)) _
 unfold latcF
 refine qag (fun h1 => ⟨rfl, rfl⟩) (fun h1 => ?_)
 refine ⟨by first | omega | assumption | exact hp.1 | exact hp.2 | exact hp.2.1 | (simp_all; done) | (simp_all; omega), fun _ => ?_⟩
 exact ⟨rfl, rfl⟩)
theorem c_machine_Latency : qal E_V41 qet k_machine_Latency.spec := qam fun x hx hp => ⟨rfl, m_machine_Latency x.1 x.2.1 hx.1 hx.2.1 hp⟩
def L_V41 : List (FuncId × FSpec) := [(qcd, k_machine_latencies.spec), (qet, k_machine_Latency.spec)] ++ L_V40
theorem L_V41_ok : ∀ x ∈ L_V41, qal (ctx []) x.1 x.2 := by
 unfold L_V41
 simp only [List.cons_append, List.nil_append, List.forall_mem_cons]
 exact ⟨c_machine_latencies, c_machine_Latency, L_V40_ok⟩
end Burn.MTT
namespace Burn.MTT
open Go Go.BE Go.Proofs
set_option maxRecDepth 100000
set_option linter.unusedVariables false
set_option linter.unusedSimpArgs false
open Burn.Intn Burn.Ref
def mrg_V42 : FuncId → List Nat
 | 14 => [23, 29]
 | _ => []
noncomputable abbrev E_V42 : Ctx := { ctx L_V41 with mrg := mrg_V42 }
theorem E_V42_ok : EOK E_V42 := have h : EOK (ctx L_V41) := qbq L_V41_ok; ⟨h.ty, h.env, h.fns, h.mixed⟩
def cuts_V42 : CutL := [([], 14, 0, [1, 6, 7, 8], [], [])]
def rets_V42 : FuncId → List (Option Fx)
 | 12 => [some (.dat qao)]
 | _ => []
def H_V42 : Hints := { cut := cutOf cuts_V42, ret := rets_V42 }
noncomputable def qdp (x : Den qao) (t6 : List (Den I)) (t7 : Int) (t8 : Int) : Cfg := hcfg E_V42 qbu 0 [(1, (.rtp qao x)), (6, (.tv (.sl 8 I) t6)), (7, (vi t7)), (8, (vi t8))] [] 0
theorem machine_ValidModel_t (x : Den qao) : run E_V42 H_V42 qbu 3000 (start E_V42 qbu [(.tv qao x)]) = (hd (qdp x x.2.2.1 ((ln I x.2.2.1) : Int) (0 : Int))) := by kernel_rfl
theorem machine_ValidModel_L0_t (x : Den qao) (t6 : List (Den I)) (t7 : Int) (t8 : Int) : run E_V42 H_V42 qbu 3000 (qdp x t6 t7 t8) = (cond (decide (t8 < t7)) (.chk (0 ≤ t8 ∧ t8 < (ln I t6)) (.chk (True) (.know True (cond (!(witP (gd I t6 t8.toNat) (1 : Int) (100 : Int))) (rt (vb false) []) (hd (qdp x t6 t7 (IntKind.wrap .i64 (t8 + (1 : Int))))))))) (.chk (True) (.chk (((witP x.1 (1 : Int) (8 : Int)) = true → (True))) (.know True (rt (vb (cond (cond (witP x.1 (1 : Int) (8 : Int)) (witP x.2.1 (8 : Int) (64 : Int)) false) (decide (((ln I x.2.2.1) : Int) ≤ (64 : Int))) false)) []))))) := by kernel_rfl
theorem machine_Default_t : run E_V42 H_V42 qeu 3000 (start E_V42 qeu []) = (.chk (True) (.know (okD (.arr 42 I) (latA)) (rt (.tv qao ((2 : Int), (16 : Int), ([(latA).1, ((latA).2).1, (((latA).2).2).1, ((((latA).2).2).2).1, (((((latA).2).2).2).2).1, ((((((latA).2).2).2).2).2).1, (((((((latA).2).2).2).2).2).2).1, ((((((((latA).2).2).2).2).2).2).2).1, (((((((((latA).2).2).2).2).2).2).2).2).1, ((((((((((latA).2).2).2).2).2).2).2).2).2).1, (((((((((((latA).2).2).2).2).2).2).2).2).2).2).1, ((((((((((((latA).2).2).2).2).2).2).2).2).2).2).2).1, (((((((((((((latA).2).2).2).2).2).2).2).2).2).2).2).2).1, ((((((((((((((latA).2).2).2).2).2).2).2).2).2).2).2).2).2).1, (((((((((((((((latA).2).2).2).2).2).2).2).2).2).2).2).2).2).2).1, ((((((((((((((((latA).2).2).2).2).2).2).2).2).2).2).2).2).2).2).2).1, (((((((((((((((((latA).2).2).2).2).2).2).2).2).2).2).2).2).2).2).2).2).1, ((((((((((((((((((latA).2).2).2).2).2).2).2).2).2).2).2).2).2).2).2).2).2).1, (((((((((((((((((((latA).2).2).2).2).2).2).2).2).2).2).2).2).2).2).2).2).2).2).1, ((((((((((((((((((((latA).2).2).2).2).2).2).2).2).2).2).2).2).2).2).2).2).2).2).2).1, (((((((((((((((((((((latA).2).2).2).2).2).2).2).2).2).2).2).2).2).2).2).2).2).2).2).2).1, ((((((((((((((((((((((latA).2).2).2).2).2).2).2).2).2).2).2).2).2).2).2).2).2).2).2).2).2).1, (((((((((((((((((((((((latA).2).2).2).2).2).2).2).2).2).2).2).2).2).2).2).2).2).2).2).2).2).2).1, ((((((((((((((((((((((((latA).2).2).2).2).2).2).2).2).2).2).2).2).2).2).2).2).2).2).2).2).2).2).2).1, (((((((((((((((((((((((((latA).2).2).2).2).2).2).2).2).2).2).2).2).2).2).2).2).2).2).2).2).2).2).2).2).1, ((((((((((((((((((((((((((latA).2).2).2).2).2).2).2).2).2).2).2).2).2).2).2).2).2).2).2).2).2).2).2).2).2).1, (((((((((((((((((((((((((((latA).2).2).2).2).2).2).2).2).2).2).2).2).2).2).2).2).2).2).2).2).2).2).2).2).2).2).1, ((((((((((((((((((((((((((((latA).2).2).2).2).2).2).2).2).2).2).2).2).2).2).2).2).2).2).2).2).2).2).2).2).2).2).2).1, (((((((((((((((((((((((((((((latA).2).2).2).2).2).2).2).2).2).2).2).2).2).2).2).2).2).2).2).2).2).2).2).2).2).2).2).2).1, ((((((((((((((((((((((((((((((latA).2).2).2).2).2).2).2).2).2).2).2).2).2).2).2).2).2).2).2).2).2).2).2).2).2).2).2).2).2).1, (((((((((((((((((((((((((((((((latA).2).2).2).2).2).2).2).2).2).2).2).2).2).2).2).2).2).2).2).2).2).2).2).2).2).2).2).2).2).2).1, ((((((((((((((((((((((((((((((((latA).2).2).2).2).2).2).2).2).2).2).2).2).2).2).2).2).2).2).2).2).2).2).2).2).2).2).2).2).2).2).2).1, (((((((((((((((((((((((((((((((((latA).2).2).2).2).2).2).2).2).2).2).2).2).2).2).2).2).2).2).2).2).2).2).2).2).2).2).2).2).2).2).2).2).1, ((((((((((((((((((((((((((((((((((latA).2).2).2).2).2).2).2).2).2).2).2).2).2).2).2).2).2).2).2).2).2).2).2).2).2).2).2).2).2).2).2).2).2).1, (((((((((((((((((((((((((((((((((((latA).2).2).2).2).2).2).2).2).2).2).2).2).2).2).2).2).2).2).2).2).2).2).2).2).2).2).2).2).2).2).2).2).2).2).1, ((((((((((((((((((((((((((((((((((((latA).2).2).2).2).2).2).2).2).2).2).2).2).2).2).2).2).2).2).2).2).2).2).2).2).2).2).2).2).2).2).2).2).2).2).2).1, (((((((((((((((((((((((((((((((((((((latA).2).2).2).2).2).2).2).2).2).2).2).2).2).2).2).2).2).2).2).2).2).2).2).2).2).2).2).2).2).2).2).2).2).2).2).2).1, ((((((((((((((((((((((((((((((((((((((latA).2).2).2).2).2).2).2).2).2).2).2).2).2).2).2).2).2).2).2).2).2).2).2).2).2).2).2).2).2).2).2).2).2).2).2).2).2).1, (((((((((((((((((((((((((((((((((((((((latA).2).2).2).2).2).2).2).2).2).2).2).2).2).2).2).2).2).2).2).2).2).2).2).2).2).2).2).2).2).2).2).2).2).2).2).2).2).2).1, ((((((((((((((((((((((((((((((((((((((((latA).2).2).2).2).2).2).2).2).2).2).2).2).2).2).2).2).2).2).2).2).2).2).2).2).2).2).2).2).2).2).2).2).2).2).2).2).2).2).2).1, (((((((((((((((((((((((((((((((((((((((((latA).2).2).2).2).2).2).2).2).2).2).2).2).2).2).2).2).2).2).2).2).2).2).2).2).2).2).2).2).2).2).2).2).2).2).2).2).2).2).2).2).1, ((((((((((((((((((((((((((((((((((((((((((latA).2).2).2).2).2).2).2).2).2).2).2).2).2).2).2).2).2).2).2).2).2).2).2).2).2).2).2).2).2).2).2).2).2).2).2).2).2).2).2).2).2).1] : List (Den I)), ())) []))) := by kernel_rfl
theorem machine_ValidModel_l (x : Den qao) (hl : ln I x.2.2.1 < 9223372036854775807) : ∀ i, i ≤ ln I x.2.2.1 → Runs E_V42 (qdp x x.2.2.1 (ln I x.2.2.1 : Nat) i) (fun r h => r = vb (cond (latOK (x.2.2.1.drop i)) (okM x) false) ∧ h = []) :=
 qba (.tree E_V42_ok (machine_ValidModel_L0_t ..) (by
  rw [show x.2.2.1.drop (ln I x.2.2.1) = [] from drop_ln]
  simp only [sS, sL,  Nat.lt_irrefl, latOK, cond_true]
  rfl))
  fun i hi ih => .tree E_V42_ok (machine_ValidModel_L0_t ..) (by
   rw [show x.2.2.1.drop i = gd I x.2.2.1 i :: x.2.2.1.drop (i + 1) from qgz hi]
   simp only [sS, sL,  hi, wrapS hi hl, latOK]
   refine ⟨fun h1 => ?_, fun h1 => ?_⟩
   ·rw [show witP (z (gd I x.2.2.1 i)) 1 100 = false from by simpa using h1]; rfl
   ·rw [show witP (z (gd I x.2.2.1 i)) 1 100 = true from by simpa using h1]; exact ih)
def k_machine_ValidModel : Con := con [.d qao] .bool (fun x => True) fun x => valF x.1
theorem m_machine_ValidModel (x : Den qao) (h_x : okD qao x) (hp : True) : Runs E_V42 (start E_V42 qbu [(.tv qao x)]) (fun r_ h_ => r_ = (vb (valF x)) ∧ h_ = []) := .tree E_V42_ok (machine_ValidModel_t x) (by
 simp only [sS, implies_true]
 exact machine_ValidModel_l x (qas h_x.2.2.1.1) 0 (Nat.zero_le _))
theorem c_machine_ValidModel : qal E_V42 qbu k_machine_ValidModel.spec := qam fun x hx hp => ⟨rfl, m_machine_ValidModel x.1 hx.1 hp⟩

def k_machine_Default : Con := con [] qao (fun x => True) fun x => defF
theorem m_machine_Default (hp : True) : Runs E_V42 (start E_V42 qeu []) (fun r_ h_ => r_ = (.tv qao (defF)) ∧ h_ = []) := .tree E_V42_ok (machine_Default_t) (by
 simp only [sS, implies_true]
 exact fun _ => rfl)
theorem c_machine_Default : qal E_V42 qeu k_machine_Default.spec := qam fun x hx hp => ⟨rfl, m_machine_Default hp⟩
def L_V42 : List (FuncId × FSpec) := [(qbu, k_machine_ValidModel.spec), (qeu, k_machine_Default.spec)] ++ L_V41
theorem L_V42_ok : ∀ x ∈ L_V42, qal (ctx []) x.1 x.2 := by
 unfold L_V42
 simp only [List.cons_append, List.nil_append, List.forall_mem_cons]
 exact ⟨c_machine_ValidModel, c_machine_Default, L_V41_ok⟩
end Burn.MTT
namespace Burn.MTT
open Go Go.BE Go.Proofs
set_option maxRecDepth 100000
set_option linter.unusedVariables false
set_option linter.unusedSimpArgs false
open Burn.Intn Burn.Ref
noncomputable abbrev E_V43 : Ctx := ctx L_V42
def nodF (x : Den (.int .u64)) : Int := 0
def nobF (a : List (Den (.int .u8))) (x : Den (.int .u64)) (b : Int) (n p : Bool) : List (Den (.int .u8)) × ByteArray := ([], ByteArray.empty)

def qfq : Con := con [.d (.int .u64)] I (fun x => False) fun x => nodF x.1
theorem c_internal_strconv_numDigits : qal E_V43 qfr qfq.spec := qam fun x hx hp => hp.elim

def qfd : Con := conT2 [.d (.sl 1 (.int .u8)), .d (.int .u64), .d I, .d .bool, .d .bool] (.sl 1 (.int .u8)) .str (fun x => False) fun x => nobF x.1 x.2.1 x.2.2.1 x.2.2.2.1 x.2.2.2.2.1
theorem c_internal_strconv_formatBits : qal E_V43 qfk qfd.spec := qam fun x hx hp => hp.elim
def L_V43 : List (FuncId × FSpec) := [(qfr, qfq.spec), (qfk, qfd.spec)] ++ L_V42
theorem L_V43_ok : ∀ x ∈ L_V43, qal (ctx []) x.1 x.2 := by
 unfold L_V43
 simp only [List.cons_append, List.nil_append, List.forall_mem_cons]
 exact ⟨c_internal_strconv_numDigits, c_internal_strconv_formatBits, L_V42_ok⟩
end Burn.MTT
namespace Burn.MTT
open Go Go.BE Go.Proofs
set_option maxRecDepth 100000
set_option linter.unusedVariables false
set_option linter.unusedSimpArgs false
open Burn.Intn Burn.Ref
noncomputable abbrev E_V44 : Ctx := ctx L_V43
theorem E_V44_ok : EOK E_V44 := qbq L_V43_ok
def cuts_V44 : CutL := []
def rets_V44 : FuncId → List (Option Fx)
 | 13 => [some (.dat qad), some (.dat qan)]
 | 28 => [some (.dat (.sl 8 I))]
 | _ => []
def H_V44 : Hints := { cut := cutOf cuts_V44, ret := rets_V44 }
theorem law50_empty_t : run E_V44 H_V44 f_law50_empty 3000 (start E_V44 f_law50_empty []) = (rt (.tup [(.tv qad (([] : List (Den qaf)), ([(⟨#[102]⟩, ([] : List (Den I)), (0 : Int), ([] : List (Den I)), ([(([] : List (Den I)), ([] : List (Den qac)), ((4 : Int), ([] : List (Den I)), ([] : List (Den I)), ([] : List (Den qae)), (0 : Int), ()), ())] : List (Den qaa)), ())] : List (Den qab)), ())), (.tv qan (⟨#[102]⟩, ([] : List (Den I)), (0 : Int), ([] : List (Den I)), (8 : Int), (0 : Int), ([(([] : List (Den I)), ([] : List (Den qac)), ((4 : Int), ([] : List (Den I)), ([] : List (Den I)), ([] : List (Den qae)), (0 : Int), ()), ())] : List (Den qaa)), ()))]) []) := by kernel_rfl
theorem machine_counted_t (l : List (Den I)) : run E_V44 H_V44 qes 3000 (start E_V44 qes [(.tv (.sl 8 I) l)]) = (.chk (((1 : Nat) + (ln I l)) * 8 ≤ roomB) (rt (.tv (.sl 8 I) (ap I ([((ln I l) : Int)] : List (Den I)) l)) [])) := by kernel_rfl
theorem strconv_Itoa_t (i : Int) : run E_V44 H_V44 qhl 3000 (start E_V44 qhl [(vi i)]) = (cond (decide ((0 : Int) ≤ i)) (cond (decide (i < (100 : Int))) (cond (decide (i < (10 : Int))) (.chk (0 ≤ i ∧ i ≤ (IntKind.wrap .i64 (i + (1 : Int))) ∧ (IntKind.wrap .i64 (i + (1 : Int))) ≤ (36 : Int)) (rt (vs (ByteArray.extract ⟨#[48, 49, 50, 51, 52, 53, 54, 55, 56, 57, 97, 98, 99, 100, 101, 102, 103, 104, 105, 106, 107, 108, 109, 110, 111, 112, 113, 114, 115, 116, 117, 118, 119, 120, 121, 122]⟩ i.toNat ((IntKind.wrap .i64 (i + (1 : Int)))).toNat)) [])) (.chk (0 ≤ (IntKind.wrap .i64 (i * (2 : Int))) ∧ (IntKind.wrap .i64 (i * (2 : Int))) ≤ (IntKind.wrap .i64 ((IntKind.wrap .i64 (i * (2 : Int))) + (2 : Int))) ∧ (IntKind.wrap .i64 ((IntKind.wrap .i64 (i * (2 : Int))) + (2 : Int))) ≤ (200 : Int)) (rt (vs (ByteArray.extract ⟨#[48, 48, 48, 49, 48, 50, 48, 51, 48, 52, 48, 53, 48, 54, 48, 55, 48, 56, 48, 57, 49, 48, 49, 49, 49, 50, 49, 51, 49, 52, 49, 53, 49, 54, 49, 55, 49, 56, 49, 57, 50, 48, 50, 49, 50, 50, 50, 51, 50, 52, 50, 53, 50, 54, 50, 55, 50, 56, 50, 57, 51, 48, 51, 49, 51, 50, 51, 51, 51, 52, 51, 53, 51, 54, 51, 55, 51, 56, 51, 57, 52, 48, 52, 49, 52, 50, 52, 51, 52, 52, 52, 53, 52, 54, 52, 55, 52, 56, 52, 57, 53, 48, 53, 49, 53, 50, 53, 51, 53, 52, 53, 53, 53, 54, 53, 55, 53, 56, 53, 57, 54, 48, 54, 49, 54, 50, 54, 51, 54, 52, 54, 53, 54, 54, 54, 55, 54, 56, 54, 57, 55, 48, 55, 49, 55, 50, 55, 51, 55, 52, 55, 53, 55, 54, 55, 55, 55, 56, 55, 57, 56, 48, 56, 49, 56, 50, 56, 51, 56, 52, 56, 53, 56, 54, 56, 55, 56, 56, 56, 57, 57, 48, 57, 49, 57, 50, 57, 51, 57, 52, 57, 53, 57, 54, 57, 55, 57, 56, 57, 57]⟩ ((IntKind.wrap .i64 (i * (2 : Int)))).toNat ((IntKind.wrap .i64 ((IntKind.wrap .i64 (i * (2 : Int))) + (2 : Int)))).toNat)) []))) (cond (decide (i < (0 : Int))) (.chk (False) (.know (okD (.int .i64) (nodF (IntKind.wrap .u64 ((0 : Int) - (IntKind.wrap .u64 i))))) .bad)) (.chk (False) (.know (okD (.int .i64) (nodF (IntKind.wrap .u64 i))) .bad)))) (cond (decide (i < (0 : Int))) (.chk (False) (.know (okD (.int .i64) (nodF (IntKind.wrap .u64 ((0 : Int) - (IntKind.wrap .u64 i))))) .bad)) (.chk (False) (.know (okD (.int .i64) (nodF (IntKind.wrap .u64 i))) .bad)))) := by kernel_rfl
def empF : Den qad × Den qan := ((([] : List (Den qaf)), ([(⟨#[102]⟩, ([] : List (Den I)), (0 : Int), ([] : List (Den I)), ([(([] : List (Den I)), ([] : List (Den qac)), ((4 : Int), ([] : List (Den I)), ([] : List (Den I)), ([] : List (Den qae)), (0 : Int), ()), ())] : List (Den qaa)), ())] : List (Den qab)), ()), (⟨#[102]⟩, ([] : List (Den I)), (0 : Int), ([] : List (Den I)), (8 : Int), (0 : Int), ([(([] : List (Den I)), ([] : List (Den qac)), ((4 : Int), ([] : List (Den I)), ([] : List (Den I)), ([] : List (Den qae)), (0 : Int), ()), ())] : List (Den qaa)), ()))

def k_law50_empty : Con := conT2 [] qad qan (fun x => True) fun x => empF
theorem m_law50_empty (hp : True) : Runs E_V44 (start E_V44 f_law50_empty []) (fun r_ h_ => r_ = (.tup [(.tv qad (([] : List (Den qaf)), ([(⟨#[102]⟩, ([] : List (Den I)), (0 : Int), ([] : List (Den I)), ([(([] : List (Den I)), ([] : List (Den qac)), ((4 : Int), ([] : List (Den I)), ([] : List (Den I)), ([] : List (Den qae)), (0 : Int), ()), ())] : List (Den qaa)), ())] : List (Den qab)), ())), (.tv qan (⟨#[102]⟩, ([] : List (Den I)), (0 : Int), ([] : List (Den I)), (8 : Int), (0 : Int), ([(([] : List (Den I)), ([] : List (Den qac)), ((4 : Int), ([] : List (Den I)), ([] : List (Den I)), ([] : List (Den qae)), (0 : Int), ()), ())] : List (Den qaa)), ()))]) ∧ h_ = []) := .tree E_V44_ok (law50_empty_t) (by
 show Tre.wp (Qv _ (fun x_ => (.tup [(.tv qad x_.1), (.tv qan x_.2)])) (empF)) _
 unfold empF
 exact ⟨rfl, rfl⟩)
theorem c_law50_empty : qal E_V44 f_law50_empty k_law50_empty.spec := qam fun x hx hp => ⟨rfl, m_law50_empty hp⟩
def cntL (l : List (Den I)) : Den (.sl 8 I) := (ap I ([((ln I l) : Int)] : List (Den I)) l)

def k_machine_counted : Con := con [.d (.sl 8 I)] (.sl 8 I) (fun x => (1 + ln I x.1) * 8 ≤ roomB) fun x => cntL x.1
theorem m_machine_counted (l : List (Den I)) (h_l : okD (.sl 8 I) l) (hp : (1 + ln I l) * 8 ≤ roomB) : Runs E_V44 (start E_V44 qes [(.tv (.sl 8 I) l)]) (fun r_ h_ => r_ = (.tv (.sl 8 I) (ap I ([((ln I l) : Int)] : List (Den I)) l)) ∧ h_ = []) := .tree E_V44_ok (machine_counted_t l) (by
 have hp_ := hp
 try simp only [z] at hp_
 show Tre.wp (Qv _ (fun x_ => (.tv (.sl 8 I) x_)) (cntL l)) _
 unfold cntL
 refine ⟨by first | omega | assumption | exact hp.1 | exact hp.2 | exact hp.2.1 | (simp_all; done) | (simp_all; omega), fun _ => ?_⟩
 exact ⟨rfl, rfl⟩)
theorem c_machine_counted : qal E_V44 qes k_machine_counted.spec := qam fun x hx hp => ⟨rfl, m_machine_counted x.1 hx.1 hp⟩
def itoF (n : Int) : ByteArray := ByteArray.extract ⟨#[48, 49, 50, 51, 52, 53, 54, 55, 56, 57, 97, 98, 99, 100, 101, 102, 103, 104, 105, 106, 107, 108, 109, 110, 111, 112, 113, 114, 115, 116, 117, 118, 119, 120, 121, 122]⟩ n.toNat (IntKind.wrap .i64 (n + 1)).toNat

def k_strconv_Itoa : Con := con [.d I] .str (fun x => 0 ≤ z x.1 ∧ z x.1 < 10) fun x => itoF x.1
theorem m_strconv_Itoa (i : Int) (h_i : okD I i) (hp : 0 ≤ z i ∧ z i < 10) : Runs E_V44 (start E_V44 qhl [(vi i)]) (fun r_ h_ => r_ = (vs (itoF i)) ∧ h_ = []) := .tree E_V44_ok (strconv_Itoa_t i) (by
 have h1 : 0 ≤ i := hp.1
 have h2 : i < 10 := hp.2
 have hw : IntKind.wrap .i64 (i + 1) = i + 1 := wrap64 _ (by omega) (by omega)
 rw [decide_eq_true h1, decide_eq_true (show i < 100 by omega), decide_eq_true h2]
 simp only [cond_true]
 simp only [sS, implies_true]
 exact ⟨by rw [hw]; omega, fun _ => rfl⟩)
theorem c_strconv_Itoa : qal E_V44 qhl k_strconv_Itoa.spec := qam fun x hx hp => ⟨rfl, m_strconv_Itoa x.1 hx.1 hp⟩
def L_V44 : List (FuncId × FSpec) := [(f_law50_empty, k_law50_empty.spec), (qes, k_machine_counted.spec), (qhl, k_strconv_Itoa.spec)] ++ L_V43
theorem L_V44_ok : ∀ x ∈ L_V44, qal (ctx []) x.1 x.2 := by
 unfold L_V44
 simp only [List.cons_append, List.nil_append, List.forall_mem_cons]
 exact ⟨c_law50_empty, c_machine_counted, c_strconv_Itoa, L_V43_ok⟩
end Burn.MTT
namespace Burn.MTT
open Go Go.BE Go.Proofs
set_option maxRecDepth 100000
set_option linter.unusedVariables false
set_option linter.unusedSimpArgs false
open Burn.Intn Burn.Ref
noncomputable abbrev E_V45 : Ctx := ctx L_V44
theorem E_V45_ok : EOK E_V45 := qbq L_V44_ok
def cuts_V45 : CutL := [([], 29, 0, [0, 7, 8, 9], [], [])]
def rets_V45 : FuncId → List (Option Fx)
 | _ => []
def H_V45 : Hints := { cut := cutOf cuts_V45, ret := rets_V45 }
noncomputable def machine_line_L0 (word : ByteArray) (t7 : List (Den I)) (t8 : Int) (t9 : Int) : Cfg := hcfg E_V45 qdy 0 [(0, (vs word)), (7, (.tv (.sl 8 I) t7)), (8, (vi t8)), (9, (vi t9))] [] 0
theorem machine_line_t (word : ByteArray) (l : List (Den I)) : run E_V45 H_V45 qdy 3000 (start E_V45 qdy [(vs word), (.tv (.sl 8 I) l)]) = (hd (machine_line_L0 word l ((ln I l) : Int) (0 : Int))) := by kernel_rfl
theorem machine_line_L0_t (word : ByteArray) (t7 : List (Den I)) (t8 : Int) (t9 : Int) : run E_V45 H_V45 qdy 3000 (machine_line_L0 word t7 t8 t9) = (cond (decide (t9 < t8)) (.chk (0 ≤ t9 ∧ t9 < (ln I t7)) (.chk (0 ≤ z (gd I t7 t9.toNat) ∧ z (gd I t7 t9.toNat) < 10) (.know (okD .str (itoF (gd I t7 t9.toNat))) (.chk (((1 : Nat) + ((itoF (gd I t7 t9.toNat))).size) ≤ roomB) (.chk (((word).size + ((⟨#[32]⟩ ++ (itoF (gd I t7 t9.toNat)))).size) ≤ roomB) (hd (machine_line_L0 (word ++ (⟨#[32]⟩ ++ (itoF (gd I t7 t9.toNat)))) t7 t8 (IntKind.wrap .i64 (t9 + (1 : Int)))))))))) (rt (vs word) [])) := by kernel_rfl
def linF : ByteArray → List (Den I) → ByteArray
 | w, [] => w
 | w, n :: l => linF (w ++ (⟨#[32]⟩ ++ itoF (z n))) l
theorem ito_size {n : Int} (h1 : 0 ≤ n) (h2 : n < 10) : (itoF n).size = 1 := by
 have : n = 0 ∨ n = 1 ∨ n = 2 ∨ n = 3 ∨ n = 4 ∨ n = 5 ∨ n = 6 ∨ n = 7 ∨ n = 8 ∨ n = 9 := by omega
 rcases this with rfl | rfl | rfl | rfl | rfl | rfl | rfl | rfl | rfl | rfl <;> rfl
theorem sp_size {n : Int} (h1 : 0 ≤ n) (h2 : n < 10) : ((⟨#[32]⟩ : ByteArray) ++ itoF n).size = 2 := by
 rw [ByteArray.size_append, ito_size h1 h2]
 rfl
def linOK (w : ByteArray) (l : List (Den I)) : Prop := (∀ i, i < ln I l → 0 ≤ z (gd I l i) ∧ z (gd I l i) < 10) ∧ w.size + 2 * ln I l ≤ roomB
theorem machine_line_l (l : List (Den I)) (hl : ln I l < 9223372036854775807) (h : ∀ i, i < ln I l → 0 ≤ z (gd I l i) ∧ z (gd I l i) < 10) : ∀ i, i ≤ ln I l → ∀ w : ByteArray, w.size + 2 * (ln I l - i) ≤ roomB → Runs E_V45 (machine_line_L0 w l (ln I l : Nat) i) (fun r h => r = vs (linF w (l.drop i)) ∧ h = []) :=
 qba (fun w _ => .tree E_V45_ok (machine_line_L0_t ..) (by
  rw [show l.drop (ln I l) = [] from drop_ln]
  simp only [sS, sL,  Nat.lt_irrefl, linF]))
  fun i hi ih w hw => .tree E_V45_ok (machine_line_L0_t ..) (by
   have hd := h i hi
   have hs := sp_size hd.1 hd.2
   have h1 := ito_size hd.1 hd.2
   rw [show l.drop i = gd I l i :: l.drop (i + 1) from qgz hi, linF]
   simp only [sS, sL,  hi, wrapS hi hl]
   refine ⟨hd, fun _ _ => ⟨by rw [show (itoF (gd I l i)).size = 1 from h1]; unfold roomB; omega, fun _ => ⟨by rw [show ((⟨#[32]⟩ : ByteArray) ++ itoF (gd I l i)).size = 2 from hs]; omega, fun _ => ih _ ?_⟩⟩⟩
   rw [ByteArray.size_append, show ((⟨#[32]⟩ : ByteArray) ++ itoF (z (gd I l i))).size = 2 from hs]
   omega)
def k_machine_line : Con := con [.d .str, .d (.sl 8 I)] .str (fun x => linOK (tOf x.1) x.2.1) fun x => linF x.1 x.2.1
theorem m_machine_line (word : ByteArray) (l : List (Den I)) (h_word : okD .str word) (h_l : okD (.sl 8 I) l) (hp : linOK (tOf word) l) : Runs E_V45 (start E_V45 qdy [(vs word), (.tv (.sl 8 I) l)]) (fun r_ h_ => r_ = (vs (linF word l)) ∧ h_ = []) := .tree E_V45_ok (machine_line_t word l) (by
 simp only [sS, implies_true]
 exact machine_line_l l (qas h_l.1) hp.1 0 (Nat.zero_le _) word (by have := hp.2; simpa using this))
theorem c_machine_line : qal E_V45 qdy k_machine_line.spec := qam fun x hx hp => ⟨rfl, m_machine_line x.1 x.2.1 hx.1 hx.2.1 hp⟩
def L_V45 : List (FuncId × FSpec) := [(qdy, k_machine_line.spec)] ++ L_V44
theorem L_V45_ok : ∀ x ∈ L_V45, qal (ctx []) x.1 x.2 := by
 unfold L_V45
 simp only [List.cons_append, List.nil_append, List.forall_mem_cons]
 exact ⟨c_machine_line, L_V44_ok⟩
end Burn.MTT

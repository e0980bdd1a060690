/- What the functions that the law reaches compute, one contract each. No conditions beyond those written. -/
import Derived.Test.YteaealfalanccaaGreatDoorWalkB
namespace Burn.MC
open Go Go.BE Go.Proofs
set_option maxRecDepth 100000
set_option linter.unusedVariables false
set_option linter.unusedSimpArgs false
open Burn.Intn Burn.Ref
def immOp (x : Ins) : Bool := cond (z x.1 == (1 : Int)) true (cond (z x.1 == (26 : Int)) true (z x.1 == (33 : Int)))
def fldR (x : Ins) : Bool := cond (cond (bOf x.2.2.2.2.2.2.2.1) (cond (z x.1 != (5 : Int)) (cond (z x.1 != (6 : Int)) (z x.1 != (7 : Int)) false) false) false) true (cond (cond (z x.2.2.2.2.1 != (0 : Int)) (!(immOp x)) false) true (cond (cond (z x.2.2.2.2.2.1 != (0 : Int)) (cond (z x.1 != (25 : Int)) (z x.1 != (30 : Int)) false) false) true (cond (z x.2.2.2.2.2.2.1 != (0 : Int)) (z x.1 != (26 : Int)) false)))
def symR (x : Ins) (m : Md) : Bool := cond (cond (z x.1 == (25 : Int)) (cond (decide (z x.2.2.2.2.2.1 < (0 : Int))) true (decide (z x.2.2.2.2.2.1 ≥ (ln qai m.1 : Int)))) false) true (cond (z x.1 == (30 : Int)) (cond (decide (z x.2.2.2.2.2.1 < (0 : Int))) true (decide (z x.2.2.2.2.2.1 ≥ (ln qaa m.2.1 : Int)))) false)
def opnI (x : Ins) (f : Fn) (m : Md) (i : Nat) : Int := cond (!(opR x m i (gd I f.2.2.2.1 (z (gd I x.2.2.2.1 i)).toNat) (gd I f.2.2.2.1 (z (gd I x.2.2.2.1 0)).toNat))) 9 0
def rs1 (x : Ins) (f : Fn) : Bool := cond (cond (z x.2.1 == (0 : Int)) (z x.2.2.1 != (-1 : Int)) false) true (cond (cond (z x.2.1 != (0 : Int)) (cond (z x.2.2.1 == (-1 : Int)) (z x.1 != (30 : Int)) false) false) true (cond (decide (z x.2.2.1 ≥ (0 : Int))) (z (gd I f.2.2.2.1 (z x.2.2.1).toNat) != z x.2.1) false))
def rs2 (x : Ins) : Bool := cond (z x.1 == (26 : Int)) (cond (z (accP x.2.2.2.2.2.2.1).2 != (1 : Int)) true (z (accP x.2.2.2.2.2.2.1).1 != z x.2.2.2.2.2.2.1)) false
def rs3 (x : Ins) : Bool := cond (cond (z x.1 == (1 : Int)) (wrapZ x.2.1 x.2.2.2.2.1 != z x.2.2.2.2.1) false) true (cond (z x.1 == (26 : Int)) (cond (decide (z x.2.2.2.2.1 < (1 : Int))) true (decide (z x.2.2.2.2.1 > (256 : Int)))) false)
def rs4 (x : Ins) (f : Fn) : Bool := cond (z x.1 == (33 : Int)) (cond (decide (z x.2.2.2.2.1 < (0 : Int))) true (cond (decide (z x.2.2.2.2.1 > (3 : Int))) true (cond (decide (z x.2.2.2.2.1 > (1 : Int))) (z (gd I f.2.2.2.1 (z (gd I x.2.2.2.1 0)).toNat) == (6 : Int)) false))) false
def chk4 (b : Bool) : Int := cond b 10 0
def chk3 (x : Ins) (f : Fn) (b : Bool) : Int := cond b 10 (chk4 (rs4 x f))
def chk2 (x : Ins) (f : Fn) (b : Bool) : Int := cond b 9 (chk3 x f (rs3 x))
def chk1 (x : Ins) (f : Fn) (b : Bool) : Int := cond b 9 (chk2 x f (rs2 x))
def dstB (x : Ins) (f : Fn) : Bool := cond (decide (z x.2.2.1 < (-1 : Int))) true (decide (z x.2.2.1 ≥ (ln I f.2.2.2.1 : Int)))
def chkS (x : Ins) (f : Fn) (m : Md) (b : Bool) : Int := cond b 10 (cond (!(rsR x m)) 9 (orE (qao (opnI x f m) (ln I x.2.2.2.1) 0) (chk1 x f (rs1 x f))))
def chkC (x : Ins) (f : Fn) (m : Md) (b : Bool) : Int := cond b 3 (orE (argE f x.2.2.2.1) (chkS x f m (dstB x f)))
def cntB (x : Ins) (m : Md) : Bool := cond (!(bOf (cnR x m).2)) true (z (cnR x m).1 != (ln I x.2.2.2.1 : Int))
def chkY (x : Ins) (f : Fn) (m : Md) (b : Bool) : Int := cond b 8 (chkC x f m (cntB x m))
def chkL (x : Ins) (f : Fn) (m : Md) (b : Bool) : Int := cond b 3 (chkY x f m (symR x m))
def opB (x : Ins) : Bool := cond (decide (z x.1 < (1 : Int))) true (decide (z x.1 > (33 : Int)))
def chkO (x : Ins) (f : Fn) (m : Md) (b : Bool) : Int := cond b 8 (chkL x f m (fldR x))
def chkR (x : Ins) (f : Fn) (m : Md) : Int := chkO x f m (opB x)
theorem op8 (op : Int) : op = 5 ∨ op = 6 ∨ op = 7 ∨ op = 26 ∨ op = 1 ∨ op = 33 ∨ op = 25 ∨ op = 30 ∨ ((op == 5) = false ∧ (op == 6) = false ∧ (op == 7) = false ∧ (op == 26) = false ∧ (op == 1) = false ∧ (op == 33) = false ∧ (op == 25) = false ∧ (op == 30) = false) := by
 simp only [beq_eq_false_iff_ne]
 omega
theorem z_fld {x : Ins} : fldP x = cond (fldR x) 3 0 := by
 unfold fldP fldR immOp bne
 rcases op8 (z x.1) with h | h | h | h | h | h | h | h | ⟨h5, h6, h7, h26, h1, h33, h25, h30⟩
 iterate 8
  ·rw [h]
   cases bOf x.2.2.2.2.2.2.2.1 <;> cases z x.2.2.2.2.1 == (0 : Int) <;> cases z x.2.2.2.2.2.1 == (0 : Int) <;> cases z x.2.2.2.2.2.2.1 == (0 : Int) <;> rfl
 ·rw [h5, h6, h7, h26, h1, h33, h25, h30]
  cases bOf x.2.2.2.2.2.2.2.1 <;> cases z x.2.2.2.2.1 == (0 : Int) <;> cases z x.2.2.2.2.2.1 == (0 : Int) <;> cases z x.2.2.2.2.2.2.1 == (0 : Int) <;> rfl
theorem z_sym {x : Ins} {m : Md} : symP x m = cond (symR x m) 8 0 := by
 unfold symP symR
 by_cases h1 : z x.1 = 25
 ·have h2 : (z x.1 == (25 : Int)) = true := beq_iff_eq.mpr h1
  have h3 : (z x.1 == (30 : Int)) = false := by rw [h1]; rfl
  rw [h2, h3]
  cases decide (z x.2.2.2.2.2.1 < (0 : Int)) <;> cases decide (z x.2.2.2.2.2.1 ≥ (ln qai m.1 : Int)) <;> rfl
 ·have h2 : (z x.1 == (25 : Int)) = false := beq_eq_false_iff_ne.mpr h1
  rw [h2]
  cases z x.1 == (30 : Int) <;> cases decide (z x.2.2.2.2.2.1 < (0 : Int)) <;> cases decide (z x.2.2.2.2.2.1 ≥ (ln qaa m.2.1 : Int)) <;> rfl
theorem rs1_eq {x : Ins} {f : Fn} (h : -1 ≤ z x.2.2.1) : rs1 x f = !(resP x f) := by
 unfold rs1 resP
 by_cases h0 : z x.2.1 = 0
 ·by_cases h1 : z x.2.2.1 = -1
  ·simp [h0, h1]
  ·have h2 : (z x.2.2.1 == -1) = false := beq_eq_false_iff_ne.mpr h1
   simp [h0, h2, bne]
 ·have h3 : (z x.2.1 == 0) = false := beq_eq_false_iff_ne.mpr h0
  by_cases h1 : z x.2.2.1 = -1
  ·simp [h3, h1, bne]
  ·have h2 : (z x.2.2.1 == -1) = false := beq_eq_false_iff_ne.mpr h1
   have h4 : decide (z x.2.2.1 ≥ 0) = true := decide_eq_true (by omega)
   simp [h3, h2, h4, bne]
def allP (p : Nat → Bool) : Nat → Nat → Bool
 | 0, _ => true
 | n + 1, i => p i && allP p n (i + 1)
theorem all_E (p : Nat → Bool) (e : Int) : ∀ n i, orE (qao (fun i => cond (!(p i)) 9 0) n i) e = cond (!(allP p n i)) 9 e
 | 0, i => rfl
 | n + 1, i => by
  have ih := all_E p e n (i + 1)
  simp only [qao, allP]
  cases h : p i
  ·rfl
  ·exact ih
def opP (x : Ins) (f : Fn) (m : Md) (i : Nat) : Bool := opR x m i (gd I f.2.2.2.1 (z (gd I x.2.2.2.1 i)).toNat) (gd I f.2.2.2.1 (z (gd I x.2.2.2.1 0)).toNat)
theorem wide_iff {t : Int} : wideP t = true ↔ 2 ≤ t ∧ t ≤ 4 := by unfold wideP; cases h : decide (t ≥ 2) <;> simp at h ⊢ <;> omega
theorem int_iff {t : Int} : intP t = true ↔ 1 ≤ t ∧ t ≤ 4 := by unfold intP; cases h : decide (t ≥ 1) <;> simp at h ⊢ <;> omega
theorem typ_iff {t : Int} : typP t = true ↔ 1 ≤ t ∧ t ≤ 7 := by unfold typP; cases h : decide (t ≥ 1) <;> simp at h ⊢ <;> omega
theorem vec_iff {t : Int} : vecP t = true ↔ t = 6 ∨ t = 7 := by unfold vecP; cases h : t == 6 <;> simp at h ⊢ <;> omega
theorem cel_cases (t : Int) : t = 2 ∨ t = 3 ∨ t = 4 ∨ t = 5 ∨ t = 6 ∨ t = 7 ∨ ((t == 2) = false ∧ (t == 3) = false ∧ (t == 4) = false ∧ (t == 5) = false ∧ (t == 6) = false ∧ (t == 7) = false) := by
 simp only [beq_eq_false_iff_ne]
 omega
theorem cell_iff {t : Int} : decide (z (accP t).2 > 0) = true ↔ 2 ≤ t ∧ t ≤ 7 := by
 rcases cel_cases t with rfl | rfl | rfl | rfl | rfl | rfl | ⟨h2, h3, h4, h5, h6, h7⟩
 iterate 6 exact ⟨fun _ => by omega, fun _ => rfl⟩
 unfold accP
 rw [h2, h3, h4, h5, h6, h7]
 simp at h2 h3 h4 h5 h6 h7
 exact ⟨fun h => by simp at h, fun h => by omega⟩
theorem calN_eq (g : Fn) (args : List (Den I)) (t : Int) : ∀ n i, calN g args t n i = (allP (fun i => cond (decide (z (gd I g.2.1 i) ≥ (0 : Int))) (cond (decide (z (gd I g.2.1 i) < (ln I g.2.2.2.1 : Int))) (z (gd I args i) == z (gd I g.2.2.2.1 (z (gd I g.2.1 i)).toNat)) false) false) n i && (t == z g.2.2.1))
 | 0, i => by simp [calN, allP]
 | n + 1, i => by
  rw [calN, calN_eq g args t n (i + 1), allP]
  by_cases h1 : z (gd I g.2.1 i) < 0
  ·rw [decide_eq_true h1, decide_eq_false (show ¬ z (gd I g.2.1 i) ≥ 0 by omega)]; rfl
  ·rw [decide_eq_false h1, decide_eq_true (show z (gd I g.2.1 i) ≥ 0 by omega)]
   by_cases h2 : z (gd I g.2.1 i) ≥ (ln I g.2.2.2.1 : Int)
   ·rw [decide_eq_true h2, decide_eq_false (show ¬ z (gd I g.2.1 i) < (ln I g.2.2.2.1 : Int) by omega)]; rfl
   ·rw [decide_eq_false h2, decide_eq_true (show z (gd I g.2.1 i) < (ln I g.2.2.2.1 : Int) by omega)]
    by_cases h3 : z (gd I g.2.2.2.1 (z (gd I g.2.1 i)).toNat) = z (gd I args i)
    ·rw [h3]; simp
    ·have h4 : (z (gd I g.2.2.2.1 (z (gd I g.2.1 i)).toNat) != z (gd I args i)) = true := by simpa using h3
     have h5 : (z (gd I args i) == z (gd I g.2.2.2.1 (z (gd I g.2.1 i)).toNat)) = false := by simpa using fun h => h3 h.symm
     rw [h4, h5]; rfl
theorem allP_congr {p q : Nat → Bool} : ∀ {n i}, (∀ j, i ≤ j → j < i + n → p j = q j) → allP p n i = allP q n i
 | 0, _, _ => rfl
 | n + 1, i, h => by rw [allP, allP, h i (Nat.le_refl _) (by omega), allP_congr fun j h1 h2 => h j (by omega) (by omega)]
theorem argT_gd {f : Fn} {l : List (Den I)} {i : Nat} (h : i < ln I l) : gd I (argT f l (ln I l)) i = gd I f.2.2.2.1 (z (gd I l i)).toNat := by
 have h' : i < l.length := h
 unfold argT
 have hl : l.take (ln I l) = l := List.take_length
 rw [hl]
 show ((l.map _)[i]?).getD _ = _
 rw [List.getElem?_map]
 have hg : gd I l i = l[i] := by unfold gd; simp [List.getElem?_eq_getElem h']
 rw [List.getElem?_eq_getElem h', hg]
 rfl
theorem len0 {l : List (Den I)} (h : ln I l = 0) : l = [] := List.eq_nil_of_length_eq_zero h
theorem len1 {l : List (Den I)} (h : ln I l = 1) : ∃ a, l = [a] := List.length_eq_one_iff.mp h
theorem len2 {l : List (Den I)} (h : ln I l = 2) : ∃ a b, l = [a, b] := by
 match l, h with
 | [a, b], _ => exact ⟨a, b, rfl⟩
theorem len3 {l : List (Den I)} (h : ln I l = 3) : ∃ a b c, l = [a, b, c] := by
 match l, h with
 | [a, b, c], _ => exact ⟨a, b, c, rfl⟩
theorem len4 {l : List (Den I)} (h : ln I l = 4) : ∃ a b c d, l = [a, b, c, d] := by
 match l, h with
 | [a, b, c, d], _ => exact ⟨a, b, c, d, rfl⟩
theorem gd0 {a : Den I} {l : List (Den I)} : gd I (a :: l) 0 = a := rfl
theorem gd1x {a b : Int} : gd I ([a, b] : List (Den I)) 1 = b := rfl
theorem cel_iff {t : Int} : z (accP t).2 > 0 ↔ 2 ≤ t ∧ t ≤ 7 := by rw [← cell_iff]; simp
theorem tl21 {a b c : Int} : wn I ([a, b, c] : List (Den I)) 1 2 = ([b, c] : List (Den I)) := rfl
theorem bits_iff {a t : Int} (ha : a = 1 ∨ a = 2 ∨ a = 3 ∨ a = 4) : (bitsZ a < bitsZ t ↔ a < t ∧ t ≤ 4) ∧ (bitsZ a > bitsZ t ↔ t < a ∨ 4 < t) := by
 have ht : bitsZ t = 1 ∧ t = 1 ∨ bitsZ t = 8 ∧ t = 2 ∨ bitsZ t = 32 ∧ t = 3 ∨ bitsZ t = 64 ∧ t = 4 ∨ bitsZ t = 0 ∧ (t < 1 ∨ 4 < t) := by
  unfold bitsZ
  repeat' split
  all_goals omega
 have h1 : bitsZ 1 = 1 := rfl
 have h2 : bitsZ 2 = 8 := rfl
 have h3 : bitsZ 3 = 32 := rfl
 have h4 : bitsZ 4 = 64 := rfl
 rcases ha with rfl | rfl | rfl | rfl <;> simp only [h1, h2, h3, h4] <;> omega
theorem cond_iff {c a b : Bool} : cond c a b = true ↔ (c = true ∧ a = true) ∨ (¬ c = true ∧ b = true) := by cases c <;> simp
theorem typ2 {x : Ins} {m : Md} {ta tb : Int} {k : Int} (hk : z x.1 = k) (h : 5 ≤ k ∧ k ≤ 20 ∨ k = 27 ∨ k = 29) : tydP x [ta, tb] m = (rsR x m && (opR x m 0 ta ta && opR x m 1 tb ta)) := by
 have : k = 5 ∨ k = 6 ∨ k = 7 ∨ k = 8 ∨ k = 9 ∨ k = 10 ∨ k = 11 ∨ k = 12 ∨ k = 13 ∨ k = 14 ∨ k = 15 ∨ k = 16 ∨ k = 17 ∨ k = 18 ∨ k = 19 ∨ k = 20 ∨ k = 27 ∨ k = 29 := by omega
 clear h
 rcases this with rfl | rfl | rfl | rfl | rfl | rfl | rfl | rfl | rfl | rfl | rfl | rfl | rfl | rfl | rfl | rfl | rfl | rfl
 all_goals (unfold tydP rsR opR; rw [hk]; (try rw [show wn I ([ta, tb, tc] : List (Den I)) 1 (ln I ([ta, tb, tc] : List (Den I)) - 1) = ([tb, tc] : List (Den I)) from rfl]); (repeat rw [gd1x]); (repeat rw [gd0]); simp only [samF, gd0, tl21, Int.reduceBEq, cond_true, cond_false, Bool.and_true]; rw [Bool.eq_iff_iff]; simp only [cond_iff, wide_iff, int_iff, typ_iff, vec_iff, cell_iff, cel_iff, cellP_iff, Bool.and_eq_true, beq_iff_eq, bne_iff_ne, decide_eq_true_eq, ne_eq, reduceCtorEq, and_true, true_and, and_false, or_false, not_true, not_false_iff, false_or, Classical.not_not, false_and, or_true, true_or, Int.reduceLT, Int.reduceGT, decide_true, decide_false]; (try simp only [z]); all_goals (try omega))
theorem typ3 {x : Ins} {m : Md} {ta tb tc : Int} (hk : z x.1 = 21) : tydP x [ta, tb, tc] m = (rsR x m && (opR x m 0 ta ta && (opR x m 1 tb ta && opR x m 2 tc ta))) := by
 (unfold tydP rsR opR; rw [hk]; (try rw [show wn I ([ta, tb, tc] : List (Den I)) 1 (ln I ([ta, tb, tc] : List (Den I)) - 1) = ([tb, tc] : List (Den I)) from rfl]); (repeat rw [gd1x]); (repeat rw [gd0]); simp only [samF, gd0, tl21, Int.reduceBEq, cond_true, cond_false, Bool.and_true]; rw [Bool.eq_iff_iff]; simp only [cond_iff, wide_iff, int_iff, typ_iff, vec_iff, cell_iff, cel_iff, cellP_iff, Bool.and_eq_true, beq_iff_eq, bne_iff_ne, decide_eq_true_eq, ne_eq, reduceCtorEq, and_true, true_and, and_false, or_false, not_true, not_false_iff, false_or, Classical.not_not, false_and, or_true, true_or, Int.reduceLT, Int.reduceGT, decide_true, decide_false]; (try simp only [z]); all_goals (try omega))
theorem typ1 {x : Ins} {m : Md} {ta : Int} {k : Int} (hk : z x.1 = k) (h : k = 3 ∨ k = 4 ∨ k = 28 ∨ k = 31 ∨ k = 33) : tydP x [ta] m = (rsR x m && (opR x m 0 ta ta)) := by
 rcases h with rfl | rfl | rfl | rfl | rfl
 all_goals (unfold tydP rsR opR; rw [hk]; (try rw [show wn I ([ta, tb, tc] : List (Den I)) 1 (ln I ([ta, tb, tc] : List (Den I)) - 1) = ([tb, tc] : List (Den I)) from rfl]); (repeat rw [gd1x]); (repeat rw [gd0]); simp only [samF, gd0, tl21, Int.reduceBEq, cond_true, cond_false, Bool.and_true]; rw [Bool.eq_iff_iff]; simp only [cond_iff, wide_iff, int_iff, typ_iff, vec_iff, cell_iff, cel_iff, cellP_iff, Bool.and_eq_true, beq_iff_eq, bne_iff_ne, decide_eq_true_eq, ne_eq, reduceCtorEq, and_true, true_and, and_false, or_false, not_true, not_false_iff, false_or, Classical.not_not, false_and, or_true, true_or, Int.reduceLT, Int.reduceGT, decide_true, decide_false]; (try simp only [z]); all_goals (try omega))
theorem typ1b {x : Ins} {m : Md} {ta : Int} {k : Int} (hk : z x.1 = k) (h : k = 22 ∨ k = 23 ∨ k = 24) : tydP x [ta] m = (rsR x m && (opR x m 0 ta ta)) := by
 by_cases hb : ta = 1 ∨ ta = 2 ∨ ta = 3 ∨ ta = 4
 ·have hB := bits_iff (t := z x.2.1) hb
  have e1 : decide (bitsZ ta < bitsZ x.2.1) = decide (ta < z x.2.1 ∧ z x.2.1 ≤ 4) := decide_eq_decide.mpr hB.1
  have e2 : decide (bitsZ ta > bitsZ x.2.1) = decide (z x.2.1 < ta ∨ 4 < z x.2.1) := decide_eq_decide.mpr hB.2
  rcases h with rfl | rfl | rfl
  all_goals (unfold tydP rsR opR; rw [hk]; (try rw [show wn I ([ta, tb, tc] : List (Den I)) 1 (ln I ([ta, tb, tc] : List (Den I)) - 1) = ([tb, tc] : List (Den I)) from rfl]); (repeat rw [gd1x]); (repeat rw [gd0]); simp only [samF, gd0, tl21, Int.reduceBEq, cond_true, cond_false, Bool.and_true]; (try rw [e1]); (try rw [e2]); rw [Bool.eq_iff_iff]; simp only [e1, e2, cond_iff, wide_iff, int_iff, typ_iff, vec_iff, cell_iff, cel_iff, cellP_iff, Bool.and_eq_true, beq_iff_eq, bne_iff_ne, decide_eq_true_eq, ne_eq, reduceCtorEq, and_true, true_and, and_false, or_false, not_true, not_false_iff, false_or, Classical.not_not, false_and, or_true, true_or, Int.reduceLT, Int.reduceGT, decide_true, decide_false]; (try simp only [z]); all_goals omega)
 ·rcases h with rfl | rfl | rfl
  all_goals (unfold tydP rsR opR; rw [hk]; (try rw [show wn I ([ta, tb, tc] : List (Den I)) 1 (ln I ([ta, tb, tc] : List (Den I)) - 1) = ([tb, tc] : List (Den I)) from rfl]); (repeat rw [gd1x]); (repeat rw [gd0]); simp only [samF, gd0, tl21, Int.reduceBEq, cond_true, cond_false, Bool.and_true]; rw [Bool.eq_iff_iff]; simp only [cond_iff, wide_iff, int_iff, typ_iff, vec_iff, cell_iff, cel_iff, cellP_iff, Bool.and_eq_true, beq_iff_eq, bne_iff_ne, decide_eq_true_eq, ne_eq, reduceCtorEq, and_true, true_and, and_false, or_false, not_true, not_false_iff, false_or, Classical.not_not, false_and, or_true, true_or, Int.reduceLT, Int.reduceGT, decide_true, decide_false]; (try simp only [z]); all_goals (try omega))
theorem typ0 {x : Ins} {m : Md} {k : Int} (hk : z x.1 = k) (h : k = 1 ∨ k = 2 ∨ k = 25 ∨ k = 26) : tydP x [] m = rsR x m := by
 rcases h with rfl | rfl | rfl | rfl <;> (unfold tydP rsR; rw [hk]; rfl)
theorem tp2 {x : Ins} {m : Md} {ta tb : Int} (hk : z x.1 = 32) (hn : (ln I x.2.2.2.1 : Int) = 2) : tydP x [ta, tb] m = (rsR x m && (opR x m 0 ta ta && opR x m 1 tb ta)) := by
 have hq : (ln I ([ta, tb] : List (Den I)) : Int) = 2 := rfl
 have hr : True := trivial
 unfold tydP rsR opR; rw [hk]; rw [hn]; simp only [hn, hq, hr]; (try rw [show wn I ([ta, tb, tc] : List (Den I)) 1 (ln I ([ta, tb, tc] : List (Den I)) - 1) = ([tb, tc] : List (Den I)) from rfl]); (repeat rw [gd1x]); (repeat rw [gd0]); simp only [samF, gd0, tl21, Int.reduceBEq, cond_true, cond_false, Bool.and_true]; rw [Bool.eq_iff_iff]; simp only [cond_iff, wide_iff, int_iff, typ_iff, vec_iff, cell_iff, cel_iff, cellP_iff, Bool.and_eq_true, beq_iff_eq, bne_iff_ne, decide_eq_true_eq, ne_eq, reduceCtorEq, and_true, true_and, and_false, or_false, not_true, not_false_iff, false_or, Classical.not_not, false_and, or_true, true_or, Int.reduceLT, Int.reduceGT, decide_true, decide_false]; (try simp only [z]); all_goals (try omega)
theorem tp4 {x : Ins} {m : Md} {ta tb tc td : Int} (hk : z x.1 = 32) (hn : (ln I x.2.2.2.1 : Int) = 4) : tydP x [ta, tb, tc, td] m = (rsR x m && (opR x m 0 ta ta && (opR x m 1 tb ta && (opR x m 2 tc ta && opR x m 3 td ta)))) := by
 have hq : (ln I ([ta, tb, tc, td] : List (Den I)) : Int) = 4 := rfl
 have hr : True := trivial
 unfold tydP rsR opR; rw [hk]; rw [hn]; simp only [hn, hq, hr]; (try rw [show wn I ([ta, tb, tc] : List (Den I)) 1 (ln I ([ta, tb, tc] : List (Den I)) - 1) = ([tb, tc] : List (Den I)) from rfl]); (repeat rw [gd1x]); (repeat rw [gd0]); simp only [samF, gd0, tl21, Int.reduceBEq, cond_true, cond_false, Bool.and_true]; rw [Bool.eq_iff_iff]; simp only [cond_iff, wide_iff, int_iff, typ_iff, vec_iff, cell_iff, cel_iff, cellP_iff, Bool.and_eq_true, beq_iff_eq, bne_iff_ne, decide_eq_true_eq, ne_eq, reduceCtorEq, and_true, true_and, and_false, or_false, not_true, not_false_iff, false_or, Classical.not_not, false_and, or_true, true_or, Int.reduceLT, Int.reduceGT, decide_true, decide_false]; (try simp only [z]); all_goals (try omega)
theorem cnt_eq {x : Ins} {m : Md} (h : 1 ≤ z x.1 ∧ z x.1 ≤ 33) : cntP x m = cond (cntB x m) 3 0 := by
 have hr : cntP x m = cond (z x.1 == 30) (cond ((ln I x.2.2.2.1 : Int) != (ln I (gd qaa m.2.1 (z x.2.2.2.2.2.1).toNat).2.1 : Int)) 3 0) (cond (z x.1 == 32) (cond ((ln I x.2.2.2.1 : Int) == 4) (cond ((ln I x.2.2.2.1 : Int) != 4) 3 0) (cond ((ln I x.2.2.2.1 : Int) != 2) 3 0)) (cond ((ln I x.2.2.2.1 : Int) != rowN (z x.1)) 3 0)) := rfl
 rw [hr]
 unfold cntB cnR
 have hb : ∀ a b : Int, (a != b) = (b != a) := fun a b => by rw [Bool.eq_iff_iff]; simp; exact ⟨fun h e => h e.symm, fun h e => h e.symm⟩
 have hz : ∀ k : Int, z x.1 = k → (k = 30 ∨ k = 32 ∨ ∃ n, rowN k = n) → True := fun _ _ _ => trivial
 have : z x.1 = 1 ∨ z x.1 = 2 ∨ z x.1 = 3 ∨ z x.1 = 4 ∨ z x.1 = 5 ∨ z x.1 = 6 ∨ z x.1 = 7 ∨ z x.1 = 8 ∨ z x.1 = 9 ∨ z x.1 = 10 ∨ z x.1 = 11 ∨ z x.1 = 12 ∨ z x.1 = 13 ∨ z x.1 = 14 ∨ z x.1 = 15 ∨ z x.1 = 16 ∨ z x.1 = 17 ∨ z x.1 = 18 ∨ z x.1 = 19 ∨ z x.1 = 20 ∨ z x.1 = 21 ∨ z x.1 = 22 ∨ z x.1 = 23 ∨ z x.1 = 24 ∨ z x.1 = 25 ∨ z x.1 = 26 ∨ z x.1 = 27 ∨ z x.1 = 28 ∨ z x.1 = 29 ∨ z x.1 = 31 ∨ z x.1 = 33 ∨ z x.1 = 30 ∨ z x.1 = 32 := by omega
 rcases this with h | h | h | h | h | h | h | h | h | h | h | h | h | h | h | h | h | h | h | h | h | h | h | h | h | h | h | h | h | h | h | h | h
 iterate 31
  ·rw [h]
   first
   | exact congrArg (fun b => cond b (3 : Int) 0) (hb _ 0)
   | exact congrArg (fun b => cond b (3 : Int) 0) (hb _ 1)
   | exact congrArg (fun b => cond b (3 : Int) 0) (hb _ 2)
   | exact congrArg (fun b => cond b (3 : Int) 0) (hb _ 3)
 ·rw [h]
  exact congrArg (fun b => cond b (3 : Int) 0) (hb _ _)
 ·rw [h]
  by_cases h4 : (ln I x.2.2.2.1 : Int) = 4
  ·rw [h4]; rfl
  ·have e4 : ((ln I x.2.2.2.1 : Int) == 4) = false := beq_eq_false_iff_ne.mpr h4
   by_cases h2 : (ln I x.2.2.2.1 : Int) = 2
   ·rw [h2]; rfl
   ·have e2 : ((ln I x.2.2.2.1 : Int) == 2) = false := beq_eq_false_iff_ne.mpr h2
    simp [bne, e4, e2, bOf]
theorem typ_eq {x : Ins} {f : Fn} {m : Md} (h : 1 ≤ z x.1 ∧ z x.1 ≤ 33) (hc : cntB x m = false) : tydP x (argT f x.2.2.2.1 (ln I x.2.2.2.1)) m = (rsR x m && allP (opP x f m) (ln I x.2.2.2.1) 0) := by
 have hn : cntP x m = 0 := by rw [cnt_eq h, hc]; rfl
 have hcr := cnt_row (x := x) (m := m) (by rw [hn]; rfl)
 have hl : ∀ k n : Int, z x.1 = k → rowN k = n → k ≠ 30 → k ≠ 32 → (ln I x.2.2.2.1 : Int) = n := fun k n h1 h2 h3 h4 => by
  rw [hcr.2.2 (by omega) (by omega), h1, h2]
 have f0 : ∀ k : Int, z x.1 = k → (k = 1 ∨ k = 2 ∨ k = 25 ∨ k = 26) → rowN k = 0 → tydP x (argT f x.2.2.2.1 (ln I x.2.2.2.1)) m = (rsR x m && allP (opP x f m) (ln I x.2.2.2.1) 0) := fun k hk hj hr => by
  have hlen := len0 (l := x.2.2.2.1) (by have := hl k 0 hk hr (by omega) (by omega); omega)
  rw [hlen]
  exact (typ0 hk hj).trans (by rw [show allP (opP x f m) (ln I ([] : List (Den I))) 0 = true from rfl, Bool.and_true])
 have f1 : ∀ k : Int, z x.1 = k → (k = 3 ∨ k = 4 ∨ k = 28 ∨ k = 31 ∨ k = 33 ∨ k = 22 ∨ k = 23 ∨ k = 24) → rowN k = 1 → tydP x (argT f x.2.2.2.1 (ln I x.2.2.2.1)) m = (rsR x m && allP (opP x f m) (ln I x.2.2.2.1) 0) := fun k hk hj hr => by
  obtain ⟨a, hlen⟩ := len1 (l := x.2.2.2.1) (by have := hl k 1 hk hr (by omega) (by omega); omega)
  have hgo : tydP x [gd I f.2.2.2.1 (z a).toNat] m = (rsR x m && (opR x m 0 (gd I f.2.2.2.1 (z a).toNat) (gd I f.2.2.2.1 (z a).toNat))) := by
   by_cases h2 : k = 22 ∨ k = 23 ∨ k = 24
   ·exact typ1b hk h2
   ·exact typ1 hk (by omega)
  have e1 : argT f x.2.2.2.1 (ln I x.2.2.2.1) = [gd I f.2.2.2.1 (z a).toNat] := by rw [hlen]; rfl
  have e2 : allP (opP x f m) (ln I x.2.2.2.1) 0 = (opR x m 0 (gd I f.2.2.2.1 (z a).toNat) (gd I f.2.2.2.1 (z a).toNat)) := by
   unfold opP
   rw [hlen]
   exact Bool.and_true _
  rw [e1, e2]
  exact hgo
 have f2 : (∀ ta tb : Int, tydP x [ta, tb] m = (rsR x m && (opR x m 0 ta ta && opR x m 1 tb ta))) → (ln I x.2.2.2.1 : Int) = 2 → tydP x (argT f x.2.2.2.1 (ln I x.2.2.2.1)) m = (rsR x m && allP (opP x f m) (ln I x.2.2.2.1) 0) := fun hgo hr => by
  obtain ⟨a, b, hlen⟩ := len2 (l := x.2.2.2.1) (by omega)
  have e1 : argT f x.2.2.2.1 (ln I x.2.2.2.1) = [gd I f.2.2.2.1 (z a).toNat, gd I f.2.2.2.1 (z b).toNat] := by rw [hlen]; rfl
  have e2 : allP (opP x f m) (ln I x.2.2.2.1) 0 = (opR x m 0 (gd I f.2.2.2.1 (z a).toNat) (gd I f.2.2.2.1 (z a).toNat) && opR x m 1 (gd I f.2.2.2.1 (z b).toNat) (gd I f.2.2.2.1 (z a).toNat)) := by
   unfold opP
   rw [hlen]
   exact congrArg (_ && ·) (Bool.and_true _)
  rw [e1, e2]
  exact hgo _ _
 have f3 : z x.1 = 21 → tydP x (argT f x.2.2.2.1 (ln I x.2.2.2.1)) m = (rsR x m && allP (opP x f m) (ln I x.2.2.2.1) 0) := fun hk => by
  obtain ⟨a, b, c, hlen⟩ := len3 (l := x.2.2.2.1) (by have := hl 21 3 hk rfl (by omega) (by omega); omega)
  have e1 : argT f x.2.2.2.1 (ln I x.2.2.2.1) = [gd I f.2.2.2.1 (z a).toNat, gd I f.2.2.2.1 (z b).toNat, gd I f.2.2.2.1 (z c).toNat] := by rw [hlen]; rfl
  have e2 : allP (opP x f m) (ln I x.2.2.2.1) 0 = (opR x m 0 (gd I f.2.2.2.1 (z a).toNat) (gd I f.2.2.2.1 (z a).toNat) && (opR x m 1 (gd I f.2.2.2.1 (z b).toNat) (gd I f.2.2.2.1 (z a).toNat) && opR x m 2 (gd I f.2.2.2.1 (z c).toNat) (gd I f.2.2.2.1 (z a).toNat))) := by
   unfold opP
   rw [hlen]
   exact congrArg (_ && ·) (congrArg (_ && ·) (Bool.and_true _))
  rw [e1, e2]
  exact typ3 hk
 have f4 : z x.1 = 32 → (ln I x.2.2.2.1 : Int) = 4 → tydP x (argT f x.2.2.2.1 (ln I x.2.2.2.1)) m = (rsR x m && allP (opP x f m) (ln I x.2.2.2.1) 0) := fun hk hr => by
  obtain ⟨a, b, c, d, hlen⟩ := len4 (l := x.2.2.2.1) (by omega)
  have e1 : argT f x.2.2.2.1 (ln I x.2.2.2.1) = [gd I f.2.2.2.1 (z a).toNat, gd I f.2.2.2.1 (z b).toNat, gd I f.2.2.2.1 (z c).toNat, gd I f.2.2.2.1 (z d).toNat] := by rw [hlen]; rfl
  have e2 : allP (opP x f m) (ln I x.2.2.2.1) 0 = (opR x m 0 (gd I f.2.2.2.1 (z a).toNat) (gd I f.2.2.2.1 (z a).toNat) && (opR x m 1 (gd I f.2.2.2.1 (z b).toNat) (gd I f.2.2.2.1 (z a).toNat) && (opR x m 2 (gd I f.2.2.2.1 (z c).toNat) (gd I f.2.2.2.1 (z a).toNat) && opR x m 3 (gd I f.2.2.2.1 (z d).toNat) (gd I f.2.2.2.1 (z a).toNat)))) := by
   unfold opP
   rw [hlen]
   exact congrArg (_ && ·) (congrArg (_ && ·) (congrArg (_ && ·) (Bool.and_true _)))
  rw [e1, e2]
  exact tp4 hk hr
 have f30 : z x.1 = 30 → tydP x (argT f x.2.2.2.1 (ln I x.2.2.2.1)) m = (rsR x m && allP (opP x f m) (ln I x.2.2.2.1) 0) := fun hk => by
  have hln : (ln I (gd qaa m.2.1 (z x.2.2.2.2.2.1).toNat).2.1) = ln I x.2.2.2.1 := by have := hcr.1 hk; omega
  have e1 : tydP x (argT f x.2.2.2.1 (ln I x.2.2.2.1)) m = calF x (argT f x.2.2.2.1 (ln I x.2.2.2.1)) m := by unfold tydP; rw [hk]; rfl
  have e2 : rsR x m = (z x.2.1 == z (gd qaa m.2.1 (z x.2.2.2.2.2.1).toNat).2.2.1) := by unfold rsR; rw [hk]; rfl
  rw [e1, calF, calN_eq, e2, Bool.and_comm, hln]
  refine congrArg (_ && ·) (allP_congr fun j _ hj => ?_)
  unfold opP opR
  rw [hk, argT_gd (by omega)]
  rfl
 have hw : z x.1 = 1 ∨ z x.1 = 2 ∨ z x.1 = 25 ∨ z x.1 = 26 ∨ z x.1 = 3 ∨ z x.1 = 4 ∨ z x.1 = 28 ∨ z x.1 = 31 ∨ z x.1 = 33 ∨ z x.1 = 22 ∨ z x.1 = 23 ∨ z x.1 = 24 ∨ z x.1 = 5 ∨ z x.1 = 6 ∨ z x.1 = 7 ∨ z x.1 = 8 ∨ z x.1 = 9 ∨ z x.1 = 10 ∨ z x.1 = 11 ∨ z x.1 = 12 ∨ z x.1 = 13 ∨ z x.1 = 14 ∨ z x.1 = 15 ∨ z x.1 = 16 ∨ z x.1 = 17 ∨ z x.1 = 18 ∨ z x.1 = 19 ∨ z x.1 = 20 ∨ z x.1 = 27 ∨ z x.1 = 29 ∨ z x.1 = 21 ∨ z x.1 = 30 ∨ z x.1 = 32 := by omega
 rcases hw with h | h | h | h | h | h | h | h | h | h | h | h | h | h | h | h | h | h | h | h | h | h | h | h | h | h | h | h | h | h | h | h | h
 iterate 4
  ·exact f0 _ h (by omega) rfl
 iterate 8
  ·exact f1 _ h (by omega) rfl
 iterate 18
  ·exact f2 (fun ta tb => typ2 h (by omega)) (hl _ 2 h rfl (by omega) (by omega))
 ·exact f3 h
 ·exact f30 h
 ·rcases hcr.2.1 h with h2 | h4
  ·exact f2 (fun ta tb => tp2 h h2) h2
  ·exact f4 h h4
theorem name_eq {op : Int} : ((nameP op).toList == ByteArray.empty.toList) = cond (decide (op < (1 : Int))) true (decide (op > (33 : Int))) := by
 rw [toList_nil]
 by_cases h1 : op < 1
 ·have : nameP op = ByteArray.empty := by unfold nameP; rw [decide_eq_true h1]; rfl
  rw [this, decide_eq_true h1]
  rfl
 ·by_cases h2 : op > 33
  ·have : nameP op = ByteArray.empty := by
    unfold nameP
    rw [decide_eq_false h1, show decide (op > (ln qaq rowsP : Int)) = true from decide_eq_true h2]
    rfl
   rw [this, decide_eq_false h1, decide_eq_true h2]
   rfl
  ·rw [decide_eq_false h1, decide_eq_false h2]
   have : op = 1 ∨ op = 2 ∨ op = 3 ∨ op = 4 ∨ op = 5 ∨ op = 6 ∨ op = 7 ∨ op = 8 ∨ op = 9 ∨ op = 10 ∨ op = 11 ∨ op = 12 ∨ op = 13 ∨ op = 14 ∨ op = 15 ∨ op = 16 ∨ op = 17 ∨ op = 18 ∨ op = 19 ∨ op = 20 ∨ op = 21 ∨ op = 22 ∨ op = 23 ∨ op = 24 ∨ op = 25 ∨ op = 26 ∨ op = 27 ∨ op = 28 ∨ op = 29 ∨ op = 30 ∨ op = 31 ∨ op = 32 ∨ op = 33 := by omega
   rcases this with rfl | rfl | rfl | rfl | rfl | rfl | rfl | rfl | rfl | rfl | rfl | rfl | rfl | rfl | rfl | rfl | rfl | rfl | rfl | rfl | rfl | rfl | rfl | rfl | rfl | rfl | rfl | rfl | rfl | rfl | rfl | rfl | rfl <;> rfl
theorem lane_types {x : Ins} {args : List (Den I)} {m : Md} (h : z x.1 = 33) (ht : tydP x args m = true) : z (gd I args 0) = 6 ∨ z (gd I args 0) = 7 := by
 unfold tydP at ht
 rw [h] at ht
 have ht' : cond (z x.2.1 == 3) (vecP (gd I args 0)) false = true := ht
 cases h3 : z x.2.1 == 3
 ·rw [h3] at ht'; exact Bool.noConfusion ht'
 ·rw [h3] at ht'; exact vec_iff.mp ht'
theorem imm_eq {x : Ins} {f : Fn} {m : Md} {args : List (Den I)} (ht : tydP x args m = true) (h0 : z x.1 = 33 → gd I args 0 = gd I f.2.2.2.1 (z (gd I x.2.2.2.1 0)).toNat) : chk2 x f (rs2 x) = immP x args := by
 have ht' := fun h => lane_types h ht
 unfold chk2 chk3 chk4 rs2 rs3 rs4 immP
 by_cases h26 : z x.1 = 26
 ·rw [h26]
  cases h1 : z (accP x.2.2.2.2.2.2.1).2 != (1 : Int)
  ·cases h2 : z (accP x.2.2.2.2.2.2.1).1 != z x.2.2.2.2.2.2.1
   ·by_cases h3 : z x.2.2.2.2.1 < 1
    ·rw [decide_eq_true h3, decide_eq_false (show ¬ z x.2.2.2.2.1 ≥ 1 by omega)]; rfl
    ·rw [decide_eq_false h3, decide_eq_true (show z x.2.2.2.2.1 ≥ 1 by omega)]
     by_cases h4 : z x.2.2.2.2.1 > 256
     ·rw [decide_eq_true h4, decide_eq_false (show ¬ z x.2.2.2.2.1 ≤ 256 by omega)]; rfl
     ·rw [decide_eq_false h4, decide_eq_true (show z x.2.2.2.2.1 ≤ 256 by omega)]; rfl
   ·rfl
  ·rfl
 ·have e26 : (z x.1 == 26) = false := beq_eq_false_iff_ne.mpr h26
  rw [e26]
  by_cases h1 : z x.1 = 1
  ·rw [h1]
   unfold bne
   cases wrapZ x.2.1 x.2.2.2.2.1 == z x.2.2.2.2.1 <;> rfl
  ·have e1 : (z x.1 == 1) = false := beq_eq_false_iff_ne.mpr h1
   rw [e1]
   by_cases h33 : z x.1 = 33
   ·have hv := ht' h33
    rw [← h0 h33, h33]
    by_cases h3 : z x.2.2.2.2.1 < 0
    ·rw [decide_eq_true h3, decide_eq_false (show ¬ z x.2.2.2.2.1 ≥ 0 by omega)]; rfl
    ·rw [decide_eq_false h3, decide_eq_true (show z x.2.2.2.2.1 ≥ 0 by omega)]
     rcases hv with hv | hv
     ·rw [show gd I args 0 = 6 from hv]
      have e : z (accP 6).2 = 2 := rfl
      rw [e]
      by_cases h4 : z x.2.2.2.2.1 < 2
      ·rw [decide_eq_true h4, decide_eq_false (show ¬ z x.2.2.2.2.1 > 3 by omega), decide_eq_false (show ¬ z x.2.2.2.2.1 > 1 by omega)]; rfl
      ·rw [decide_eq_false h4, decide_eq_true (show z x.2.2.2.2.1 > 1 by omega)]
       cases decide (z x.2.2.2.2.1 > 3) <;> rfl
     ·rw [show gd I args 0 = 7 from hv]
      have e : z (accP 7).2 = 4 := rfl
      rw [e]
      by_cases h4 : z x.2.2.2.2.1 < 4
      ·rw [decide_eq_true h4, decide_eq_false (show ¬ z x.2.2.2.2.1 > 3 by omega)]
       cases decide (z x.2.2.2.2.1 > 1) <;> rfl
      ·rw [decide_eq_false h4, decide_eq_true (show z x.2.2.2.2.1 > 3 by omega)]; rfl
   ·have e33 : (z x.1 == 33) = false := beq_eq_false_iff_ne.mpr h33
    rw [e33]
    rfl
theorem orE_congr {a b c : Int} (h : a = 0 → b = c) : orE a b = orE a c := by
 unfold orE
 cases h0 : a == 0
 ·rfl
 ·exact h (eq_of_beq h0)
theorem chk_eq (x : Ins) (f : Fn) (m : Md) : chkR x f m = chkF x f m := by
 unfold chkR chkO chkF
 rw [name_eq]
 show cond (opB x) 8 _ = cond (opB x) 8 _
 cases hop : opB x
 ·have h1 : 1 ≤ z x.1 ∧ z x.1 ≤ 33 := by
   unfold opB at hop
   cases h : decide (z x.1 < (1 : Int)) <;> rw [h] at hop
   ·have h' : ¬ z x.1 < 1 := of_decide_eq_false h
    have h2 : ¬ z x.1 > 33 := of_decide_eq_false hop
    omega
   ·exact Bool.noConfusion hop
  show chkL x f m (fldR x) = cond (fldP x != (0 : Int)) (fldP x) _
  rw [z_fld, chkL]
  cases fldR x
  ·show chkY x f m (symR x m) = cond (symP x m != (0 : Int)) (symP x m) _
   rw [z_sym, chkY]
   cases symR x m
   ·show chkC x f m (cntB x m) = cond (cntP x m != (0 : Int)) (cntP x m) _
    rw [cnt_eq h1, chkC]
    cases hc : cntB x m
    ·show orE _ _ = orE _ _
     refine orE_congr fun harg => ?_
     rw [chkS, dstB, chkT]
     by_cases hd1 : z x.2.2.1 < -1
     ·rw [decide_eq_true hd1]; rfl
     ·rw [decide_eq_false hd1]
      by_cases hd2 : z x.2.2.1 ≥ (ln I f.2.2.2.1 : Int)
      ·rw [decide_eq_true hd2]; rfl
      ·rw [decide_eq_false hd2]
       show cond (!(rsR x m)) 9 (orE (qao (fun i => cond (!(opP x f m i)) 9 0) (ln I x.2.2.2.1) 0) (chk1 x f (rs1 x f))) = cond (!(tydP x (argT f x.2.2.2.1 (ln I x.2.2.2.1)) m)) 9 (cond (!(resP x f)) 9 (immP x (argT f x.2.2.2.1 (ln I x.2.2.2.1))))
       rw [all_E]
       have ht := typ_eq (f := f) h1 hc
       cases htv : tydP x (argT f x.2.2.2.1 (ln I x.2.2.2.1)) m
       ·rw [htv] at ht
        cases hr : rsR x m
        ·rfl
        ·rw [hr] at ht
         have : allP (opP x f m) (ln I x.2.2.2.1) 0 = false := ht.symm
         rw [this]
         rfl
       ·have ht2 := ht
        rw [htv] at ht2
        have hb := Bool.and_eq_true_iff.mp ht2.symm
        rw [hb.1, hb.2]
        show chk1 x f (rs1 x f) = cond (!(resP x f)) 9 _
        rw [chk1, rs1_eq (by omega), imm_eq htv fun h33 => ?_]
        have hn : cntP x m = 0 := by rw [cnt_eq h1, hc]; rfl
        have hcr := (cnt_row (x := x) (m := m) (by rw [hn]; rfl)).2.2 (by omega) (by omega)
        rw [h33, show rowN 33 = 1 from rfl] at hcr
        exact argT_gd (by omega)
    ·rfl
   ·rfl
  ·rfl
 ·rfl
def L_V26 : List (FuncId × FSpec) := [] ++ L_V25
theorem L_V26_ok : ∀ x ∈ L_V26, qal (ctx []) x.1 x.2 := L_V25_ok
end Burn.MC
namespace Burn.MC
open Go Go.BE Go.Proofs
set_option maxRecDepth 100000
set_option linter.unusedVariables false
set_option linter.unusedSimpArgs false
open Burn.Intn Burn.Ref
def mrg_V27 : FuncId → List Nat
 | 55 => [23, 31, 36, 43, 48, 53, 61, 62, 71, 76, 77, 86, 87, 102, 103, 119, 120, 121, 136, 154, 166, 205, 214, 219, 220, 235, 236, 254, 255, 268, 281, 282, 283, 295, 310, 311, 312]
 | _ => []
noncomputable abbrev E_V27 : Ctx := { ctx L_V26 with mrg := mrg_V27 }
theorem E_V27_ok : EOK E_V27 := have h : EOK (ctx L_V26) := qbo L_V26_ok; ⟨h.ty, h.env, h.fns, h.mixed⟩
def cuts_V27 : CutL := [([], 55, 0, [3, 4, 5, 140, 141, 142], [], []),
 ([], 55, 2, [3, 4, 5, 172, 173, 174], [], [])]
def rets_V27 : FuncId → List (Option Fx)
 | _ => []
def H_V27 : Hints := { cut := cutOf cuts_V27, ret := rets_V27 }
noncomputable def r12_Check_L0 (in_ : Den qad) (f : Den qaa) (m : Den qab) (t141 : Int) (t142 : Int) (t140 : List (Den I)) : Cfg := hcfg E_V27 qev 0 [(3, (.rtp qad in_)), (4, (.rtp qaa f)), (5, (.rtp qab m)), (140, (.osl 0 0 [] none)), (141, (vi t141)), (142, (vi t142))] [(0, ⟨(.arr 0 8 I t140), 0, [], false, none⟩)] 1
noncomputable def r12_Check_L2 (in_ : Den qad) (f : Den qaa) (m : Den qab) (t172 : List (Den I)) (t173 : Int) (t174 : Int) : Cfg := hcfg E_V27 qev 2 [(3, (.rtp qad in_)), (4, (.rtp qaa f)), (5, (.rtp qab m)), (172, (.tv (.sl 8 I) t172)), (173, (vi t173)), (174, (vi t174))] [] 0
theorem r12_Check_t (in_ : Den qad) (f : Den qaa) (m : Den qab) : run E_V27 H_V27 qev 3000 (start E_V27 qev [(.tv qad in_), (.tv qaa f), (.tv qab m)]) = (cond (cond (decide ((z in_.1) < (1 : Int))) true (decide ((z in_.1) > (33 : Int)))) (rt (vi (8 : Int)) []) (cond (cond (cond (cond (cond (cond (cond (bOf in_.2.2.2.2.2.2.2.1) ((z in_.1) != (5 : Int)) false) ((z in_.1) != (6 : Int)) false) ((z in_.1) != (7 : Int)) false) true (cond ((z in_.2.2.2.2.1) != (0 : Int)) (!(cond (cond ((z in_.1) == (1 : Int)) true ((z in_.1) == (26 : Int))) true ((z in_.1) == (33 : Int)))) false)) true (cond (cond ((z in_.2.2.2.2.2.1) != (0 : Int)) ((z in_.1) != (25 : Int)) false) ((z in_.1) != (30 : Int)) false)) true (cond ((z in_.2.2.2.2.2.2.1) != (0 : Int)) ((z in_.1) != (26 : Int)) false)) (rt (vi (3 : Int)) []) (cond (cond (cond ((z in_.1) == (25 : Int)) (cond (decide ((z in_.2.2.2.2.2.1) < (0 : Int))) true (decide ((z in_.2.2.2.2.2.1) ≥ ((ln qai m.1) : Int)))) false) true (cond ((z in_.1) == (30 : Int)) (cond (decide ((z in_.2.2.2.2.2.1) < (0 : Int))) true (decide ((z in_.2.2.2.2.2.1) ≥ ((ln qaa m.2.1) : Int)))) false)) (rt (vi (8 : Int)) []) (.chk (z in_.1 = 30 → 0 ≤ z in_.2.2.2.2.2.1 ∧ z in_.2.2.2.2.2.1 < (ln qaa m.2.1 : Nat)) (.know (okAVs [(vi (z ((cnR in_ m).1))), (vb (bOf ((cnR in_ m).2)))]) (cond (cond (!(bOf ((cnR in_ m).2))) true ((z ((cnR in_ m).1)) != ((ln I in_.2.2.2.1) : Int))) (rt (vi (3 : Int)) []) (.chk (((0 : Nat) + (ln I in_.2.2.2.1)) * 8 ≤ roomB) (hd (r12_Check_L0 in_ f m ((ln I (ap I ([] : List (Den I)) in_.2.2.2.1)) : Int) (0 : Int) (ap I ([] : List (Den I)) in_.2.2.2.1)))))))))) := by kernel_rfl
theorem r12_Check_L0_t (in_ : Den qad) (f : Den qaa) (m : Den qab) (t141 : Int) (t142 : Int) (t140 : List (Den I)) : run E_V27 H_V27 qev 3000 (r12_Check_L0 in_ f m t141 t142 t140) = (cond (decide (t142 < t141)) (.chk (0 ≤ t142 ∧ t142 < (ln I t140)) (.chk (t142.toNat < (ln I t140)) (cond (cond (decide ((z (gd I t140 t142.toNat)) < (0 : Int))) true (decide ((z (gd I t140 t142.toNat)) ≥ ((ln I f.2.2.2.1) : Int)))) (rt (vi (10 : Int)) []) (hd (r12_Check_L0 in_ f m t141 (IntKind.wrap .i64 (t142 + (1 : Int))) t140))))) (cond (cond (decide ((z in_.2.2.1) < (-1 : Int))) true (decide ((z in_.2.2.1) ≥ ((ln I f.2.2.2.1) : Int)))) (rt (vi (10 : Int)) []) (.chk (z in_.1 = 30 → 0 ≤ z in_.2.2.2.2.2.1 ∧ z in_.2.2.2.2.2.1 < (ln qaa m.2.1 : Nat)) (.know True (cond (!(rsR in_ m)) (rt (vi (9 : Int)) []) (hd (r12_Check_L2 in_ f m in_.2.2.2.1 ((ln I in_.2.2.2.1) : Int) (0 : Int)))))))) := by kernel_rfl
theorem r12_Check_L2_t (in_ : Den qad) (f : Den qaa) (m : Den qab) (t172 : List (Den I)) (t173 : Int) (t174 : Int) : run E_V27 H_V27 qev 3000 (r12_Check_L2 in_ f m t172 t173 t174) = (cond (decide (t174 < t173)) (.chk (0 ≤ t174 ∧ t174 < (ln I t172)) (.chk (0 ≤ (z (gd I t172 t174.toNat)) ∧ (z (gd I t172 t174.toNat)) < (ln I f.2.2.2.1)) (.chk (0 ≤ (0 : Int) ∧ (0 : Int) < (ln I in_.2.2.2.1)) (.chk (0 ≤ (z (gd I in_.2.2.2.1 (0 : Nat))) ∧ (z (gd I in_.2.2.2.1 (0 : Nat))) < (ln I f.2.2.2.1)) (.chk (z in_.1 = 30 → (0 ≤ z in_.2.2.2.2.2.1 ∧ z in_.2.2.2.2.2.1 < (ln qaa m.2.1 : Nat)) ∧ 0 ≤ z t174 ∧ z t174 < (ln I (gd qaa m.2.1 (z in_.2.2.2.2.2.1).toNat).2.1 : Nat)) (.know True (cond (!(opR in_ m t174 (gd I f.2.2.2.1 (((z (gd I t172 t174.toNat))).toNat)) (gd I f.2.2.2.1 (((z (gd I in_.2.2.2.1 (0 : Nat)))).toNat)))) (rt (vi (9 : Int)) []) (hd (r12_Check_L2 in_ f m t172 t173 (IntKind.wrap .i64 (t174 + (1 : Int)))))))))))) (.chk (((cond (cond ((z in_.2.1) == (0 : Int)) ((z in_.2.2.1) != (-1 : Int)) false) true (cond (cond ((z in_.2.1) != (0 : Int)) ((z in_.2.2.1) == (-1 : Int)) false) ((z in_.1) != (30 : Int)) false)) = false → (((decide ((z in_.2.2.1) ≥ (0 : Int))) = true → (0 ≤ (z in_.2.2.1) ∧ (z in_.2.2.1) < (ln I f.2.2.2.1)))))) (cond (cond (cond (cond ((z in_.2.1) == (0 : Int)) ((z in_.2.2.1) != (-1 : Int)) false) true (cond (cond ((z in_.2.1) != (0 : Int)) ((z in_.2.2.1) == (-1 : Int)) false) ((z in_.1) != (30 : Int)) false)) true (cond (decide ((z in_.2.2.1) ≥ (0 : Int))) ((z (gd I f.2.2.2.1 (((z in_.2.2.1)).toNat))) != (z in_.2.1)) false)) (rt (vi (9 : Int)) []) (.chk (True) (.know (okAVs [(vi (z ((accP in_.2.2.2.2.2.2.1).1))), (vi (z ((accP in_.2.2.2.2.2.2.1).2)))]) (cond (cond ((z in_.1) == (26 : Int)) (cond ((z ((accP in_.2.2.2.2.2.2.1).2)) != (1 : Int)) true ((z ((accP in_.2.2.2.2.2.2.1).1)) != (z in_.2.2.2.2.2.2.1))) false) (rt (vi (9 : Int)) []) (.chk ((((z in_.1) == (1 : Int)) = true → (True))) (cond (cond (cond ((z in_.1) == (1 : Int)) ((wrapZ in_.2.1 in_.2.2.2.2.1) != (z in_.2.2.2.2.1)) false) true (cond ((z in_.1) == (26 : Int)) (cond (decide ((z in_.2.2.2.2.1) < (1 : Int))) true (decide ((z in_.2.2.2.2.1) > (256 : Int)))) false)) (rt (vi (10 : Int)) []) (.chk ((((z in_.1) == (33 : Int)) = true → (((cond (decide ((z in_.2.2.2.2.1) < (0 : Int))) true (decide ((z in_.2.2.2.2.1) > (3 : Int)))) = false → (((decide ((z in_.2.2.2.2.1) > (1 : Int))) = true → (0 ≤ (0 : Int) ∧ (0 : Int) < (ln I in_.2.2.2.1)))))))) (.chk ((((z in_.1) == (33 : Int)) = true → (((cond (decide ((z in_.2.2.2.2.1) < (0 : Int))) true (decide ((z in_.2.2.2.2.1) > (3 : Int)))) = false → (((decide ((z in_.2.2.2.2.1) > (1 : Int))) = true → (0 ≤ (z (gd I in_.2.2.2.1 (0 : Nat))) ∧ (z (gd I in_.2.2.2.1 (0 : Nat))) < (ln I f.2.2.2.1)))))))) (cond (cond ((z in_.1) == (33 : Int)) (cond (cond (decide ((z in_.2.2.2.2.1) < (0 : Int))) true (decide ((z in_.2.2.2.2.1) > (3 : Int)))) true (cond (decide ((z in_.2.2.2.2.1) > (1 : Int))) ((z (gd I f.2.2.2.1 (((z (gd I in_.2.2.2.1 (0 : Nat)))).toNat))) == (6 : Int)) false)) false) (rt (vi (10 : Int)) []) (rt (vi (0 : Int)) [])))))))))))) := by kernel_rfl
theorem argI_ok {f : Fn} {l : List (Den I)} {i : Nat} (h : argI f l i = 0) : 0 ≤ z (gd I l i) ∧ z (gd I l i) < (ln I f.2.2.2.1 : Nat) := by
 unfold argI at h
 cases h1 : decide (z (gd I l i) < 0) <;> cases h2 : decide (z (gd I l i) ≥ (ln I f.2.2.2.1 : Int)) <;> simp [h1, h2] at h
 exact ⟨by simpa using h1, by simpa using h2⟩
theorem RunI.eq {E : Ctx} {c : Cfg} {e d : Int} (h : RunI E c e) (hd : d = e) : RunI E c d := hd ▸ h
theorem c_and (a b c : Bool) : cond (cond a b false) c false = cond a (cond b c false) false := by cases a <;> rfl
theorem c_or (a b c : Bool) : cond (cond a true b) true c = cond a true (cond b true c) := by cases a <;> rfl
theorem cnR_use {x : Ins} {m : Md} (h : cntB x m = false) : (z x.1 = 30 → ln I x.2.2.2.1 = ln I (gd qaa m.2.1 (z x.2.2.2.2.2.1).toNat).2.1) ∧ (z x.1 = 33 → 0 < ln I x.2.2.2.1) := by
 have hn : 1 ≤ z x.1 ∧ z x.1 ≤ 33 → (cntP x m != 0) = false := fun h1 => by rw [cnt_eq h1, h]; rfl
 refine ⟨fun hk => ?_, fun hk => ?_⟩
 ·have := (cnt_row (hn (by omega))).1 hk
  omega
 ·have := (cnt_row (hn (by omega))).2.2 (by omega) (by omega)
  rw [hk, show rowN 33 = 1 from rfl] at this
  omega
theorem fld_m {x : Ins} {b : Bool} (h : cond (cond (cond (cond (cond (cond (bOf x.2.2.2.2.2.2.2.1) (z x.1 != (5 : Int)) false) (z x.1 != (6 : Int)) false) (z x.1 != (7 : Int)) false) true (cond (z x.2.2.2.2.1 != (0 : Int)) (!(cond (cond (z x.1 == (1 : Int)) true (z x.1 == (26 : Int))) true (z x.1 == (33 : Int)))) false)) true (cond (cond (z x.2.2.2.2.2.1 != (0 : Int)) (z x.1 != (25 : Int)) false) (z x.1 != (30 : Int)) false)) true (cond (z x.2.2.2.2.2.2.1 != (0 : Int)) (z x.1 != (26 : Int)) false) = b) : fldR x = b := by
 rw [← h]
 unfold fldR immOp
 simp only [c_and, c_or]
theorem rs1_m {x : Ins} {f : Fn} {b : Bool} (h : cond (cond (cond (z x.2.1 == (0 : Int)) (z x.2.2.1 != (-1 : Int)) false) true (cond (cond (z x.2.1 != (0 : Int)) (z x.2.2.1 == (-1 : Int)) false) (z x.1 != (30 : Int)) false)) true (cond (decide (z x.2.2.1 ≥ (0 : Int))) (z (gd I f.2.2.2.1 (z x.2.2.1).toNat) != z x.2.1) false) = b) : rs1 x f = b := by
 rw [← h]
 unfold rs1
 simp only [c_and, c_or]
theorem rs4_m {x : Ins} {f : Fn} {b : Bool} (h : cond (z x.1 == (33 : Int)) (cond (cond (decide (z x.2.2.2.2.1 < (0 : Int))) true (decide (z x.2.2.2.2.1 > (3 : Int)))) true (cond (decide (z x.2.2.2.2.1 > (1 : Int))) (z (gd I f.2.2.2.1 (z (gd I x.2.2.2.1 0)).toNat) == (6 : Int)) false)) false = b) : rs4 x f = b := by
 rw [← h]
 unfold rs4
 simp only [c_and, c_or]
theorem IsI.of' {a x : Int} (h : a = x) : IsI a (vi x) [] := ⟨congrArg vi h.symm, rfl⟩
theorem r12_Check_l2 (x : Ins) (f : Fn) (m : Md) (hx : okD qad x) (hd : -1 ≤ z x.2.2.1 ∧ z x.2.2.1 < (ln I f.2.2.2.1 : Nat)) (ha : ∀ j, j < ln I x.2.2.2.1 → argI f x.2.2.2.1 j = 0) (h30 : z x.1 = 30 → (0 ≤ z x.2.2.2.2.2.1 ∧ z x.2.2.2.2.2.1 < (ln qaa m.2.1 : Nat)) ∧ ln I x.2.2.2.1 = ln I (gd qaa m.2.1 (z x.2.2.2.2.2.1).toNat).2.1) (h33 : z x.1 = 33 → 0 < ln I x.2.2.2.1) : ∀ i, i ≤ ln I x.2.2.2.1 → RunI E_V27 (r12_Check_L2 x f m x.2.2.2.1 (ln I x.2.2.2.1 : Nat) i) (orE (qao (opnI x f m) (ln I x.2.2.2.1 - i) i) (chk1 x f (rs1 x f))) :=
 qay (.tree E_V27_ok (r12_Check_L2_t ..) (by
  rw [Nat.sub_self, qao, show orE 0 (chk1 x f (rs1 x f)) = chk1 x f (rs1 x f) from rfl]
  simp only [sS, sL,  Nat.lt_irrefl]
  have hk : ∀ {A B : Prop}, (z x.1 == (33 : Int)) = true → A → B → (0 : Int) ≤ 0 ∧ (0 : Int) < (ln I x.2.2.2.1 : Nat) := fun h _ _ => ⟨Int.le_refl _, by have := h33 (beq_t h); omega⟩
  refine ⟨fun _ h0 => ⟨of_decide_eq_true h0, hd.2⟩, fun _ => ⟨fun h1 => .of' (Bool.cond_pos (rs1_m h1)), fun h1 _ => ⟨fun h2 => .of' ((Bool.cond_neg (rs1_m h1)).trans (Bool.cond_pos h2)), fun h2 => ⟨fun h3 => .of' ((Bool.cond_neg (rs1_m h1)).trans ((Bool.cond_neg h2).trans (Bool.cond_pos h3))), fun h3 => ⟨fun h _ _ => hk h trivial trivial, fun _ => ⟨fun h _ _ => argI_ok (ha 0 (h33 (beq_t h))), fun _ => ⟨fun h4 => .of' ((Bool.cond_neg (rs1_m h1)).trans ((Bool.cond_neg h2).trans ((Bool.cond_neg h3).trans (Bool.cond_pos (rs4_m h4))))), fun h4 => .of' ((Bool.cond_neg (rs1_m h1)).trans ((Bool.cond_neg h2).trans ((Bool.cond_neg h3).trans (Bool.cond_neg (rs4_m h4)))))⟩⟩⟩⟩⟩⟩⟩))
  fun i hi ih => .tree E_V27_ok (r12_Check_L2_t ..) (by
   rw [sub1 hi]
   simp only [sS, sL,  hi, wrapS hi (qar hx.2.2.2.1.1)]
   refine ⟨argI_ok (ha i hi), fun _ => ⟨⟨Int.le_refl _, by show (0 : Int) < (ln I x.2.2.2.1 : Nat); omega⟩, fun _ => ⟨argI_ok (ha 0 (by omega)), fun _ => ⟨fun h => ⟨(h30 h).1, by have := (h30 h).2; first | omega | exact ⟨by omega, by omega⟩⟩, fun _ => ⟨fun h1 => .oe (x := 9) (by simp only [opnI, h1, cond_true]) rfl, fun h1 => RunI.oe ih (by simp only [opnI, h1, cond_false])⟩⟩⟩⟩⟩)
theorem dstB_ok {x : Ins} {f : Fn} (h : dstB x f = false) : -1 ≤ z x.2.2.1 ∧ z x.2.2.1 < (ln I f.2.2.2.1 : Nat) := by
 unfold dstB at h
 cases h1 : decide (z x.2.2.1 < (-1 : Int)) <;> rw [h1] at h
 ·exact ⟨by simpa using h1, by simpa using (show decide (z x.2.2.1 ≥ (ln I f.2.2.2.1 : Int)) = false from h)⟩
 ·exact Bool.noConfusion h
theorem argI_m {f : Fn} {l : List (Den I)} {i : Nat} {b : Bool} (h : cond (decide (z (gd I l i) < (0 : Int))) true (decide (z (gd I l i) ≥ (ln I f.2.2.2.1 : Int))) = b) : argI f l i = cond b 10 0 := by
 unfold argI
 rw [← h]
 cases decide (z (gd I l i) < (0 : Int)) <;> rfl
theorem r12_Check_l0 (x : Ins) (f : Fn) (m : Md) (hx : okD qad x) (h30 : z x.1 = 30 → (0 ≤ z x.2.2.2.2.2.1 ∧ z x.2.2.2.2.2.1 < (ln qaa m.2.1 : Nat)) ∧ ln I x.2.2.2.1 = ln I (gd qaa m.2.1 (z x.2.2.2.2.2.1).toNat).2.1) (h33 : z x.1 = 33 → 0 < ln I x.2.2.2.1) : ∀ i, i ≤ ln I x.2.2.2.1 → (∀ j, j < i → argI f x.2.2.2.1 j = 0) → RunI E_V27 (r12_Check_L0 x f m (ln I x.2.2.2.1 : Nat) i x.2.2.2.1) (orE (qao (argI f x.2.2.2.1) (ln I x.2.2.2.1 - i) i) (chkS x f m (dstB x f))) :=
 qay (fun ha => .tree E_V27_ok (r12_Check_L0_t ..) (by
  rw [Nat.sub_self, qao, show orE 0 (chkS x f m (dstB x f)) = chkS x f m (dstB x f) from rfl]
  simp only [sS, sL,  Nat.lt_irrefl]
  refine ⟨fun h1 => .of' (Bool.cond_pos h1), fun h1 => ⟨fun h => (h30 h).1, fun _ => ⟨fun h2 => .of' ((Bool.cond_neg h1).trans (Bool.cond_pos h2)), fun h2 => RunI.eq (r12_Check_l2 x f m hx (dstB_ok h1) ha h30 h33 0 (Nat.zero_le _)) ((Bool.cond_neg h1).trans (Bool.cond_neg h2))⟩⟩⟩))
  fun i hi ih ha => .tree E_V27_ok (r12_Check_L0_t ..) (by
   rw [sub1 hi]
   simp only [sS, sL,  hi, wrapS hi (qar hx.2.2.2.1.1)]
   refine ⟨fun h1 => .oe (x := 10) (argI_m h1) rfl, fun h1 => RunI.oe (ih fun j h => (Nat.lt_succ_iff_lt_or_eq.mp h).elim (ha j) (fun e => e ▸ argI_m h1)) (argI_m h1)⟩)
def k_r12_Check : Con := con [.d qad, .d qaa, .d qab] I (fun x => True) fun x => chkF x.1 x.2.1 x.2.2.1
theorem m_r12_Check (in_ : Den qad) (f : Den qaa) (m : Den qab) (h_in_ : okD qad in_) (h_f : okD qaa f) (h_m : okD qab m) (hp : True) : Runs E_V27 (start E_V27 qev [(.tv qad in_), (.tv qaa f), (.tv qab m)]) (fun r_ h_ => r_ = (vi (chkF in_ f m)) ∧ h_ = []) := .tree E_V27_ok (r12_Check_t in_ f m) (by
 show Tre.wp (contL _ (IsI (chkF in_ f m))) _
 rw [← chk_eq]
 simp only [sS, implies_true]
 refine ⟨fun h1 => .of' (Bool.cond_pos h1), fun h1 => ⟨fun h2 => .of' ((Bool.cond_neg h1).trans (Bool.cond_pos (fld_m h2))), fun h2 => ⟨fun h3 => .of' ((Bool.cond_neg h1).trans ((Bool.cond_neg (fld_m h2)).trans (Bool.cond_pos h3))), fun h3 => ?_⟩⟩⟩
 have hs : z in_.1 = 30 → 0 ≤ z in_.2.2.2.2.2.1 ∧ z in_.2.2.2.2.2.1 < (ln qaa m.2.1 : Nat) := (sym_ok (by rw [z_sym, show symR in_ m = false from h3]; rfl)).2
 refine ⟨hs, fun _ _ => ⟨fun h4 => .of' ((Bool.cond_neg h1).trans ((Bool.cond_neg (fld_m h2)).trans ((Bool.cond_neg h3).trans (Bool.cond_pos h4)))), fun h4 => ?_⟩⟩
 have hu := cnR_use (show cntB in_ m = false from h4)
 have hroom : (0 + ln I in_.2.2.2.1) * 8 ≤ roomB := by
  have : ln I in_.2.2.2.1 * 8 ≤ roomB := h_in_.2.2.2.1.1.1
  omega
 exact ⟨hroom, fun _ => RunI.eq (r12_Check_l0 in_ f m h_in_ (fun h => ⟨hs h, hu.1 h⟩) hu.2 0 (Nat.zero_le _) (fun j h => absurd h (Nat.not_lt_zero _))) ((Bool.cond_neg h1).trans ((Bool.cond_neg (fld_m h2)).trans ((Bool.cond_neg h3).trans (Bool.cond_neg h4))))⟩)
theorem c_r12_Check : qal E_V27 qev k_r12_Check.spec := qan fun x hx hp => ⟨rfl, m_r12_Check x.1 x.2.1 x.2.2.1 hx.1 hx.2.1 hx.2.2.1 hp⟩
def L_V27 : List (FuncId × FSpec) := [(qev, k_r12_Check.spec)] ++ L_V26
theorem L_V27_ok : ∀ x ∈ L_V27, qal (ctx []) x.1 x.2 := by
 unfold L_V27
 simp only [List.cons_append, List.nil_append, List.forall_mem_cons]
 exact ⟨c_r12_Check, L_V26_ok⟩
end Burn.MC
namespace Burn.MC
open Go Go.BE Go.Proofs
set_option maxRecDepth 100000
set_option linter.unusedVariables false
set_option linter.unusedSimpArgs false
open Burn.Intn Burn.Ref
noncomputable abbrev E_V28 : Ctx := ctx L_V27
theorem qie : EOK E_V28 := qbo L_V27_ok
def cuts_V28 : CutL := [([], 24, 0, [1, 2, 14, 15], [], []),
 ([], 24, 2, [1, 2, 34, 35], [], []),
 ([], 25, 0, [1, 2, 4, 5, 6, 22, 23, 24], [], []),
 ([], 25, 2, [1, 2, 4, 5, 51, 52, 53], [], []),
 ([], 25, 4, [1, 2, 4, 5, 9, 10, 51, 52, 53, 80, 81, 82], [], [])]
def rets_V28 : FuncId → List (Option Fx)
 | 24 => [some (.dat qak)]
 | 25 => [some (.dat qak)]
 | _ => []
def H_V28 : Hints := { cut := cutOf cuts_V28, ret := rets_V28 }
noncomputable def r14_heads_L0 (m : Den qab) (t14 : Int) (t15 : Int) (t2 : Den qak) : Cfg := hcfg E_V28 qeu 0 [(1, (.rtp qab m)), (2, (.tref 0 0 [] (0 : Nat) [])), (14, (vi t14)), (15, (vi t15))] [(0, ⟨(.arr 0 40 qak ([t2] : List (Den qak))), 0, [], false, none⟩)] 1
noncomputable def r14_heads_L2 (m : Den qab) (t34 : Int) (t35 : Int) (t2 : Den qak) : Cfg := hcfg E_V28 qeu 2 [(1, (.rtp qab m)), (2, (.tref 0 0 [] (0 : Nat) [])), (34, (vi t34)), (35, (vi t35))] [(0, ⟨(.arr 0 40 qak ([t2] : List (Den qak))), 0, [], false, none⟩)] 1
theorem r14_heads_t (m : Den qab) : run E_V28 H_V28 qeu 3000 (start E_V28 qeu [(.tv qab m)]) = (cond (decide (((ln qai m.1) : Int) > (32 : Int))) (.chk (True) (.know (okD qak (diagR (11 : Int) (1 : Int) (-1 : Int) (-1 : Int) (-1 : Int))) (.chk ((0 : Nat) < (1 : Nat)) (.chk ((0 : Nat) < (1 : Nat)) (rt (.tv qak (diagR (11 : Int) (1 : Int) (-1 : Int) (-1 : Int) (-1 : Int))) []))))) (hd (r14_heads_L0 m ((ln qai m.1) : Int) (0 : Int) ((0 : Int), (0 : Int), (0 : Int), (0 : Int), (0 : Int), ())))) := by kernel_rfl
theorem r14_heads_L0_t (m : Den qab) (t14 : Int) (t15 : Int) (t2 : Den qak) : run E_V28 H_V28 qeu 3000 (r14_heads_L0 m t14 t15 t2) = (cond (decide (t15 < t14)) (.chk (0 ≤ z t15 ∧ z t15 < (ln qai m.1 : Nat)) (.know (okD (.int .i64) (gloR m t15)) (cond ((gloR m t15) != (0 : Int)) (.chk (True) (.know (okD qak (diagR (gloR m t15) (1 : Int) t15 (-1 : Int) (-1 : Int))) (.chk ((0 : Nat) < (1 : Nat)) (.chk ((0 : Nat) < (1 : Nat)) (rt (.tv qak (diagR (gloR m t15) (1 : Int) t15 (-1 : Int) (-1 : Int))) []))))) (hd (r14_heads_L0 m t14 (IntKind.wrap .i64 (t15 + (1 : Int))) t2))))) (cond (decide (((ln qaa m.2.1) : Int) > (32 : Int))) (.chk (True) (.know (okD qak (diagR (11 : Int) (2 : Int) (-1 : Int) (-1 : Int) (-1 : Int))) (.chk ((0 : Nat) < (1 : Nat)) (.chk ((0 : Nat) < (1 : Nat)) (rt (.tv qak (diagR (11 : Int) (2 : Int) (-1 : Int) (-1 : Int) (-1 : Int))) []))))) (hd (r14_heads_L2 m ((ln qaa m.2.1) : Int) (0 : Int) t2)))) := by kernel_rfl
theorem r14_heads_L2_t (m : Den qab) (t34 : Int) (t35 : Int) (t2 : Den qak) : run E_V28 H_V28 qeu 3000 (r14_heads_L2 m t34 t35 t2) = (cond (decide (t35 < t34)) (.chk (0 ≤ z t35 ∧ z t35 < (ln qaa m.2.1 : Nat)) (.know (okD (.int .i64) (sigR m t35)) (cond ((sigR m t35) != (0 : Int)) (.chk (True) (.know (okD qak (diagR (sigR m t35) (2 : Int) t35 (-1 : Int) (-1 : Int))) (.chk ((0 : Nat) < (1 : Nat)) (.chk ((0 : Nat) < (1 : Nat)) (rt (.tv qak (diagR (sigR m t35) (2 : Int) t35 (-1 : Int) (-1 : Int))) []))))) (hd (r14_heads_L2 m t34 (IntKind.wrap .i64 (t35 + (1 : Int))) t2))))) (.chk ((0 : Nat) < (1 : Nat)) (.chk ((0 : Nat) < (1 : Nat)) (rt (.tv qak ((0 : Int), (0 : Int), (0 : Int), (0 : Int), (0 : Int), ())) [])))) := by kernel_rfl
noncomputable def r14_body_L0 (i : Int) (m : Den qab) (n : Int) (t22 : List (Den qac)) (t23 : Int) (t24 : Int) (t4 : Den qak) (f_0 : ByteArray) (f_1 : List (Den I)) (f_2 : Int) (f_3 : List (Den I)) (f_4 : List (Den qac)) : Cfg := hcfg E_V28 qem 0 [(1, (vi i)), (2, (.rtp qab m)), (4, (.tref 0 0 [] (0 : Nat) [])), (5, (.ref 1 0)), (6, (vi n)), (22, (.tv (.sl 136 qac) t22)), (23, (vi t23)), (24, (vi t24))] [(0, ⟨(.arr 0 40 qak ([t4] : List (Den qak))), 0, [], false, none⟩), (1, ⟨(.cells [(vs f_0), (.tv (.sl 8 I) f_1), (vi f_2), (.tv (.sl 8 I) f_3), (.tv (.sl 136 qac) f_4)]), 1, [], false, none⟩)] 2
noncomputable def r14_body_L2 (i : Int) (m : Den qab) (t51 : List (Den qac)) (t52 : Int) (t53 : Int) (t4 : Den qak) (f_0 : ByteArray) (f_1 : List (Den I)) (f_2 : Int) (f_3 : List (Den I)) (f_4 : List (Den qac)) : Cfg := hcfg E_V28 qem 2 [(1, (vi i)), (2, (.rtp qab m)), (4, (.tref 0 0 [] (0 : Nat) [])), (5, (.ref 1 0)), (51, (.tv (.sl 136 qac) t51)), (52, (vi t52)), (53, (vi t53))] [(0, ⟨(.arr 0 40 qak ([t4] : List (Den qak))), 0, [], false, none⟩), (1, ⟨(.cells [(vs f_0), (.tv (.sl 8 I) f_1), (vi f_2), (.tv (.sl 8 I) f_3), (.tv (.sl 136 qac) f_4)]), 1, [], false, none⟩)] 2
noncomputable def r14_body_L4 (i : Int) (m : Den qab) (k : Int) (t51 : List (Den qac)) (t52 : Int) (t53 : Int) (t80 : List (Den qad)) (t81 : Int) (t82 : Int) (t4 : Den qak) (f_0 : ByteArray) (f_1 : List (Den I)) (f_2 : Int) (f_3 : List (Den I)) (f_4 : List (Den qac)) (b_0 : List (Den I)) (b_1 : List (Den qad)) (b_2 : Int) (b_3 : List (Den I)) (b_4 : List (Den I)) (b_5 : List (Den qae)) (b_6 : Int) : Cfg := hcfg E_V28 qem 4 [(1, (vi i)), (2, (.rtp qab m)), (4, (.tref 0 0 [] (0 : Nat) [])), (5, (.ref 1 0)), (9, (vi k)), (10, (.ref 2 0)), (51, (.tv (.sl 136 qac) t51)), (52, (vi t52)), (53, (vi t53)), (80, (.tv (.sl 80 qad) t80)), (81, (vi t81)), (82, (vi t82))] [(0, ⟨(.arr 0 40 qak ([t4] : List (Den qak))), 0, [], false, none⟩), (1, ⟨(.cells [(vs f_0), (.tv (.sl 8 I) f_1), (vi f_2), (.tv (.sl 8 I) f_3), (.tv (.sl 136 qac) f_4)]), 1, [], false, none⟩), (2, ⟨(.cells [(.tv (.sl 8 I) b_0), (.tv (.sl 80 qad) b_1), (vi b_2), (.tv (.sl 8 I) b_3), (.tv (.sl 8 I) b_4), (.tv (.sl 32 qae) b_5), (vi b_6)]), 2, [], false, none⟩)] 3
theorem r14_body_t (m : Den qab) (i : Int) : run E_V28 H_V28 qem 3000 (start E_V28 qem [(.tv qab m), (vi i)]) = (.chk (0 ≤ i ∧ i < (ln qaa m.2.1)) (hd (r14_body_L0 i m (0 : Int) ((gd qaa m.2.1 i.toNat).2.2.2.2.1) ((ln qac ((gd qaa m.2.1 i.toNat).2.2.2.2.1)) : Int) (0 : Int) ((0 : Int), (0 : Int), (0 : Int), (0 : Int), (0 : Int), ()) (tOf ((gd qaa m.2.1 i.toNat).1)) ((gd qaa m.2.1 i.toNat).2.1) (z ((gd qaa m.2.1 i.toNat).2.2.1)) ((gd qaa m.2.1 i.toNat).2.2.2.1) ((gd qaa m.2.1 i.toNat).2.2.2.2.1)))) := by kernel_rfl
theorem r14_body_L0_t (i : Int) (m : Den qab) (n : Int) (t22 : List (Den qac)) (t23 : Int) (t24 : Int) (t4 : Den qak) (f_0 : ByteArray) (f_1 : List (Den I)) (f_2 : Int) (f_3 : List (Den I)) (f_4 : List (Den qac)) : run E_V28 H_V28 qem 3000 (r14_body_L0 i m n t22 t23 t24 t4 f_0 f_1 f_2 f_3 f_4) = (cond (decide (t24 < t23)) (.chk (0 ≤ t24 ∧ t24 < (ln qac t22)) (hd (r14_body_L0 i m (IntKind.wrap .i64 (n + ((ln qad ((gd qac t22 t24.toNat).2.1)) : Int))) t22 t23 (IntKind.wrap .i64 (t24 + (1 : Int))) t4 f_0 f_1 f_2 f_3 f_4))) (cond (((ln qac f_4) : Int) == (0 : Int)) (.chk (True) (.know (okD qak (diagR (4 : Int) (2 : Int) i (-1 : Int) (-1 : Int))) (.chk ((0 : Nat) < (1 : Nat)) (.chk ((0 : Nat) < (1 : Nat)) (rt (.tv qak (diagR (4 : Int) (2 : Int) i (-1 : Int) (-1 : Int))) []))))) (cond (decide (((ln qac f_4) : Int) > (400 : Int))) (.chk (True) (.know (okD qak (diagR (11 : Int) (2 : Int) i (-1 : Int) (-1 : Int))) (.chk ((0 : Nat) < (1 : Nat)) (.chk ((0 : Nat) < (1 : Nat)) (rt (.tv qak (diagR (11 : Int) (2 : Int) i (-1 : Int) (-1 : Int))) []))))) (cond (decide (n > (4000 : Int))) (.chk (True) (.know (okD qak (diagR (11 : Int) (2 : Int) i (-1 : Int) (-1 : Int))) (.chk ((0 : Nat) < (1 : Nat)) (.chk ((0 : Nat) < (1 : Nat)) (rt (.tv qak (diagR (11 : Int) (2 : Int) i (-1 : Int) (-1 : Int))) []))))) (hd (r14_body_L2 i m f_4 ((ln qac f_4) : Int) (0 : Int) t4 f_0 f_1 f_2 f_3 f_4)))))) := by kernel_rfl
theorem r14_body_L2_t (i : Int) (m : Den qab) (t51 : List (Den qac)) (t52 : Int) (t53 : Int) (t4 : Den qak) (f_0 : ByteArray) (f_1 : List (Den I)) (f_2 : Int) (f_3 : List (Den I)) (f_4 : List (Den qac)) : run E_V28 H_V28 qem 3000 (r14_body_L2 i m t51 t52 t53 t4 f_0 f_1 f_2 f_3 f_4) = (cond (decide (t53 < t52)) (.chk (0 ≤ t53 ∧ t53 < (ln qac t51)) (cond (t53 == (0 : Int)) (cond (decide (((ln I ((gd qac t51 t53.toNat).1)) : Int) > (0 : Int))) (.chk (True) (.know (okD qak (diagR (3 : Int) (2 : Int) i t53 (-1 : Int))) (.chk ((0 : Nat) < (1 : Nat)) (.chk ((0 : Nat) < (1 : Nat)) (rt (.tv qak (diagR (3 : Int) (2 : Int) i t53 (-1 : Int))) []))))) (.chk (True) (.know (okD (.int .i64) (parE (f_0, f_1, f_2, f_3, f_4, ()) (gd qac t51 t53.toNat).1)) (cond ((parE (f_0, f_1, f_2, f_3, f_4, ()) (gd qac t51 t53.toNat).1) != (0 : Int)) (.chk (True) (.know (okD qak (diagR (parE (f_0, f_1, f_2, f_3, f_4, ()) (gd qac t51 t53.toNat).1) (2 : Int) i t53 (-1 : Int))) (.chk ((0 : Nat) < (1 : Nat)) (.chk ((0 : Nat) < (1 : Nat)) (rt (.tv qak (diagR (parE (f_0, f_1, f_2, f_3, f_4, ()) (gd qac t51 t53.toNat).1) (2 : Int) i t53 (-1 : Int))) []))))) (hd (r14_body_L4 i m t53 t51 t52 t53 ((gd qac t51 t53.toNat).2.1) ((ln qad ((gd qac t51 t53.toNat).2.1)) : Int) (0 : Int) t4 f_0 f_1 f_2 f_3 f_4 ((gd qac t51 t53.toNat).1) ((gd qac t51 t53.toNat).2.1) (z ((gd qac t51 t53.toNat).2.2.1.1)) ((gd qac t51 t53.toNat).2.2.1.2.1) ((gd qac t51 t53.toNat).2.2.1.2.2.1) ((gd qac t51 t53.toNat).2.2.1.2.2.2.1) (z ((gd qac t51 t53.toNat).2.2.1.2.2.2.2.1)))))))) (.chk (True) (.know (okD (.int .i64) (parE (f_0, f_1, f_2, f_3, f_4, ()) (gd qac t51 t53.toNat).1)) (cond ((parE (f_0, f_1, f_2, f_3, f_4, ()) (gd qac t51 t53.toNat).1) != (0 : Int)) (.chk (True) (.know (okD qak (diagR (parE (f_0, f_1, f_2, f_3, f_4, ()) (gd qac t51 t53.toNat).1) (2 : Int) i t53 (-1 : Int))) (.chk ((0 : Nat) < (1 : Nat)) (.chk ((0 : Nat) < (1 : Nat)) (rt (.tv qak (diagR (parE (f_0, f_1, f_2, f_3, f_4, ()) (gd qac t51 t53.toNat).1) (2 : Int) i t53 (-1 : Int))) []))))) (hd (r14_body_L4 i m t53 t51 t52 t53 ((gd qac t51 t53.toNat).2.1) ((ln qad ((gd qac t51 t53.toNat).2.1)) : Int) (0 : Int) t4 f_0 f_1 f_2 f_3 f_4 ((gd qac t51 t53.toNat).1) ((gd qac t51 t53.toNat).2.1) (z ((gd qac t51 t53.toNat).2.2.1.1)) ((gd qac t51 t53.toNat).2.2.1.2.1) ((gd qac t51 t53.toNat).2.2.1.2.2.1) ((gd qac t51 t53.toNat).2.2.1.2.2.2.1) (z ((gd qac t51 t53.toNat).2.2.1.2.2.2.2.1))))))))) (.chk ((0 : Nat) < (1 : Nat)) (.chk ((0 : Nat) < (1 : Nat)) (rt (.tv qak ((0 : Int), (0 : Int), (0 : Int), (0 : Int), (0 : Int), ())) [])))) := by kernel_rfl
theorem r14_body_L4_t (i : Int) (m : Den qab) (k : Int) (t51 : List (Den qac)) (t52 : Int) (t53 : Int) (t80 : List (Den qad)) (t81 : Int) (t82 : Int) (t4 : Den qak) (f_0 : ByteArray) (f_1 : List (Den I)) (f_2 : Int) (f_3 : List (Den I)) (f_4 : List (Den qac)) (b_0 : List (Den I)) (b_1 : List (Den qad)) (b_2 : Int) (b_3 : List (Den I)) (b_4 : List (Den I)) (b_5 : List (Den qae)) (b_6 : Int) : run E_V28 H_V28 qem 3000 (r14_body_L4 i m k t51 t52 t53 t80 t81 t82 t4 f_0 f_1 f_2 f_3 f_4 b_0 b_1 b_2 b_3 b_4 b_5 b_6) = (cond (decide (t82 < t81)) (.chk (0 ≤ t82 ∧ t82 < (ln qad t80)) (.chk (True) (.know (okD (.int .i64) (chkF (gd qad t80 t82.toNat) (f_0, f_1, f_2, f_3, f_4, ()) m)) (cond ((chkF (gd qad t80 t82.toNat) (f_0, f_1, f_2, f_3, f_4, ()) m) != (0 : Int)) (.chk (True) (.know (okD qak (diagR (chkF (gd qad t80 t82.toNat) (f_0, f_1, f_2, f_3, f_4, ()) m) (2 : Int) i k t82)) (.chk ((0 : Nat) < (1 : Nat)) (.chk ((0 : Nat) < (1 : Nat)) (rt (.tv qak (diagR (chkF (gd qad t80 t82.toNat) (f_0, f_1, f_2, f_3, f_4, ()) m) (2 : Int) i k t82)) []))))) (hd (r14_body_L4 i m k t51 t52 t53 t80 t81 (IntKind.wrap .i64 (t82 + (1 : Int))) t4 f_0 f_1 f_2 f_3 f_4 b_0 b_1 b_2 b_3 b_4 b_5 b_6)))))) (.chk (True) (.know (okD (.int .i64) (trmE m (f_0, f_1, f_2, f_3, f_4, ()) (b_2, b_3, b_4, b_5, b_6, ()))) (cond ((trmE m (f_0, f_1, f_2, f_3, f_4, ()) (b_2, b_3, b_4, b_5, b_6, ())) != (0 : Int)) (.chk (True) (.know (okD qak (diagR (trmE m (f_0, f_1, f_2, f_3, f_4, ()) (b_2, b_3, b_4, b_5, b_6, ())) (2 : Int) i k ((ln qad b_1) : Int))) (.chk ((0 : Nat) < (1 : Nat)) (.chk ((0 : Nat) < (1 : Nat)) (rt (.tv qak (diagR (trmE m (f_0, f_1, f_2, f_3, f_4, ()) (b_2, b_3, b_4, b_5, b_6, ())) (2 : Int) i k ((ln qad b_1) : Int))) []))))) (hd (r14_body_L2 i m t51 t52 (IntKind.wrap .i64 (t53 + (1 : Int))) t4 f_0 f_1 f_2 f_3 f_4)))))) := by kernel_rfl
def nD (d : Dg) : Dg := cond (errB d) d noD
def IsG (d : Dg) (r : AV) (h : Heap) : Prop := r = .tv qak d ∧ h = []
def RunG (E : Ctx) (c : Cfg) (d : Dg) : Prop := Runs E c (IsG d)
theorem IsG.mk {d x : Dg} (h : x = d) : IsG d (.tv qak x) [] := ⟨congrArg _ h, rfl⟩
theorem RunG.eq {E : Ctx} {c : Cfg} {e d : Dg} (h : RunG E c e) (hd : d = e) : RunG E c d := hd ▸ h
theorem nD_hit {a b : Dg} (h : errB a = true) : nD (orD a b) = a := by rw [or_hit h, nD, h, cond_true]
theorem nD_miss {a b : Dg} (h : errB a = false) : nD (orD a b) = nD b := by rw [qdr h]
theorem at_hit {p : Plc} {e : Int} (h : (e != 0) = true) : errB (atD p e) = true := by rw [errAt, ← bne, h]
theorem at_miss {p : Plc} {e : Int} (h : (e != 0) = false) : errB (atD p e) = false := by rw [errAt, ← bne, h]
def hdsF (m : Md) : Dg := nD (orD (gloD m.1) (sigD m.2.1))
def bdyF (m : Md) (fn : Int) : Dg := nD (bodF m fn)
theorem r14_heads_l2 (m : Md) (hm : okD qab m) (x : Dg) : ∀ i, i ≤ ln qaa m.2.1 → RunG E_V28 (r14_heads_L2 m (ln qaa m.2.1 : Nat) i x) (nD (qcm (fun i => atD (plF i) (sigI m.2.1 i)) (ln qaa m.2.1 - i) i)) :=
 qay (.tree qie (r14_heads_L2_t ..) (by
  rw [Nat.sub_self, qcm]
  simp only [sS, sL,  Nat.lt_irrefl]
  exact .mk rfl))
  fun i hi ih => .tree qie (r14_heads_L2_t ..) (by
   rw [sub1 hi, qcm]
   simp only [sS, sL,  hi, wrapS hi (qar hm.2.1.1)]
   exact fun _ => ⟨fun h1 _ => .mk (nD_hit (a := atD (plF i) (sigI m.2.1 i)) (at_hit h1)).symm, fun h1 => RunG.eq ih (nD_miss (at_miss h1))⟩)
theorem r14_heads_l0 (m : Md) (hm : okD qab m) (x : Dg) : ∀ i, i ≤ ln qai m.1 → RunG E_V28 (r14_heads_L0 m (ln qai m.1 : Nat) i x) (nD (orD (qcm (fun i => atD (plG i) (gloI m.1 i)) (ln qai m.1 - i) i) (sigD m.2.1))) :=
 qay (.tree qie (r14_heads_L0_t ..) (by
  rw [Nat.sub_self, qcm, no_or]
  simp only [sS, sL,  Nat.lt_irrefl]
  refine ⟨fun h1 _ => .mk ?_, fun h1 => (r14_heads_l2 m hm x 0 (Nat.zero_le _)).eq ?_⟩
  ·unfold sigD
   rw [show decide ((ln qaa m.2.1 : Int) ≤ 32) = false by simpa using h1]
   rfl
  ·unfold sigD
   rw [show decide ((ln qaa m.2.1 : Int) ≤ 32) = true by simpa using h1]
   rfl))
  fun i hi ih => .tree qie (r14_heads_L0_t ..) (by
   rw [sub1 hi, qcm, or_assoc]
   simp only [sS, sL,  hi, wrapS hi (qar hm.1.1)]
   exact fun _ => ⟨fun h1 _ => .mk (nD_hit (a := atD (plG i) (gloI m.1 i)) (at_hit h1)).symm, fun h1 => RunG.eq ih (nD_miss (at_miss h1))⟩)
def k_r14_heads : Con := con [.d qab] qak (fun x => True) fun x => hdsF x.1
theorem m_r14_heads (m : Den qab) (h_m : okD qab m) (hp : True) : Runs E_V28 (start E_V28 qeu [(.tv qab m)]) (fun r_ h_ => r_ = (.tv qak (hdsF m)) ∧ h_ = []) := .tree qie (r14_heads_t m) (by
 show Tre.wp (contL _ (IsG (hdsF m))) _
 simp only [sS]
 refine ⟨fun h1 _ => .mk ?_, fun h1 => (r14_heads_l0 m h_m _ 0 (Nat.zero_le _)).eq ?_⟩
 ·unfold hdsF gloD
  rw [show decide ((ln qai m.1 : Int) ≤ 32) = false by simpa using h1]
  rfl
 ·unfold hdsF gloD
  rw [show decide ((ln qai m.1 : Int) ≤ 32) = true by simpa using h1]
  rfl)
theorem c_r14_heads : qal E_V28 qeu k_r14_heads.spec := qan fun x hx hp => ⟨rfl, m_r14_heads x.1 hx.1 hp⟩
theorem r14_body_l4 (m : Md) (f : Fn) (fn i : Nat) (b : Blk) (d x : Dg) (hi : i < ln qac f.2.2.2.2.1) (hok : okD qaa f) (hb : okD qac b)
  (ih : RunG E_V28 (r14_body_L2 fn m f.2.2.2.2.1 (ln qac f.2.2.2.2.1 : Nat) (i + 1 : Nat) x (tOf f.1) f.2.1 (z f.2.2.1) f.2.2.2.1 f.2.2.2.2.1) (nD d)) : ∀ k, k ≤ ln qad b.2.1 → RunG E_V28 (r14_body_L4 fn m i f.2.2.2.2.1 (ln qac f.2.2.2.2.1 : Nat) i b.2.1 (ln qad b.2.1 : Nat) k x (tOf f.1) f.2.1 (z f.2.2.1) f.2.2.2.1 f.2.2.2.2.1 b.1 b.2.1 (z b.2.2.1.1) b.2.2.1.2.1 b.2.2.1.2.2.1 b.2.2.1.2.2.2.1 (z b.2.2.1.2.2.2.2.1)) (nD (orD (qcm (insI m f fn i b) (ln qad b.2.1 - k) k) (orD (trmF (plB fn i (ln qad b.2.1 : Nat)) m f b.2.2.1) d))) :=
 qay (.tree qie (r14_body_L4_t ..) (by
  rw [Nat.sub_self, qcm, no_or]
  simp only [sS, sL,  Nat.lt_irrefl, wrapS hi (qar hok.2.2.2.2.1.1)]
  exact fun _ => ⟨fun h1 _ => .mk (nD_hit (a := trmF (plB fn i (ln qad b.2.1 : Nat)) m f b.2.2.1) (at_hit h1)).symm, fun h1 => RunG.eq ih (nD_miss (at_miss h1))⟩))
  fun k hk ihk => .tree qie (r14_body_L4_t ..) (by
   rw [sub1 hk, qcm, or_assoc]
   simp only [sS, sL,  hk, wrapS hk (qar hb.2.1.1)]
   exact fun _ => ⟨fun h1 _ => .mk (nD_hit (a := insI m f fn i b k) (at_hit h1)).symm, fun h1 => RunG.eq ihk (nD_miss (at_miss h1))⟩)
theorem blkH_z {b : Blk} {i : Nat} (h : ((i : Int) == 0) = false) : blkH b i = 0 := by
 unfold blkH
 rw [show decide ((i : Int) > 0) = true by simp at h ⊢; omega]
 rfl
theorem blkH_e {b : Blk} {i : Nat} (h : decide ((ln I b.1 : Int) > 0) = false) : blkH b i = 0 := by
 unfold blkH
 rw [show ((ln I b.1 : Int) == 0) = true by simp at h ⊢; omega]
 cases decide ((i : Int) > 0) <;> rfl
theorem blkH_x {b : Blk} {i : Nat} (h : ((i : Int) == 0) = true) (h2 : decide ((ln I b.1 : Int) > 0) = true) : blkH b i = 3 := by
 unfold blkH
 rw [show decide ((i : Int) > 0) = false by simp at h ⊢; omega, show ((ln I b.1 : Int) == 0) = false by simp at h2 ⊢; omega]
 rfl
theorem r14_body_l2 (m : Md) (f : Fn) (fn : Nat) (x : Dg) (hok : okD qaa f) : ∀ i, i ≤ ln qac f.2.2.2.2.1 → RunG E_V28 (r14_body_L2 fn m f.2.2.2.2.1 (ln qac f.2.2.2.2.1 : Nat) i x (tOf f.1) f.2.1 (z f.2.2.1) f.2.2.2.1 f.2.2.2.2.1) (nD (qcm (blkD m f fn) (ln qac f.2.2.2.2.1 - i) i)) :=
 qay (.tree qie (r14_body_L2_t ..) (by
  rw [Nat.sub_self, qcm]
  simp only [sS, sL,  Nat.lt_irrefl]
  exact .mk rfl))
  fun i hi ih => .tree qie (r14_body_L2_t ..) (by
   have hb := ok_gd hok.2.2.2.2.1 hi
   have go := r14_body_l4 m f fn i (gd qac f.2.2.2.2.1 i) _ x hi hok hb ih 0 (Nat.zero_le _)
   have gp : ∀ {q}, q = blkH (gd qac f.2.2.2.2.1 i) i → q = 0 → ∀ {P Q : Dg}, nD (orD (atD (plB fn i (-1)) (blkH (gd qac f.2.2.2.2.1 i) i)) (orD P Q)) = nD (orD P Q) := fun h h0 => nD_miss (by rw [← h, h0]; rfl)
   rw [sub1 hi, qcm, blkD, blkE, or_assoc, or_assoc, or_assoc]
   simp only [sS, sL,  hi]
   refine ⟨fun h1 => ⟨fun h2 _ => .mk ?_, fun h2 _ => ⟨fun h3 _ => .mk ?_, fun h3 => RunG.eq go ?_⟩⟩, fun h1 _ => ⟨fun h3 _ => .mk ?_, fun h3 => RunG.eq go ?_⟩⟩
   ·rw [blkH_x h1 h2]
    exact (nD_hit (a := atD (plB fn i (-1)) 3) rfl).symm
   ·rw [blkH_e h2, nD_miss at_zero]
    exact (nD_hit (a := parF (plB fn i (-1)) f (gd qac f.2.2.2.2.1 i).1) (at_hit h3)).symm
   ·rw [blkH_e h2, nD_miss at_zero]
    exact nD_miss (at_miss h3)
   ·rw [blkH_z h1, nD_miss at_zero]
    exact (nD_hit (a := parF (plB fn i (-1)) f (gd qac f.2.2.2.2.1 i).1) (at_hit h3)).symm
   ·rw [blkH_z h1, nD_miss at_zero]
    exact nD_miss (at_miss h3))
theorem r14_body_l0 (m : Md) (f : Fn) (fn : Nat) (x : Dg) (hok : okD qaa f) : ∀ i, i ≤ ln qac f.2.2.2.2.1 → ∀ n, RunG E_V28 (r14_body_L0 fn m n f.2.2.2.2.1 (ln qac f.2.2.2.2.1 : Nat) i x (tOf f.1) f.2.1 (z f.2.2.1) f.2.2.2.1 f.2.2.2.2.1) (nD (cond (!(decide ((ln qac f.2.2.2.2.1 : Int) > (0 : Int)))) (atD (plF fn) 4) (bodB m f fn (sumW n (f.2.2.2.2.1.drop i))))) :=
 qay (fun n => .tree qie (r14_body_L0_t ..) (by
  rw [show f.2.2.2.2.1.drop (ln qac f.2.2.2.2.1) = [] from qhb, sumW]
  simp only [sS, sL,  Nat.lt_irrefl]
  refine ⟨fun h1 _ => .mk ?_, fun h1 => ⟨fun h2 _ => .mk ?_, fun h2 => ⟨fun h3 _ => .mk ?_, fun h3 => (r14_body_l2 m f fn x hok 0 (Nat.zero_le _)).eq ?_⟩⟩⟩
  ·rw [show decide ((ln qac f.2.2.2.2.1 : Int) > 0) = false by simp at h1 ⊢; omega]
   rfl
  ·rw [show decide ((ln qac f.2.2.2.2.1 : Int) > 0) = true by simp at h1 ⊢; omega, bodB, show decide ((ln qac f.2.2.2.2.1 : Int) ≤ 400) = false by simp at h2 ⊢; omega]
   rfl
  ·rw [show decide ((ln qac f.2.2.2.2.1 : Int) > 0) = true by simp at h1 ⊢; omega, bodB, show decide ((ln qac f.2.2.2.2.1 : Int) ≤ 400) = true by simp at h2 ⊢; omega, show decide (n ≤ 4000) = false by simp at h3 ⊢; omega]
   rfl
  ·rw [show decide ((ln qac f.2.2.2.2.1 : Int) > 0) = true by simp at h1 ⊢; omega, bodB, show decide ((ln qac f.2.2.2.2.1 : Int) ≤ 400) = true by simp at h2 ⊢; omega, show decide (n ≤ 4000) = true by simp at h3 ⊢; omega]
   rfl))
  fun i hi ih n => .tree qie (r14_body_L0_t ..) (by
   rw [show f.2.2.2.2.1.drop i = gd qac f.2.2.2.2.1 i :: f.2.2.2.2.1.drop (i + 1) from qhc hi, sumW]
   simp only [sS, sL,  hi, wrapS hi (qar hok.2.2.2.2.1.1)]
   exact ih _)
def k_r14_body : Con := con [.d qab, .d I] qak (fun x => 0 ≤ z x.2.1 ∧ z x.2.1 < (ln qaa x.1.2.1 : Nat)) fun x => bdyF x.1 x.2.1
theorem m_r14_body (m : Den qab) (i : Int) (h_m : okD qab m) (h_i : okD I i) (hp : 0 ≤ z i ∧ z i < (ln qaa m.2.1 : Nat)) : Runs E_V28 (start E_V28 qem [(.tv qab m), (vi i)]) (fun r_ h_ => r_ = (.tv qak (bdyF m i)) ∧ h_ = []) := .tree qie (r14_body_t m i) (by
 have h1 : 0 ≤ i := hp.1
 have h2 : i < (ln qaa m.2.1 : Nat) := hp.2
 obtain ⟨n, rfl⟩ : ∃ n : Nat, i = n := ⟨i.toNat, by omega⟩
 have hn : n < ln qaa m.2.1 := by omega
 have hgo := ok_gd h_m.2.1 hn
 show Tre.wp (contL _ (IsG (bdyF m n))) _
 simp only [sS, sL,  hn]
 exact r14_body_l0 m (gd qaa m.2.1 n) n _ hgo 0 (Nat.zero_le _) 0)
theorem c_r14_body : qal E_V28 qem k_r14_body.spec := qan fun x hx hp => ⟨rfl, m_r14_body x.1 x.2.1 hx.1 hx.2.1 hp⟩
def L_V28 : List (FuncId × FSpec) := [(qeu, k_r14_heads.spec), (qem, k_r14_body.spec)] ++ L_V27
theorem L_V28_ok : ∀ x ∈ L_V28, qal (ctx []) x.1 x.2 := by
 unfold L_V28
 simp only [List.cons_append, List.nil_append, List.forall_mem_cons]
 exact ⟨c_r14_heads, c_r14_body, L_V27_ok⟩
end Burn.MC
namespace Burn.MC
open Go Go.BE Go.Proofs
set_option maxRecDepth 100000
set_option linter.unusedVariables false
set_option linter.unusedSimpArgs false
noncomputable abbrev E_V29 : Ctx := ctx L_V28
theorem E_V29_ok : EOK E_V29 := qbo L_V28_ok
def cuts_V29 : CutL := [([], 10, 0, [1, 2, 3, 9, 10], [], [])]
def rets_V29 : FuncId → List (Option Fx)
 | 10 => [some (.dat qak)]
 | _ => []
def H_V29 : Hints := { cut := cutOf cuts_V29, ret := rets_V29 }
noncomputable def r14_Module_L0 (m : Den qab) (t9 : Int) (t10 : Int) (t2 : Den qak) (d : Den qak) : Cfg := hcfg E_V29 qgh 0 [(1, (.rtp qab m)), (2, (.tref 0 0 [] (0 : Nat) [])), (3, (.tref 1 1 [] (0 : Nat) [])), (9, (vi t9)), (10, (vi t10))] [(0, ⟨(.arr 0 40 qak ([t2] : List (Den qak))), 0, [], false, none⟩), (1, ⟨(.arr 0 40 qak ([d] : List (Den qak))), 1, [], false, none⟩)] 2
theorem r14_Module_t (m : Den qab) : run E_V29 H_V29 qgh 3000 (start E_V29 qgh [(.tv qab m)]) = (.chk (True) (.know (okD qak (hdsF m)) (.chk ((0 : Nat) < (1 : Nat)) (hd (r14_Module_L0 m ((ln qaa m.2.1) : Int) (0 : Int) ((0 : Int), (0 : Int), (0 : Int), (0 : Int), (0 : Int), ()) (hdsF m)))))) := by kernel_rfl
theorem r14_Module_L0_t (m : Den qab) (t9 : Int) (t10 : Int) (t2 : Den qak) (d : Den qak) : run E_V29 H_V29 qgh 3000 (r14_Module_L0 m t9 t10 t2 d) = (cond (decide (t10 < t9)) (.chk ((0 : Nat) < (1 : Nat)) (cond ((z d.1) != (0 : Int)) (.chk ((0 : Nat) < (1 : Nat)) (.chk ((0 : Nat) < (1 : Nat)) (.chk ((0 : Nat) < (1 : Nat)) (rt (.tv qak d) [])))) (.chk (0 ≤ z t10 ∧ z t10 < (ln qaa m.2.1 : Nat)) (.know (okD qak (bdyF m t10)) (.chk ((0 : Nat) < (1 : Nat)) (hd (r14_Module_L0 m t9 (IntKind.wrap .i64 (t10 + (1 : Int))) t2 (bdyF m t10)))))))) (.chk ((0 : Nat) < (1 : Nat)) (.chk ((0 : Nat) < (1 : Nat)) (.chk ((0 : Nat) < (1 : Nat)) (rt (.tv qak d) []))))) := by kernel_rfl
theorem nD_code {d : Dg} : (z (nD d).1 != 0) = errB d := by
 unfold nD
 cases h : errB d
 ·rfl
 ·exact h
theorem r14_Module_l0 (m : Md) (hm : okD qab m) (x : Dg) : ∀ i, i ≤ ln qaa m.2.1 → ∀ d, RunG E_V29 (r14_Module_L0 m (ln qaa m.2.1 : Nat) i x (nD d)) (nD (orD d (qcm (modB m) (ln qaa m.2.1 - i) i))) :=
 qay (fun d => .tree E_V29_ok (r14_Module_L0_t ..) (by
  rw [Nat.sub_self, qcm]
  simp only [sS, sL,  Nat.lt_irrefl]
  refine .mk ?_
  cases h : errB d
  ·rw [qdr h, nD, h]; rfl
  ·rw [or_hit h]))
  fun i hi ih d => .tree E_V29_ok (r14_Module_L0_t ..) (by
   rw [sub1 hi, qcm]
   simp only [sS, sL,  hi, wrapS hi (qar hm.2.1.1)]
   refine ⟨fun h1 => ?_, fun h1 => ?_⟩
   ·rw [nD_code] at h1
    exact .mk (by rw [or_hit h1])
   ·rw [nD_code] at h1
    rw [qdr h1]
    exact fun _ => ih (modB m i))
def k_r14_Module : Con := con [.d qab] qak (fun x => True) fun x => qhn x.1
theorem m_r14_Module (m : Den qab) (h_m : okD qab m) (hp : True) : Runs E_V29 (start E_V29 qgh [(.tv qab m)]) (fun r_ h_ => r_ = (.tv qak (qhn m)) ∧ h_ = []) := .tree E_V29_ok (r14_Module_t m) (by
 show Tre.wp (contL _ (IsG (qhn m))) _
 simp only [sS, sL,  Nat.sub_zero]
 exact fun _ => (r14_Module_l0 m h_m _ 0 (Nat.zero_le _) (orD (gloD m.1) (sigD m.2.1))).eq (by rw [or_assoc]; rfl))
theorem c_r14_Module : qal E_V29 qgh k_r14_Module.spec := qan fun x hx hp => ⟨rfl, m_r14_Module x.1 hx.1 hp⟩
def L_V29 : List (FuncId × FSpec) := [(qgh, k_r14_Module.spec)] ++ L_V28
theorem L_V29_ok : ∀ x ∈ L_V29, qal (ctx []) x.1 x.2 := by
 unfold L_V29
 simp only [List.cons_append, List.nil_append, List.forall_mem_cons]
 exact ⟨c_r14_Module, L_V28_ok⟩
end Burn.MC
namespace Burn.MC
open Go Go.BE Go.Proofs
set_option maxRecDepth 100000
set_option linter.unusedVariables false
set_option linter.unusedSimpArgs false
open Burn.Intn Burn.Ref
noncomputable abbrev E_V30 : Ctx := ctx L_V29
theorem E_V30_ok : EOK E_V30 := qbo L_V29_ok
def cuts_V30 : CutL := [([], 39, 0, [5, 6, 7], [], [])]
def rets_V30 : FuncId → List (Option Fx)
 | _ => []
def H_V30 : Hints := { cut := cutOf cuts_V30, ret := rets_V30 }
theorem machine_within_t (n : Int) (low : Int) (high : Int) : run E_V30 H_V30 qff 3000 (start E_V30 qff [(vi n), (vi low), (vi high)]) = (cond (decide (n ≥ low)) (rt (vb (decide (n ≤ high))) []) (rt (vb false) [])) := by kernel_rfl
theorem machine_isType_t (t : Int) : run E_V30 H_V30 qfh 3000 (start E_V30 qfh [(vi t)]) = (cond (decide (t ≥ (1 : Int))) (rt (vb (decide (t ≤ (7 : Int)))) []) (rt (vb false) [])) := by kernel_rfl
theorem machine_unless_t (holds : Bool) (e : Int) : run E_V30 H_V30 qfg 3000 (start E_V30 qfg [(vb holds), (vi e)]) = (cond holds (rt (vi (0 : Int)) []) (rt (vi e) [])) := by kernel_rfl
theorem machine_flag_t (is : Bool) : run E_V30 H_V30 qhv 3000 (start E_V30 qhv [(vb is)]) = (cond is (rt (vi (1 : Int)) []) (rt (vi (0 : Int)) [])) := by kernel_rfl
theorem machine_checker_virtual_t (c : Den qaj) : run E_V30 H_V30 qbt 3000 (start E_V30 qbt [(.tv qaj c)]) = (rt (vb ((z c.2.1.2.2.2.2.1) == (0 : Int))) []) := by kernel_rfl
theorem r50_kind_t (t : Int) : run E_V30 H_V30 f_r50_kind 3000 (start E_V30 f_r50_kind [(vi t)]) = (cond (decide (t ≥ (1 : Int))) (rt (vb (decide (t ≤ (7 : Int)))) []) (rt (vb false) [])) := by kernel_rfl
theorem r50_reg_t (f : Den qag) (r : Int) : run E_V30 H_V30 f_r50_reg 3000 (start E_V30 f_r50_reg [(.tv qag f), (vi r)]) = (cond ((z f.2.2.2.2.1) == (0 : Int)) (cond (decide (r ≥ (0 : Int))) (rt (vb (decide (r < ((ln I f.2.2.2.1) : Int)))) []) (rt (vb false) [])) (cond (decide (r ≥ (0 : Int))) (rt (vb (decide (r < (z f.2.2.2.2.1)))) []) (rt (vb false) []))) := by kernel_rfl
noncomputable def qib (t5 : List (Den I)) (t6 : Int) (t7 : Int) : Cfg := hcfg E_V30 qdh 0 [(5, (.tv (.sl 8 I) t5)), (6, (vi t6)), (7, (vi t7))] [] 0
theorem machine_first_t (l : List (Den I)) : run E_V30 H_V30 qdh 3000 (start E_V30 qdh [(.tv (.sl 8 I) l)]) = (hd (qib l ((ln I l) : Int) (0 : Int))) := by kernel_rfl
theorem machine_first_L0_t (t5 : List (Den I)) (t6 : Int) (t7 : Int) : run E_V30 H_V30 qdh 3000 (qib t5 t6 t7) = (cond (decide (t7 < t6)) (.chk (0 ≤ t7 ∧ t7 < (ln I t5)) (cond ((z (gd I t5 t7.toNat)) != (0 : Int)) (rt (vi (z (gd I t5 t7.toNat))) []) (hd (qib t5 t6 (IntKind.wrap .i64 (t7 + (1 : Int))))))) (rt (vi (0 : Int)) [])) := by kernel_rfl
abbrev MFn := Den qag
abbrev Chr := Den qaj
def fstF : List (Den I) → Int
 | [] => 0
 | e :: l => cond (z e != (0 : Int)) (z e) (fstF l)
def witP (n : Int) (low : Int) (high : Int) : Bool := (cond (decide (n ≥ low)) (decide (n ≤ high)) false)

def k_machine_within : Con := con [.d I, .d I, .d I] .bool (fun x => True) fun x => witP x.1 x.2.1 x.2.2.1
theorem m_machine_within (n : Int) (low : Int) (high : Int) (h_n : okD I n) (h_low : okD I low) (h_high : okD I high) (hp : True) : Runs E_V30 (start E_V30 qff [(vi n), (vi low), (vi high)]) (fun r_ h_ => r_ = (vb (witP n low high)) ∧ h_ = []) := .tree E_V30_ok (machine_within_t n low high) (by
 show Tre.wp (Qv _ (fun x_ => (vb x_)) (witP n low high)) _
 unfold witP
 refine qaf (fun h1 => ⟨rfl, rfl⟩) (fun h1 => ?_)
 exact ⟨rfl, rfl⟩)
theorem c_machine_within : qal E_V30 qff k_machine_within.spec := qan fun x hx hp => ⟨rfl, m_machine_within x.1 x.2.1 x.2.2.1 hx.1 hx.2.1 hx.2.2.1 hp⟩

def k_machine_isType : Con := con [.d I] .bool (fun x => True) fun x => typP x.1
theorem m_machine_isType (t : Int) (h_t : okD I t) (hp : True) : Runs E_V30 (start E_V30 qfh [(vi t)]) (fun r_ h_ => r_ = (vb (typP t)) ∧ h_ = []) := .tree E_V30_ok (machine_isType_t t) (by
 refine qdk (fun h1 => ?_) (fun h1 => ?_)
 ·have h1_ := of_decide_eq_true h1
  exact ⟨by first | rw [show typP t = _ from (Bool.cond_pos h1)] | simp only [typP, h1, cond_true, cond_false], rfl⟩
 ·have h1_ := of_decide_eq_false h1
  exact ⟨by first | rw [show typP t = _ from (Bool.cond_neg h1)] | simp only [typP, h1, cond_true, cond_false], rfl⟩)
theorem c_machine_isType : qal E_V30 qfh k_machine_isType.spec := qan fun x hx hp => ⟨rfl, m_machine_isType x.1 hx.1 hp⟩
def unlP (holds : Bool) (e : Int) : Int := (cond holds (0 : Int) e)

def k_machine_unless : Con := con [.d .bool, .d I] I (fun x => True) fun x => unlP x.1 x.2.1
theorem m_machine_unless (holds : Bool) (e : Int) (h_holds : okD .bool holds) (h_e : okD I e) (hp : True) : Runs E_V30 (start E_V30 qfg [(vb holds), (vi e)]) (fun r_ h_ => r_ = (vi (unlP holds e)) ∧ h_ = []) := .tree E_V30_ok (machine_unless_t holds e) (by
 show Tre.wp (Qv _ (fun x_ => (vi x_)) (unlP holds e)) _
 unfold unlP
 refine qaf (fun h1 => ⟨rfl, rfl⟩) (fun h1 => ?_)
 exact ⟨rfl, rfl⟩)
theorem c_machine_unless : qal E_V30 qfg k_machine_unless.spec := qan fun x hx hp => ⟨rfl, m_machine_unless x.1 x.2.1 hx.1 hx.2.1 hp⟩
def flgP (is : Bool) : Int := (cond is (1 : Int) (0 : Int))

def k_machine_flag : Con := con [.d .bool] I (fun x => True) fun x => flgP x.1
theorem m_machine_flag (is : Bool) (h_is : okD .bool is) (hp : True) : Runs E_V30 (start E_V30 qhv [(vb is)]) (fun r_ h_ => r_ = (vi (flgP is)) ∧ h_ = []) := .tree E_V30_ok (machine_flag_t is) (by
 show Tre.wp (Qv _ (fun x_ => (vi x_)) (flgP is)) _
 unfold flgP
 refine qaf (fun h1 => ⟨rfl, rfl⟩) (fun h1 => ?_)
 exact ⟨rfl, rfl⟩)
theorem c_machine_flag : qal E_V30 qhv k_machine_flag.spec := qan fun x hx hp => ⟨rfl, m_machine_flag x.1 hx.1 hp⟩
def vrtP (c : Den qaj) : Bool := ((z c.2.1.2.2.2.2.1) == (0 : Int))

def qhl : Con := con [.d qaj] .bool (fun x => True) fun x => vrtP x.1
theorem m_machine_checker_virtual (c : Den qaj) (h_c : okD qaj c) (hp : True) : Runs E_V30 (start E_V30 qbt [(.tv qaj c)]) (fun r_ h_ => r_ = (vb (vrtP c)) ∧ h_ = []) := .tree E_V30_ok (machine_checker_virtual_t c) (by
 show Tre.wp (Qv _ (fun x_ => (vb x_)) (vrtP c)) _
 unfold vrtP
 exact ⟨rfl, rfl⟩)
theorem c_machine_checker_virtual : qal E_V30 qbt qhl.spec := qan fun x hx hp => ⟨rfl, m_machine_checker_virtual x.1 hx.1 hp⟩

def k_r50_kind : Con := con [.d I] .bool (fun x => True) fun x => typP x.1
theorem m_r50_kind (t : Int) (h_t : okD I t) (hp : True) : Runs E_V30 (start E_V30 f_r50_kind [(vi t)]) (fun r_ h_ => r_ = (vb (typP t)) ∧ h_ = []) := .tree E_V30_ok (r50_kind_t t) (by
 refine qdk (fun h1 => ?_) (fun h1 => ?_)
 ·have h1_ := of_decide_eq_true h1
  exact ⟨by first | rw [show typP t = _ from (Bool.cond_pos h1)] | simp only [typP, h1, cond_true, cond_false], rfl⟩
 ·have h1_ := of_decide_eq_false h1
  exact ⟨by first | rw [show typP t = _ from (Bool.cond_neg h1)] | simp only [typP, h1, cond_true, cond_false], rfl⟩)
theorem c_r50_kind : qal E_V30 f_r50_kind k_r50_kind.spec := qan fun x hx hp => ⟨rfl, m_r50_kind x.1 hx.1 hp⟩
def rgM (f : Den qag) (r : Int) : Bool := (cond ((z f.2.2.2.2.1) == (0 : Int)) (cond (decide (r ≥ (0 : Int))) (decide (r < ((ln I f.2.2.2.1) : Int))) false) (cond (decide (r ≥ (0 : Int))) (decide (r < (z f.2.2.2.2.1))) false))

def k_r50_reg : Con := con [.d qag, .d I] .bool (fun x => True) fun x => rgM x.1 x.2.1
theorem m_r50_reg (f : Den qag) (r : Int) (h_f : okD qag f) (h_r : okD I r) (hp : True) : Runs E_V30 (start E_V30 f_r50_reg [(.tv qag f), (vi r)]) (fun r_ h_ => r_ = (vb (rgM f r)) ∧ h_ = []) := .tree E_V30_ok (r50_reg_t f r) (by
 show Tre.wp (Qv _ (fun x_ => (vb x_)) (rgM f r)) _
 unfold rgM
 refine qaf (fun h1 => ?_) (fun h1 => ?_)
 ·refine qaf (fun h2 => ⟨rfl, rfl⟩) (fun h2 => ?_)
  exact ⟨rfl, rfl⟩
 ·refine qaf (fun h3 => ⟨rfl, rfl⟩) (fun h3 => ?_)
  exact ⟨rfl, rfl⟩)
theorem c_r50_reg : qal E_V30 f_r50_reg k_r50_reg.spec := qan fun x hx hp => ⟨rfl, m_r50_reg x.1 x.2.1 hx.1 hx.2.1 hp⟩
theorem machine_first_l (l : List (Den I)) (hl : ln I l < 9223372036854775807) : ∀ i, i ≤ ln I l → RunI E_V30 (qib l (ln I l : Nat) i) (fstF (l.drop i)) :=
 qay (.tree E_V30_ok (machine_first_L0_t ..) (by
  rw [show l.drop (ln I l) = [] from qhb]
  simp only [sS, sL,  Nat.lt_irrefl]
  exact ⟨rfl, rfl⟩))
  fun i hi ih => .tree E_V30_ok (machine_first_L0_t ..) (by
   rw [show l.drop i = gd I l i :: l.drop (i + 1) from qhc hi, fstF]
   simp only [sS, sL,  hi, wrapS hi hl]
   refine ⟨fun h1 => ?_, fun h1 => ?_⟩
   ·rw [h1]; exact ⟨rfl, rfl⟩
   ·rw [h1]; exact ih)
def k_machine_first : Con := con [.d (.sl 8 I)] I (fun x => True) fun x => fstF x.1
theorem m_machine_first (l : List (Den I)) (h_l : okD (.sl 8 I) l) (hp : True) : Runs E_V30 (start E_V30 qdh [(.tv (.sl 8 I) l)]) (fun r_ h_ => r_ = (vi (fstF l)) ∧ h_ = []) := .tree E_V30_ok (machine_first_t l) (by
 show Tre.wp (contL _ (IsI (fstF l))) _
 simp only [sS, sL,  Nat.sub_zero]
 exact machine_first_l l (qar h_l.1) 0 (Nat.zero_le _))
theorem c_machine_first : qal E_V30 qdh k_machine_first.spec := qan fun x hx hp => ⟨rfl, m_machine_first x.1 hx.1 hp⟩
def L_V30 : List (FuncId × FSpec) := [(qff, k_machine_within.spec), (qfh, k_machine_isType.spec), (qfg, k_machine_unless.spec), (qhv, k_machine_flag.spec), (qbt, qhl.spec), (f_r50_kind, k_r50_kind.spec), (f_r50_reg, k_r50_reg.spec), (qdh, k_machine_first.spec)] ++ L_V29
theorem L_V30_ok : ∀ x ∈ L_V30, qal (ctx []) x.1 x.2 := by
 unfold L_V30
 simp only [List.cons_append, List.nil_append, List.forall_mem_cons]
 exact ⟨c_machine_within, c_machine_isType, c_machine_unless, c_machine_flag, c_machine_checker_virtual, c_r50_kind, c_r50_reg, c_machine_first, L_V29_ok⟩
end Burn.MC
namespace Burn.MC
open Go Go.BE Go.Proofs
set_option maxRecDepth 100000
set_option linter.unusedVariables false
set_option linter.unusedSimpArgs false
open Burn.Intn Burn.Ref
noncomputable abbrev E_V31 : Ctx := ctx L_V30
theorem E_V31_ok : EOK E_V31 := qbo L_V30_ok
def cuts_V31 : CutL := []
def rets_V31 : FuncId → List (Option Fx)
 | _ => []
def H_V31 : Hints := { cut := cutOf cuts_V31, ret := rets_V31 }
theorem machine_checker_register_t (c : Den qaj) (r : Int) : run E_V31 H_V31 qbp 3000 (start E_V31 qbp [(.tv qaj c), (vi r)]) = (.chk (True) (.know True (cond (vrtP c) (cond (decide (r ≥ (0 : Int))) (rt (vb (decide (r < ((ln I c.2.1.2.2.2.1) : Int)))) []) (rt (vb false) [])) (cond (decide (r ≥ (0 : Int))) (rt (vb (decide (r < (z c.2.1.2.2.2.2.1)))) []) (rt (vb false) []))))) := by kernel_rfl
def regC (c : Chr) (r : Int) : Bool := rgM c.2.1 r
def allC (f : MFn) : List (Den I) → Bool
 | [] => true
 | r :: l => cond (rgM f (z r)) (allC f l) false
def rgsF (c : Chr) (l : List (Den I)) : Bool := allC c.2.1 l

def qgx : Con := con [.d qaj, .d I] .bool (fun x => True) fun x => regC x.1 x.2.1
theorem m_machine_checker_register (c : Den qaj) (r : Int) (h_c : okD qaj c) (h_r : okD I r) (hp : True) : Runs E_V31 (start E_V31 qbp [(.tv qaj c), (vi r)]) (fun r_ h_ => r_ = (vb (regC c r)) ∧ h_ = []) := .tree E_V31_ok (machine_checker_register_t c r) (by
 refine ⟨trivial, fun _ => ?_⟩
 refine fun _ => ?_
 refine qdk (fun h1 => ?_) (fun h1 => ?_)
 ·refine qdk (fun h2 => ?_) (fun h2 => ?_)
  ·have h2_ := of_decide_eq_true h2
   exact ⟨by simp only [regC, rgM, show (z c.2.1.2.2.2.2.1 == (0 : Int)) = vrtP c from rfl, h1, h2, cond_true, cond_false, cond_true, cond_false], rfl⟩
  ·have h2_ := of_decide_eq_false h2
   exact ⟨by simp only [regC, rgM, show (z c.2.1.2.2.2.2.1 == (0 : Int)) = vrtP c from rfl, h1, h2, cond_true, cond_false, cond_true, cond_false], rfl⟩
 ·refine qdk (fun h3 => ?_) (fun h3 => ?_)
  ·have h3_ := of_decide_eq_true h3
   exact ⟨by simp only [regC, rgM, show (z c.2.1.2.2.2.2.1 == (0 : Int)) = vrtP c from rfl, h1, h3, cond_true, cond_false, cond_true, cond_false], rfl⟩
  ·have h3_ := of_decide_eq_false h3
   exact ⟨by simp only [regC, rgM, show (z c.2.1.2.2.2.2.1 == (0 : Int)) = vrtP c from rfl, h1, h3, cond_true, cond_false, cond_true, cond_false], rfl⟩)
theorem c_machine_checker_register : qal E_V31 qbp qgx.spec := qan fun x hx hp => ⟨rfl, m_machine_checker_register x.1 x.2.1 hx.1 hx.2.1 hp⟩
def L_V31 : List (FuncId × FSpec) := [(qbp, qgx.spec)] ++ L_V30
theorem L_V31_ok : ∀ x ∈ L_V31, qal (ctx []) x.1 x.2 := by
 unfold L_V31
 simp only [List.cons_append, List.nil_append, List.forall_mem_cons]
 exact ⟨c_machine_checker_register, L_V30_ok⟩
end Burn.MC
namespace Burn.MC
open Go Go.BE Go.Proofs
set_option maxRecDepth 100000
set_option linter.unusedVariables false
set_option linter.unusedSimpArgs false
open Burn.Intn Burn.Ref
def mrg_V32 : FuncId → List Nat
 | 49 => [15, 62, 69]
 | _ => []
noncomputable abbrev E_V32 : Ctx := { ctx L_V31 with mrg := mrg_V32 }
theorem E_V32_ok : EOK E_V32 := have h : EOK (ctx L_V31) := qbo L_V31_ok; ⟨h.ty, h.env, h.fns, h.mixed⟩
def cuts_V32 : CutL := [([], 78, 0, [2, 7, 8, 9], [], [])]
def rets_V32 : FuncId → List (Option Fx)
 | _ => []
def H_V32 : Hints := { cut := cutOf cuts_V32, ret := rets_V32 }
noncomputable def qce (c : Den qaj) (t7 : List (Den I)) (t8 : Int) (t9 : Int) : Cfg := hcfg E_V32 qbb 0 [(2, (.rtp qaj c)), (7, (.tv (.sl 8 I) t7)), (8, (vi t8)), (9, (vi t9))] [] 0
theorem machine_checker_registers_t (c : Den qaj) (l : List (Den I)) : run E_V32 H_V32 qbb 3000 (start E_V32 qbb [(.tv qaj c), (.tv (.sl 8 I) l)]) = (hd (qce c l ((ln I l) : Int) (0 : Int))) := by kernel_rfl
theorem qer (c : Den qaj) (t7 : List (Den I)) (t8 : Int) (t9 : Int) : run E_V32 H_V32 qbb 3000 (qce c t7 t8 t9) = (cond (decide (t9 < t8)) (.chk (0 ≤ t9 ∧ t9 < (ln I t7)) (.chk (True) (.know True (cond (!(regC c (gd I t7 t9.toNat))) (rt (vb false) []) (hd (qce c t7 t8 (IntKind.wrap .i64 (t9 + (1 : Int))))))))) (rt (vb true) [])) := by kernel_rfl
theorem machine_checker_operands_t (c : Den qaj) (in_ : Den qad) : run E_V32 H_V32 qbr 3000 (start E_V32 qbr [(.tv qaj c), (.tv qad in_)]) = (cond ((z in_.1) == (1 : Int)) (rt (vi (0 : Int)) []) (cond ((z in_.1) == (2 : Int)) (rt (vi (0 : Int)) []) (cond ((z in_.1) == (25 : Int)) (rt (vi (0 : Int)) []) (cond ((z in_.1) == (26 : Int)) (rt (vi (0 : Int)) []) (cond ((z in_.1) == (4 : Int)) (rt (vi (1 : Int)) []) (cond ((z in_.1) == (22 : Int)) (rt (vi (1 : Int)) []) (cond ((z in_.1) == (23 : Int)) (rt (vi (1 : Int)) []) (cond ((z in_.1) == (24 : Int)) (rt (vi (1 : Int)) []) (cond ((z in_.1) == (28 : Int)) (rt (vi (1 : Int)) []) (cond ((z in_.1) == (31 : Int)) (rt (vi (1 : Int)) []) (cond ((z in_.1) == (33 : Int)) (rt (vi (1 : Int)) []) (cond ((z in_.1) == (21 : Int)) (rt (vi (3 : Int)) []) (cond ((z in_.1) == (32 : Int)) (cond ((z in_.2.1) == (6 : Int)) (rt (vi (2 : Int)) []) (rt (vi (4 : Int)) [])) (cond ((z in_.1) == (30 : Int)) (.chk (0 ≤ (z in_.2.2.2.2.2.1) ∧ (z in_.2.2.2.2.2.1) < (ln qaa c.1.2.1)) (rt (vi ((ln I ((gd qaa c.1.2.1 (((z in_.2.2.2.2.2.1)).toNat)).2.1)) : Int)) [])) (rt (vi (2 : Int)) []))))))))))))))) := by kernel_rfl
theorem r50_operands_t (m : Den qab) (in_ : Den qad) : run E_V32 H_V32 qhq 3000 (start E_V32 qhq [(.tv qab m), (.tv qad in_)]) = (cond ((z in_.1) == (1 : Int)) (rt (vi (0 : Int)) []) (cond ((z in_.1) == (2 : Int)) (rt (vi (0 : Int)) []) (cond ((z in_.1) == (25 : Int)) (rt (vi (0 : Int)) []) (cond ((z in_.1) == (26 : Int)) (rt (vi (0 : Int)) []) (cond ((z in_.1) == (4 : Int)) (rt (vi (1 : Int)) []) (cond ((z in_.1) == (22 : Int)) (rt (vi (1 : Int)) []) (cond ((z in_.1) == (23 : Int)) (rt (vi (1 : Int)) []) (cond ((z in_.1) == (24 : Int)) (rt (vi (1 : Int)) []) (cond ((z in_.1) == (28 : Int)) (rt (vi (1 : Int)) []) (cond ((z in_.1) == (31 : Int)) (rt (vi (1 : Int)) []) (cond ((z in_.1) == (33 : Int)) (rt (vi (1 : Int)) []) (cond ((z in_.1) == (21 : Int)) (rt (vi (3 : Int)) []) (cond ((z in_.1) == (32 : Int)) (cond ((z in_.2.1) != (6 : Int)) (rt (vi (4 : Int)) []) (rt (vi (2 : Int)) [])) (cond ((z in_.1) == (30 : Int)) (.chk (0 ≤ (z in_.2.2.2.2.2.1) ∧ (z in_.2.2.2.2.2.1) < (ln qaa m.2.1)) (rt (vi ((ln I ((gd qaa m.2.1 (((z in_.2.2.2.2.2.1)).toNat)).2.1)) : Int)) [])) (rt (vi (2 : Int)) []))))))))))))))) := by kernel_rfl
theorem machine_checker_shape_t (c : Den qaj) (t : Den qah) : run E_V32 H_V32 qch 3000 (start E_V32 qch [(.tv qaj c), (.tv qah t)]) = (cond (cond ((z t.1) != (6 : Int)) ((z t.2.2.2.2.1) != (0 : Int)) false) (rt (vb false) []) (cond ((z t.1) == (1 : Int)) (rt (vb (cond (cond (((ln I t.2.1) : Int) == (0 : Int)) (((ln I t.2.2.1) : Int) == (0 : Int)) false) (((ln qae t.2.2.2.1) : Int) == (1 : Int)) false)) []) (cond ((z t.1) == (2 : Int)) (rt (vb (cond (cond (((ln I t.2.1) : Int) == (1 : Int)) (((ln I t.2.2.1) : Int) == (0 : Int)) false) (((ln qae t.2.2.2.1) : Int) == (2 : Int)) false)) []) (cond ((z t.1) == (3 : Int)) (rt (vb (cond (cond (((ln I t.2.1) : Int) == (1 : Int)) (((ln I t.2.2.1) : Int) == ((ln I t.2.2.1) : Int)) false) (((ln qae t.2.2.2.1) : Int) == (IntKind.wrap .i64 (((ln I t.2.2.1) : Int) + (1 : Int)))) false)) []) (cond ((z t.1) == (4 : Int)) (.chk (True) (.know (okD (.int .i64) (flgP ((z c.2.1.2.2.1) != (0 : Int)))) (rt (vb (cond (cond (((ln I t.2.1) : Int) == (flgP ((z c.2.1.2.2.1) != (0 : Int)))) (((ln I t.2.2.1) : Int) == (0 : Int)) false) (((ln qae t.2.2.2.1) : Int) == (0 : Int)) false)) []))) (cond ((z t.1) == (5 : Int)) (rt (vb (cond (cond (((ln I t.2.1) : Int) == (0 : Int)) (((ln I t.2.2.1) : Int) == (1 : Int)) false) (((ln qae t.2.2.2.1) : Int) == (0 : Int)) false)) []) (cond ((z t.1) == (6 : Int)) (.chk (0 ≤ (z t.2.2.2.2.1) ∧ (z t.2.2.2.2.1) < (ln qaa c.1.2.1)) (rt (vb (cond (cond (((ln I t.2.1) : Int) == ((ln I ((gd qaa c.1.2.1 (((z t.2.2.2.2.1)).toNat)).2.1)) : Int)) (((ln I t.2.2.1) : Int) == (0 : Int)) false) (((ln qae t.2.2.2.1) : Int) == (0 : Int)) false)) [])) (rt (vb (cond (cond (((ln I t.2.1) : Int) == (0 : Int)) (((ln I t.2.2.1) : Int) == (0 : Int)) false) (((ln qae t.2.2.2.1) : Int) == (0 : Int)) false)) [])))))))) := by kernel_rfl
theorem machine_checker_registers_l (c : Chr) (l : List (Den I)) (hl : ln I l < 9223372036854775807) : ∀ i, i ≤ ln I l → Runs E_V32 (qce c l (ln I l : Nat) i) (fun r h => r = vb (allC c.2.1 (l.drop i)) ∧ h = []) :=
 qay (.tree E_V32_ok (qer ..) (by
  rw [show l.drop (ln I l) = [] from qhb]
  simp only [sS, sL,  Nat.lt_irrefl, allC]))
  fun i hi ih => .tree E_V32_ok (qer ..) (by
   rw [show l.drop i = gd I l i :: l.drop (i + 1) from qhc hi, allC]
   simp only [sS, sL,  hi, wrapS hi hl]
   refine ⟨fun h1 => ?_, fun h1 => ?_⟩
   ·rw [show rgM c.2.1 (z (gd I l i)) = false from by simpa [regC] using h1]; rfl
   ·rw [show rgM c.2.1 (z (gd I l i)) = true from by simpa [regC] using h1]; exact ih)
def qgb : Con := con [.d qaj, .d (.sl 8 I)] .bool (fun x => True) fun x => rgsF x.1 x.2.1
theorem m_machine_checker_registers (c : Den qaj) (l : List (Den I)) (h_c : okD qaj c) (h_l : okD (.sl 8 I) l) (hp : True) : Runs E_V32 (start E_V32 qbb [(.tv qaj c), (.tv (.sl 8 I) l)]) (fun r_ h_ => r_ = (vb (rgsF c l)) ∧ h_ = []) := .tree E_V32_ok (machine_checker_registers_t c l) (by
 simp only [sS, sL,  Nat.sub_zero]
 exact machine_checker_registers_l c l (qar h_l.1) 0 (Nat.zero_le _))
theorem c_machine_checker_registers : qal E_V32 qbb qgb.spec := qan fun x hx hp => ⟨rfl, m_machine_checker_registers x.1 x.2.1 hx.1 hx.2.1 hp⟩
def opsP (c : Den qaj) (in_ : Den qad) : Int := (cond ((z in_.1) == (1 : Int)) (0 : Int) (cond ((z in_.1) == (2 : Int)) (0 : Int) (cond ((z in_.1) == (25 : Int)) (0 : Int) (cond ((z in_.1) == (26 : Int)) (0 : Int) (cond ((z in_.1) == (4 : Int)) (1 : Int) (cond ((z in_.1) == (22 : Int)) (1 : Int) (cond ((z in_.1) == (23 : Int)) (1 : Int) (cond ((z in_.1) == (24 : Int)) (1 : Int) (cond ((z in_.1) == (28 : Int)) (1 : Int) (cond ((z in_.1) == (31 : Int)) (1 : Int) (cond ((z in_.1) == (33 : Int)) (1 : Int) (cond ((z in_.1) == (21 : Int)) (3 : Int) (cond ((z in_.1) == (32 : Int)) (cond ((z in_.2.1) == (6 : Int)) (2 : Int) (4 : Int)) (cond ((z in_.1) == (30 : Int)) ((ln I ((gd qaa c.1.2.1 (((z in_.2.2.2.2.2.1)).toNat)).2.1)) : Int) (2 : Int)))))))))))))))

def qgz : Con := con [.d qaj, .d qad] I (fun x => z x.2.1.1 = 30 → 0 ≤ z x.2.1.2.2.2.2.2.1 ∧ z x.2.1.2.2.2.2.2.1 < (ln qaa x.1.1.2.1 : Nat)) fun x => opsP x.1 x.2.1
theorem m_machine_checker_operands (c : Den qaj) (in_ : Den qad) (h_c : okD qaj c) (h_in_ : okD qad in_) (hp : z in_.1 = 30 → 0 ≤ z in_.2.2.2.2.2.1 ∧ z in_.2.2.2.2.2.1 < (ln qaa c.1.2.1 : Nat)) : Runs E_V32 (start E_V32 qbr [(.tv qaj c), (.tv qad in_)]) (fun r_ h_ => r_ = (vi (opsP c in_)) ∧ h_ = []) := .tree E_V32_ok (machine_checker_operands_t c in_) (by
 have hp_ := hp
 try simp only [z] at hp_
 show Tre.wp (Qv _ (fun x_ => (vi x_)) (opsP c in_)) _
 unfold opsP
 refine qaf (fun h1 => ⟨rfl, rfl⟩) (fun h1 => ?_)
 have h1_ := beq_f h1
 refine qaf (fun h2 => ⟨rfl, rfl⟩) (fun h2 => ?_)
 have h2_ := beq_f h2
 refine qaf (fun h3 => ⟨rfl, rfl⟩) (fun h3 => ?_)
 have h3_ := beq_f h3
 refine qaf (fun h4 => ⟨rfl, rfl⟩) (fun h4 => ?_)
 have h4_ := beq_f h4
 refine qaf (fun h5 => ⟨rfl, rfl⟩) (fun h5 => ?_)
 have h5_ := beq_f h5
 refine qaf (fun h6 => ⟨rfl, rfl⟩) (fun h6 => ?_)
 have h6_ := beq_f h6
 refine qaf (fun h7 => ⟨rfl, rfl⟩) (fun h7 => ?_)
 have h7_ := beq_f h7
 refine qaf (fun h8 => ⟨rfl, rfl⟩) (fun h8 => ?_)
 have h8_ := beq_f h8
 refine qaf (fun h9 => ⟨rfl, rfl⟩) (fun h9 => ?_)
 have h9_ := beq_f h9
 refine qaf (fun h10 => ⟨rfl, rfl⟩) (fun h10 => ?_)
 have h10_ := beq_f h10
 refine qaf (fun h11 => ⟨rfl, rfl⟩) (fun h11 => ?_)
 have h11_ := beq_f h11
 refine qaf (fun h12 => ⟨rfl, rfl⟩) (fun h12 => ?_)
 have h12_ := beq_f h12
 refine qaf (fun h13 => ?_) (fun h13 => ?_)
 ·refine qaf (fun h14 => ⟨rfl, rfl⟩) (fun h14 => ?_)
  exact ⟨rfl, rfl⟩
 ·have h13_ := beq_f h13
  refine qaf (fun h15 => ?_) (fun h15 => ⟨rfl, rfl⟩)
  have h15_ := beq_t h15
  refine ⟨by first | omega | exact (hp (by assumption)) | (have g_ := hp (by assumption); omega) | assumption | exact hp.1 | exact hp.2 | exact hp.2.1 | (simp_all; done) | (simp_all; omega), fun _ => ?_⟩
  exact ⟨rfl, rfl⟩)
theorem c_machine_checker_operands : qal E_V32 qbr qgz.spec := qan fun x hx hp => ⟨rfl, m_machine_checker_operands x.1 x.2.1 hx.1 hx.2.1 hp⟩
def opsR (m : Den qab) (in_ : Den qad) : Int := (cond ((z in_.1) == (1 : Int)) (0 : Int) (cond ((z in_.1) == (2 : Int)) (0 : Int) (cond ((z in_.1) == (25 : Int)) (0 : Int) (cond ((z in_.1) == (26 : Int)) (0 : Int) (cond ((z in_.1) == (4 : Int)) (1 : Int) (cond ((z in_.1) == (22 : Int)) (1 : Int) (cond ((z in_.1) == (23 : Int)) (1 : Int) (cond ((z in_.1) == (24 : Int)) (1 : Int) (cond ((z in_.1) == (28 : Int)) (1 : Int) (cond ((z in_.1) == (31 : Int)) (1 : Int) (cond ((z in_.1) == (33 : Int)) (1 : Int) (cond ((z in_.1) == (21 : Int)) (3 : Int) (cond ((z in_.1) == (32 : Int)) (cond ((z in_.2.1) != (6 : Int)) (4 : Int) (2 : Int)) (cond ((z in_.1) == (30 : Int)) ((ln I ((gd qaa m.2.1 (((z in_.2.2.2.2.2.1)).toNat)).2.1)) : Int) (2 : Int)))))))))))))))

def k_r50_operands : Con := con [.d qab, .d qad] I (fun x => z x.2.1.1 = 30 → 0 ≤ z x.2.1.2.2.2.2.2.1 ∧ z x.2.1.2.2.2.2.2.1 < (ln qaa x.1.2.1 : Nat)) fun x => opsR x.1 x.2.1
theorem m_r50_operands (m : Den qab) (in_ : Den qad) (h_m : okD qab m) (h_in_ : okD qad in_) (hp : z in_.1 = 30 → 0 ≤ z in_.2.2.2.2.2.1 ∧ z in_.2.2.2.2.2.1 < (ln qaa m.2.1 : Nat)) : Runs E_V32 (start E_V32 qhq [(.tv qab m), (.tv qad in_)]) (fun r_ h_ => r_ = (vi (opsR m in_)) ∧ h_ = []) := .tree E_V32_ok (r50_operands_t m in_) (by
 have hp_ := hp
 try simp only [z] at hp_
 show Tre.wp (Qv _ (fun x_ => (vi x_)) (opsR m in_)) _
 unfold opsR
 refine qaf (fun h1 => ⟨rfl, rfl⟩) (fun h1 => ?_)
 have h1_ := beq_f h1
 refine qaf (fun h2 => ⟨rfl, rfl⟩) (fun h2 => ?_)
 have h2_ := beq_f h2
 refine qaf (fun h3 => ⟨rfl, rfl⟩) (fun h3 => ?_)
 have h3_ := beq_f h3
 refine qaf (fun h4 => ⟨rfl, rfl⟩) (fun h4 => ?_)
 have h4_ := beq_f h4
 refine qaf (fun h5 => ⟨rfl, rfl⟩) (fun h5 => ?_)
 have h5_ := beq_f h5
 refine qaf (fun h6 => ⟨rfl, rfl⟩) (fun h6 => ?_)
 have h6_ := beq_f h6
 refine qaf (fun h7 => ⟨rfl, rfl⟩) (fun h7 => ?_)
 have h7_ := beq_f h7
 refine qaf (fun h8 => ⟨rfl, rfl⟩) (fun h8 => ?_)
 have h8_ := beq_f h8
 refine qaf (fun h9 => ⟨rfl, rfl⟩) (fun h9 => ?_)
 have h9_ := beq_f h9
 refine qaf (fun h10 => ⟨rfl, rfl⟩) (fun h10 => ?_)
 have h10_ := beq_f h10
 refine qaf (fun h11 => ⟨rfl, rfl⟩) (fun h11 => ?_)
 have h11_ := beq_f h11
 refine qaf (fun h12 => ⟨rfl, rfl⟩) (fun h12 => ?_)
 have h12_ := beq_f h12
 refine qaf (fun h13 => ?_) (fun h13 => ?_)
 ·refine qaf (fun h14 => ⟨rfl, rfl⟩) (fun h14 => ?_)
  exact ⟨rfl, rfl⟩
 ·have h13_ := beq_f h13
  refine qaf (fun h15 => ?_) (fun h15 => ⟨rfl, rfl⟩)
  have h15_ := beq_t h15
  refine ⟨by first | omega | exact (hp (by assumption)) | (have g_ := hp (by assumption); omega) | assumption | exact hp.1 | exact hp.2 | exact hp.2.1 | (simp_all; done) | (simp_all; omega), fun _ => ?_⟩
  exact ⟨rfl, rfl⟩)
theorem c_r50_operands : qal E_V32 qhq k_r50_operands.spec := qan fun x hx hp => ⟨rfl, m_r50_operands x.1 x.2.1 hx.1 hx.2.1 hp⟩
def shpC (c : Den qaj) (t : Den qah) : Bool := (cond (cond ((z t.1) != (6 : Int)) ((z t.2.2.2.2.1) != (0 : Int)) false) false (cond ((z t.1) == (1 : Int)) (cond (cond (((ln I t.2.1) : Int) == (0 : Int)) (((ln I t.2.2.1) : Int) == (0 : Int)) false) (((ln qae t.2.2.2.1) : Int) == (1 : Int)) false) (cond ((z t.1) == (2 : Int)) (cond (cond (((ln I t.2.1) : Int) == (1 : Int)) (((ln I t.2.2.1) : Int) == (0 : Int)) false) (((ln qae t.2.2.2.1) : Int) == (2 : Int)) false) (cond ((z t.1) == (3 : Int)) (cond (cond (((ln I t.2.1) : Int) == (1 : Int)) (((ln I t.2.2.1) : Int) == ((ln I t.2.2.1) : Int)) false) (((ln qae t.2.2.2.1) : Int) == (IntKind.wrap .i64 (((ln I t.2.2.1) : Int) + (1 : Int)))) false) (cond ((z t.1) == (4 : Int)) (cond (cond (((ln I t.2.1) : Int) == (flgP ((z c.2.1.2.2.1) != (0 : Int)))) (((ln I t.2.2.1) : Int) == (0 : Int)) false) (((ln qae t.2.2.2.1) : Int) == (0 : Int)) false) (cond ((z t.1) == (5 : Int)) (cond (cond (((ln I t.2.1) : Int) == (0 : Int)) (((ln I t.2.2.1) : Int) == (1 : Int)) false) (((ln qae t.2.2.2.1) : Int) == (0 : Int)) false) (cond ((z t.1) == (6 : Int)) (cond (cond (((ln I t.2.1) : Int) == ((ln I ((gd qaa c.1.2.1 (((z t.2.2.2.2.1)).toNat)).2.1)) : Int)) (((ln I t.2.2.1) : Int) == (0 : Int)) false) (((ln qae t.2.2.2.1) : Int) == (0 : Int)) false) (cond (cond (((ln I t.2.1) : Int) == (0 : Int)) (((ln I t.2.2.1) : Int) == (0 : Int)) false) (((ln qae t.2.2.2.1) : Int) == (0 : Int)) false))))))))

def k_machine_checker_shape : Con := con [.d qaj, .d qah] .bool (fun x => z x.2.1.1 = 6 → 0 ≤ z x.2.1.2.2.2.2.1 ∧ z x.2.1.2.2.2.2.1 < (ln qaa x.1.1.2.1 : Nat)) fun x => shpC x.1 x.2.1
theorem m_machine_checker_shape (c : Den qaj) (t : Den qah) (h_c : okD qaj c) (h_t : okD qah t) (hp : z t.1 = 6 → 0 ≤ z t.2.2.2.2.1 ∧ z t.2.2.2.2.1 < (ln qaa c.1.2.1 : Nat)) : Runs E_V32 (start E_V32 qch [(.tv qaj c), (.tv qah t)]) (fun r_ h_ => r_ = (vb (shpC c t)) ∧ h_ = []) := .tree E_V32_ok (machine_checker_shape_t c t) (by
 have hp_ := hp
 try simp only [z] at hp_
 show Tre.wp (Qv _ (fun x_ => (vb x_)) (shpC c t)) _
 unfold shpC
 refine qaf (fun h1 => ⟨rfl, rfl⟩) (fun h1 => ?_)
 refine qaf (fun h2 => ⟨rfl, rfl⟩) (fun h2 => ?_)
 have h2_ := beq_f h2
 refine qaf (fun h3 => ⟨rfl, rfl⟩) (fun h3 => ?_)
 have h3_ := beq_f h3
 refine qaf (fun h4 => ⟨rfl, rfl⟩) (fun h4 => ?_)
 have h4_ := beq_f h4
 refine qaf (fun h5 => ⟨trivial, fun _ => fun _ => ⟨rfl, rfl⟩⟩) (fun h5 => ?_)
 have h5_ := beq_f h5
 refine qaf (fun h6 => ⟨rfl, rfl⟩) (fun h6 => ?_)
 have h6_ := beq_f h6
 refine qaf (fun h7 => ?_) (fun h7 => ⟨rfl, rfl⟩)
 have h7_ := beq_t h7
 refine ⟨by first | omega | exact (hp (by assumption)) | (have g_ := hp (by assumption); omega) | assumption | exact hp.1 | exact hp.2 | exact hp.2.1 | (simp_all; done) | (simp_all; omega), fun _ => ?_⟩
 exact ⟨rfl, rfl⟩)
theorem c_machine_checker_shape : qal E_V32 qch k_machine_checker_shape.spec := qan fun x hx hp => ⟨rfl, m_machine_checker_shape x.1 x.2.1 hx.1 hx.2.1 hp⟩
def L_V32 : List (FuncId × FSpec) := [(qbb, qgb.spec), (qbr, qgz.spec), (qhq, k_r50_operands.spec), (qch, k_machine_checker_shape.spec)] ++ L_V31
theorem L_V32_ok : ∀ x ∈ L_V32, qal (ctx []) x.1 x.2 := by
 unfold L_V32
 simp only [List.cons_append, List.nil_append, List.forall_mem_cons]
 exact ⟨c_machine_checker_registers, c_machine_checker_operands, c_r50_operands, c_machine_checker_shape, L_V31_ok⟩
end Burn.MC
namespace Burn.MC
open Go Go.BE Go.Proofs
set_option maxRecDepth 100000
set_option linter.unusedVariables false
set_option linter.unusedSimpArgs false
open Burn.Intn Burn.Ref
def mrg_V33 : FuncId → List Nat
 | 46 => [14, 25, 35, 40, 45, 53, 63, 75]
 | 54 => [16, 28, 33, 34, 35, 44, 45, 53, 63, 73, 74, 79, 86]
 | _ => []
noncomputable abbrev E_V33 : Ctx := { ctx L_V32 with mrg := mrg_V33 }
theorem E_V33_ok : EOK E_V33 := have h : EOK (ctx L_V32) := qbo L_V32_ok; ⟨h.ty, h.env, h.fns, h.mixed⟩
def cuts_V33 : CutL := []
def rets_V33 : FuncId → List (Option Fx)
 | _ => []
def H_V33 : Hints := { cut := cutOf cuts_V33, ret := rets_V33 }
theorem r50_slot_t (f : Den qag) (in_ : Den qad) : run E_V33 H_V33 f_r50_slot 3000 (start E_V33 f_r50_slot [(.tv qag f), (.tv qad in_)]) = (cond (cond (cond (cond ((z in_.2.2.2.2.2.1) != (0 : Int)) true ((z in_.2.2.2.2.2.2.1) != (0 : Int))) true (cond ((z in_.1) == (40 : Int)) (cond (cond (((ln I in_.2.2.2.1) : Int) != (1 : Int)) true ((z in_.2.2.1) != (-1 : Int))) true ((z in_.2.1) != (0 : Int))) false)) true (cond (!((z in_.1) == (40 : Int))) (((ln I in_.2.2.2.1) : Int) != (0 : Int)) false)) (rt (vi (3 : Int)) []) (.chk (((!((z in_.1) == (40 : Int))) = true → (True))) (cond (cond (!((z in_.1) == (40 : Int))) (!(typP in_.2.1)) false) (rt (vi (9 : Int)) []) (.chk ((((z in_.1) == (40 : Int)) = true → (0 ≤ (0 : Int) ∧ (0 : Int) < (ln I in_.2.2.2.1)))) (.chk ((((z in_.1) == (40 : Int)) = true → (True))) (.chk (((cond ((z in_.1) == (40 : Int)) (!(rgM f (gd I in_.2.2.2.1 (0 : Nat)))) false) = false → (((!((z in_.1) == (40 : Int))) = true → (True))))) (cond (cond (cond (cond (cond ((z in_.1) == (40 : Int)) (!(rgM f (gd I in_.2.2.2.1 (0 : Nat)))) false) true (cond (!((z in_.1) == (40 : Int))) (!(rgM f in_.2.2.1)) false)) true (decide ((z in_.2.2.2.2.1) < (0 : Int)))) true (decide ((z in_.2.2.2.2.1) ≥ (z f.2.2.2.2.2.1)))) (rt (vi (10 : Int)) []) (rt (vi (0 : Int)) [])))))))) := by kernel_rfl
theorem machine_checker_move_t (c : Den qaj) (in_ : Den qad) : run E_V33 H_V33 qcn 3000 (start E_V33 qcn [(.tv qaj c), (.tv qad in_)]) = (cond ((z in_.1) == (40 : Int)) (.chk (True) (.chk (True) (.chk (True) (.chk (True) (.know (okD (.int .i64) (unlP (cond (cond (cond (cond ((z in_.2.2.2.2.2.1) == (0 : Int)) ((z in_.2.2.2.2.2.2.1) == (0 : Int)) false) (((ln I in_.2.2.2.1) : Int) == (1 : Int)) false) ((z in_.2.2.1) == (-1 : Int)) false) ((z in_.2.1) == (0 : Int)) false) (3 : Int))) (.know True (.know (okD (.int .i64) (unlP (cond (rgsF c in_.2.2.2.1) (cond (decide ((z in_.2.2.2.2.1) ≥ (0 : Int))) (decide ((z in_.2.2.2.2.1) < (z c.2.1.2.2.2.2.2.1))) false) false) (10 : Int))) (.know (okD (.int .i64) (fstF ([(unlP (cond (cond (cond (cond ((z in_.2.2.2.2.2.1) == (0 : Int)) ((z in_.2.2.2.2.2.2.1) == (0 : Int)) false) (((ln I in_.2.2.2.1) : Int) == (1 : Int)) false) ((z in_.2.2.1) == (-1 : Int)) false) ((z in_.2.1) == (0 : Int)) false) (3 : Int)), (unlP (cond (rgsF c in_.2.2.2.1) (cond (decide ((z in_.2.2.2.2.1) ≥ (0 : Int))) (decide ((z in_.2.2.2.2.1) < (z c.2.1.2.2.2.2.2.1))) false) false) (10 : Int))] : List (Den I)))) (rt (vi (fstF ([(unlP (cond (cond (cond (cond ((z in_.2.2.2.2.2.1) == (0 : Int)) ((z in_.2.2.2.2.2.2.1) == (0 : Int)) false) (((ln I in_.2.2.2.1) : Int) == (1 : Int)) false) ((z in_.2.2.1) == (-1 : Int)) false) ((z in_.2.1) == (0 : Int)) false) (3 : Int)), (unlP (cond (rgsF c in_.2.2.2.1) (cond (decide ((z in_.2.2.2.2.1) ≥ (0 : Int))) (decide ((z in_.2.2.2.2.1) < (z c.2.1.2.2.2.2.2.1))) false) false) (10 : Int))] : List (Den I)))) []))))))))) (.chk (True) (.chk (True) (.chk (True) (.chk (True) (.chk (True) (.chk (True) (.know (okD (.int .i64) (unlP (cond (cond ((z in_.2.2.2.2.2.1) == (0 : Int)) ((z in_.2.2.2.2.2.2.1) == (0 : Int)) false) (((ln I in_.2.2.2.1) : Int) == (0 : Int)) false) (3 : Int))) (.know True (.know (okD (.int .i64) (unlP (typP in_.2.1) (9 : Int))) (.know True (.know (okD (.int .i64) (unlP (cond (regC c in_.2.2.1) (cond (decide ((z in_.2.2.2.2.1) ≥ (0 : Int))) (decide ((z in_.2.2.2.2.1) < (z c.2.1.2.2.2.2.2.1))) false) false) (10 : Int))) (.know (okD (.int .i64) (fstF ([(unlP (cond (cond ((z in_.2.2.2.2.2.1) == (0 : Int)) ((z in_.2.2.2.2.2.2.1) == (0 : Int)) false) (((ln I in_.2.2.2.1) : Int) == (0 : Int)) false) (3 : Int)), (unlP (typP in_.2.1) (9 : Int)), (unlP (cond (regC c in_.2.2.1) (cond (decide ((z in_.2.2.2.2.1) ≥ (0 : Int))) (decide ((z in_.2.2.2.2.1) < (z c.2.1.2.2.2.2.2.1))) false) false) (10 : Int))] : List (Den I)))) (rt (vi (fstF ([(unlP (cond (cond ((z in_.2.2.2.2.2.1) == (0 : Int)) ((z in_.2.2.2.2.2.2.1) == (0 : Int)) false) (((ln I in_.2.2.2.1) : Int) == (0 : Int)) false) (3 : Int)), (unlP (typP in_.2.1) (9 : Int)), (unlP (cond (regC c in_.2.2.1) (cond (decide ((z in_.2.2.2.2.1) ≥ (0 : Int))) (decide ((z in_.2.2.2.2.1) < (z c.2.1.2.2.2.2.2.1))) false) false) (10 : Int))] : List (Den I)))) [])))))))))))))) := by kernel_rfl
def sltP (f : Den qag) (in_ : Den qad) : Int := (cond (cond (cond (cond ((z in_.2.2.2.2.2.1) != (0 : Int)) true ((z in_.2.2.2.2.2.2.1) != (0 : Int))) true (cond ((z in_.1) == (40 : Int)) (cond (cond (((ln I in_.2.2.2.1) : Int) != (1 : Int)) true ((z in_.2.2.1) != (-1 : Int))) true ((z in_.2.1) != (0 : Int))) false)) true (cond (!((z in_.1) == (40 : Int))) (((ln I in_.2.2.2.1) : Int) != (0 : Int)) false)) (3 : Int) (cond (cond (!((z in_.1) == (40 : Int))) (!(typP in_.2.1)) false) (9 : Int) (cond (cond (cond (cond (cond ((z in_.1) == (40 : Int)) (!(rgM f (gd I in_.2.2.2.1 (0 : Nat)))) false) true (cond (!((z in_.1) == (40 : Int))) (!(rgM f in_.2.2.1)) false)) true (decide ((z in_.2.2.2.2.1) < (0 : Int)))) true (decide ((z in_.2.2.2.2.1) ≥ (z f.2.2.2.2.2.1)))) (10 : Int) (0 : Int))))

def k_r50_slot : Con := con [.d qag, .d qad] I (fun x => True) fun x => sltP x.1 x.2.1
theorem m_r50_slot (f : Den qag) (in_ : Den qad) (h_f : okD qag f) (h_in_ : okD qad in_) (hp : True) : Runs E_V33 (start E_V33 f_r50_slot [(.tv qag f), (.tv qad in_)]) (fun r_ h_ => r_ = (vi (sltP f in_)) ∧ h_ = []) := .tree E_V33_ok (r50_slot_t f in_) (by
 show Tre.wp (Qv _ (fun x_ => (vi x_)) (sltP f in_)) _
 unfold sltP
 refine qaf (fun h1 => ⟨rfl, rfl⟩) (fun h1 => ?_)
 refine ⟨by first | omega | assumption | exact hp.1 | exact hp.2 | exact hp.2.1 | (simp_all; done) | (simp_all; omega), fun _ => ?_⟩
 refine qaf (fun h2 => ⟨rfl, rfl⟩) (fun h2 => ?_)
 refine ⟨by first | omega | assumption | exact hp.1 | exact hp.2 | exact hp.2.1 | (simp_all; done) | (simp_all; omega), fun _ => ?_⟩
 refine ⟨by first | omega | assumption | exact hp.1 | exact hp.2 | exact hp.2.1 | (simp_all; done) | (simp_all; omega), fun _ => ?_⟩
 refine ⟨by first | omega | assumption | exact hp.1 | exact hp.2 | exact hp.2.1 | (simp_all; done) | (simp_all; omega), fun _ => ?_⟩
 refine qaf (fun h3 => ⟨rfl, rfl⟩) (fun h3 => ?_)
 exact ⟨rfl, rfl⟩)
theorem c_r50_slot : qal E_V33 f_r50_slot k_r50_slot.spec := qan fun x hx hp => ⟨rfl, m_r50_slot x.1 x.2.1 hx.1 hx.2.1 hp⟩
def movP (c : Den qaj) (in_ : Den qad) : Int := (cond ((z in_.1) == (40 : Int)) (fstF ([(unlP (cond (cond (cond (cond ((z in_.2.2.2.2.2.1) == (0 : Int)) ((z in_.2.2.2.2.2.2.1) == (0 : Int)) false) (((ln I in_.2.2.2.1) : Int) == (1 : Int)) false) ((z in_.2.2.1) == (-1 : Int)) false) ((z in_.2.1) == (0 : Int)) false) (3 : Int)), (unlP (cond (rgsF c in_.2.2.2.1) (cond (decide ((z in_.2.2.2.2.1) ≥ (0 : Int))) (decide ((z in_.2.2.2.2.1) < (z c.2.1.2.2.2.2.2.1))) false) false) (10 : Int))] : List (Den I))) (fstF ([(unlP (cond (cond ((z in_.2.2.2.2.2.1) == (0 : Int)) ((z in_.2.2.2.2.2.2.1) == (0 : Int)) false) (((ln I in_.2.2.2.1) : Int) == (0 : Int)) false) (3 : Int)), (unlP (typP in_.2.1) (9 : Int)), (unlP (cond (regC c in_.2.2.1) (cond (decide ((z in_.2.2.2.2.1) ≥ (0 : Int))) (decide ((z in_.2.2.2.2.1) < (z c.2.1.2.2.2.2.2.1))) false) false) (10 : Int))] : List (Den I))))

def k_machine_checker_move : Con := con [.d qaj, .d qad] I (fun x => True) fun x => movP x.1 x.2.1
theorem m_machine_checker_move (c : Den qaj) (in_ : Den qad) (h_c : okD qaj c) (h_in_ : okD qad in_) (hp : True) : Runs E_V33 (start E_V33 qcn [(.tv qaj c), (.tv qad in_)]) (fun r_ h_ => r_ = (vi (movP c in_)) ∧ h_ = []) := .tree E_V33_ok (machine_checker_move_t c in_) (by
 show Tre.wp (Qv _ (fun x_ => (vi x_)) (movP c in_)) _
 unfold movP
 refine qaf (fun h1 => ⟨trivial, fun _ => ⟨trivial, fun _ => ⟨trivial, fun _ => ⟨trivial, fun _ => fun _ => fun _ => fun _ => fun _ => ⟨rfl, rfl⟩⟩⟩⟩⟩) (fun h1 => ?_)
 exact ⟨trivial, fun _ => ⟨trivial, fun _ => ⟨trivial, fun _ => ⟨trivial, fun _ => ⟨trivial, fun _ => ⟨trivial, fun _ => fun _ => fun _ => fun _ => fun _ => fun _ => fun _ => ⟨rfl, rfl⟩⟩⟩⟩⟩⟩⟩)
theorem c_machine_checker_move : qal E_V33 qcn k_machine_checker_move.spec := qan fun x hx hp => ⟨rfl, m_machine_checker_move x.1 x.2.1 hx.1 hx.2.1 hp⟩
def L_V33 : List (FuncId × FSpec) := [(f_r50_slot, k_r50_slot.spec), (qcn, k_machine_checker_move.spec)] ++ L_V32
theorem L_V33_ok : ∀ x ∈ L_V33, qal (ctx []) x.1 x.2 := by
 unfold L_V33
 simp only [List.cons_append, List.nil_append, List.forall_mem_cons]
 exact ⟨c_r50_slot, c_machine_checker_move, L_V32_ok⟩
end Burn.MC
namespace Burn.MC
open Go Go.BE Go.Proofs
set_option maxRecDepth 100000
set_option linter.unusedVariables false
set_option linter.unusedSimpArgs false
open Burn.Intn Burn.Ref
def mrg_V34 : FuncId → List Nat
 | 48 => [22, 37, 38, 46, 55, 56, 65, 70, 71, 102, 103, 112, 113, 125, 126]
 | 56 => [23, 24, 40, 41, 42, 71, 80, 89, 90, 99, 104, 105, 117, 118, 130, 131]
 | _ => []
noncomputable abbrev E_V34 : Ctx := { ctx L_V33 with mrg := mrg_V34 }
theorem E_V34_ok : EOK E_V34 := have h : EOK (ctx L_V33) := qbo L_V33_ok; ⟨h.ty, h.env, h.fns, h.mixed⟩
def cuts_V34 : CutL := [([], 56, 0, [4, 5, 51, 52, 53], [], [])]
def rets_V34 : FuncId → List (Option Fx)
 | _ => []
def H_V34 : Hints := { cut := cutOf cuts_V34, ret := rets_V34 }
theorem machine_checker_physical_t (c : Den qaj) (in_ : Den qad) : run E_V34 H_V34 qbq 3000 (start E_V34 qbq [(.tv qaj c), (.tv qad in_)]) = (.chk ((((z in_.1) == (25 : Int)) = true → (True))) (.chk (((cond ((z in_.1) == (25 : Int)) (!(witP in_.2.2.2.2.2.1 (0 : Int) (IntKind.wrap .i64 (((ln qai c.1.1) : Int) - (1 : Int))))) false) = false → ((((z in_.1) == (30 : Int)) = true → (True))))) (cond (cond (cond ((z in_.1) == (25 : Int)) (!(witP in_.2.2.2.2.2.1 (0 : Int) (IntKind.wrap .i64 (((ln qai c.1.1) : Int) - (1 : Int))))) false) true (cond ((z in_.1) == (30 : Int)) (!(witP in_.2.2.2.2.2.1 (0 : Int) (IntKind.wrap .i64 (((ln qaa c.1.2.1) : Int) - (1 : Int))))) false)) (rt (vi (8 : Int)) []) (.chk ((((z in_.2.1) == (0 : Int)) = false → (True))) (.chk (True) (.know (okAVs [(vi (z ((accP in_.2.2.2.2.2.2.1).1))), (vi (z ((accP in_.2.2.2.2.2.2.1).2)))]) (.chk (z in_.1 = 30 → 0 ≤ z in_.2.2.2.2.2.1 ∧ z in_.2.2.2.2.2.1 < (ln qaa c.1.2.1 : Nat)) (.chk (True) (.chk (True) (.chk (((rgsF c in_.2.2.2.1) = true → ((((z in_.2.2.1) == (-1 : Int)) = false → (True))))) (.chk (True) (.chk (True) (.chk (True) (.chk (True) (.know (okD (.int .i64) (opsP c in_)) (.know (okD (.int .i64) (unlP (((ln I in_.2.2.2.1) : Int) == (opsP c in_)) (3 : Int))) (.know True (.know (okD (.int .i64) (unlP (cond (rgsF c in_.2.2.2.1) (cond ((z in_.2.2.1) == (-1 : Int)) true (regC c in_.2.2.1)) false) (10 : Int))) (.know (okD (.int .i64) (unlP (cond (cond (cond (cond ((z in_.2.1) == (0 : Int)) true (typP in_.2.1)) (cond ((z in_.2.1) != (0 : Int)) true ((z in_.2.2.1) == (-1 : Int))) false) (cond (cond ((z in_.2.1) == (0 : Int)) true ((z in_.2.2.1) != (-1 : Int))) true ((z in_.1) == (30 : Int))) false) (cond (!((z in_.1) == (26 : Int))) true ((z ((accP in_.2.2.2.2.2.2.1).2)) == (1 : Int))) false) (9 : Int))) (.know (okD (.int .i64) (unlP (cond (!((z in_.1) == (26 : Int))) true (cond (decide ((z in_.2.2.2.2.1) ≥ (1 : Int))) (decide ((z in_.2.2.2.2.1) ≤ (256 : Int))) false)) (10 : Int))) (.know (okD (.int .i64) (fstF ([(unlP (((ln I in_.2.2.2.1) : Int) == (opsP c in_)) (3 : Int)), (unlP (cond (rgsF c in_.2.2.2.1) (cond ((z in_.2.2.1) == (-1 : Int)) true (regC c in_.2.2.1)) false) (10 : Int)), (unlP (cond (cond (cond (cond ((z in_.2.1) == (0 : Int)) true (typP in_.2.1)) (cond ((z in_.2.1) != (0 : Int)) true ((z in_.2.2.1) == (-1 : Int))) false) (cond (cond ((z in_.2.1) == (0 : Int)) true ((z in_.2.2.1) != (-1 : Int))) true ((z in_.1) == (30 : Int))) false) (cond (!((z in_.1) == (26 : Int))) true ((z ((accP in_.2.2.2.2.2.2.1).2)) == (1 : Int))) false) (9 : Int)), (unlP (cond (!((z in_.1) == (26 : Int))) true (cond (decide ((z in_.2.2.2.2.1) ≥ (1 : Int))) (decide ((z in_.2.2.2.2.1) ≤ (256 : Int))) false)) (10 : Int))] : List (Den I)))) (rt (vi (fstF ([(unlP (((ln I in_.2.2.2.1) : Int) == (opsP c in_)) (3 : Int)), (unlP (cond (rgsF c in_.2.2.2.1) (cond ((z in_.2.2.1) == (-1 : Int)) true (regC c in_.2.2.1)) false) (10 : Int)), (unlP (cond (cond (cond (cond ((z in_.2.1) == (0 : Int)) true (typP in_.2.1)) (cond ((z in_.2.1) != (0 : Int)) true ((z in_.2.2.1) == (-1 : Int))) false) (cond (cond ((z in_.2.1) == (0 : Int)) true ((z in_.2.2.1) != (-1 : Int))) true ((z in_.1) == (30 : Int))) false) (cond (!((z in_.1) == (26 : Int))) true ((z ((accP in_.2.2.2.2.2.2.1).2)) == (1 : Int))) false) (9 : Int)), (unlP (cond (!((z in_.1) == (26 : Int))) true (cond (decide ((z in_.2.2.2.2.1) ≥ (1 : Int))) (decide ((z in_.2.2.2.2.1) ≤ (256 : Int))) false)) (10 : Int))] : List (Den I)))) [])))))))))))))))))))))) := by kernel_rfl
noncomputable def r50_physical_L0 (f : Den qag) (in_ : Den qad) (t51 : List (Den I)) (t52 : Int) (t53 : Int) : Cfg := hcfg E_V34 qds 0 [(4, (.rtp qag f)), (5, (.rtp qad in_)), (51, (.tv (.sl 8 I) t51)), (52, (vi t52)), (53, (vi t53))] [] 0
theorem r50_physical_t (m : Den qab) (f : Den qag) (in_ : Den qad) : run E_V34 H_V34 qds 3000 (start E_V34 qds [(.tv qab m), (.tv qag f), (.tv qad in_)]) = (cond (cond (cond ((z in_.1) == (25 : Int)) (cond (decide ((z in_.2.2.2.2.2.1) < (0 : Int))) true (decide ((z in_.2.2.2.2.2.1) ≥ ((ln qai m.1) : Int)))) false) true (cond ((z in_.1) == (30 : Int)) (cond (decide ((z in_.2.2.2.2.2.1) < (0 : Int))) true (decide ((z in_.2.2.2.2.2.1) ≥ ((ln qaa m.2.1) : Int)))) false)) (rt (vi (8 : Int)) []) (.chk (z in_.1 = 30 → 0 ≤ z in_.2.2.2.2.2.1 ∧ z in_.2.2.2.2.2.1 < (ln qaa m.2.1 : Nat)) (.know (okD (.int .i64) (opsR m in_)) (cond (((ln I in_.2.2.2.1) : Int) != (opsR m in_)) (rt (vi (3 : Int)) []) (hd (r50_physical_L0 f in_ in_.2.2.2.1 ((ln I in_.2.2.2.1) : Int) (0 : Int))))))) := by kernel_rfl
theorem r50_physical_L0_t (f : Den qag) (in_ : Den qad) (t51 : List (Den I)) (t52 : Int) (t53 : Int) : run E_V34 H_V34 qds 3000 (r50_physical_L0 f in_ t51 t52 t53) = (cond (decide (t53 < t52)) (.chk (0 ≤ t53 ∧ t53 < (ln I t51)) (.chk (True) (.know True (cond (!(rgM f (gd I t51 t53.toNat))) (rt (vi (10 : Int)) []) (hd (r50_physical_L0 f in_ t51 t52 (IntKind.wrap .i64 (t53 + (1 : Int))))))))) (.chk ((((z in_.2.2.1) != (-1 : Int)) = true → (True))) (cond (cond ((z in_.2.2.1) != (-1 : Int)) (!(rgM f in_.2.2.1)) false) (rt (vi (10 : Int)) []) (.chk ((((z in_.2.1) != (0 : Int)) = true → (True))) (cond (cond (cond (cond ((z in_.2.1) != (0 : Int)) (!(typP in_.2.1)) false) true (cond ((z in_.2.1) == (0 : Int)) ((z in_.2.2.1) != (-1 : Int)) false)) true (cond (cond ((z in_.2.1) != (0 : Int)) ((z in_.2.2.1) == (-1 : Int)) false) ((z in_.1) != (30 : Int)) false)) (rt (vi (9 : Int)) []) (cond (cond ((z in_.1) == (26 : Int)) (cond (decide ((z in_.2.2.2.2.2.2.1) < (2 : Int))) true (decide ((z in_.2.2.2.2.2.2.1) > (5 : Int)))) false) (rt (vi (9 : Int)) []) (cond (cond ((z in_.1) == (26 : Int)) (cond (decide ((z in_.2.2.2.2.1) < (1 : Int))) true (decide ((z in_.2.2.2.2.1) > (256 : Int)))) false) (rt (vi (10 : Int)) []) (rt (vi (0 : Int)) [])))))))) := by kernel_rfl
theorem dge (x y : Int) : decide (x ≥ y) = !(decide (x < y)) := by
 by_cases h : x < y
 ·rw [decide_eq_true h, decide_eq_false (by omega)]; rfl
 ·rw [decide_eq_false h, decide_eq_true (by omega)]; rfl
theorem dle (x y : Int) : decide (x ≤ y) = !(decide (x > y)) := by
 by_cases h : x > y
 ·rw [decide_eq_true h, decide_eq_false (by omega)]; rfl
 ·rw [decide_eq_false h, decide_eq_true (by omega)]; rfl
theorem mov_eq (c : Chr) (x : Ins) : movP c x = sltP c.2.1 x := by
 unfold movP sltP bne
 rw [dge, dge]
 cases z x.1 == (40 : Int)
 ·unfold regC
  cases z x.2.2.2.2.2.1 == (0 : Int) <;> cases z x.2.2.2.2.2.2.1 == (0 : Int) <;> cases (ln I x.2.2.2.1 : Int) == (0 : Int) <;> cases typP x.2.1 <;> cases rgM c.2.1 x.2.2.1 <;> cases decide (z x.2.2.2.2.1 < 0) <;> cases decide (z x.2.2.2.2.1 < z c.2.1.2.2.2.2.2.1) <;> rfl
 ·by_cases hl : (ln I x.2.2.2.1 : Int) = 1
  ·obtain ⟨r, hr⟩ := len1 (l := x.2.2.2.1) (by omega)
   have e : rgsF c x.2.2.2.1 = rgM c.2.1 (gd I x.2.2.2.1 0) := by
    rw [hr]
    show cond (rgM c.2.1 r) true false = rgM c.2.1 r
    cases rgM c.2.1 r <;> rfl
   rw [e, hl]
   cases z x.2.2.2.2.2.1 == (0 : Int) <;> cases z x.2.2.2.2.2.2.1 == (0 : Int) <;> cases z x.2.2.1 == (-1 : Int) <;> cases z x.2.1 == (0 : Int) <;> cases rgM c.2.1 (gd I x.2.2.2.1 0) <;> cases decide (z x.2.2.2.2.1 < 0) <;> cases decide (z x.2.2.2.2.1 < z c.2.1.2.2.2.2.2.1) <;> rfl
  ·have e : ((ln I x.2.2.2.1 : Int) == 1) = false := beq_eq_false_iff_ne.mpr hl
   rw [e]
   cases z x.2.2.2.2.2.1 == (0 : Int) <;> cases z x.2.2.2.2.2.2.1 == (0 : Int) <;> cases rgsF c x.2.2.2.1 <;> rfl
theorem ops_eq (c : Chr) (x : Ins) : opsP c x = opsR c.1 x := by
 unfold opsP opsR bne
 cases z x.2.1 == (6 : Int) <;> rfl
theorem wit_eq {n : Int} {l : Nat} (h : (l : Int) < 9223372036854775807) : witP n 0 (IntKind.wrap .i64 ((l : Int) - 1)) = !(cond (decide (n < 0)) true (decide (n ≥ (l : Int)))) := by
 unfold witP
 have : decide (n ≤ (l : Int) - 1) = decide (n < (l : Int)) := decide_eq_decide.mpr (by omega)
 rw [wrap64 _ (by omega) (by omega), this, dge n 0, dge n l]
 cases decide (n < 0) <;> cases decide (n < (l : Int)) <;> rfl
theorem IsI.of {a x : Int} (h : a = x) : IsI a (vi x) [] := ⟨congrArg vi h.symm, rfl⟩
def phyT (f : MFn) (x : Ins) : Int := cond (cond (z x.2.2.1 != (-1 : Int)) (!(rgM f x.2.2.1)) false) 10 (cond (cond (cond (cond (z x.2.1 != (0 : Int)) (!(typP x.2.1)) false) true (cond (z x.2.1 == (0 : Int)) (z x.2.2.1 != (-1 : Int)) false)) true (cond (cond (z x.2.1 != (0 : Int)) (z x.2.2.1 == (-1 : Int)) false) (z x.1 != (30 : Int)) false)) 9 (cond (cond (z x.1 == (26 : Int)) (cond (decide (z x.2.2.2.2.2.2.1 < (2 : Int))) true (decide (z x.2.2.2.2.2.2.1 > (5 : Int)))) false) 9 (cond (cond (z x.1 == (26 : Int)) (cond (decide (z x.2.2.2.2.1 < (1 : Int))) true (decide (z x.2.2.2.2.1 > (256 : Int)))) false) 10 0)))
def phyA (m : Md) (x : Ins) : Bool := cond (cond (z x.1 == (25 : Int)) (cond (decide (z x.2.2.2.2.2.1 < (0 : Int))) true (decide (z x.2.2.2.2.2.1 ≥ (ln qai m.1 : Int)))) false) true (cond (z x.1 == (30 : Int)) (cond (decide (z x.2.2.2.2.2.1 < (0 : Int))) true (decide (z x.2.2.2.2.2.1 ≥ (ln qaa m.2.1 : Int)))) false)
def phyR (m : Md) (f : MFn) (x : Ins) : Int := cond (phyA m x) 8 (cond ((ln I x.2.2.2.1 : Int) != opsR m x) 3 (cond (!(allC f x.2.2.2.1)) 10 (phyT f x)))
def phyC (c : Chr) (x : Ins) : Int := phyR c.1 c.2.1 x
theorem phyA_ok {m : Md} {x : Ins} (h : phyA m x = false) : z x.1 = 30 → 0 ≤ z x.2.2.2.2.2.1 ∧ z x.2.2.2.2.2.1 < (ln qaa m.2.1 : Nat) := fun hk => by
 unfold phyA at h
 rw [hk, dge _ (ln qaa m.2.1 : Int)] at h
 cases h1 : decide (z x.2.2.2.2.2.1 < 0)
 ·cases h2 : decide (z x.2.2.2.2.2.1 < (ln qaa m.2.1 : Int))
  ·rw [h1, h2] at h; exact Bool.noConfusion h
  ·exact ⟨by simpa using h1, by simpa using h2⟩
 ·rw [h1] at h; exact Bool.noConfusion h
theorem cel_eq {t : Int} : (z (accP t).2 == (1 : Int)) = !(cond (decide (t < 2)) true (decide (t > 5))) := by
 have h := celP_iff t
 have h' : celP t = (z (accP t).2 == (1 : Int)) := rfl
 rw [← h', Bool.eq_iff_iff, h]
 by_cases h1 : t < 2
 ·simp [h1]; omega
 ·simp [h1]; omega
theorem phy_eq (c : Chr) (x : Ins) : fstF ([unlP ((ln I x.2.2.2.1 : Int) == opsP c x) 3, unlP (cond (rgsF c x.2.2.2.1) (cond (z x.2.2.1 == (-1 : Int)) true (regC c x.2.2.1)) false) 10, unlP (cond (cond (cond (cond (z x.2.1 == (0 : Int)) true (typP x.2.1)) (cond (z x.2.1 != (0 : Int)) true (z x.2.2.1 == (-1 : Int))) false) (cond (cond (z x.2.1 == (0 : Int)) true (z x.2.2.1 != (-1 : Int))) true (z x.1 == (30 : Int))) false) (cond (!(z x.1 == (26 : Int))) true (z (accP x.2.2.2.2.2.2.1).2 == (1 : Int))) false) 9, unlP (cond (!(z x.1 == (26 : Int))) true (cond (decide (z x.2.2.2.2.1 ≥ (1 : Int))) (decide (z x.2.2.2.2.1 ≤ (256 : Int))) false)) 10] : List (Den I)) = cond ((ln I x.2.2.2.1 : Int) != opsR c.1 x) 3 (cond (!(allC c.2.1 x.2.2.2.1)) 10 (phyT c.2.1 x)) := by
 unfold phyT rgsF regC bne
 rw [ops_eq, cel_eq, dge, dle]
 cases (ln I x.2.2.2.1 : Int) == opsR c.1 x
 ·rfl
 ·cases allC c.2.1 x.2.2.2.1
  ·rfl
  ·cases z x.1 == (26 : Int)
   ·cases z x.2.2.1 == (-1 : Int) <;> cases rgM c.2.1 x.2.2.1 <;> cases z x.2.1 == (0 : Int) <;> cases typP x.2.1 <;> cases z x.1 == (30 : Int) <;> rfl
   ·cases z x.2.2.1 == (-1 : Int) <;> cases rgM c.2.1 x.2.2.1 <;> cases z x.2.1 == (0 : Int) <;> cases typP x.2.1 <;> cases z x.1 == (30 : Int) <;> cases decide (z x.2.2.2.2.2.2.1 < 2) <;> cases decide (z x.2.2.2.2.2.2.1 > 5) <;> cases decide (z x.2.2.2.2.1 < 1) <;> cases decide (z x.2.2.2.2.1 > 256) <;> rfl

def qgy : Con := con [.d qaj, .d qad] I (fun x => True) fun x => phyC x.1 x.2.1
theorem m_machine_checker_physical (c : Den qaj) (in_ : Den qad) (h_c : okD qaj c) (h_in_ : okD qad in_) (hp : True) : Runs E_V34 (start E_V34 qbq [(.tv qaj c), (.tv qad in_)]) (fun r_ h_ => r_ = (vi (phyC c in_)) ∧ h_ = []) := .tree E_V34_ok (machine_checker_physical_t c in_) (by
 have e1 := wit_eq (n := z in_.2.2.2.2.2.1) (l := ln qai c.1.1) (by have := qar h_c.1.1.1; show ((List.length c.1.1 : Nat) : Int) < _; omega)
 have e2 := wit_eq (n := z in_.2.2.2.2.2.1) (l := ln qaa c.1.2.1) (by have := qar h_c.1.2.1.1; show ((List.length c.1.2.1 : Nat) : Int) < _; omega)
 show Tre.wp (contL _ (IsI (phyR c.1 c.2.1 in_))) _
 simp only [sS, implies_true]
 rw [show witP in_.2.2.2.2.2.1 0 (IntKind.wrap .i64 ((ln qai c.1.1 : Int) - 1)) = _ from e1, show witP in_.2.2.2.2.2.1 0 (IntKind.wrap .i64 ((ln qaa c.1.2.1 : Int) - 1)) = _ from e2, Bool.not_not, Bool.not_not]
 show (phyA c.1 in_ = true → _) ∧ (phyA c.1 in_ = false → _)
 refine ⟨fun h => ⟨congrArg vi (by unfold phyR; rw [h]; rfl), rfl⟩, fun h _ => ⟨phyA_ok h, fun _ _ _ _ _ _ _ => ⟨congrArg vi (by unfold phyR; rw [h]; exact phy_eq c in_), rfl⟩⟩⟩)
theorem c_machine_checker_physical : qal E_V34 qbq qgy.spec := qan fun x hx hp => ⟨rfl, m_machine_checker_physical x.1 x.2.1 hx.1 hx.2.1 hp⟩
theorem r50_physical_l (f : MFn) (x : Ins) (hl : ln I x.2.2.2.1 < 9223372036854775807) : ∀ i, i ≤ ln I x.2.2.2.1 → RunI E_V34 (r50_physical_L0 f x x.2.2.2.1 (ln I x.2.2.2.1 : Nat) i) (cond (!(allC f (x.2.2.2.1.drop i))) 10 (phyT f x)) :=
 qay (.tree E_V34_ok (r50_physical_L0_t ..) (by
  rw [show x.2.2.2.1.drop (ln I x.2.2.2.1) = [] from qhb]
  simp only [sS, sL,  Nat.lt_irrefl]
  refine ⟨fun h1 => .of ?_, fun h1 => ⟨fun h2 => .of ?_, fun h2 => ⟨fun h3 => .of ?_, fun h3 => ⟨fun h4 => .of ?_, fun h4 => .of ?_⟩⟩⟩⟩
  all_goals (show phyT f x = _; unfold phyT; simp only [*, cond_true, cond_false])))
  fun i hi ih => .tree E_V34_ok (r50_physical_L0_t ..) (by
   rw [show x.2.2.2.1.drop i = gd I x.2.2.2.1 i :: x.2.2.2.1.drop (i + 1) from qhc hi, allC]
   simp only [sS, sL,  hi, wrapS hi hl]
   refine ⟨fun h1 => ?_, fun h1 => ?_⟩
   ·rw [show rgM f (z (gd I x.2.2.2.1 i)) = false by simpa using h1]; exact ⟨rfl, rfl⟩
   ·rw [show rgM f (z (gd I x.2.2.2.1 i)) = true by simpa using h1]; exact ih)
def k_r50_physical : Con := con [.d qab, .d qag, .d qad] I (fun x => True) fun x => phyR x.1 x.2.1 x.2.2.1
theorem m_r50_physical (m : Den qab) (f : Den qag) (in_ : Den qad) (h_m : okD qab m) (h_f : okD qag f) (h_in_ : okD qad in_) (hp : True) : Runs E_V34 (start E_V34 qds [(.tv qab m), (.tv qag f), (.tv qad in_)]) (fun r_ h_ => r_ = (vi (phyR m f in_)) ∧ h_ = []) := .tree E_V34_ok (r50_physical_t m f in_) (by
 show Tre.wp (contL _ (IsI (phyR m f in_))) _
 simp only [sS, implies_true]
 show (phyA m in_ = true → _) ∧ (phyA m in_ = false → _)
 refine ⟨fun h1 => .of (by unfold phyR; rw [h1]; rfl), fun h1 => ⟨phyA_ok h1, fun _ _ => ⟨fun h2 => .of (by unfold phyR; rw [h1, h2]; rfl), fun h2 => (r50_physical_l f in_ (qar h_in_.2.2.2.1.1) 0 (Nat.zero_le _)).eq (by unfold phyR; rw [h1, h2]; rfl)⟩⟩⟩)
theorem c_r50_physical : qal E_V34 qds k_r50_physical.spec := qan fun x hx hp => ⟨rfl, m_r50_physical x.1 x.2.1 x.2.2.1 hx.1 hx.2.1 hx.2.2.1 hp⟩
def L_V34 : List (FuncId × FSpec) := [(qbq, qgy.spec), (qds, k_r50_physical.spec)] ++ L_V33
theorem L_V34_ok : ∀ x ∈ L_V34, qal (ctx []) x.1 x.2 := by
 unfold L_V34
 simp only [List.cons_append, List.nil_append, List.forall_mem_cons]
 exact ⟨c_machine_checker_physical, c_r50_physical, L_V33_ok⟩
end Burn.MC
namespace Burn.MC
open Go Go.BE Go.Proofs
set_option maxRecDepth 100000
set_option linter.unusedVariables false
set_option linter.unusedSimpArgs false
open Burn.Intn Burn.Ref
def mrg_V35 : FuncId → List Nat
 | 50 => [42]
 | 57 => [26, 36, 40, 48, 52, 62, 73, 77, 83, 87, 95, 99, 113, 117]
 | 58 => [25]
 | _ => []
noncomputable abbrev E_V35 : Ctx := { ctx L_V34 with mrg := mrg_V35 }
theorem E_V35_ok : EOK E_V35 := have h : EOK (ctx L_V34) := qbo L_V34_ok; ⟨h.ty, h.env, h.fns, h.mixed⟩
def cuts_V35 : CutL := []
def rets_V35 : FuncId → List (Option Fx)
 | _ => []
def H_V35 : Hints := { cut := cutOf cuts_V35, ret := rets_V35 }
theorem r50_shape_t (m : Den qab) (f : Den qag) (t : Den qah) : run E_V35 H_V35 f_r50_shape 3000 (start E_V35 f_r50_shape [(.tv qab m), (.tv qag f), (.tv qah t)]) = (cond (cond ((z t.1) != (6 : Int)) ((z t.2.2.2.2.1) != (0 : Int)) false) (rt (vb false) []) (cond ((z t.1) == (1 : Int)) (rt (vb (cond (cond (((ln I t.2.1) : Int) == (0 : Int)) (((ln I t.2.2.1) : Int) == (0 : Int)) false) (((ln qae t.2.2.2.1) : Int) == (1 : Int)) false)) []) (cond ((z t.1) == (2 : Int)) (rt (vb (cond (cond (((ln I t.2.1) : Int) == (1 : Int)) (((ln I t.2.2.1) : Int) == (0 : Int)) false) (((ln qae t.2.2.2.1) : Int) == (2 : Int)) false)) []) (cond ((z t.1) == (3 : Int)) (rt (vb (cond (((ln I t.2.1) : Int) == (1 : Int)) (((ln qae t.2.2.2.1) : Int) == (IntKind.wrap .i64 (((ln I t.2.2.1) : Int) + (1 : Int)))) false)) []) (cond ((z t.1) == (4 : Int)) (cond ((z f.2.2.1) == (0 : Int)) (rt (vb (cond (cond (((ln I t.2.1) : Int) == (0 : Int)) (((ln I t.2.2.1) : Int) == (0 : Int)) false) (((ln qae t.2.2.2.1) : Int) == (0 : Int)) false)) []) (rt (vb (cond (cond (((ln I t.2.1) : Int) == (1 : Int)) (((ln I t.2.2.1) : Int) == (0 : Int)) false) (((ln qae t.2.2.2.1) : Int) == (0 : Int)) false)) [])) (cond ((z t.1) == (5 : Int)) (rt (vb (cond (cond (((ln I t.2.1) : Int) == (0 : Int)) (((ln I t.2.2.1) : Int) == (1 : Int)) false) (((ln qae t.2.2.2.1) : Int) == (0 : Int)) false)) []) (.chk (0 ≤ (z t.2.2.2.2.1) ∧ (z t.2.2.2.2.1) < (ln qaa m.2.1)) (rt (vb (cond (cond (((ln I t.2.1) : Int) == ((ln I ((gd qaa m.2.1 (((z t.2.2.2.2.1)).toNat)).2.1)) : Int)) (((ln I t.2.2.1) : Int) == (0 : Int)) false) (((ln qae t.2.2.2.1) : Int) == (0 : Int)) false)) [])))))))) := by kernel_rfl
theorem r50_typed_t (m : Den qab) (f : Den qag) (x : Den qah) (i : Int) (t : Int) : run E_V35 H_V35 f_r50_typed 3000 (start E_V35 f_r50_typed [(.tv qab m), (.tv qag f), (.tv qah x), (vi i), (vi t)]) = (cond ((z x.1) == (2 : Int)) (rt (vb (t == (1 : Int))) []) (cond ((z x.1) == (3 : Int)) (rt (vb (cond (t == (3 : Int)) true (t == (4 : Int)))) []) (cond ((z x.1) == (4 : Int)) (rt (vb (t == (z f.2.2.1))) []) (.chk (0 ≤ (z x.2.2.2.2.1) ∧ (z x.2.2.2.2.1) < (ln qaa m.2.1)) (.chk (0 ≤ i ∧ i < (ln I ((gd qaa m.2.1 (((z x.2.2.2.2.1)).toNat)).2.1))) (.chk (0 ≤ (z (gd I ((gd qaa m.2.1 (((z x.2.2.2.2.1)).toNat)).2.1) i.toNat)) ∧ (z (gd I ((gd qaa m.2.1 (((z x.2.2.2.2.1)).toNat)).2.1) i.toNat)) < (ln I ((gd qaa m.2.1 (((z x.2.2.2.2.1)).toNat)).2.2.2.1))) (rt (vb (t == (z (gd I ((gd qaa m.2.1 (((z x.2.2.2.2.1)).toNat)).2.2.2.1) (((z (gd I ((gd qaa m.2.1 (((z x.2.2.2.2.1)).toNat)).2.1) i.toNat))).toNat))))) []))))))) := by kernel_rfl
theorem machine_checker_operand_t (c : Den qaj) (t : Den qah) (i : Int) : run E_V35 H_V35 qbu 3000 (start E_V35 qbu [(.tv qaj c), (.tv qah t), (vi i)]) = (.chk (0 ≤ i ∧ i < (ln I t.2.1)) (.chk (True) (.know True (cond (!(regC c (gd I t.2.1 i.toNat))) (rt (vi (10 : Int)) []) (.chk (True) (.know True (cond (!(vrtP c)) (rt (vi (0 : Int)) []) (.chk (0 ≤ (z (gd I t.2.1 i.toNat)) ∧ (z (gd I t.2.1 i.toNat)) < (ln I c.2.1.2.2.2.1)) (cond ((z t.1) == (2 : Int)) (.chk (True) (.know (okD (.int .i64) (unlP ((z (gd I c.2.1.2.2.2.1 (((z (gd I t.2.1 i.toNat))).toNat))) == (1 : Int)) (9 : Int))) (rt (vi (unlP ((z (gd I c.2.1.2.2.2.1 (((z (gd I t.2.1 i.toNat))).toNat))) == (1 : Int)) (9 : Int))) []))) (cond ((z t.1) == (3 : Int)) (.chk (True) (.know (okD (.int .i64) (unlP (cond ((z (gd I c.2.1.2.2.2.1 (((z (gd I t.2.1 i.toNat))).toNat))) == (3 : Int)) true ((z (gd I c.2.1.2.2.2.1 (((z (gd I t.2.1 i.toNat))).toNat))) == (4 : Int))) (9 : Int))) (rt (vi (unlP (cond ((z (gd I c.2.1.2.2.2.1 (((z (gd I t.2.1 i.toNat))).toNat))) == (3 : Int)) true ((z (gd I c.2.1.2.2.2.1 (((z (gd I t.2.1 i.toNat))).toNat))) == (4 : Int))) (9 : Int))) []))) (cond ((z t.1) == (4 : Int)) (.chk (True) (.know (okD (.int .i64) (unlP ((z (gd I c.2.1.2.2.2.1 (((z (gd I t.2.1 i.toNat))).toNat))) == (z c.2.1.2.2.1)) (9 : Int))) (rt (vi (unlP ((z (gd I c.2.1.2.2.2.1 (((z (gd I t.2.1 i.toNat))).toNat))) == (z c.2.1.2.2.1)) (9 : Int))) []))) (.chk (0 ≤ (z t.2.2.2.2.1) ∧ (z t.2.2.2.2.1) < (ln qaa c.1.2.1)) (.chk (0 ≤ i ∧ i < (ln I ((gd qaa c.1.2.1 (((z t.2.2.2.2.1)).toNat)).2.1))) (.chk (0 ≤ (z (gd I ((gd qaa c.1.2.1 (((z t.2.2.2.2.1)).toNat)).2.1) i.toNat)) ∧ (z (gd I ((gd qaa c.1.2.1 (((z t.2.2.2.2.1)).toNat)).2.1) i.toNat)) < (ln I ((gd qaa c.1.2.1 (((z t.2.2.2.2.1)).toNat)).2.2.2.1))) (.chk (True) (.know (okD (.int .i64) (unlP ((z (gd I c.2.1.2.2.2.1 (((z (gd I t.2.1 i.toNat))).toNat))) == (z (gd I ((gd qaa c.1.2.1 (((z t.2.2.2.2.1)).toNat)).2.2.2.1) (((z (gd I ((gd qaa c.1.2.1 (((z t.2.2.2.2.1)).toNat)).2.1) i.toNat))).toNat)))) (9 : Int))) (rt (vi (unlP ((z (gd I c.2.1.2.2.2.1 (((z (gd I t.2.1 i.toNat))).toNat))) == (z (gd I ((gd qaa c.1.2.1 (((z t.2.2.2.2.1)).toNat)).2.2.2.1) (((z (gd I ((gd qaa c.1.2.1 (((z t.2.2.2.2.1)).toNat)).2.1) i.toNat))).toNat)))) (9 : Int))) []))))))))))))))))) := by kernel_rfl
def trmOK (m : Md) (t : Trm) (i : Int) : Prop := z t.1 ≠ 2 → z t.1 ≠ 3 → z t.1 ≠ 4 → (0 ≤ z t.2.2.2.2.1 ∧ z t.2.2.2.2.1 < (ln qaa m.2.1 : Nat)) ∧ (0 ≤ i ∧ i < (ln I (gd qaa m.2.1 (z t.2.2.2.2.1).toNat).2.1 : Nat)) ∧ 0 ≤ z (gd I (gd qaa m.2.1 (z t.2.2.2.2.1).toNat).2.1 i.toNat) ∧ z (gd I (gd qaa m.2.1 (z t.2.2.2.2.1).toNat).2.1 i.toNat) < (ln I (gd qaa m.2.1 (z t.2.2.2.2.1).toNat).2.2.2.1 : Nat)
theorem rgC_ok {c : Chr} {r : Int} (h : (!(regC c r)) = false) (hv : (!(vrtP c)) = false) : 0 ≤ r ∧ r < (ln I c.2.1.2.2.2.1 : Nat) := by
 have h1 : rgM c.2.1 r = true := by simpa [regC] using h
 have h2 : (z c.2.1.2.2.2.2.1 == (0 : Int)) = true := by simpa [vrtP] using hv
 unfold rgM at h1
 rw [h2] at h1
 cases h3 : decide (r ≥ 0)
 ·rw [h3] at h1; exact Bool.noConfusion h1
 ·rw [h3] at h1
  exact ⟨of_decide_eq_true h3, of_decide_eq_true h1⟩
def shpM (m : Den qab) (f : Den qag) (t : Den qah) : Bool := (cond (cond ((z t.1) != (6 : Int)) ((z t.2.2.2.2.1) != (0 : Int)) false) false (cond ((z t.1) == (1 : Int)) (cond (cond (((ln I t.2.1) : Int) == (0 : Int)) (((ln I t.2.2.1) : Int) == (0 : Int)) false) (((ln qae t.2.2.2.1) : Int) == (1 : Int)) false) (cond ((z t.1) == (2 : Int)) (cond (cond (((ln I t.2.1) : Int) == (1 : Int)) (((ln I t.2.2.1) : Int) == (0 : Int)) false) (((ln qae t.2.2.2.1) : Int) == (2 : Int)) false) (cond ((z t.1) == (3 : Int)) (cond (((ln I t.2.1) : Int) == (1 : Int)) (((ln qae t.2.2.2.1) : Int) == (IntKind.wrap .i64 (((ln I t.2.2.1) : Int) + (1 : Int)))) false) (cond ((z t.1) == (4 : Int)) (cond ((z f.2.2.1) == (0 : Int)) (cond (cond (((ln I t.2.1) : Int) == (0 : Int)) (((ln I t.2.2.1) : Int) == (0 : Int)) false) (((ln qae t.2.2.2.1) : Int) == (0 : Int)) false) (cond (cond (((ln I t.2.1) : Int) == (1 : Int)) (((ln I t.2.2.1) : Int) == (0 : Int)) false) (((ln qae t.2.2.2.1) : Int) == (0 : Int)) false)) (cond ((z t.1) == (5 : Int)) (cond (cond (((ln I t.2.1) : Int) == (0 : Int)) (((ln I t.2.2.1) : Int) == (1 : Int)) false) (((ln qae t.2.2.2.1) : Int) == (0 : Int)) false) (cond (cond (((ln I t.2.1) : Int) == ((ln I ((gd qaa m.2.1 (((z t.2.2.2.2.1)).toNat)).2.1)) : Int)) (((ln I t.2.2.1) : Int) == (0 : Int)) false) (((ln qae t.2.2.2.1) : Int) == (0 : Int)) false)))))))

def k_r50_shape : Con := con [.d qab, .d qag, .d qah] .bool (fun x => (1 ≤ z x.2.2.1.1 ∧ z x.2.2.1.1 ≤ 6) ∧ (z x.2.2.1.1 = 6 → 0 ≤ z x.2.2.1.2.2.2.2.1 ∧ z x.2.2.1.2.2.2.2.1 < (ln qaa x.1.2.1 : Nat))) fun x => shpM x.1 x.2.1 x.2.2.1
theorem m_r50_shape (m : Den qab) (f : Den qag) (t : Den qah) (h_m : okD qab m) (h_f : okD qag f) (h_t : okD qah t) (hp : (1 ≤ z t.1 ∧ z t.1 ≤ 6) ∧ (z t.1 = 6 → 0 ≤ z t.2.2.2.2.1 ∧ z t.2.2.2.2.1 < (ln qaa m.2.1 : Nat))) : Runs E_V35 (start E_V35 f_r50_shape [(.tv qab m), (.tv qag f), (.tv qah t)]) (fun r_ h_ => r_ = (vb (shpM m f t)) ∧ h_ = []) := .tree E_V35_ok (r50_shape_t m f t) (by
 have hp_ := hp
 try simp only [z] at hp_
 show Tre.wp (Qv _ (fun x_ => (vb x_)) (shpM m f t)) _
 unfold shpM
 refine qaf (fun h1 => ⟨rfl, rfl⟩) (fun h1 => ?_)
 refine qaf (fun h2 => ⟨rfl, rfl⟩) (fun h2 => ?_)
 have h2_ := beq_f h2
 refine qaf (fun h3 => ⟨rfl, rfl⟩) (fun h3 => ?_)
 have h3_ := beq_f h3
 refine qaf (fun h4 => ⟨rfl, rfl⟩) (fun h4 => ?_)
 have h4_ := beq_f h4
 refine qaf (fun h5 => ?_) (fun h5 => ?_)
 ·refine qaf (fun h6 => ⟨rfl, rfl⟩) (fun h6 => ?_)
  exact ⟨rfl, rfl⟩
 ·have h5_ := beq_f h5
  refine qaf (fun h7 => ⟨rfl, rfl⟩) (fun h7 => ?_)
  have h7_ := beq_f h7
  refine ⟨by first | omega | exact (hp.2 (by omega)) | (have g_ := hp.2 (by omega); omega) | assumption | exact hp.1 | exact hp.2 | exact hp.2.1 | (simp_all; done) | (simp_all; omega), fun _ => ?_⟩
  exact ⟨rfl, rfl⟩)
theorem c_r50_shape : qal E_V35 f_r50_shape k_r50_shape.spec := qan fun x hx hp => ⟨rfl, m_r50_shape x.1 x.2.1 x.2.2.1 hx.1 hx.2.1 hx.2.2.1 hp⟩
def typM (m : Den qab) (f : Den qag) (x : Den qah) (i : Int) (t : Int) : Bool := (cond ((z x.1) == (2 : Int)) (t == (1 : Int)) (cond ((z x.1) == (3 : Int)) (cond (t == (3 : Int)) true (t == (4 : Int))) (cond ((z x.1) == (4 : Int)) (t == (z f.2.2.1)) (t == (z (gd I ((gd qaa m.2.1 (((z x.2.2.2.2.1)).toNat)).2.2.2.1) (((z (gd I ((gd qaa m.2.1 (((z x.2.2.2.2.1)).toNat)).2.1) i.toNat))).toNat)))))))

def k_r50_typed : Con := con [.d qab, .d qag, .d qah, .d I, .d I] .bool (fun x => trmOK x.1 x.2.2.1 (z x.2.2.2.1)) fun x => typM x.1 x.2.1 x.2.2.1 x.2.2.2.1 x.2.2.2.2.1
theorem m_r50_typed (m : Den qab) (f : Den qag) (x : Den qah) (i : Int) (t : Int) (h_m : okD qab m) (h_f : okD qag f) (h_x : okD qah x) (h_i : okD I i) (h_t : okD I t) (hp : trmOK m x (z i)) : Runs E_V35 (start E_V35 f_r50_typed [(.tv qab m), (.tv qag f), (.tv qah x), (vi i), (vi t)]) (fun r_ h_ => r_ = (vb (typM m f x i t)) ∧ h_ = []) := .tree E_V35_ok (r50_typed_t m f x i t) (by
 have hp_ := hp
 try simp only [z] at hp_
 show Tre.wp (Qv _ (fun x_ => (vb x_)) (typM m f x i t)) _
 unfold typM
 refine qaf (fun h1 => ⟨rfl, rfl⟩) (fun h1 => ?_)
 have h1_ := beq_f h1
 refine qaf (fun h2 => ⟨rfl, rfl⟩) (fun h2 => ?_)
 have h2_ := beq_f h2
 refine qaf (fun h3 => ⟨rfl, rfl⟩) (fun h3 => ?_)
 have h3_ := beq_f h3
 refine ⟨by first | omega | exact ((hp (by assumption) (by assumption) (by assumption)).1) | (have g_ := (hp (by assumption) (by assumption) (by assumption)).1; omega) | exact ((hp (by assumption) (by assumption) (by assumption)).2.1) | (have g_ := (hp (by assumption) (by assumption) (by assumption)).2.1; omega) | exact ((hp (by assumption) (by assumption) (by assumption)).2.2) | (have g_ := (hp (by assumption) (by assumption) (by assumption)).2.2; omega) | assumption | exact hp.1 | exact hp.2 | exact hp.2.1 | (simp_all; done) | (simp_all; omega), fun _ => ?_⟩
 refine ⟨by first | omega | exact ((hp (by assumption) (by assumption) (by assumption)).1) | (have g_ := (hp (by assumption) (by assumption) (by assumption)).1; omega) | exact ((hp (by assumption) (by assumption) (by assumption)).2.1) | (have g_ := (hp (by assumption) (by assumption) (by assumption)).2.1; omega) | exact ((hp (by assumption) (by assumption) (by assumption)).2.2) | (have g_ := (hp (by assumption) (by assumption) (by assumption)).2.2; omega) | assumption | exact hp.1 | exact hp.2 | exact hp.2.1 | (simp_all; done) | (simp_all; omega), fun _ => ?_⟩
 refine ⟨by first | omega | exact ((hp (by assumption) (by assumption) (by assumption)).1) | (have g_ := (hp (by assumption) (by assumption) (by assumption)).1; omega) | exact ((hp (by assumption) (by assumption) (by assumption)).2.1) | (have g_ := (hp (by assumption) (by assumption) (by assumption)).2.1; omega) | exact ((hp (by assumption) (by assumption) (by assumption)).2.2) | (have g_ := (hp (by assumption) (by assumption) (by assumption)).2.2; omega) | assumption | exact hp.1 | exact hp.2 | exact hp.2.1 | (simp_all; done) | (simp_all; omega), fun _ => ?_⟩
 exact ⟨rfl, rfl⟩)
theorem c_r50_typed : qal E_V35 f_r50_typed k_r50_typed.spec := qan fun x hx hp => ⟨rfl, m_r50_typed x.1 x.2.1 x.2.2.1 x.2.2.2.1 x.2.2.2.2.1 hx.1 hx.2.1 hx.2.2.1 hx.2.2.2.1 hx.2.2.2.2.1 hp⟩
def opdC (c : Den qaj) (t : Den qah) (i : Int) : Int := (cond (!(regC c (gd I t.2.1 i.toNat))) (10 : Int) (cond (!(vrtP c)) (0 : Int) (cond ((z t.1) == (2 : Int)) (unlP ((z (gd I c.2.1.2.2.2.1 (((z (gd I t.2.1 i.toNat))).toNat))) == (1 : Int)) (9 : Int)) (cond ((z t.1) == (3 : Int)) (unlP (cond ((z (gd I c.2.1.2.2.2.1 (((z (gd I t.2.1 i.toNat))).toNat))) == (3 : Int)) true ((z (gd I c.2.1.2.2.2.1 (((z (gd I t.2.1 i.toNat))).toNat))) == (4 : Int))) (9 : Int)) (cond ((z t.1) == (4 : Int)) (unlP ((z (gd I c.2.1.2.2.2.1 (((z (gd I t.2.1 i.toNat))).toNat))) == (z c.2.1.2.2.1)) (9 : Int)) (unlP ((z (gd I c.2.1.2.2.2.1 (((z (gd I t.2.1 i.toNat))).toNat))) == (z (gd I ((gd qaa c.1.2.1 (((z t.2.2.2.2.1)).toNat)).2.2.2.1) (((z (gd I ((gd qaa c.1.2.1 (((z t.2.2.2.2.1)).toNat)).2.1) i.toNat))).toNat)))) (9 : Int)))))))

def qhm : Con := con [.d qaj, .d qah, .d I] I (fun x => (0 ≤ z x.2.2.1 ∧ z x.2.2.1 < (ln I x.2.1.2.1 : Nat)) ∧ trmOK x.1.1 x.2.1 (z x.2.2.1)) fun x => opdC x.1 x.2.1 x.2.2.1
theorem m_machine_checker_operand (c : Den qaj) (t : Den qah) (i : Int) (h_c : okD qaj c) (h_t : okD qah t) (h_i : okD I i) (hp : (0 ≤ z i ∧ z i < (ln I t.2.1 : Nat)) ∧ trmOK c.1 t (z i)) : Runs E_V35 (start E_V35 qbu [(.tv qaj c), (.tv qah t), (vi i)]) (fun r_ h_ => r_ = (vi (opdC c t i)) ∧ h_ = []) := .tree E_V35_ok (machine_checker_operand_t c t i) (by
 have hp_ := hp
 try simp only [z] at hp_
 show Tre.wp (Qv _ (fun x_ => (vi x_)) (opdC c t i)) _
 unfold opdC
 refine ⟨by first | omega | exact (hp.1) | (have g_ := hp.1; omega) | exact (rgC_ok (by assumption) (by assumption)) | (have g_ := rgC_ok (by assumption) (by assumption); omega) | exact ((hp.2 (by assumption) (by assumption) (by assumption)).1) | (have g_ := (hp.2 (by assumption) (by assumption) (by assumption)).1; omega) | exact ((hp.2 (by assumption) (by assumption) (by assumption)).2.1) | (have g_ := (hp.2 (by assumption) (by assumption) (by assumption)).2.1; omega) | exact ((hp.2 (by assumption) (by assumption) (by assumption)).2.2) | (have g_ := (hp.2 (by assumption) (by assumption) (by assumption)).2.2; omega) | assumption | exact hp.1 | exact hp.2 | exact hp.2.1 | (simp_all; done) | (simp_all; omega), fun _ => ?_⟩
 refine ⟨trivial, fun _ => ?_⟩
 refine fun _ => ?_
 refine qaf (fun h1 => ⟨rfl, rfl⟩) (fun h1 => ?_)
 refine ⟨trivial, fun _ => ?_⟩
 refine fun _ => ?_
 refine qaf (fun h2 => ⟨rfl, rfl⟩) (fun h2 => ?_)
 refine ⟨by first | omega | exact (hp.1) | (have g_ := hp.1; omega) | exact (rgC_ok (by assumption) (by assumption)) | (have g_ := rgC_ok (by assumption) (by assumption); omega) | exact ((hp.2 (by assumption) (by assumption) (by assumption)).1) | (have g_ := (hp.2 (by assumption) (by assumption) (by assumption)).1; omega) | exact ((hp.2 (by assumption) (by assumption) (by assumption)).2.1) | (have g_ := (hp.2 (by assumption) (by assumption) (by assumption)).2.1; omega) | exact ((hp.2 (by assumption) (by assumption) (by assumption)).2.2) | (have g_ := (hp.2 (by assumption) (by assumption) (by assumption)).2.2; omega) | assumption | exact hp.1 | exact hp.2 | exact hp.2.1 | (simp_all; done) | (simp_all; omega), fun _ => ?_⟩
 refine qaf (fun h3 => ⟨trivial, fun _ => fun _ => ⟨rfl, rfl⟩⟩) (fun h3 => ?_)
 have h3_ := beq_f h3
 refine qaf (fun h4 => ⟨trivial, fun _ => fun _ => ⟨rfl, rfl⟩⟩) (fun h4 => ?_)
 have h4_ := beq_f h4
 refine qaf (fun h5 => ⟨trivial, fun _ => fun _ => ⟨rfl, rfl⟩⟩) (fun h5 => ?_)
 have h5_ := beq_f h5
 refine ⟨by first | omega | exact (hp.1) | (have g_ := hp.1; omega) | exact (rgC_ok (by assumption) (by assumption)) | (have g_ := rgC_ok (by assumption) (by assumption); omega) | exact ((hp.2 (by assumption) (by assumption) (by assumption)).1) | (have g_ := (hp.2 (by assumption) (by assumption) (by assumption)).1; omega) | exact ((hp.2 (by assumption) (by assumption) (by assumption)).2.1) | (have g_ := (hp.2 (by assumption) (by assumption) (by assumption)).2.1; omega) | exact ((hp.2 (by assumption) (by assumption) (by assumption)).2.2) | (have g_ := (hp.2 (by assumption) (by assumption) (by assumption)).2.2; omega) | assumption | exact hp.1 | exact hp.2 | exact hp.2.1 | (simp_all; done) | (simp_all; omega), fun _ => ?_⟩
 refine ⟨by first | omega | exact (hp.1) | (have g_ := hp.1; omega) | exact (rgC_ok (by assumption) (by assumption)) | (have g_ := rgC_ok (by assumption) (by assumption); omega) | exact ((hp.2 (by assumption) (by assumption) (by assumption)).1) | (have g_ := (hp.2 (by assumption) (by assumption) (by assumption)).1; omega) | exact ((hp.2 (by assumption) (by assumption) (by assumption)).2.1) | (have g_ := (hp.2 (by assumption) (by assumption) (by assumption)).2.1; omega) | exact ((hp.2 (by assumption) (by assumption) (by assumption)).2.2) | (have g_ := (hp.2 (by assumption) (by assumption) (by assumption)).2.2; omega) | assumption | exact hp.1 | exact hp.2 | exact hp.2.1 | (simp_all; done) | (simp_all; omega), fun _ => ?_⟩
 refine ⟨by first | omega | exact (hp.1) | (have g_ := hp.1; omega) | exact (rgC_ok (by assumption) (by assumption)) | (have g_ := rgC_ok (by assumption) (by assumption); omega) | exact ((hp.2 (by assumption) (by assumption) (by assumption)).1) | (have g_ := (hp.2 (by assumption) (by assumption) (by assumption)).1; omega) | exact ((hp.2 (by assumption) (by assumption) (by assumption)).2.1) | (have g_ := (hp.2 (by assumption) (by assumption) (by assumption)).2.1; omega) | exact ((hp.2 (by assumption) (by assumption) (by assumption)).2.2) | (have g_ := (hp.2 (by assumption) (by assumption) (by assumption)).2.2; omega) | assumption | exact hp.1 | exact hp.2 | exact hp.2.1 | (simp_all; done) | (simp_all; omega), fun _ => ?_⟩
 exact ⟨trivial, fun _ => fun _ => ⟨rfl, rfl⟩⟩)
theorem c_machine_checker_operand : qal E_V35 qbu qhm.spec := qan fun x hx hp => ⟨rfl, m_machine_checker_operand x.1 x.2.1 x.2.2.1 hx.1 hx.2.1 hx.2.2.1 hp⟩
def L_V35 : List (FuncId × FSpec) := [(f_r50_shape, k_r50_shape.spec), (f_r50_typed, k_r50_typed.spec), (qbu, qhm.spec)] ++ L_V34
theorem L_V35_ok : ∀ x ∈ L_V35, qal (ctx []) x.1 x.2 := by
 unfold L_V35
 simp only [List.cons_append, List.nil_append, List.forall_mem_cons]
 exact ⟨c_r50_shape, c_r50_typed, c_machine_checker_operand, L_V34_ok⟩
end Burn.MC
namespace Burn.MC
open Go Go.BE Go.Proofs
set_option maxRecDepth 100000
set_option linter.unusedVariables false
set_option linter.unusedSimpArgs false
open Burn.Intn Burn.Ref
def mrg_V36 : FuncId → List Nat
 | 51 => [23]
 | 59 => [23, 41, 52, 53, 54]
 | _ => []
noncomputable abbrev E_V36 : Ctx := { ctx L_V35 with mrg := mrg_V36 }
theorem E_V36_ok : EOK E_V36 := have h : EOK (ctx L_V35) := qbo L_V35_ok; ⟨h.ty, h.env, h.fns, h.mixed⟩
def cuts_V36 : CutL := [([], 51, 0, [2, 3, 11, 12, 13], [], []),
 ([], 59, 0, [2, 3, 9, 10, 11], [], [])]
def rets_V36 : FuncId → List (Option Fx)
 | _ => []
def H_V36 : Hints := { cut := cutOf cuts_V36, ret := rets_V36 }
noncomputable def qbl (c : Den qaj) (t : Den qah) (t11 : List (Den I)) (t12 : Int) (t13 : Int) : Cfg := hcfg E_V36 qbi 0 [(2, (.rtp qaj c)), (3, (.rtp qah t)), (11, (.tv (.sl 8 I) t11)), (12, (vi t12)), (13, (vi t13))] [] 0
theorem machine_checker_cases_t (c : Den qaj) (t : Den qah) : run E_V36 H_V36 qbi 3000 (start E_V36 qbi [(.tv qaj c), (.tv qah t)]) = (hd (qbl c t t.2.2.1 ((ln I t.2.2.1) : Int) (0 : Int))) := by kernel_rfl
theorem qgw (c : Den qaj) (t : Den qah) (t11 : List (Den I)) (t12 : Int) (t13 : Int) : run E_V36 H_V36 qbi 3000 (qbl c t t11 t12 t13) = (cond (decide (t13 < t12)) (.chk (0 ≤ t13 ∧ t13 < (ln I t11)) (cond ((z t.1) == (3 : Int)) (.chk (True) (.know True (cond (vrtP c) (.chk (0 ≤ (0 : Int) ∧ (0 : Int) < (ln I t.2.1)) (.chk (0 ≤ (z (gd I t.2.1 (0 : Nat))) ∧ (z (gd I t.2.1 (0 : Nat))) < (ln I c.2.1.2.2.2.1)) (.chk (True) (.know (okD (.int .i64) (wrapZ (gd I c.2.1.2.2.2.1 (((z (gd I t.2.1 (0 : Nat)))).toNat)) (gd I t11 t13.toNat))) (.chk (True) (.chk (0 ≤ (0 : Int) ∧ (0 : Int) ≤ t13 ∧ t13 ≤ ((ln I t.2.2.1) : Int)) (.chk (True) (.chk (True) (.chk (True) (.know (okD (.int .i64) (unlP ((wrapZ (gd I c.2.1.2.2.2.1 (((z (gd I t.2.1 (0 : Nat)))).toNat)) (gd I t11 t13.toNat)) == (z (gd I t11 t13.toNat))) (10 : Int))) (.know True (.know (okD (.int .i64) (unlP (!(hasI (wn I t.2.2.1 (0 : Nat) (t13.toNat - (0 : Nat))) (gd I t11 t13.toNat))) (7 : Int))) (.know (okD (.int .i64) (fstF ([(unlP ((wrapZ (gd I c.2.1.2.2.2.1 (((z (gd I t.2.1 (0 : Nat)))).toNat)) (gd I t11 t13.toNat)) == (z (gd I t11 t13.toNat))) (10 : Int)), (unlP (!(hasI (wn I t.2.2.1 (0 : Nat) (t13.toNat - (0 : Nat))) (gd I t11 t13.toNat))) (7 : Int))] : List (Den I)))) (cond ((fstF ([(unlP ((wrapZ (gd I c.2.1.2.2.2.1 (((z (gd I t.2.1 (0 : Nat)))).toNat)) (gd I t11 t13.toNat)) == (z (gd I t11 t13.toNat))) (10 : Int)), (unlP (!(hasI (wn I t.2.2.1 (0 : Nat) (t13.toNat - (0 : Nat))) (gd I t11 t13.toNat))) (7 : Int))] : List (Den I))) != (0 : Int)) (rt (vi (fstF ([(unlP ((wrapZ (gd I c.2.1.2.2.2.1 (((z (gd I t.2.1 (0 : Nat)))).toNat)) (gd I t11 t13.toNat)) == (z (gd I t11 t13.toNat))) (10 : Int)), (unlP (!(hasI (wn I t.2.2.1 (0 : Nat) (t13.toNat - (0 : Nat))) (gd I t11 t13.toNat))) (7 : Int))] : List (Den I)))) []) (hd (qbl c t t11 t12 (IntKind.wrap .i64 (t13 + (1 : Int))))))))))))))))))) (.chk (True) (.know (okD (.int .i64) (wrapZ (4 : Int) (gd I t11 t13.toNat))) (.chk (True) (.chk (0 ≤ (0 : Int) ∧ (0 : Int) ≤ t13 ∧ t13 ≤ ((ln I t.2.2.1) : Int)) (.chk (True) (.chk (True) (.chk (True) (.know (okD (.int .i64) (unlP ((wrapZ (4 : Int) (gd I t11 t13.toNat)) == (z (gd I t11 t13.toNat))) (10 : Int))) (.know True (.know (okD (.int .i64) (unlP (!(hasI (wn I t.2.2.1 (0 : Nat) (t13.toNat - (0 : Nat))) (gd I t11 t13.toNat))) (7 : Int))) (.know (okD (.int .i64) (fstF ([(unlP ((wrapZ (4 : Int) (gd I t11 t13.toNat)) == (z (gd I t11 t13.toNat))) (10 : Int)), (unlP (!(hasI (wn I t.2.2.1 (0 : Nat) (t13.toNat - (0 : Nat))) (gd I t11 t13.toNat))) (7 : Int))] : List (Den I)))) (cond ((fstF ([(unlP ((wrapZ (4 : Int) (gd I t11 t13.toNat)) == (z (gd I t11 t13.toNat))) (10 : Int)), (unlP (!(hasI (wn I t.2.2.1 (0 : Nat) (t13.toNat - (0 : Nat))) (gd I t11 t13.toNat))) (7 : Int))] : List (Den I))) != (0 : Int)) (rt (vi (fstF ([(unlP ((wrapZ (4 : Int) (gd I t11 t13.toNat)) == (z (gd I t11 t13.toNat))) (10 : Int)), (unlP (!(hasI (wn I t.2.2.1 (0 : Nat) (t13.toNat - (0 : Nat))) (gd I t11 t13.toNat))) (7 : Int))] : List (Den I)))) []) (hd (qbl c t t11 t12 (IntKind.wrap .i64 (t13 + (1 : Int)))))))))))))))))))) (.chk (True) (.chk (0 ≤ (0 : Int) ∧ (0 : Int) ≤ t13 ∧ t13 ≤ ((ln I t.2.2.1) : Int)) (.chk (True) (.chk (True) (.chk (True) (.know (okD (.int .i64) (unlP (cond (decide ((z (gd I t11 t13.toNat)) ≥ (16 : Int))) (decide ((z (gd I t11 t13.toNat)) ≤ (255 : Int))) false) (10 : Int))) (.know True (.know (okD (.int .i64) (unlP (!(hasI (wn I t.2.2.1 (0 : Nat) (t13.toNat - (0 : Nat))) (gd I t11 t13.toNat))) (7 : Int))) (.know (okD (.int .i64) (fstF ([(unlP (cond (decide ((z (gd I t11 t13.toNat)) ≥ (16 : Int))) (decide ((z (gd I t11 t13.toNat)) ≤ (255 : Int))) false) (10 : Int)), (unlP (!(hasI (wn I t.2.2.1 (0 : Nat) (t13.toNat - (0 : Nat))) (gd I t11 t13.toNat))) (7 : Int))] : List (Den I)))) (cond ((fstF ([(unlP (cond (decide ((z (gd I t11 t13.toNat)) ≥ (16 : Int))) (decide ((z (gd I t11 t13.toNat)) ≤ (255 : Int))) false) (10 : Int)), (unlP (!(hasI (wn I t.2.2.1 (0 : Nat) (t13.toNat - (0 : Nat))) (gd I t11 t13.toNat))) (7 : Int))] : List (Den I))) != (0 : Int)) (rt (vi (fstF ([(unlP (cond (decide ((z (gd I t11 t13.toNat)) ≥ (16 : Int))) (decide ((z (gd I t11 t13.toNat)) ≤ (255 : Int))) false) (10 : Int)), (unlP (!(hasI (wn I t.2.2.1 (0 : Nat) (t13.toNat - (0 : Nat))) (gd I t11 t13.toNat))) (7 : Int))] : List (Den I)))) []) (hd (qbl c t t11 t12 (IntKind.wrap .i64 (t13 + (1 : Int))))))))))))))))) (rt (vi (0 : Int)) [])) := by kernel_rfl
noncomputable def r50_cases_L0 (f : Den qag) (t : Den qah) (t9 : List (Den I)) (t10 : Int) (t11 : Int) : Cfg := hcfg E_V36 qih 0 [(2, (.rtp qag f)), (3, (.rtp qah t)), (9, (.tv (.sl 8 I) t9)), (10, (vi t10)), (11, (vi t11))] [] 0
theorem r50_cases_t (f : Den qag) (t : Den qah) : run E_V36 H_V36 qih 3000 (start E_V36 qih [(.tv qag f), (.tv qah t)]) = (hd (r50_cases_L0 f t t.2.2.1 ((ln I t.2.2.1) : Int) (0 : Int))) := by kernel_rfl
theorem r50_cases_L0_t (f : Den qag) (t : Den qah) (t9 : List (Den I)) (t10 : Int) (t11 : Int) : run E_V36 H_V36 qih 3000 (r50_cases_L0 f t t9 t10 t11) = (cond (decide (t11 < t10)) (.chk (0 ≤ t11 ∧ t11 < (ln I t9)) (cond (cond ((z t.1) == (3 : Int)) ((z f.2.2.2.2.1) == (0 : Int)) false) (.chk (0 ≤ (0 : Int) ∧ (0 : Int) < (ln I t.2.1)) (.chk (0 ≤ (z (gd I t.2.1 (0 : Nat))) ∧ (z (gd I t.2.1 (0 : Nat))) < (ln I f.2.2.2.1)) (.chk ((((z t.1) == (3 : Int)) = true → (True))) (cond (cond (cond ((z t.1) == (3 : Int)) ((wrapZ (gd I f.2.2.2.1 (((z (gd I t.2.1 (0 : Nat)))).toNat)) (gd I t9 t11.toNat)) != (z (gd I t9 t11.toNat))) false) true (cond ((z t.1) == (5 : Int)) (cond (decide ((z (gd I t9 t11.toNat)) < (16 : Int))) true (decide ((z (gd I t9 t11.toNat)) > (255 : Int)))) false)) (rt (vi (10 : Int)) []) (.chk (0 ≤ (0 : Int) ∧ (0 : Int) ≤ t11 ∧ t11 ≤ ((ln I t.2.2.1) : Int)) (.chk (True) (.know True (cond (hasI (wn I t.2.2.1 (0 : Nat) (t11.toNat - (0 : Nat))) (gd I t9 t11.toNat)) (rt (vi (7 : Int)) []) (hd (r50_cases_L0 f t t9 t10 (IntKind.wrap .i64 (t11 + (1 : Int))))))))))))) (.chk ((((z t.1) == (3 : Int)) = true → (True))) (cond (cond (cond ((z t.1) == (3 : Int)) ((wrapZ (4 : Int) (gd I t9 t11.toNat)) != (z (gd I t9 t11.toNat))) false) true (cond ((z t.1) == (5 : Int)) (cond (decide ((z (gd I t9 t11.toNat)) < (16 : Int))) true (decide ((z (gd I t9 t11.toNat)) > (255 : Int)))) false)) (rt (vi (10 : Int)) []) (.chk (0 ≤ (0 : Int) ∧ (0 : Int) ≤ t11 ∧ t11 ≤ ((ln I t.2.2.1) : Int)) (.chk (True) (.know True (cond (hasI (wn I t.2.2.1 (0 : Nat) (t11.toNat - (0 : Nat))) (gd I t9 t11.toNat)) (rt (vi (7 : Int)) []) (hd (r50_cases_L0 f t t9 t10 (IntKind.wrap .i64 (t11 + (1 : Int))))))))))))) (rt (vi (0 : Int)) [])) := by kernel_rfl
theorem shm_eq {c : Chr} {t : Trm} (h : 1 ≤ z t.1 ∧ z t.1 ≤ 6) : shpC c t = shpM c.1 c.2.1 t := by
 unfold shpC shpM bne
 have : z t.1 = 1 ∨ z t.1 = 2 ∨ z t.1 = 3 ∨ z t.1 = 4 ∨ z t.1 = 5 ∨ z t.1 = 6 := by omega
 rcases this with h | h | h | h | h | h
 ·rw [h]; rfl
 ·rw [h]; rfl
 ·rw [h, beq_self_eq_true (a := (ln I t.2.2.1 : Int))]
  cases z t.2.2.2.2.1 == (0 : Int) <;> cases (ln I t.2.1 : Int) == 1 <;> rfl
 ·rw [h]
  cases z c.2.1.2.2.1 == (0 : Int) <;> rfl
 ·rw [h]; rfl
 ·rw [h]; rfl
def casT (f : MFn) (t : Trm) (i : Nat) : Bool := cond (z t.1 == (3 : Int)) (wrapZ (cond (z f.2.2.2.2.1 == (0 : Int)) (gd I f.2.2.2.1 (z (gd I t.2.1 0)).toNat) 4) (gd I t.2.2.1 i) != z (gd I t.2.2.1 i)) (cond (decide (z (gd I t.2.2.1 i) < (16 : Int))) true (decide (z (gd I t.2.2.1 i) > (255 : Int))))
def casI5 (f : MFn) (t : Trm) (i : Nat) : Int := cond (casT f t i) 10 (cond (hasI (wn I t.2.2.1 0 i) (gd I t.2.2.1 i)) 7 0)
def casM (f : MFn) (t : Trm) : Int := qao (casI5 f t) (ln I t.2.2.1) 0
def casC (c : Chr) (t : Trm) : Int := casM c.2.1 t
def casOK (f : MFn) (t : Trm) : Prop := (z t.1 = 3 ∨ z t.1 = 5 ∨ ln I t.2.2.1 = 0) ∧ (z t.1 = 3 → z f.2.2.2.2.1 = 0 → 0 < ln I t.2.1 ∧ 0 ≤ z (gd I t.2.1 0) ∧ z (gd I t.2.1 0) < (ln I f.2.2.2.1 : Nat))
theorem fe_both {E : Ctx} {c : Cfg} {D : Nat → Int} {n i : Nat} {e : Int} (he : D i = e) (ih : RunI E c (qao D n (i + 1))) : ((e != 0) = true → IsI (qao D (n + 1) i) (vi e) []) ∧ ((e != 0) = false → RunI E c (qao D (n + 1) i)) :=
 ⟨fun h => .fe he (by unfold bne at h; simpa using h), fun h => RunI.fe ih (by rw [he]; simpa using h)⟩
theorem machine_checker_cases_l (c : Chr) (t : Trm) (hp : casOK c.2.1 t) (hl : ln I t.2.2.1 < 9223372036854775807) : ∀ i, i ≤ ln I t.2.2.1 → RunI E_V36 (qbl c t t.2.2.1 (ln I t.2.2.1 : Nat) i) (qao (casI5 c.2.1 t) (ln I t.2.2.1 - i) i) :=
 qay (.tree E_V36_ok (qgw ..) (by
  rw [Nat.sub_self, qao]
  simp only [sS, sL,  Nat.lt_irrefl]
  exact ⟨rfl, rfl⟩))
  fun i hi ih => .tree E_V36_ok (qgw ..) (by
   rw [sub1 hi]
   simp only [sS, sL,  hi, wrapS hi hl]
   refine ⟨fun h1 => ⟨fun h2 => ?_, fun h2 => ?_⟩, fun h1 => ?_⟩
   ·have hq := hp.2 (beq_t h1) (beq_t h2)
    refine ⟨⟨Int.le_refl _, by show (0 : Int) < (ln I t.2.1 : Nat); omega⟩, fun _ => ⟨hq.2, fun _ _ => ⟨⟨Int.le_refl _, Nat.le_of_lt hi⟩, fun _ _ _ _ => fe_both ?_ ih⟩⟩⟩
    unfold casI5 casT
    rw [h1, show (z c.2.1.2.2.2.2.1 == (0 : Int)) = true from h2]
    unfold bne
    show cond (cond true (!(wrapZ (gd I c.2.1.2.2.2.1 (z (gd I t.2.1 0)).toNat) (gd I t.2.2.1 i) == z (gd I t.2.2.1 i))) _) 10 _ = _
    cases wrapZ (gd I c.2.1.2.2.2.1 (z (gd I t.2.1 0)).toNat) (gd I t.2.2.1 i) == z (gd I t.2.2.1 i) <;> cases hasI (wn I t.2.2.1 0 i) (gd I t.2.2.1 i) <;> rfl
   ·refine fun _ => ⟨⟨Int.le_refl _, Nat.le_of_lt hi⟩, fun _ _ _ _ => fe_both ?_ ih⟩
    unfold casI5 casT
    rw [h1, show (z c.2.1.2.2.2.2.1 == (0 : Int)) = false from h2]
    unfold bne
    show cond (cond true (!(wrapZ 4 (gd I t.2.2.1 i) == z (gd I t.2.2.1 i))) _) 10 _ = _
    cases wrapZ 4 (gd I t.2.2.1 i) == z (gd I t.2.2.1 i) <;> cases hasI (wn I t.2.2.1 0 i) (gd I t.2.2.1 i) <;> rfl
   ·refine ⟨⟨Int.le_refl _, Nat.le_of_lt hi⟩, fun _ _ _ _ => fe_both ?_ ih⟩
    unfold casI5 casT
    rw [h1, dge, dle]
    cases decide (z (gd I t.2.2.1 i) < 16) <;> cases decide (z (gd I t.2.2.1 i) > 255) <;> cases hasI (wn I t.2.2.1 0 i) (gd I t.2.2.1 i) <;> rfl)
def k_machine_checker_cases : Con := con [.d qaj, .d qah] I (fun x => casOK x.1.2.1 x.2.1) fun x => casC x.1 x.2.1
theorem m_machine_checker_cases (c : Den qaj) (t : Den qah) (h_c : okD qaj c) (h_t : okD qah t) (hp : casOK c.2.1 t) : Runs E_V36 (start E_V36 qbi [(.tv qaj c), (.tv qah t)]) (fun r_ h_ => r_ = (vi (casC c t)) ∧ h_ = []) := .tree E_V36_ok (machine_checker_cases_t c t) (by
 show Tre.wp (contL _ (IsI (casM c.2.1 t))) _
 simp only [sS, implies_true]
 exact machine_checker_cases_l c t hp (qar h_t.2.2.1.1) 0 (Nat.zero_le _))
theorem c_machine_checker_cases : qal E_V36 qbi k_machine_checker_cases.spec := qan fun x hx hp => ⟨rfl, m_machine_checker_cases x.1 x.2.1 hx.1 hx.2.1 hp⟩
theorem cas_tail {E : Ctx} {c : Cfg} {f : MFn} {t : Trm} {n i : Nat} {T : Bool} (he : casT f t i = T) (hi : i ≤ ln I t.2.2.1) (ih : RunI E c (qao (casI5 f t) n (i + 1))) : (T = true → IsI (qao (casI5 f t) (n + 1) i) (vi 10) []) ∧ (T = false → ((0 : Int) ≤ 0 ∧ i ≤ ln I t.2.2.1) ∧ ((0 : Int) ≤ 0 ∧ i ≤ ln I t.2.2.1 → (hasI (wn I t.2.2.1 0 (i - 0)) (gd I t.2.2.1 i) = true → IsI (qao (casI5 f t) (n + 1) i) (vi 7) []) ∧ (hasI (wn I t.2.2.1 0 (i - 0)) (gd I t.2.2.1 i) = false → RunI E c (qao (casI5 f t) (n + 1) i)))) := by
 refine ⟨fun h => .fe (by unfold casI5; rw [he, h]; rfl) rfl, fun h => ⟨⟨Int.le_refl _, hi⟩, fun _ => ⟨fun h2 => .fe ?_ rfl, fun h2 => RunI.fe ih ?_⟩⟩⟩
 ·unfold casI5
  rw [he, h]
  show cond (hasI (wn I t.2.2.1 0 (i - 0)) (gd I t.2.2.1 i)) 7 0 = 7
  rw [h2]
  rfl
 ·unfold casI5
  rw [he, h]
  show cond (hasI (wn I t.2.2.1 0 (i - 0)) (gd I t.2.2.1 i)) 7 0 = 0
  rw [h2]
  rfl
theorem r50_cases_l (f : MFn) (t : Trm) (hp : casOK f t) (hl : ln I t.2.2.1 < 9223372036854775807) : ∀ i, i ≤ ln I t.2.2.1 → RunI E_V36 (r50_cases_L0 f t t.2.2.1 (ln I t.2.2.1 : Nat) i) (qao (casI5 f t) (ln I t.2.2.1 - i) i) :=
 qay (.tree E_V36_ok (r50_cases_L0_t ..) (by
  rw [Nat.sub_self, qao]
  simp only [sS, sL,  Nat.lt_irrefl]
  exact ⟨rfl, rfl⟩))
  fun i hi ih => .tree E_V36_ok (r50_cases_L0_t ..) (by
   rw [sub1 hi]
   simp only [sS, sL,  hi, wrapS hi hl]
   cases h3 : z t.1 == (3 : Int)
   ·have h5 : (z t.1 == (5 : Int)) = true := by
     rcases hp.1 with h | h | h
     ·rw [h] at h3; exact absurd h3 (by decide)
     ·rw [h]; rfl
     ·omega
    refine ⟨fun h => Bool.noConfusion h, fun _ => cas_tail ?_ (Nat.le_of_lt hi) ih⟩
    unfold casT
    rw [h3, h5]
    cases cond (decide (z (gd I t.2.2.1 i) < 16)) true (decide (z (gd I t.2.2.1 i) > 255)) <;> rfl
   ·have h5 : (z t.1 == (5 : Int)) = false := by rw [beq_t h3]; rfl
    refine ⟨fun hn => ?_, fun hn => cas_tail ?_ (Nat.le_of_lt hi) ih⟩
    ·have hq := hp.2 (beq_t h3) (beq_t hn)
     refine ⟨⟨Int.le_refl _, by show (0 : Int) < (ln I t.2.1 : Nat); omega⟩, fun _ => ⟨hq.2, fun _ => cas_tail ?_ (Nat.le_of_lt hi) ih⟩⟩
     unfold casT
     rw [h3, h5, show (z f.2.2.2.2.1 == (0 : Int)) = true from hn]
     show cond true (wrapZ (gd I f.2.2.2.1 (z (gd I t.2.1 0)).toNat) (gd I t.2.2.1 i) != z (gd I t.2.2.1 i)) _ = _
     cases wrapZ (gd I f.2.2.2.1 (z (gd I t.2.1 0)).toNat) (gd I t.2.2.1 i) != z (gd I t.2.2.1 i) <;> rfl
    ·unfold casT
     rw [h3, h5, show (z f.2.2.2.2.1 == (0 : Int)) = false from hn]
     show cond true (wrapZ 4 (gd I t.2.2.1 i) != z (gd I t.2.2.1 i)) _ = _
     cases wrapZ 4 (gd I t.2.2.1 i) != z (gd I t.2.2.1 i) <;> rfl)
def k_r50_cases : Con := con [.d qag, .d qah] I (fun x => casOK x.1 x.2.1) fun x => casM x.1 x.2.1
theorem m_r50_cases (f : Den qag) (t : Den qah) (h_f : okD qag f) (h_t : okD qah t) (hp : casOK f t) : Runs E_V36 (start E_V36 qih [(.tv qag f), (.tv qah t)]) (fun r_ h_ => r_ = (vi (casM f t)) ∧ h_ = []) := .tree E_V36_ok (r50_cases_t f t) (by
 show Tre.wp (contL _ (IsI (casM f t))) _
 simp only [sS, implies_true]
 exact r50_cases_l f t hp (qar h_t.2.2.1.1) 0 (Nat.zero_le _))
theorem c_r50_cases : qal E_V36 qih k_r50_cases.spec := qan fun x hx hp => ⟨rfl, m_r50_cases x.1 x.2.1 hx.1 hx.2.1 hp⟩
def L_V36 : List (FuncId × FSpec) := [(qbi, k_machine_checker_cases.spec), (qih, k_r50_cases.spec)] ++ L_V35
theorem L_V36_ok : ∀ x ∈ L_V36, qal (ctx []) x.1 x.2 := by
 unfold L_V36
 simp only [List.cons_append, List.nil_append, List.forall_mem_cons]
 exact ⟨c_machine_checker_cases, c_r50_cases, L_V35_ok⟩
end Burn.MC
namespace Burn.MC
open Go Go.BE Go.Proofs
set_option maxRecDepth 100000
set_option linter.unusedVariables false
set_option linter.unusedSimpArgs false
open Burn.Intn Burn.Ref
def okSg (m : Md) : Prop := ∀ j, j < ln qaa m.2.1 → ∀ i, i < ln I (gd qaa m.2.1 j).2.1 → 0 ≤ z (gd I (gd qaa m.2.1 j).2.1 i) ∧ z (gd I (gd qaa m.2.1 j).2.1 i) < (ln I (gd qaa m.2.1 j).2.2.2.1 : Nat)
def tmA (m : Md) (f : MFn) (t : Trm) (i : Nat) : Int := cond (!(rgM f (gd I t.2.1 i))) 10 (cond (cond (z f.2.2.2.2.1 == (0 : Int)) (!(typM m f t (i : Int) (gd I f.2.2.2.1 (z (gd I t.2.1 i)).toNat))) false) 9 0)
def tmG (f : MFn) (l : List Edg) (i : Nat) : Int := cond (cond (decide (z (gd qae l i).1 < (0 : Int))) true (decide (z (gd qae l i).1 ≥ (ln qac f.2.2.2.2.2.2.1 : Int)))) 8 (cond (cond (z (gd qae l i).1 == (0 : Int)) true (decide ((ln I (gd qae l i).2.1 : Int) > (0 : Int)))) 3 0)
def tmT (m : Md) (f : MFn) (t : Trm) : Int := cond (cond (z t.1 == (6 : Int)) (z (gd qaa m.2.1 (z t.2.2.2.2.1).toNat).2.2.1 != z f.2.2.1) false) 9 (orE (casM f t) (qao (tmG f t.2.2.2.1) (ln qae t.2.2.2.1) 0))
def tmC (m : Md) (f : MFn) (t : Trm) : Int := cond (!(shpM m f t)) 3 (orE (qao (tmA m f t) (ln I t.2.1) 0) (tmT m f t))
def tmK (t : Trm) : Bool := cond (decide (z t.1 < (1 : Int))) true (decide (z t.1 > (6 : Int)))
def tmS (m : Md) (t : Trm) : Bool := cond (z t.1 == (6 : Int)) (cond (decide (z t.2.2.2.2.1 < (0 : Int))) true (decide (z t.2.2.2.2.1 ≥ (ln qaa m.2.1 : Int)))) false
def tmL (t : Trm) : Bool := cond (z t.1 == (3 : Int)) (decide ((ln I t.2.2.1 : Int) > (16 : Int))) false
def tmE (m : Md) (f : MFn) (t : Trm) : Int := cond (tmK t) 9 (cond (tmS m t) 8 (cond (tmL t) 11 (tmC m f t)))
def tmEc (c : Chr) (t : Trm) : Int := tmE c.1 c.2.1 t
theorem tmK_ok {t : Trm} (h : tmK t = false) : 1 ≤ z t.1 ∧ z t.1 ≤ 6 := by
 unfold tmK at h
 cases h1 : decide (z t.1 < 1) <;> rw [h1] at h
 ·exact ⟨by simpa using h1, by simpa using h⟩
 ·exact Bool.noConfusion h
theorem tmS_ok {m : Md} {t : Trm} (h : tmS m t = false) : z t.1 = 6 → 0 ≤ z t.2.2.2.2.1 ∧ z t.2.2.2.2.1 < (ln qaa m.2.1 : Nat) := fun hk => by
 unfold tmS at h
 rw [hk] at h
 cases h1 : decide (z t.2.2.2.2.1 < 0) <;> rw [h1] at h
 ·exact ⟨by simpa using h1, by simpa using (show decide (z t.2.2.2.2.1 ≥ (ln qaa m.2.1 : Int)) = false from h)⟩
 ·exact Bool.noConfusion h
theorem shm_use {m : Md} {f : MFn} {t : Trm} (hk : 1 ≤ z t.1 ∧ z t.1 ≤ 6) (h : shpM m f t = true) : (z t.1 = 3 ∨ z t.1 = 5 ∨ ln I t.2.2.1 = 0) ∧ (z t.1 = 3 → ln I t.2.1 = 1) ∧ (z t.1 = 1 ∨ z t.1 = 5 → ln I t.2.1 = 0) ∧ (z t.1 = 6 → ln I t.2.1 = ln I (gd qaa m.2.1 (z t.2.2.2.2.1).toNat).2.1) := by
 have h0 : cond (z t.1 != (6 : Int)) (z t.2.2.2.2.1 != (0 : Int)) false = false := by
  unfold shpM at h
  cases h1 : cond (z t.1 != (6 : Int)) (z t.2.2.2.2.1 != (0 : Int)) false
  ·rfl
  ·rw [h1] at h; exact Bool.noConfusion h
 unfold shpM at h
 rw [h0] at h
 have : z t.1 = 1 ∨ z t.1 = 2 ∨ z t.1 = 3 ∨ z t.1 = 4 ∨ z t.1 = 5 ∨ z t.1 = 6 := by omega
 rcases this with h1 | h1 | h1 | h1 | h1 | h1 <;> rw [h1] at h
 ·simp [Bool.cond_eq_ite] at h; refine ⟨by omega, by omega, by omega, by omega⟩
 ·simp [Bool.cond_eq_ite] at h; refine ⟨by omega, by omega, by omega, by omega⟩
 ·simp [Bool.cond_eq_ite] at h; refine ⟨by omega, by omega, by omega, by omega⟩
 ·have h4 : (cond (cond ((ln I t.2.1 : Int) == 0) ((ln I t.2.2.1 : Int) == 0) false) ((ln qae t.2.2.2.1 : Int) == 0) false = true) ∨ (cond (cond ((ln I t.2.1 : Int) == 1) ((ln I t.2.2.1 : Int) == 0) false) ((ln qae t.2.2.2.1 : Int) == 0) false = true) := by
   cases h5 : z f.2.2.1 == (0 : Int) <;> rw [h5] at h
   ·exact .inr h
   ·exact .inl h
  have h6 : ln I t.2.2.1 = 0 := by
   rcases h4 with h4 | h4 <;> (simp [Bool.cond_eq_ite] at h4; omega)
  refine ⟨by omega, by omega, by omega, by omega⟩
 ·simp [Bool.cond_eq_ite] at h; refine ⟨by omega, by omega, by omega, by omega⟩
 ·simp [Bool.cond_eq_ite] at h; refine ⟨by omega, by omega, by omega, by omega⟩
theorem trm_ok {m : Md} {f : MFn} {t : Trm} (hm : okSg m) (hk : 1 ≤ z t.1 ∧ z t.1 ≤ 6) (hs : z t.1 = 6 → 0 ≤ z t.2.2.2.2.1 ∧ z t.2.2.2.2.1 < (ln qaa m.2.1 : Nat)) (h : shpM m f t = true) {i : Nat} (hi : i < ln I t.2.1) : trmOK m t i := fun h2 h3 h4 => by
 have hu := shm_use hk h
 have h6 : z t.1 = 6 := by omega
 have hq := hs h6
 have hl := hu.2.2.2 h6
 have hg := hm (z t.2.2.2.2.1).toNat (by omega) i (by omega)
 exact ⟨hq, ⟨Int.natCast_nonneg _, by omega⟩, hg⟩
theorem orE_hit5 {a b : Int} (h : (a != 0) = true) : orE a b = a := by unfold orE; rw [show (a == 0) = false by simpa [bne] using h]; rfl
theorem orE_miss5 {a b : Int} (h : (a != 0) = false) : orE a b = b := by unfold orE; rw [show (a == 0) = true by simpa [bne] using h]; rfl
theorem unl_not (b : Bool) : unlP b 9 = cond (cond true (!b) false) 9 0 := by cases b <;> rfl
theorem opd_eq (c : Chr) (t : Trm) (i : Nat) : opdC c t (i : Int) = tmA c.1 c.2.1 t i := by
 unfold opdC tmA typM regC vrtP
 show cond (!(rgM c.2.1 (gd I t.2.1 i))) _ _ = cond (!(rgM c.2.1 (gd I t.2.1 i))) _ _
 cases rgM c.2.1 (gd I t.2.1 i)
 ·rfl
 ·cases z c.2.1.2.2.2.2.1 == (0 : Int)
  ·rfl
  ·cases z t.1 == (2 : Int)
   ·cases z t.1 == (3 : Int)
    ·cases z t.1 == (4 : Int)
     ·exact unl_not _
     ·exact unl_not _
    ·exact unl_not _
   ·exact unl_not _
theorem tmG_eq (f : MFn) (l : List Edg) (i : Nat) (h : ln qac f.2.2.2.2.2.2.1 < 9223372036854775807) : fstF ([unlP (witP (gd qae l i).1 0 (IntKind.wrap .i64 ((ln qac f.2.2.2.2.2.2.1 : Int) - 1))) 8, unlP (z (gd qae l i).1 != (0 : Int)) 3, unlP ((ln I (gd qae l i).2.1 : Int) == (0 : Int)) 3] : List (Den I)) = tmG f l i := by
 unfold tmG
 rw [show witP (gd qae l i).1 0 (IntKind.wrap .i64 ((ln qac f.2.2.2.2.2.2.1 : Int) - 1)) = _ from wit_eq (n := z (gd qae l i).1) (by omega)]
 have e : decide ((ln I (gd qae l i).2.1 : Int) > 0) = !((ln I (gd qae l i).2.1 : Int) == 0) := by
  cases h : (ln I (gd qae l i).2.1 : Int) == 0 <;> simp at h ⊢ <;> omega
 rw [e]
 unfold bne
 cases cond (decide (z (gd qae l i).1 < (0 : Int))) true (decide (z (gd qae l i).1 ≥ (ln qac f.2.2.2.2.2.2.1 : Int))) <;> cases z (gd qae l i).1 == (0 : Int) <;> cases (ln I (gd qae l i).2.1 : Int) == 0 <;> rfl
theorem cas_ok {m : Md} {f : MFn} {t : Trm} (hk : 1 ≤ z t.1 ∧ z t.1 ≤ 6) (h : shpM m f t = true) (ha : ∀ j, j < ln I t.2.1 → tmA m f t j = 0) : casOK f t := by
 have hu := shm_use hk h
 refine ⟨hu.1, fun h3 h0 => ?_⟩
 have hl := hu.2.1 h3
 have hr := ha 0 (by omega)
 unfold tmA at hr
 cases hg : rgM f (gd I t.2.1 0)
 ·rw [hg] at hr; exact absurd hr (show ¬ (10 : Int) = 0 by decide)
 ·unfold rgM at hg
  rw [h0] at hg
  cases h1 : decide (gd I t.2.1 0 ≥ (0 : Int))
  ·rw [h1] at hg; exact Bool.noConfusion hg
  ·rw [h1] at hg
   exact ⟨by omega, of_decide_eq_true h1, of_decide_eq_true hg⟩
theorem trm_head (c : Chr) (t : Trm) (h : ln qaa c.1.2.1 < 9223372036854775807) : fstF ([unlP (witP t.1 1 6) 9, unlP (cond (z t.1 != (6 : Int)) true (witP t.2.2.2.2.1 0 (IntKind.wrap .i64 ((ln qaa c.1.2.1 : Int) - 1)))) 8, unlP (cond (z t.1 != (3 : Int)) true (decide ((ln I t.2.2.1 : Int) ≤ (16 : Int)))) 11] : List (Den I)) = cond (tmK t) 9 (cond (tmS c.1 t) 8 (cond (tmL t) 11 0)) := by
 unfold tmK tmS tmL
 rw [show witP t.2.2.2.2.1 0 (IntKind.wrap .i64 ((ln qaa c.1.2.1 : Int) - 1)) = _ from wit_eq (n := z t.2.2.2.2.1) (by omega), dle (ln I t.2.2.1 : Int) 16]
 have e : witP t.1 1 6 = !(cond (decide (z t.1 < (1 : Int))) true (decide (z t.1 > (6 : Int)))) := by
  unfold witP
  rw [dle, dge]
  cases decide (t.1 < (1 : Int)) <;> cases decide (t.1 > (6 : Int)) <;> rfl
 rw [e]
 unfold bne
 cases cond (decide (z t.1 < (1 : Int))) true (decide (z t.1 > (6 : Int))) <;> cases z t.1 == (6 : Int) <;> cases z t.1 == (3 : Int) <;> cases cond (decide (z t.2.2.2.2.1 < (0 : Int))) true (decide (z t.2.2.2.2.1 ≥ (ln qaa c.1.2.1 : Int))) <;> cases decide ((ln I t.2.2.1 : Int) > (16 : Int)) <;> rfl
def L_V37 : List (FuncId × FSpec) := [] ++ L_V36
theorem L_V37_ok : ∀ x ∈ L_V37, qal (ctx []) x.1 x.2 := L_V36_ok
end Burn.MC
namespace Burn.MC
open Go Go.BE Go.Proofs
set_option maxRecDepth 100000
set_option linter.unusedVariables false
set_option linter.unusedSimpArgs false
open Burn.Intn Burn.Ref
def mrg_V38 : FuncId → List Nat
 | 19 => [13, 22, 30, 36, 37]
 | 20 => [28, 38, 79]
 | 22 => [15, 26, 27, 34, 41, 42]
 | 23 => [19, 34, 35, 44, 77, 93, 117, 126]
 | _ => []
noncomputable abbrev E_V38 : Ctx := { ctx L_V37 with mrg := mrg_V38 }
theorem qid : EOK E_V38 := have h : EOK (ctx L_V37) := qbo L_V37_ok; ⟨h.ty, h.env, h.fns, h.mixed⟩
def cuts_V38 : CutL := [([], 20, 0, [2, 3, 51, 52], [], []),
 ([], 20, 2, [2, 87, 88, 89], [], []),
 ([], 23, 0, [3, 4, 5, 51, 52, 53], [], []),
 ([], 23, 2, [4, 101, 102, 103], [], [])]
def rets_V38 : FuncId → List (Option Fx)
 | _ => []
def H_V38 : Hints := { cut := cutOf cuts_V38, ret := rets_V38 }
theorem r50_instr_t (m : Den qab) (f : Den qag) (in_ : Den qad) : run E_V38 H_V38 f_r50_instr 3000 (start E_V38 f_r50_instr [(.tv qab m), (.tv qag f), (.tv qad in_)]) = (cond (cond (!(cond ((z in_.1) == (40 : Int)) true ((z in_.1) == (41 : Int)))) (cond (decide ((z in_.1) < (1 : Int))) true (decide ((z in_.1) > (33 : Int)))) false) (rt (vi (8 : Int)) []) (cond (cond (cond ((z in_.1) == (3 : Int)) true (bOf in_.2.2.2.2.2.2.2.1)) true (cond (cond ((z in_.1) == (40 : Int)) true ((z in_.1) == (41 : Int))) ((z f.2.2.2.2.1) == (0 : Int)) false)) (rt (vi (3 : Int)) []) (cond (cond ((z in_.1) == (40 : Int)) true ((z in_.1) == (41 : Int))) (.chk (True) (.know (okD (.int .i64) (sltP f in_)) (rt (vi (sltP f in_)) []))) (cond ((z f.2.2.2.2.1) == (0 : Int)) (.chk (True) (.know (okD (.int .i64) (chkF in_ (ByteArray.empty, ([] : List (Den I)), (0 : Int), f.2.2.2.1, ([] : List (Den qac)), ()) m)) (rt (vi (chkF in_ (ByteArray.empty, ([] : List (Den I)), (0 : Int), f.2.2.2.1, ([] : List (Den qac)), ()) m)) []))) (.chk (True) (.know (okD (.int .i64) (phyR m f in_)) (rt (vi (phyR m f in_)) []))))))) := by kernel_rfl
theorem machine_checker_instr_t (c : Den qaj) (in_ : Den qad) : run E_V38 H_V38 qci 3000 (start E_V38 qci [(.tv qaj c), (.tv qad in_)]) = (.chk (True) (.know (okD .str (nameP in_.1)) (cond (cond (((nameP in_.1)).toList == (ByteArray.empty).toList) (!(cond ((z in_.1) == (40 : Int)) true ((z in_.1) == (41 : Int)))) false) (rt (vi (8 : Int)) []) (.chk (((cond ((z in_.1) == (3 : Int)) true (bOf in_.2.2.2.2.2.2.2.1)) = false → (((cond ((z in_.1) == (40 : Int)) true ((z in_.1) == (41 : Int))) = true → (True))))) (cond (cond (cond ((z in_.1) == (3 : Int)) true (bOf in_.2.2.2.2.2.2.2.1)) true (cond (cond ((z in_.1) == (40 : Int)) true ((z in_.1) == (41 : Int))) (vrtP c) false)) (rt (vi (3 : Int)) []) (cond (cond ((z in_.1) == (40 : Int)) true ((z in_.1) == (41 : Int))) (.chk (True) (.know (okD (.int .i64) (movP c in_)) (rt (vi (movP c in_)) []))) (.chk (True) (.know True (cond (vrtP c) (.chk (True) (.know (okD (.int .i64) (chkF in_ (ByteArray.empty, ([] : List (Den I)), (0 : Int), c.2.1.2.2.2.1, ([] : List (Den qac)), ()) c.1)) (rt (vi (chkF in_ (ByteArray.empty, ([] : List (Den I)), (0 : Int), c.2.1.2.2.2.1, ([] : List (Den qac)), ()) c.1)) []))) (.chk (True) (.know (okD (.int .i64) (phyC c in_)) (rt (vi (phyC c in_)) [])))))))))))) := by kernel_rfl
noncomputable def qby (c : Den qaj) (t : Den qah) (t51 : Int) (t52 : Int) : Cfg := hcfg E_V38 qat 0 [(2, (.rtp qaj c)), (3, (.rtp qah t)), (51, (vi t51)), (52, (vi t52))] [] 0
noncomputable def qbx (c : Den qaj) (t87 : List (Den qae)) (t88 : Int) (t89 : Int) : Cfg := hcfg E_V38 qat 2 [(2, (.rtp qaj c)), (87, (.tv (.sl 32 qae) t87)), (88, (vi t88)), (89, (vi t89))] [] 0
theorem machine_checker_terminator_t (c : Den qaj) (t : Den qah) : run E_V38 H_V38 qat 3000 (start E_V38 qat [(.tv qaj c), (.tv qah t)]) = (.chk (True) (.chk (True) (.chk ((((z t.1) != (6 : Int)) = false → (True))) (.chk (True) (.chk (True) (.chk (True) (.know True (.know (okD (.int .i64) (unlP (witP t.1 (1 : Int) (6 : Int)) (9 : Int))) (.know (okD (.int .i64) (unlP (cond ((z t.1) != (6 : Int)) true (witP t.2.2.2.2.1 (0 : Int) (IntKind.wrap .i64 (((ln qaa c.1.2.1) : Int) - (1 : Int))))) (8 : Int))) (.know (okD (.int .i64) (unlP (cond ((z t.1) != (3 : Int)) true (decide (((ln I t.2.2.1) : Int) ≤ (16 : Int)))) (11 : Int))) (.know (okD (.int .i64) (fstF ([(unlP (witP t.1 (1 : Int) (6 : Int)) (9 : Int)), (unlP (cond ((z t.1) != (6 : Int)) true (witP t.2.2.2.2.1 (0 : Int) (IntKind.wrap .i64 (((ln qaa c.1.2.1) : Int) - (1 : Int))))) (8 : Int)), (unlP (cond ((z t.1) != (3 : Int)) true (decide (((ln I t.2.2.1) : Int) ≤ (16 : Int)))) (11 : Int))] : List (Den I)))) (cond ((fstF ([(unlP (witP t.1 (1 : Int) (6 : Int)) (9 : Int)), (unlP (cond ((z t.1) != (6 : Int)) true (witP t.2.2.2.2.1 (0 : Int) (IntKind.wrap .i64 (((ln qaa c.1.2.1) : Int) - (1 : Int))))) (8 : Int)), (unlP (cond ((z t.1) != (3 : Int)) true (decide (((ln I t.2.2.1) : Int) ≤ (16 : Int)))) (11 : Int))] : List (Den I))) != (0 : Int)) (rt (vi (fstF ([(unlP (witP t.1 (1 : Int) (6 : Int)) (9 : Int)), (unlP (cond ((z t.1) != (6 : Int)) true (witP t.2.2.2.2.1 (0 : Int) (IntKind.wrap .i64 (((ln qaa c.1.2.1) : Int) - (1 : Int))))) (8 : Int)), (unlP (cond ((z t.1) != (3 : Int)) true (decide (((ln I t.2.2.1) : Int) ≤ (16 : Int)))) (11 : Int))] : List (Den I)))) []) (.chk (z t.1 = 6 → 0 ≤ z t.2.2.2.2.1 ∧ z t.2.2.2.2.1 < (ln qaa c.1.2.1 : Nat)) (.know True (cond (!(shpC c t)) (rt (vi (3 : Int)) []) (hd (qby c t ((ln I t.2.1) : Int) (0 : Int)))))))))))))))))) := by kernel_rfl
theorem qeg (c : Den qaj) (t : Den qah) (t51 : Int) (t52 : Int) : run E_V38 H_V38 qat 3000 (qby c t t51 t52) = (cond (decide (t52 < t51)) (.chk ((0 ≤ z t52 ∧ z t52 < (ln I t.2.1 : Nat)) ∧ trmOK c.1 t (z t52)) (.know (okD (.int .i64) (opdC c t t52)) (cond ((opdC c t t52) != (0 : Int)) (rt (vi (opdC c t t52)) []) (hd (qby c t t51 (IntKind.wrap .i64 (t52 + (1 : Int)))))))) (.chk ((((z t.1) == (6 : Int)) = true → (0 ≤ (z t.2.2.2.2.1) ∧ (z t.2.2.2.2.1) < (ln qaa c.1.2.1)))) (cond (cond ((z t.1) == (6 : Int)) ((z ((gd qaa c.1.2.1 (((z t.2.2.2.2.1)).toNat)).2.2.1)) != (z c.2.1.2.2.1)) false) (rt (vi (9 : Int)) []) (.chk (casOK c.2.1 t) (.know (okD (.int .i64) (casC c t)) (cond ((casC c t) != (0 : Int)) (rt (vi (casC c t)) []) (hd (qbx c t.2.2.2.1 ((ln qae t.2.2.2.1) : Int) (0 : Int))))))))) := by kernel_rfl
theorem qef (c : Den qaj) (t87 : List (Den qae)) (t88 : Int) (t89 : Int) : run E_V38 H_V38 qat 3000 (qbx c t87 t88 t89) = (cond (decide (t89 < t88)) (.chk (0 ≤ t89 ∧ t89 < (ln qae t87)) (.chk (True) (.chk (True) (.chk (True) (.chk (True) (.chk (True) (.know True (.know (okD (.int .i64) (unlP (witP (gd qae t87 t89.toNat).1 (0 : Int) (IntKind.wrap .i64 (((ln qac c.2.1.2.2.2.2.2.2.1) : Int) - (1 : Int)))) (8 : Int))) (.know (okD (.int .i64) (unlP ((z ((gd qae t87 t89.toNat).1)) != (0 : Int)) (3 : Int))) (.know (okD (.int .i64) (unlP (((ln I ((gd qae t87 t89.toNat).2.1)) : Int) == (0 : Int)) (3 : Int))) (.know (okD (.int .i64) (fstF ([(unlP (witP (gd qae t87 t89.toNat).1 (0 : Int) (IntKind.wrap .i64 (((ln qac c.2.1.2.2.2.2.2.2.1) : Int) - (1 : Int)))) (8 : Int)), (unlP ((z ((gd qae t87 t89.toNat).1)) != (0 : Int)) (3 : Int)), (unlP (((ln I ((gd qae t87 t89.toNat).2.1)) : Int) == (0 : Int)) (3 : Int))] : List (Den I)))) (cond ((fstF ([(unlP (witP (gd qae t87 t89.toNat).1 (0 : Int) (IntKind.wrap .i64 (((ln qac c.2.1.2.2.2.2.2.2.1) : Int) - (1 : Int)))) (8 : Int)), (unlP ((z ((gd qae t87 t89.toNat).1)) != (0 : Int)) (3 : Int)), (unlP (((ln I ((gd qae t87 t89.toNat).2.1)) : Int) == (0 : Int)) (3 : Int))] : List (Den I))) != (0 : Int)) (rt (vi (fstF ([(unlP (witP (gd qae t87 t89.toNat).1 (0 : Int) (IntKind.wrap .i64 (((ln qac c.2.1.2.2.2.2.2.2.1) : Int) - (1 : Int)))) (8 : Int)), (unlP ((z ((gd qae t87 t89.toNat).1)) != (0 : Int)) (3 : Int)), (unlP (((ln I ((gd qae t87 t89.toNat).2.1)) : Int) == (0 : Int)) (3 : Int))] : List (Den I)))) []) (hd (qbx c t87 t88 (IntKind.wrap .i64 (t89 + (1 : Int))))))))))))))))) (rt (vi (0 : Int)) [])) := by kernel_rfl
noncomputable def qgs (m : Den qab) (f : Den qag) (t : Den qah) (t51 : List (Den I)) (t52 : Int) (t53 : Int) : Cfg := hcfg E_V38 qca 0 [(3, (.rtp qab m)), (4, (.rtp qag f)), (5, (.rtp qah t)), (51, (.tv (.sl 8 I) t51)), (52, (vi t52)), (53, (vi t53))] [] 0
noncomputable def qgr (f : Den qag) (t101 : List (Den qae)) (t102 : Int) (t103 : Int) : Cfg := hcfg E_V38 qca 2 [(4, (.rtp qag f)), (101, (.tv (.sl 32 qae) t101)), (102, (vi t102)), (103, (vi t103))] [] 0
theorem r50_terminator_t (m : Den qab) (f : Den qag) (t : Den qah) : run E_V38 H_V38 qca 3000 (start E_V38 qca [(.tv qab m), (.tv qag f), (.tv qah t)]) = (cond (cond (decide ((z t.1) < (1 : Int))) true (decide ((z t.1) > (6 : Int)))) (rt (vi (9 : Int)) []) (cond (cond ((z t.1) == (6 : Int)) (cond (decide ((z t.2.2.2.2.1) < (0 : Int))) true (decide ((z t.2.2.2.2.1) ≥ ((ln qaa m.2.1) : Int)))) false) (rt (vi (8 : Int)) []) (cond (cond ((z t.1) == (3 : Int)) (decide (((ln I t.2.2.1) : Int) > (16 : Int))) false) (rt (vi (11 : Int)) []) (.chk ((1 ≤ z t.1 ∧ z t.1 ≤ 6) ∧ (z t.1 = 6 → 0 ≤ z t.2.2.2.2.1 ∧ z t.2.2.2.2.1 < (ln qaa m.2.1 : Nat))) (.know True (cond (!(shpM m f t)) (rt (vi (3 : Int)) []) (hd (qgs m f t t.2.1 ((ln I t.2.1) : Int) (0 : Int))))))))) := by kernel_rfl
theorem r50_terminator_L0_t (m : Den qab) (f : Den qag) (t : Den qah) (t51 : List (Den I)) (t52 : Int) (t53 : Int) : run E_V38 H_V38 qca 3000 (qgs m f t t51 t52 t53) = (cond (decide (t53 < t52)) (.chk (0 ≤ t53 ∧ t53 < (ln I t51)) (.chk (True) (.know True (cond (!(rgM f (gd I t51 t53.toNat))) (rt (vi (10 : Int)) []) (.chk ((((z f.2.2.2.2.1) == (0 : Int)) = true → (0 ≤ (z (gd I t51 t53.toNat)) ∧ (z (gd I t51 t53.toNat)) < (ln I f.2.2.2.1)))) (.chk ((((z f.2.2.2.2.1) == (0 : Int)) = true → (trmOK m t (z t53)))) (cond (cond ((z f.2.2.2.2.1) == (0 : Int)) (!(typM m f t t53 (gd I f.2.2.2.1 (((z (gd I t51 t53.toNat))).toNat)))) false) (rt (vi (9 : Int)) []) (hd (qgs m f t t51 t52 (IntKind.wrap .i64 (t53 + (1 : Int)))))))))))) (.chk ((((z t.1) == (6 : Int)) = true → (0 ≤ (z t.2.2.2.2.1) ∧ (z t.2.2.2.2.1) < (ln qaa m.2.1)))) (cond (cond ((z t.1) == (6 : Int)) ((z ((gd qaa m.2.1 (((z t.2.2.2.2.1)).toNat)).2.2.1)) != (z f.2.2.1)) false) (rt (vi (9 : Int)) []) (.chk (casOK f t) (.know (okD (.int .i64) (casM f t)) (cond ((casM f t) != (0 : Int)) (rt (vi (casM f t)) []) (hd (qgr f t.2.2.2.1 ((ln qae t.2.2.2.1) : Int) (0 : Int))))))))) := by kernel_rfl
theorem r50_terminator_L2_t (f : Den qag) (t101 : List (Den qae)) (t102 : Int) (t103 : Int) : run E_V38 H_V38 qca 3000 (qgr f t101 t102 t103) = (cond (decide (t103 < t102)) (.chk (0 ≤ t103 ∧ t103 < (ln qae t101)) (cond (cond (decide ((z ((gd qae t101 t103.toNat).1)) < (0 : Int))) true (decide ((z ((gd qae t101 t103.toNat).1)) ≥ ((ln qac f.2.2.2.2.2.2.1) : Int)))) (rt (vi (8 : Int)) []) (cond (cond ((z ((gd qae t101 t103.toNat).1)) == (0 : Int)) true (decide (((ln I ((gd qae t101 t103.toNat).2.1)) : Int) > (0 : Int)))) (rt (vi (3 : Int)) []) (hd (qgr f t101 t102 (IntKind.wrap .i64 (t103 + (1 : Int)))))))) (rt (vi (0 : Int)) [])) := by kernel_rfl
def insR (m : Den qab) (f : Den qag) (in_ : Den qad) : Int := (cond (cond (!(cond ((z in_.1) == (40 : Int)) true ((z in_.1) == (41 : Int)))) (cond (decide ((z in_.1) < (1 : Int))) true (decide ((z in_.1) > (33 : Int)))) false) (8 : Int) (cond (cond (cond ((z in_.1) == (3 : Int)) true (bOf in_.2.2.2.2.2.2.2.1)) true (cond (cond ((z in_.1) == (40 : Int)) true ((z in_.1) == (41 : Int))) ((z f.2.2.2.2.1) == (0 : Int)) false)) (3 : Int) (cond (cond ((z in_.1) == (40 : Int)) true ((z in_.1) == (41 : Int))) (sltP f in_) (cond ((z f.2.2.2.2.1) == (0 : Int)) (chkF in_ (ByteArray.empty, ([] : List (Den I)), (0 : Int), f.2.2.2.1, ([] : List (Den qac)), ()) m) (phyR m f in_)))))

def k_r50_instr : Con := con [.d qab, .d qag, .d qad] I (fun x => True) fun x => insR x.1 x.2.1 x.2.2.1
theorem m_r50_instr (m : Den qab) (f : Den qag) (in_ : Den qad) (h_m : okD qab m) (h_f : okD qag f) (h_in_ : okD qad in_) (hp : True) : Runs E_V38 (start E_V38 f_r50_instr [(.tv qab m), (.tv qag f), (.tv qad in_)]) (fun r_ h_ => r_ = (vi (insR m f in_)) ∧ h_ = []) := .tree qid (r50_instr_t m f in_) (by
 show Tre.wp (Qv _ (fun x_ => (vi x_)) (insR m f in_)) _
 unfold insR
 refine qaf (fun h1 => ⟨rfl, rfl⟩) (fun h1 => ?_)
 refine qaf (fun h2 => ⟨rfl, rfl⟩) (fun h2 => ?_)
 refine qaf (fun h3 => ⟨trivial, fun _ => fun _ => ⟨rfl, rfl⟩⟩) (fun h3 => ?_)
 refine qaf (fun h4 => ⟨trivial, fun _ => fun _ => ⟨rfl, rfl⟩⟩) (fun h4 => ?_)
 exact ⟨trivial, fun _ => fun _ => ⟨rfl, rfl⟩⟩)
theorem c_r50_instr : qal E_V38 f_r50_instr k_r50_instr.spec := qan fun x hx hp => ⟨rfl, m_r50_instr x.1 x.2.1 x.2.2.1 hx.1 hx.2.1 hx.2.2.1 hp⟩
def insC (c : Chr) (x : Ins) : Int := insR c.1 c.2.1 x

def k_machine_checker_instr : Con := con [.d qaj, .d qad] I (fun x => True) fun x => insC x.1 x.2.1
theorem m_machine_checker_instr (c : Den qaj) (in_ : Den qad) (h_c : okD qaj c) (h_in_ : okD qad in_) (hp : True) : Runs E_V38 (start E_V38 qci [(.tv qaj c), (.tv qad in_)]) (fun r_ h_ => r_ = (vi (insC c in_)) ∧ h_ = []) := .tree qid (machine_checker_instr_t c in_) (by
 show Tre.wp (contL _ (IsI (insR c.1 c.2.1 in_))) _
 simp only [sS, implies_true]
 rw [name_eq]
 have hc : ∀ a b : Bool, cond a (!b) false = cond (!b) a false := fun a b => by cases a <;> cases b <;> rfl
 rw [hc]
 refine fun _ => ⟨fun h1 => .of (Bool.cond_pos h1), fun h1 => ⟨fun h2 => .of ((Bool.cond_neg h1).trans (Bool.cond_pos h2)), fun h2 => ⟨fun h3 _ => .of ((Bool.cond_neg h1).trans ((Bool.cond_neg h2).trans ((Bool.cond_pos h3).trans (mov_eq c in_).symm))), fun h3 => ⟨fun h4 _ => .of ((Bool.cond_neg h1).trans ((Bool.cond_neg h2).trans ((Bool.cond_neg h3).trans (Bool.cond_pos h4)))), fun h4 _ => .of ((Bool.cond_neg h1).trans ((Bool.cond_neg h2).trans ((Bool.cond_neg h3).trans (Bool.cond_neg h4))))⟩⟩⟩⟩)
theorem c_machine_checker_instr : qal E_V38 qci k_machine_checker_instr.spec := qan fun x hx hp => ⟨rfl, m_machine_checker_instr x.1 x.2.1 hx.1 hx.2.1 hp⟩
theorem machine_checker_terminator_l2 (c : Chr) (t : Trm) (hc : okD qaj c) (ht : okD qah t) : ∀ i, i ≤ ln qae t.2.2.2.1 → RunI E_V38 (qbx c t.2.2.2.1 (ln qae t.2.2.2.1 : Nat) i) (qao (tmG c.2.1 t.2.2.2.1) (ln qae t.2.2.2.1 - i) i) :=
 qay (.tree qid (qef ..) (by
  rw [Nat.sub_self, qao]
  simp only [sS, sL,  Nat.lt_irrefl]
  exact ⟨rfl, rfl⟩))
  fun i hi ih => .tree qid (qef ..) (by
   rw [sub1 hi]
   simp only [sS, sL,  hi, wrapS hi (qar ht.2.2.2.1.1)]
   exact fun _ _ _ _ => fe_both (tmG_eq c.2.1 t.2.2.2.1 i (qar hc.2.1.2.2.2.2.2.2.1.1)).symm ih)
theorem machine_checker_terminator_l0 (c : Chr) (t : Trm) (hc : okD qaj c) (ht : okD qah t) (hm : okSg c.1) (hk : 1 ≤ z t.1 ∧ z t.1 ≤ 6) (hs : z t.1 = 6 → 0 ≤ z t.2.2.2.2.1 ∧ z t.2.2.2.2.1 < (ln qaa c.1.2.1 : Nat)) (hp : shpM c.1 c.2.1 t = true) : ∀ i, i ≤ ln I t.2.1 → (∀ j, j < i → tmA c.1 c.2.1 t j = 0) → RunI E_V38 (qby c t (ln I t.2.1 : Nat) i) (orE (qao (tmA c.1 c.2.1 t) (ln I t.2.1 - i) i) (tmT c.1 c.2.1 t)) :=
 qay (fun ha => .tree qid (qeg ..) (by
  rw [Nat.sub_self, qao, show orE 0 (tmT c.1 c.2.1 t) = tmT c.1 c.2.1 t from rfl]
  simp only [sS, sL,  Nat.lt_irrefl]
  refine ⟨fun h => hs (beq_t h), fun _ => ⟨fun h1 => .of (by unfold tmT; rw [h1]; rfl), fun h1 => ⟨cas_ok hk hp ha, fun _ _ => ⟨fun h2 => .of ?_, fun h2 => RunI.eq (machine_checker_terminator_l2 c t hc ht 0 (Nat.zero_le _)) ?_⟩⟩⟩⟩
  ·unfold tmT
   rw [h1]
   exact orE_hit5 h2
  ·unfold tmT
   rw [h1]
   exact orE_miss5 h2))
  fun i hi ih ha => .tree qid (qeg ..) (by
   rw [sub1 hi]
   simp only [sS, sL,  hi, wrapS hi (qar ht.2.1.1)]
   refine ⟨trm_ok hm hk hs hp hi, fun _ _ => ⟨fun h1 => .oe (opd_eq c t i).symm (by simpa using h1), fun h1 => ?_⟩⟩
   have h0 : tmA c.1 c.2.1 t i = 0 := by rw [← opd_eq]; simpa using h1
   exact RunI.oe (ih fun j h => (Nat.lt_succ_iff_lt_or_eq.mp h).elim (ha j) (fun e => e ▸ h0)) h0)
def qfn : Con := con [.d qaj, .d qah] I (fun x => okSg x.1.1) fun x => tmEc x.1 x.2.1
theorem m_machine_checker_terminator (c : Den qaj) (t : Den qah) (h_c : okD qaj c) (h_t : okD qah t) (hp : okSg c.1) : Runs E_V38 (start E_V38 qat [(.tv qaj c), (.tv qah t)]) (fun r_ h_ => r_ = (vi (tmEc c t)) ∧ h_ = []) := .tree qid (machine_checker_terminator_t c t) (by
 have hr : ln qaa c.1.2.1 < 9223372036854775807 := qar h_c.1.2.1.1
 show Tre.wp (contL _ (IsI (tmE c.1 c.2.1 t))) _
 simp only [sS, implies_true]
 rw [trm_head c t hr]
 refine fun _ _ _ _ => ⟨fun h => .of ?_, fun h => ?_⟩
 ·unfold tmE
  revert h
  cases tmK t <;> cases tmS c.1 t <;> cases tmL t <;> intro h <;> first | rfl | exact absurd h (by decide)
 ·have h0 : tmK t = false ∧ tmS c.1 t = false ∧ tmL t = false := by
   revert h
   cases tmK t <;> cases tmS c.1 t <;> cases tmL t <;> intro h <;> first | exact ⟨rfl, rfl, rfl⟩ | exact absurd h (by decide)
  obtain ⟨h1, h2, h3⟩ := h0
  have hk := tmK_ok h1
  have hs := tmS_ok h2
  have hE : tmE c.1 c.2.1 t = tmC c.1 c.2.1 t := (Bool.cond_neg h1).trans ((Bool.cond_neg h2).trans (Bool.cond_neg h3))
  rw [hE, shm_eq hk]
  refine ⟨hs, fun _ => ⟨fun h4 => .of (Bool.cond_pos h4), fun h4 => (machine_checker_terminator_l0 c t h_c h_t hp hk hs (by simpa using h4) 0 (Nat.zero_le _) (fun j h => absurd h (Nat.not_lt_zero _))).eq (Bool.cond_neg h4)⟩⟩)
theorem c_machine_checker_terminator : qal E_V38 qat qfn.spec := qan fun x hx hp => ⟨rfl, m_machine_checker_terminator x.1 x.2.1 hx.1 hx.2.1 hp⟩
theorem r50_terminator_l2 (f : MFn) (t : Trm) (ht : okD qah t) : ∀ i, i ≤ ln qae t.2.2.2.1 → RunI E_V38 (qgr f t.2.2.2.1 (ln qae t.2.2.2.1 : Nat) i) (qao (tmG f t.2.2.2.1) (ln qae t.2.2.2.1 - i) i) :=
 qay (.tree qid (r50_terminator_L2_t ..) (by
  rw [Nat.sub_self, qao]
  simp only [sS, sL,  Nat.lt_irrefl]
  exact ⟨rfl, rfl⟩))
  fun i hi ih => .tree qid (r50_terminator_L2_t ..) (by
   rw [sub1 hi]
   simp only [sS, sL,  hi, wrapS hi (qar ht.2.2.2.1.1)]
   exact ⟨fun h1 => .fe (Bool.cond_pos h1) rfl, fun h1 => ⟨fun h2 => .fe ((Bool.cond_neg h1).trans (Bool.cond_pos h2)) rfl, fun h2 => RunI.fe ih ((Bool.cond_neg h1).trans (Bool.cond_neg h2))⟩⟩)
theorem rgM_ok {f : MFn} {r : Int} (h : (!(rgM f r)) = false) (h0 : (z f.2.2.2.2.1 == (0 : Int)) = true) : 0 ≤ r ∧ r < (ln I f.2.2.2.1 : Nat) := by
 unfold rgM at h
 rw [h0] at h
 cases h1 : decide (r ≥ 0)
 ·rw [h1] at h; exact Bool.noConfusion h
 ·rw [h1] at h
  exact ⟨of_decide_eq_true h1, by simpa using h⟩
theorem r50_terminator_l0 (m : Md) (f : MFn) (t : Trm) (ht : okD qah t) (hm : okSg m) (hk : 1 ≤ z t.1 ∧ z t.1 ≤ 6) (hs : z t.1 = 6 → 0 ≤ z t.2.2.2.2.1 ∧ z t.2.2.2.2.1 < (ln qaa m.2.1 : Nat)) (hp : shpM m f t = true) : ∀ i, i ≤ ln I t.2.1 → (∀ j, j < i → tmA m f t j = 0) → RunI E_V38 (qgs m f t t.2.1 (ln I t.2.1 : Nat) i) (orE (qao (tmA m f t) (ln I t.2.1 - i) i) (tmT m f t)) :=
 qay (fun ha => .tree qid (r50_terminator_L0_t ..) (by
  rw [Nat.sub_self, qao, show orE 0 (tmT m f t) = tmT m f t from rfl]
  simp only [sS, sL,  Nat.lt_irrefl]
  refine ⟨fun h => hs (beq_t h), fun _ => ⟨fun h1 => .of (Bool.cond_pos h1), fun h1 => ⟨cas_ok hk hp ha, fun _ _ => ⟨fun h2 => .of ((Bool.cond_neg h1).trans (orE_hit5 h2)), fun h2 => RunI.eq (r50_terminator_l2 f t ht 0 (Nat.zero_le _)) ((Bool.cond_neg h1).trans (orE_miss5 h2))⟩⟩⟩⟩))
  fun i hi ih ha => .tree qid (r50_terminator_L0_t ..) (by
   rw [sub1 hi]
   simp only [sS, sL,  hi, wrapS hi (qar ht.2.1.1)]
   refine ⟨fun h1 => .oe (x := 10) (Bool.cond_pos h1) rfl, fun h1 => ⟨fun h0 => rgM_ok h1 h0, fun _ => ⟨fun _ => trm_ok hm hk hs hp hi, fun _ => ⟨fun h2 => .oe (x := 9) ((Bool.cond_neg h1).trans (Bool.cond_pos h2)) rfl, fun h2 => ?_⟩⟩⟩⟩
   have h0 : tmA m f t i = 0 := (Bool.cond_neg h1).trans (Bool.cond_neg h2)
   exact RunI.oe (ih fun j h => (Nat.lt_succ_iff_lt_or_eq.mp h).elim (ha j) (fun e => e ▸ h0)) h0)
def k_r50_terminator : Con := con [.d qab, .d qag, .d qah] I (fun x => okSg x.1) fun x => tmE x.1 x.2.1 x.2.2.1
theorem m_r50_terminator (m : Den qab) (f : Den qag) (t : Den qah) (h_m : okD qab m) (h_f : okD qag f) (h_t : okD qah t) (hp : okSg m) : Runs E_V38 (start E_V38 qca [(.tv qab m), (.tv qag f), (.tv qah t)]) (fun r_ h_ => r_ = (vi (tmE m f t)) ∧ h_ = []) := .tree qid (r50_terminator_t m f t) (by
 show Tre.wp (contL _ (IsI (tmE m f t))) _
 simp only [sS, implies_true]
 refine ⟨fun h1 => .of (Bool.cond_pos h1), fun h1 => ⟨fun h2 => .of ((Bool.cond_neg h1).trans (Bool.cond_pos h2)), fun h2 => ⟨fun h3 => .of ((Bool.cond_neg h1).trans ((Bool.cond_neg h2).trans (Bool.cond_pos h3))), fun h3 => ?_⟩⟩⟩
 have hk := tmK_ok h1
 have hs := tmS_ok h2
 have hE : tmE m f t = tmC m f t := (Bool.cond_neg h1).trans ((Bool.cond_neg h2).trans (Bool.cond_neg h3))
 rw [hE]
 refine ⟨⟨hk, hs⟩, fun _ => ⟨fun h4 => .of (Bool.cond_pos h4), fun h4 => (r50_terminator_l0 m f t h_t hp hk hs (by simpa using h4) 0 (Nat.zero_le _) (fun j h => absurd h (Nat.not_lt_zero _))).eq (Bool.cond_neg h4)⟩⟩)
theorem c_r50_terminator : qal E_V38 qca k_r50_terminator.spec := qan fun x hx hp => ⟨rfl, m_r50_terminator x.1 x.2.1 x.2.2.1 hx.1 hx.2.1 hx.2.2.1 hp⟩
def L_V38 : List (FuncId × FSpec) := [(f_r50_instr, k_r50_instr.spec), (qci, k_machine_checker_instr.spec), (qat, qfn.spec), (qca, k_r50_terminator.spec)] ++ L_V37
theorem L_V38_ok : ∀ x ∈ L_V38, qal (ctx []) x.1 x.2 := by
 unfold L_V38
 simp only [List.cons_append, List.nil_append, List.forall_mem_cons]
 exact ⟨c_r50_instr, c_machine_checker_instr, c_machine_checker_terminator, c_r50_terminator, L_V37_ok⟩
end Burn.MC
namespace Burn.MC
open Go Go.BE Go.Proofs
set_option maxRecDepth 100000
set_option linter.unusedVariables false
set_option linter.unusedSimpArgs false
open Burn.Intn Burn.Ref
def mrg_V39 : FuncId → List Nat
 | 18 => [19, 28, 29, 39, 40, 54]
 | 21 => [14, 23, 24, 34, 35, 48]
 | _ => []
noncomputable abbrev E_V39 : Ctx := { ctx L_V38 with mrg := mrg_V39 }
theorem E_V39_ok : EOK E_V39 := have h : EOK (ctx L_V38) := qbo L_V38_ok; ⟨h.ty, h.env, h.fns, h.mixed⟩
def cuts_V39 : CutL := [([], 18, 0, [1, 3, 62, 63, 64], [], []),
 ([], 18, 2, [1, 3, 73, 74, 75], [], []),
 ([], 21, 0, [1, 50, 51, 52], [], []),
 ([], 21, 2, [1, 61, 62, 63], [], [])]
def rets_V39 : FuncId → List (Option Fx)
 | _ => []
def H_V39 : Hints := { cut := cutOf cuts_V39, ret := rets_V39 }
noncomputable def qda (c : Den qaj) (t62 : List (Den I)) (t63 : Int) (t64 : Int) (f_0 : ByteArray) (f_1 : List (Den I)) (f_2 : Int) (f_3 : List (Den I)) (f_4 : Int) (f_5 : Int) (f_6 : List (Den qac)) : Cfg := hcfg E_V39 qbc 0 [(1, (.rtp qaj c)), (3, (.ref 0 0)), (62, (.tv (.sl 8 I) t62)), (63, (vi t63)), (64, (vi t64))] [(0, ⟨(.cells [(vs f_0), (.tv (.sl 8 I) f_1), (vi f_2), (.tv (.sl 8 I) f_3), (vi f_4), (vi f_5), (.tv (.sl 136 qac) f_6)]), 0, [], false, none⟩)] 1
noncomputable def qcz (c : Den qaj) (t73 : List (Den I)) (t74 : Int) (t75 : Int) (f_0 : ByteArray) (f_1 : List (Den I)) (f_2 : Int) (f_3 : List (Den I)) (f_4 : Int) (f_5 : Int) (f_6 : List (Den qac)) : Cfg := hcfg E_V39 qbc 2 [(1, (.rtp qaj c)), (3, (.ref 0 0)), (73, (.tv (.sl 8 I) t73)), (74, (vi t74)), (75, (vi t75))] [(0, ⟨(.cells [(vs f_0), (.tv (.sl 8 I) f_1), (vi f_2), (.tv (.sl 8 I) f_3), (vi f_4), (vi f_5), (.tv (.sl 136 qac) f_6)]), 0, [], false, none⟩)] 1
theorem machine_checker_head_t (c : Den qaj) : run E_V39 H_V39 qbc 3000 (start E_V39 qbc [(.tv qaj c)]) = (.chk (True) (.chk (True) (.chk ((((z c.2.1.2.2.1) == (0 : Int)) = false → (True))) (.chk (True) (.chk (True) (.know (okD (.int .i64) (unlP (cond (cond (cond (decide ((z c.2.1.2.2.2.2.1) ≥ (0 : Int))) (decide ((z c.2.1.2.2.2.2.2.1) ≥ (0 : Int))) false) (cond (decide ((z c.2.1.2.2.2.2.1) > (0 : Int))) true ((z c.2.1.2.2.2.2.2.1) == (0 : Int))) false) (cond ((z c.2.1.2.2.2.2.1) == (0 : Int)) true (((ln I c.2.1.2.2.2.1) : Int) == (0 : Int))) false) (3 : Int))) (.know (okD (.int .i64) (unlP (decide (((ln qac c.2.1.2.2.2.2.2.2.1) : Int) > (0 : Int))) (4 : Int))) (.know (okD (.int .i64) (unlP (cond ((z c.2.1.2.2.1) == (0 : Int)) true (typP c.2.1.2.2.1)) (9 : Int))) (.know (okD (.int .i64) (fstF ([(unlP (cond (cond (cond (decide ((z c.2.1.2.2.2.2.1) ≥ (0 : Int))) (decide ((z c.2.1.2.2.2.2.2.1) ≥ (0 : Int))) false) (cond (decide ((z c.2.1.2.2.2.2.1) > (0 : Int))) true ((z c.2.1.2.2.2.2.2.1) == (0 : Int))) false) (cond ((z c.2.1.2.2.2.2.1) == (0 : Int)) true (((ln I c.2.1.2.2.2.1) : Int) == (0 : Int))) false) (3 : Int)), (unlP (decide (((ln qac c.2.1.2.2.2.2.2.2.1) : Int) > (0 : Int))) (4 : Int)), (unlP (cond ((z c.2.1.2.2.1) == (0 : Int)) true (typP c.2.1.2.2.1)) (9 : Int))] : List (Den I)))) (cond ((fstF ([(unlP (cond (cond (cond (decide ((z c.2.1.2.2.2.2.1) ≥ (0 : Int))) (decide ((z c.2.1.2.2.2.2.2.1) ≥ (0 : Int))) false) (cond (decide ((z c.2.1.2.2.2.2.1) > (0 : Int))) true ((z c.2.1.2.2.2.2.2.1) == (0 : Int))) false) (cond ((z c.2.1.2.2.2.2.1) == (0 : Int)) true (((ln I c.2.1.2.2.2.1) : Int) == (0 : Int))) false) (3 : Int)), (unlP (decide (((ln qac c.2.1.2.2.2.2.2.2.1) : Int) > (0 : Int))) (4 : Int)), (unlP (cond ((z c.2.1.2.2.1) == (0 : Int)) true (typP c.2.1.2.2.1)) (9 : Int))] : List (Den I))) != (0 : Int)) (rt (vi (fstF ([(unlP (cond (cond (cond (decide ((z c.2.1.2.2.2.2.1) ≥ (0 : Int))) (decide ((z c.2.1.2.2.2.2.2.1) ≥ (0 : Int))) false) (cond (decide ((z c.2.1.2.2.2.2.1) > (0 : Int))) true ((z c.2.1.2.2.2.2.2.1) == (0 : Int))) false) (cond ((z c.2.1.2.2.2.2.1) == (0 : Int)) true (((ln I c.2.1.2.2.2.1) : Int) == (0 : Int))) false) (3 : Int)), (unlP (decide (((ln qac c.2.1.2.2.2.2.2.2.1) : Int) > (0 : Int))) (4 : Int)), (unlP (cond ((z c.2.1.2.2.1) == (0 : Int)) true (typP c.2.1.2.2.1)) (9 : Int))] : List (Den I)))) []) (hd (qda c c.2.1.2.2.2.1 ((ln I c.2.1.2.2.2.1) : Int) (0 : Int) (tOf c.2.1.1) c.2.1.2.1 (z c.2.1.2.2.1) c.2.1.2.2.2.1 (z c.2.1.2.2.2.2.1) (z c.2.1.2.2.2.2.2.1) c.2.1.2.2.2.2.2.2.1)))))))))))) := by kernel_rfl
theorem qhk (c : Den qaj) (t62 : List (Den I)) (t63 : Int) (t64 : Int) (f_0 : ByteArray) (f_1 : List (Den I)) (f_2 : Int) (f_3 : List (Den I)) (f_4 : Int) (f_5 : Int) (f_6 : List (Den qac)) : run E_V39 H_V39 qbc 3000 (qda c t62 t63 t64 f_0 f_1 f_2 f_3 f_4 f_5 f_6) = (cond (decide (t64 < t63)) (.chk (0 ≤ t64 ∧ t64 < (ln I t62)) (.chk (True) (.know True (cond (!(typP (gd I t62 t64.toNat))) (rt (vi (9 : Int)) []) (hd (qda c t62 t63 (IntKind.wrap .i64 (t64 + (1 : Int))) f_0 f_1 f_2 f_3 f_4 f_5 f_6)))))) (hd (qcz c f_1 ((ln I f_1) : Int) (0 : Int) f_0 f_1 f_2 f_3 f_4 f_5 f_6))) := by kernel_rfl
theorem qhj (c : Den qaj) (t73 : List (Den I)) (t74 : Int) (t75 : Int) (f_0 : ByteArray) (f_1 : List (Den I)) (f_2 : Int) (f_3 : List (Den I)) (f_4 : Int) (f_5 : Int) (f_6 : List (Den qac)) : run E_V39 H_V39 qbc 3000 (qcz c t73 t74 t75 f_0 f_1 f_2 f_3 f_4 f_5 f_6) = (cond (decide (t75 < t74)) (.chk (0 ≤ t75 ∧ t75 < (ln I t73)) (.chk (True) (.chk (True) (.chk (0 ≤ (0 : Int) ∧ (0 : Int) ≤ t75 ∧ t75 ≤ ((ln I f_1) : Int)) (.chk (True) (.chk (True) (.chk (True) (.know True (.know (okD (.int .i64) (unlP (regC c (gd I t73 t75.toNat)) (10 : Int))) (.know True (.know (okD (.int .i64) (unlP (!(hasI (wn I f_1 (0 : Nat) (t75.toNat - (0 : Nat))) (gd I t73 t75.toNat))) (7 : Int))) (.know (okD (.int .i64) (fstF ([(unlP (regC c (gd I t73 t75.toNat)) (10 : Int)), (unlP (!(hasI (wn I f_1 (0 : Nat) (t75.toNat - (0 : Nat))) (gd I t73 t75.toNat))) (7 : Int))] : List (Den I)))) (cond ((fstF ([(unlP (regC c (gd I t73 t75.toNat)) (10 : Int)), (unlP (!(hasI (wn I f_1 (0 : Nat) (t75.toNat - (0 : Nat))) (gd I t73 t75.toNat))) (7 : Int))] : List (Den I))) != (0 : Int)) (rt (vi (fstF ([(unlP (regC c (gd I t73 t75.toNat)) (10 : Int)), (unlP (!(hasI (wn I f_1 (0 : Nat) (t75.toNat - (0 : Nat))) (gd I t73 t75.toNat))) (7 : Int))] : List (Den I)))) []) (hd (qcz c t73 t74 (IntKind.wrap .i64 (t75 + (1 : Int))) f_0 f_1 f_2 f_3 f_4 f_5 f_6))))))))))))))) (rt (vi (0 : Int)) [])) := by kernel_rfl
noncomputable def r50_head_L0 (f : Den qag) (t50 : List (Den I)) (t51 : Int) (t52 : Int) : Cfg := hcfg E_V39 qgu 0 [(1, (.rtp qag f)), (50, (.tv (.sl 8 I) t50)), (51, (vi t51)), (52, (vi t52))] [] 0
noncomputable def r50_head_L2 (f : Den qag) (t61 : List (Den I)) (t62 : Int) (t63 : Int) : Cfg := hcfg E_V39 qgu 2 [(1, (.rtp qag f)), (61, (.tv (.sl 8 I) t61)), (62, (vi t62)), (63, (vi t63))] [] 0
theorem r50_head_t (f : Den qag) : run E_V39 H_V39 qgu 3000 (start E_V39 qgu [(.tv qag f)]) = (cond (cond (cond (cond (decide ((z f.2.2.2.2.1) < (0 : Int))) true (decide ((z f.2.2.2.2.2.1) < (0 : Int)))) true (cond ((z f.2.2.2.2.1) == (0 : Int)) ((z f.2.2.2.2.2.1) != (0 : Int)) false)) true (cond ((z f.2.2.2.2.1) != (0 : Int)) (decide (((ln I f.2.2.2.1) : Int) > (0 : Int))) false)) (rt (vi (3 : Int)) []) (cond (((ln qac f.2.2.2.2.2.2.1) : Int) == (0 : Int)) (rt (vi (4 : Int)) []) (.chk ((((z f.2.2.1) != (0 : Int)) = true → (True))) (cond (cond ((z f.2.2.1) != (0 : Int)) (!(typP f.2.2.1)) false) (rt (vi (9 : Int)) []) (hd (r50_head_L0 f f.2.2.2.1 ((ln I f.2.2.2.1) : Int) (0 : Int))))))) := by kernel_rfl
theorem r50_head_L0_t (f : Den qag) (t50 : List (Den I)) (t51 : Int) (t52 : Int) : run E_V39 H_V39 qgu 3000 (r50_head_L0 f t50 t51 t52) = (cond (decide (t52 < t51)) (.chk (0 ≤ t52 ∧ t52 < (ln I t50)) (.chk (True) (.know True (cond (!(typP (gd I t50 t52.toNat))) (rt (vi (9 : Int)) []) (hd (r50_head_L0 f t50 t51 (IntKind.wrap .i64 (t52 + (1 : Int))))))))) (hd (r50_head_L2 f f.2.1 ((ln I f.2.1) : Int) (0 : Int)))) := by kernel_rfl
theorem r50_head_L2_t (f : Den qag) (t61 : List (Den I)) (t62 : Int) (t63 : Int) : run E_V39 H_V39 qgu 3000 (r50_head_L2 f t61 t62 t63) = (cond (decide (t63 < t62)) (.chk (0 ≤ t63 ∧ t63 < (ln I t61)) (.chk (True) (.know True (cond (!(rgM f (gd I t61 t63.toNat))) (rt (vi (10 : Int)) []) (.chk (0 ≤ (0 : Int) ∧ (0 : Int) ≤ t63 ∧ t63 ≤ ((ln I f.2.1) : Int)) (.chk (True) (.know True (cond (hasI (wn I f.2.1 (0 : Nat) (t63.toNat - (0 : Nat))) (gd I t61 t63.toNat)) (rt (vi (7 : Int)) []) (hd (r50_head_L2 f t61 t62 (IntKind.wrap .i64 (t63 + (1 : Int))))))))))))) (rt (vi (0 : Int)) [])) := by kernel_rfl
def hdB (f : MFn) : Bool := cond (cond (cond (decide (z f.2.2.2.2.1 < (0 : Int))) true (decide (z f.2.2.2.2.2.1 < (0 : Int)))) true (cond (z f.2.2.2.2.1 == (0 : Int)) (z f.2.2.2.2.2.1 != (0 : Int)) false)) true (cond (z f.2.2.2.2.1 != (0 : Int)) (decide ((ln I f.2.2.2.1 : Int) > (0 : Int))) false)
def hdP (f : MFn) (i : Nat) : Int := cond (!(rgM f (gd I f.2.1 i))) 10 (cond (hasI (wn I f.2.1 0 i) (gd I f.2.1 i)) 7 0)
def hdT (f : MFn) : Int := orE (tyE f.2.2.2.1) (qao (hdP f) (ln I f.2.1) 0)
def hdM (f : MFn) : Int := cond (hdB f) 3 (cond ((ln qac f.2.2.2.2.2.2.1 : Int) == (0 : Int)) 4 (cond (cond (z f.2.2.1 != (0 : Int)) (!(typP f.2.2.1)) false) 9 (hdT f)))
def hdC (c : Chr) : Int := hdM c.2.1
theorem hd_head (f : MFn) : fstF ([unlP (cond (cond (cond (decide (z f.2.2.2.2.1 ≥ (0 : Int))) (decide (z f.2.2.2.2.2.1 ≥ (0 : Int))) false) (cond (decide (z f.2.2.2.2.1 > (0 : Int))) true (z f.2.2.2.2.2.1 == (0 : Int))) false) (cond (z f.2.2.2.2.1 == (0 : Int)) true ((ln I f.2.2.2.1 : Int) == (0 : Int))) false) 3, unlP (decide ((ln qac f.2.2.2.2.2.2.1 : Int) > (0 : Int))) 4, unlP (cond (z f.2.2.1 == (0 : Int)) true (typP f.2.2.1)) 9] : List (Den I)) = cond (hdB f) 3 (cond ((ln qac f.2.2.2.2.2.2.1 : Int) == (0 : Int)) 4 (cond (cond (z f.2.2.1 != (0 : Int)) (!(typP f.2.2.1)) false) 9 0)) := by
 have e1 : cond (cond (cond (decide (z f.2.2.2.2.1 ≥ (0 : Int))) (decide (z f.2.2.2.2.2.1 ≥ (0 : Int))) false) (cond (decide (z f.2.2.2.2.1 > (0 : Int))) true (z f.2.2.2.2.2.1 == (0 : Int))) false) (cond (z f.2.2.2.2.1 == (0 : Int)) true ((ln I f.2.2.2.1 : Int) == (0 : Int))) false = !(hdB f) := by
  have : (hdB f = true) ↔ ¬ (cond (cond (cond (decide (z f.2.2.2.2.1 ≥ (0 : Int))) (decide (z f.2.2.2.2.2.1 ≥ (0 : Int))) false) (cond (decide (z f.2.2.2.2.1 > (0 : Int))) true (z f.2.2.2.2.2.1 == (0 : Int))) false) (cond (z f.2.2.2.2.1 == (0 : Int)) true ((ln I f.2.2.2.1 : Int) == (0 : Int))) false = true) := by
   unfold hdB
   simp only [cond_iff, decide_eq_true_eq, beq_iff_eq, bne_iff_ne, ne_eq, true_and, and_true, Bool.false_eq_true, and_false, or_false]
   omega
  cases hb : hdB f
  ·rw [hb] at this
   have h2 := Classical.not_not.mp (fun h => absurd (this.mpr h) (by decide))
   rw [h2]; rfl
  ·rw [hb] at this
   have h2 := this.mp rfl
   rw [Bool.not_eq_true] at h2
   rw [h2]; rfl
 have e2 : decide ((ln qac f.2.2.2.2.2.2.1 : Int) > (0 : Int)) = !((ln qac f.2.2.2.2.2.2.1 : Int) == (0 : Int)) := by
  cases h : (ln qac f.2.2.2.2.2.2.1 : Int) == 0 <;> simp at h ⊢ <;> omega
 rw [e1, e2]
 unfold bne
 cases hdB f <;> cases (ln qac f.2.2.2.2.2.2.1 : Int) == (0 : Int) <;> cases z f.2.2.1 == (0 : Int) <;> cases typP f.2.2.1 <;> rfl
theorem machine_checker_head_l2 (c : Chr) (hc : okD qaj c) : ∀ i, i ≤ ln I c.2.1.2.1 → RunI E_V39 (qcz c c.2.1.2.1 (ln I c.2.1.2.1 : Nat) i (tOf c.2.1.1) c.2.1.2.1 (z c.2.1.2.2.1) c.2.1.2.2.2.1 (z c.2.1.2.2.2.2.1) (z c.2.1.2.2.2.2.2.1) c.2.1.2.2.2.2.2.2.1) (qao (hdP c.2.1) (ln I c.2.1.2.1 - i) i) :=
 qay (.tree E_V39_ok (qhj ..) (by
  rw [Nat.sub_self, qao]
  simp only [sS, sL,  Nat.lt_irrefl]
  exact ⟨rfl, rfl⟩))
  fun i hi ih => .tree E_V39_ok (qhj ..) (by
   rw [sub1 hi]
   simp only [sS, sL,  hi, wrapS hi (qar hc.2.1.2.1.1)]
   refine ⟨⟨Int.le_refl _, Nat.le_of_lt hi⟩, fun _ _ _ _ => fe_both ?_ ih⟩
   unfold hdP regC
   rw [Nat.sub_zero]
   cases rgM c.2.1 (gd I c.2.1.2.1 i) <;> cases hasI (wn I c.2.1.2.1 0 i) (gd I c.2.1.2.1 i) <;> rfl)
theorem machine_checker_head_l0 (c : Chr) (hc : okD qaj c) : ∀ i, i ≤ ln I c.2.1.2.2.2.1 → RunI E_V39 (qda c c.2.1.2.2.2.1 (ln I c.2.1.2.2.2.1 : Nat) i (tOf c.2.1.1) c.2.1.2.1 (z c.2.1.2.2.1) c.2.1.2.2.2.1 (z c.2.1.2.2.2.2.1) (z c.2.1.2.2.2.2.2.1) c.2.1.2.2.2.2.2.2.1) (orE (qao (tyI c.2.1.2.2.2.1) (ln I c.2.1.2.2.2.1 - i) i) (qao (hdP c.2.1) (ln I c.2.1.2.1) 0)) :=
 qay (.tree E_V39_ok (qhk ..) (by
  rw [Nat.sub_self, qao]
  simp only [sS, sL,  Nat.lt_irrefl]
  exact machine_checker_head_l2 c hc 0 (Nat.zero_le _)))
  fun i hi ih => .tree E_V39_ok (qhk ..) (by
   rw [sub1 hi]
   simp only [sS, sL,  hi, wrapS hi (qar hc.2.1.2.2.2.1.1)]
   exact ⟨fun h1 => .oe (x := 9) (Bool.cond_pos h1) rfl, fun h1 => RunI.oe ih (Bool.cond_neg h1)⟩)
def k_machine_checker_head : Con := con [.d qaj] I (fun x => True) fun x => hdC x.1
theorem m_machine_checker_head (c : Den qaj) (h_c : okD qaj c) (hp : True) : Runs E_V39 (start E_V39 qbc [(.tv qaj c)]) (fun r_ h_ => r_ = (vi (hdC c)) ∧ h_ = []) := .tree E_V39_ok (machine_checker_head_t c) (by
 show Tre.wp (contL _ (IsI (hdM c.2.1))) _
 simp only [sS, implies_true]
 rw [hd_head c.2.1]
 refine fun _ _ _ _ => ⟨fun h => .of ?_, fun h => ?_⟩
 ·unfold hdM
  revert h
  cases hdB c.2.1 <;> cases (ln qac c.2.1.2.2.2.2.2.2.1 : Int) == 0 <;> cases cond (z c.2.1.2.2.1 != (0 : Int)) (!(typP c.2.1.2.2.1)) false <;> intro h <;> first | rfl | exact absurd h (by decide)
 ·have h0 : hdB c.2.1 = false ∧ ((ln qac c.2.1.2.2.2.2.2.2.1 : Int) == 0) = false ∧ cond (z c.2.1.2.2.1 != (0 : Int)) (!(typP c.2.1.2.2.1)) false = false := by
   revert h
   cases hdB c.2.1 <;> cases (ln qac c.2.1.2.2.2.2.2.2.1 : Int) == 0 <;> cases cond (z c.2.1.2.2.1 != (0 : Int)) (!(typP c.2.1.2.2.1)) false <;> intro h <;> first | exact ⟨rfl, rfl, rfl⟩ | exact absurd h (by decide)
  exact (machine_checker_head_l0 c h_c 0 (Nat.zero_le _)).eq ((Bool.cond_neg h0.1).trans ((Bool.cond_neg h0.2.1).trans (Bool.cond_neg h0.2.2))))
theorem c_machine_checker_head : qal E_V39 qbc k_machine_checker_head.spec := qan fun x hx hp => ⟨rfl, m_machine_checker_head x.1 hx.1 hp⟩
theorem r50_head_l2 (f : MFn) (hf : okD qag f) : ∀ i, i ≤ ln I f.2.1 → RunI E_V39 (r50_head_L2 f f.2.1 (ln I f.2.1 : Nat) i) (qao (hdP f) (ln I f.2.1 - i) i) :=
 qay (.tree E_V39_ok (r50_head_L2_t ..) (by
  rw [Nat.sub_self, qao]
  simp only [sS, sL,  Nat.lt_irrefl]
  exact ⟨rfl, rfl⟩))
  fun i hi ih => .tree E_V39_ok (r50_head_L2_t ..) (by
   rw [sub1 hi]
   simp only [sS, sL,  hi, wrapS hi (qar hf.2.1.1)]
   exact ⟨fun h1 => .fe (x := 10) (Bool.cond_pos h1) rfl, fun h1 => ⟨⟨Int.le_refl _, Nat.le_of_lt hi⟩, fun _ => ⟨fun h2 => .fe (x := 7) ((Bool.cond_neg h1).trans (Bool.cond_pos h2)) rfl, fun h2 => RunI.fe ih ((Bool.cond_neg h1).trans (Bool.cond_neg h2))⟩⟩⟩)
theorem r50_head_l0 (f : MFn) (hf : okD qag f) : ∀ i, i ≤ ln I f.2.2.2.1 → RunI E_V39 (r50_head_L0 f f.2.2.2.1 (ln I f.2.2.2.1 : Nat) i) (orE (qao (tyI f.2.2.2.1) (ln I f.2.2.2.1 - i) i) (qao (hdP f) (ln I f.2.1) 0)) :=
 qay (.tree E_V39_ok (r50_head_L0_t ..) (by
  rw [Nat.sub_self, qao]
  simp only [sS, sL,  Nat.lt_irrefl]
  exact r50_head_l2 f hf 0 (Nat.zero_le _)))
  fun i hi ih => .tree E_V39_ok (r50_head_L0_t ..) (by
   rw [sub1 hi]
   simp only [sS, sL,  hi, wrapS hi (qar hf.2.2.2.1.1)]
   exact ⟨fun h1 => .oe (x := 9) (Bool.cond_pos h1) rfl, fun h1 => RunI.oe ih (Bool.cond_neg h1)⟩)
def k_r50_head : Con := con [.d qag] I (fun x => True) fun x => hdM x.1
theorem m_r50_head (f : Den qag) (h_f : okD qag f) (hp : True) : Runs E_V39 (start E_V39 qgu [(.tv qag f)]) (fun r_ h_ => r_ = (vi (hdM f)) ∧ h_ = []) := .tree E_V39_ok (r50_head_t f) (by
 show Tre.wp (contL _ (IsI (hdM f))) _
 simp only [sS, implies_true]
 exact ⟨fun h1 => .of (Bool.cond_pos h1), fun h1 => ⟨fun h2 => .of ((Bool.cond_neg h1).trans (Bool.cond_pos h2)), fun h2 => ⟨fun h3 => .of ((Bool.cond_neg h1).trans ((Bool.cond_neg h2).trans (Bool.cond_pos h3))), fun h3 => (r50_head_l0 f h_f 0 (Nat.zero_le _)).eq ((Bool.cond_neg h1).trans ((Bool.cond_neg h2).trans (Bool.cond_neg h3)))⟩⟩⟩)
theorem c_r50_head : qal E_V39 qgu k_r50_head.spec := qan fun x hx hp => ⟨rfl, m_r50_head x.1 hx.1 hp⟩
def L_V39 : List (FuncId × FSpec) := [(qbc, k_machine_checker_head.spec), (qgu, k_r50_head.spec)] ++ L_V38
theorem L_V39_ok : ∀ x ∈ L_V39, qal (ctx []) x.1 x.2 := by
 unfold L_V39
 simp only [List.cons_append, List.nil_append, List.forall_mem_cons]
 exact ⟨c_machine_checker_head, c_r50_head, L_V38_ok⟩
end Burn.MC

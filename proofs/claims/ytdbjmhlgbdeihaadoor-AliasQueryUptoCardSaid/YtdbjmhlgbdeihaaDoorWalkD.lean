/- What the functions that the law reaches compute, one contract each. No conditions beyond those written. -/
import Derived.Test.YtdbjmhlgbdeihaaDoorWalkC
namespace Burn.M27Q
open Go Go.BE Go.Proofs
set_option maxRecDepth 100000
set_option linter.unusedVariables false
set_option linter.unusedSimpArgs false
open Burn.Cfg Burn.Intn Burn.Ref
noncomputable abbrev E_A22 : Ctx := ctx L_A21
theorem E_A22_ok : EOK E_A22 := ctx_ok L_A21_ok
def cuts_A22 : CutL := []
def rets_A22 : FuncId → List (Option Fx)
  | _ => []
def H_A22 : Hints := { cut := cutOf cuts_A22, ret := rets_A22 }
theorem r27_accessed_t (f : Den s_api_Func) (at_ : Den s_api_Pos) : run E_A22 H_A22 f_r27_accessed 3000 (start E_A22 f_r27_accessed [(.tv s_api_Func f), (.tv s_api_Pos at_)]) = (.chk (True) (cond (!(insideF f at_)) (.know True (rt (.tup [(vi (0 : Int)), (vi (0 : Int)), (vi (0 : Int))]) [])) (cond (decide ((z at_.2.1) < (0 : Int))) (.know True (rt (.tup [(vi (0 : Int)), (vi (0 : Int)), (vi (0 : Int))]) [])) (.chk (0 ≤ (z at_.1) ∧ (z at_.1) < (ln s_api_Block f.2.2.2.2.1)) (.know True (cond (decide ((z at_.2.1) ≥ ((ln s_api_Instr (((gd s_api_Block f.2.2.2.2.1 (((z at_.1)).toNat)).2).1)) : Int))) (rt (.tup [(vi (0 : Int)), (vi (0 : Int)), (vi (0 : Int))]) []) (.chk (0 ≤ (z at_.1) ∧ (z at_.1) < (ln s_api_Block f.2.2.2.2.1)) (.chk (0 ≤ (z at_.2.1) ∧ (z at_.2.1) < (ln s_api_Instr (((gd s_api_Block f.2.2.2.2.1 (((z at_.1)).toNat)).2).1))) (cond ((z ((gd s_api_Instr (((gd s_api_Block f.2.2.2.2.1 (((z at_.1)).toNat)).2).1) (((z at_.2.1)).toNat)).1)) != (28 : Int)) (cond ((z ((gd s_api_Instr (((gd s_api_Block f.2.2.2.2.1 (((z at_.1)).toNat)).2).1) (((z at_.2.1)).toNat)).1)) != (29 : Int)) (rt (.tup [(vi (0 : Int)), (vi (0 : Int)), (vi (0 : Int))]) []) (cond (((ln I (((((gd s_api_Instr (((gd s_api_Block f.2.2.2.2.1 (((z at_.1)).toNat)).2).1) (((z at_.2.1)).toNat)).2).2).2).1)) : Int) == (0 : Int)) (rt (.tup [(vi (0 : Int)), (vi (0 : Int)), (vi (0 : Int))]) []) (.chk (0 ≤ (0 : Int) ∧ (0 : Int) < (ln I (((((gd s_api_Instr (((gd s_api_Block f.2.2.2.2.1 (((z at_.1)).toNat)).2).1) (((z at_.2.1)).toNat)).2).2).2).1))) (.chk (True) (.know True (cond (!(ptrR f (gd I (((((gd s_api_Instr (((gd s_api_Block f.2.2.2.2.1 (((z at_.1)).toNat)).2).1) (((z at_.2.1)).toNat)).2).2).2).1) (0 : Nat)))) (rt (.tup [(vi (0 : Int)), (vi (0 : Int)), (vi (0 : Int))]) []) (cond ((z ((gd s_api_Instr (((gd s_api_Block f.2.2.2.2.1 (((z at_.1)).toNat)).2).1) (((z at_.2.1)).toNat)).1)) == (29 : Int)) (cond (decide (((ln I (((((gd s_api_Instr (((gd s_api_Block f.2.2.2.2.1 (((z at_.1)).toNat)).2).1) (((z at_.2.1)).toNat)).2).2).2).1)) : Int) < (2 : Int))) (rt (.tup [(vi (0 : Int)), (vi (0 : Int)), (vi (0 : Int))]) []) (.chk (0 ≤ (1 : Int) ∧ (1 : Int) < (ln I (((((gd s_api_Instr (((gd s_api_Block f.2.2.2.2.1 (((z at_.1)).toNat)).2).1) (((z at_.2.1)).toNat)).2).2).2).1))) (cond (decide ((z (gd I (((((gd s_api_Instr (((gd s_api_Block f.2.2.2.2.1 (((z at_.1)).toNat)).2).1) (((z at_.2.1)).toNat)).2).2).2).1) (1 : Nat))) < (0 : Int))) (rt (.tup [(vi (0 : Int)), (vi (0 : Int)), (vi (0 : Int))]) []) (.chk (0 ≤ (1 : Int) ∧ (1 : Int) < (ln I (((((gd s_api_Instr (((gd s_api_Block f.2.2.2.2.1 (((z at_.1)).toNat)).2).1) (((z at_.2.1)).toNat)).2).2).2).1))) (cond (decide ((z (gd I (((((gd s_api_Instr (((gd s_api_Block f.2.2.2.2.1 (((z at_.1)).toNat)).2).1) (((z at_.2.1)).toNat)).2).2).2).1) (1 : Nat))) ≥ ((ln I f.2.2.2.1) : Int))) (rt (.tup [(vi (0 : Int)), (vi (0 : Int)), (vi (0 : Int))]) []) (.chk (0 ≤ (1 : Int) ∧ (1 : Int) < (ln I (((((gd s_api_Instr (((gd s_api_Block f.2.2.2.2.1 (((z at_.1)).toNat)).2).1) (((z at_.2.1)).toNat)).2).2).2).1))) (.chk (0 ≤ (z (gd I (((((gd s_api_Instr (((gd s_api_Block f.2.2.2.2.1 (((z at_.1)).toNat)).2).1) (((z at_.2.1)).toNat)).2).2).2).1) (1 : Nat))) ∧ (z (gd I (((((gd s_api_Instr (((gd s_api_Block f.2.2.2.2.1 (((z at_.1)).toNat)).2).1) (((z at_.2.1)).toNat)).2).2).2).1) (1 : Nat))) < (ln I f.2.2.2.1)) (.chk (True) (.know (okAVs [(vi (z ((accR (gd I f.2.2.2.1 (((z (gd I (((((gd s_api_Instr (((gd s_api_Block f.2.2.2.2.1 (((z at_.1)).toNat)).2).1) (((z at_.2.1)).toNat)).2).2).2).1) (1 : Nat)))).toNat))).1))), (vi (z ((accR (gd I f.2.2.2.1 (((z (gd I (((((gd s_api_Instr (((gd s_api_Block f.2.2.2.2.1 (((z at_.1)).toNat)).2).1) (((z at_.2.1)).toNat)).2).2).2).1) (1 : Nat)))).toNat))).2)))]) (.chk (0 ≤ (0 : Int) ∧ (0 : Int) < (ln I (((((gd s_api_Instr (((gd s_api_Block f.2.2.2.2.1 (((z at_.1)).toNat)).2).1) (((z at_.2.1)).toNat)).2).2).2).1))) (rt (.tup [(vi (z (gd I (((((gd s_api_Instr (((gd s_api_Block f.2.2.2.2.1 (((z at_.1)).toNat)).2).1) (((z at_.2.1)).toNat)).2).2).2).1) (0 : Nat)))), (vi (z ((accR (gd I f.2.2.2.1 (((z (gd I (((((gd s_api_Instr (((gd s_api_Block f.2.2.2.2.1 (((z at_.1)).toNat)).2).1) (((z at_.2.1)).toNat)).2).2).2).1) (1 : Nat)))).toNat))).1))), (vi (z ((accR (gd I f.2.2.2.1 (((z (gd I (((((gd s_api_Instr (((gd s_api_Block f.2.2.2.2.1 (((z at_.1)).toNat)).2).1) (((z at_.2.1)).toNat)).2).2).2).1) (1 : Nat)))).toNat))).2)))]) []))))))))))) (.chk (True) (.know (okAVs [(vi (z ((accR ((gd s_api_Instr (((gd s_api_Block f.2.2.2.2.1 (((z at_.1)).toNat)).2).1) (((z at_.2.1)).toNat)).2).1).1))), (vi (z ((accR ((gd s_api_Instr (((gd s_api_Block f.2.2.2.2.1 (((z at_.1)).toNat)).2).1) (((z at_.2.1)).toNat)).2).1).2)))]) (.chk (0 ≤ (0 : Int) ∧ (0 : Int) < (ln I (((((gd s_api_Instr (((gd s_api_Block f.2.2.2.2.1 (((z at_.1)).toNat)).2).1) (((z at_.2.1)).toNat)).2).2).2).1))) (rt (.tup [(vi (z (gd I (((((gd s_api_Instr (((gd s_api_Block f.2.2.2.2.1 (((z at_.1)).toNat)).2).1) (((z at_.2.1)).toNat)).2).2).2).1) (0 : Nat)))), (vi (z ((accR ((gd s_api_Instr (((gd s_api_Block f.2.2.2.2.1 (((z at_.1)).toNat)).2).1) (((z at_.2.1)).toNat)).2).1).1))), (vi (z ((accR ((gd s_api_Instr (((gd s_api_Block f.2.2.2.2.1 (((z at_.1)).toNat)).2).1) (((z at_.2.1)).toNat)).2).1).2)))]) []))))))))))) (cond (((ln I (((((gd s_api_Instr (((gd s_api_Block f.2.2.2.2.1 (((z at_.1)).toNat)).2).1) (((z at_.2.1)).toNat)).2).2).2).1)) : Int) == (0 : Int)) (rt (.tup [(vi (0 : Int)), (vi (0 : Int)), (vi (0 : Int))]) []) (.chk (0 ≤ (0 : Int) ∧ (0 : Int) < (ln I (((((gd s_api_Instr (((gd s_api_Block f.2.2.2.2.1 (((z at_.1)).toNat)).2).1) (((z at_.2.1)).toNat)).2).2).2).1))) (.chk (True) (.know True (cond (!(ptrR f (gd I (((((gd s_api_Instr (((gd s_api_Block f.2.2.2.2.1 (((z at_.1)).toNat)).2).1) (((z at_.2.1)).toNat)).2).2).2).1) (0 : Nat)))) (rt (.tup [(vi (0 : Int)), (vi (0 : Int)), (vi (0 : Int))]) []) (cond ((z ((gd s_api_Instr (((gd s_api_Block f.2.2.2.2.1 (((z at_.1)).toNat)).2).1) (((z at_.2.1)).toNat)).1)) == (29 : Int)) (cond (decide (((ln I (((((gd s_api_Instr (((gd s_api_Block f.2.2.2.2.1 (((z at_.1)).toNat)).2).1) (((z at_.2.1)).toNat)).2).2).2).1)) : Int) < (2 : Int))) (rt (.tup [(vi (0 : Int)), (vi (0 : Int)), (vi (0 : Int))]) []) (.chk (0 ≤ (1 : Int) ∧ (1 : Int) < (ln I (((((gd s_api_Instr (((gd s_api_Block f.2.2.2.2.1 (((z at_.1)).toNat)).2).1) (((z at_.2.1)).toNat)).2).2).2).1))) (cond (decide ((z (gd I (((((gd s_api_Instr (((gd s_api_Block f.2.2.2.2.1 (((z at_.1)).toNat)).2).1) (((z at_.2.1)).toNat)).2).2).2).1) (1 : Nat))) < (0 : Int))) (rt (.tup [(vi (0 : Int)), (vi (0 : Int)), (vi (0 : Int))]) []) (.chk (0 ≤ (1 : Int) ∧ (1 : Int) < (ln I (((((gd s_api_Instr (((gd s_api_Block f.2.2.2.2.1 (((z at_.1)).toNat)).2).1) (((z at_.2.1)).toNat)).2).2).2).1))) (cond (decide ((z (gd I (((((gd s_api_Instr (((gd s_api_Block f.2.2.2.2.1 (((z at_.1)).toNat)).2).1) (((z at_.2.1)).toNat)).2).2).2).1) (1 : Nat))) ≥ ((ln I f.2.2.2.1) : Int))) (rt (.tup [(vi (0 : Int)), (vi (0 : Int)), (vi (0 : Int))]) []) (.chk (0 ≤ (1 : Int) ∧ (1 : Int) < (ln I (((((gd s_api_Instr (((gd s_api_Block f.2.2.2.2.1 (((z at_.1)).toNat)).2).1) (((z at_.2.1)).toNat)).2).2).2).1))) (.chk (0 ≤ (z (gd I (((((gd s_api_Instr (((gd s_api_Block f.2.2.2.2.1 (((z at_.1)).toNat)).2).1) (((z at_.2.1)).toNat)).2).2).2).1) (1 : Nat))) ∧ (z (gd I (((((gd s_api_Instr (((gd s_api_Block f.2.2.2.2.1 (((z at_.1)).toNat)).2).1) (((z at_.2.1)).toNat)).2).2).2).1) (1 : Nat))) < (ln I f.2.2.2.1)) (.chk (True) (.know (okAVs [(vi (z ((accR (gd I f.2.2.2.1 (((z (gd I (((((gd s_api_Instr (((gd s_api_Block f.2.2.2.2.1 (((z at_.1)).toNat)).2).1) (((z at_.2.1)).toNat)).2).2).2).1) (1 : Nat)))).toNat))).1))), (vi (z ((accR (gd I f.2.2.2.1 (((z (gd I (((((gd s_api_Instr (((gd s_api_Block f.2.2.2.2.1 (((z at_.1)).toNat)).2).1) (((z at_.2.1)).toNat)).2).2).2).1) (1 : Nat)))).toNat))).2)))]) (.chk (0 ≤ (0 : Int) ∧ (0 : Int) < (ln I (((((gd s_api_Instr (((gd s_api_Block f.2.2.2.2.1 (((z at_.1)).toNat)).2).1) (((z at_.2.1)).toNat)).2).2).2).1))) (rt (.tup [(vi (z (gd I (((((gd s_api_Instr (((gd s_api_Block f.2.2.2.2.1 (((z at_.1)).toNat)).2).1) (((z at_.2.1)).toNat)).2).2).2).1) (0 : Nat)))), (vi (z ((accR (gd I f.2.2.2.1 (((z (gd I (((((gd s_api_Instr (((gd s_api_Block f.2.2.2.2.1 (((z at_.1)).toNat)).2).1) (((z at_.2.1)).toNat)).2).2).2).1) (1 : Nat)))).toNat))).1))), (vi (z ((accR (gd I f.2.2.2.1 (((z (gd I (((((gd s_api_Instr (((gd s_api_Block f.2.2.2.2.1 (((z at_.1)).toNat)).2).1) (((z at_.2.1)).toNat)).2).2).2).1) (1 : Nat)))).toNat))).2)))]) []))))))))))) (.chk (True) (.know (okAVs [(vi (z ((accR ((gd s_api_Instr (((gd s_api_Block f.2.2.2.2.1 (((z at_.1)).toNat)).2).1) (((z at_.2.1)).toNat)).2).1).1))), (vi (z ((accR ((gd s_api_Instr (((gd s_api_Block f.2.2.2.2.1 (((z at_.1)).toNat)).2).1) (((z at_.2.1)).toNat)).2).1).2)))]) (.chk (0 ≤ (0 : Int) ∧ (0 : Int) < (ln I (((((gd s_api_Instr (((gd s_api_Block f.2.2.2.2.1 (((z at_.1)).toNat)).2).1) (((z at_.2.1)).toNat)).2).2).2).1))) (rt (.tup [(vi (z (gd I (((((gd s_api_Instr (((gd s_api_Block f.2.2.2.2.1 (((z at_.1)).toNat)).2).1) (((z at_.2.1)).toNat)).2).2).2).1) (0 : Nat)))), (vi (z ((accR ((gd s_api_Instr (((gd s_api_Block f.2.2.2.2.1 (((z at_.1)).toNat)).2).1) (((z at_.2.1)).toNat)).2).1).1))), (vi (z ((accR ((gd s_api_Instr (((gd s_api_Block f.2.2.2.2.1 (((z at_.1)).toNat)).2).1) (((z at_.2.1)).toNat)).2).1).2)))]) []))))))))))))))))))) := by kernel_rfl
theorem ins_in {f : Fn} {p : Den s_api_Pos} (h : (!(insideF f p)) = false) : 0 ≤ z p.1 ∧ z p.1 < (ln s_api_Block f.2.2.2.2.1 : Int) := by
  have h : insideF f p = true := by simpa using h
  unfold insideF at h
  simp only [Bool.and_eq_true, decide_eq_true_eq] at h
  exact ⟨h.1, h.2.1⟩
theorem ptr_in' {f : Fn} {x : Int} (h : (!(ptrR f x)) = false) : 0 ≤ x ∧ x < (ln I f.2.2.2.1 : Int) := ptrR_in (by simpa using h)
def acsR (f : Den s_api_Func) (at_ : Den s_api_Pos) : Den I × Den I × Den I := (cond (!(insideF f at_)) ((0 : Int), (0 : Int), (0 : Int)) (cond (decide ((z at_.2.1) < (0 : Int))) ((0 : Int), (0 : Int), (0 : Int)) (cond (decide ((z at_.2.1) ≥ ((ln s_api_Instr (((gd s_api_Block f.2.2.2.2.1 (((z at_.1)).toNat)).2).1)) : Int))) ((0 : Int), (0 : Int), (0 : Int)) (cond ((z ((gd s_api_Instr (((gd s_api_Block f.2.2.2.2.1 (((z at_.1)).toNat)).2).1) (((z at_.2.1)).toNat)).1)) != (28 : Int)) (cond ((z ((gd s_api_Instr (((gd s_api_Block f.2.2.2.2.1 (((z at_.1)).toNat)).2).1) (((z at_.2.1)).toNat)).1)) != (29 : Int)) ((0 : Int), (0 : Int), (0 : Int)) (cond (((ln I (((((gd s_api_Instr (((gd s_api_Block f.2.2.2.2.1 (((z at_.1)).toNat)).2).1) (((z at_.2.1)).toNat)).2).2).2).1)) : Int) == (0 : Int)) ((0 : Int), (0 : Int), (0 : Int)) (cond (!(ptrR f (gd I (((((gd s_api_Instr (((gd s_api_Block f.2.2.2.2.1 (((z at_.1)).toNat)).2).1) (((z at_.2.1)).toNat)).2).2).2).1) (0 : Nat)))) ((0 : Int), (0 : Int), (0 : Int)) (cond ((z ((gd s_api_Instr (((gd s_api_Block f.2.2.2.2.1 (((z at_.1)).toNat)).2).1) (((z at_.2.1)).toNat)).1)) == (29 : Int)) (cond (decide (((ln I (((((gd s_api_Instr (((gd s_api_Block f.2.2.2.2.1 (((z at_.1)).toNat)).2).1) (((z at_.2.1)).toNat)).2).2).2).1)) : Int) < (2 : Int))) ((0 : Int), (0 : Int), (0 : Int)) (cond (decide ((z (gd I (((((gd s_api_Instr (((gd s_api_Block f.2.2.2.2.1 (((z at_.1)).toNat)).2).1) (((z at_.2.1)).toNat)).2).2).2).1) (1 : Nat))) < (0 : Int))) ((0 : Int), (0 : Int), (0 : Int)) (cond (decide ((z (gd I (((((gd s_api_Instr (((gd s_api_Block f.2.2.2.2.1 (((z at_.1)).toNat)).2).1) (((z at_.2.1)).toNat)).2).2).2).1) (1 : Nat))) ≥ ((ln I f.2.2.2.1) : Int))) ((0 : Int), (0 : Int), (0 : Int)) ((z (gd I (((((gd s_api_Instr (((gd s_api_Block f.2.2.2.2.1 (((z at_.1)).toNat)).2).1) (((z at_.2.1)).toNat)).2).2).2).1) (0 : Nat))), (z ((accR (gd I f.2.2.2.1 (((z (gd I (((((gd s_api_Instr (((gd s_api_Block f.2.2.2.2.1 (((z at_.1)).toNat)).2).1) (((z at_.2.1)).toNat)).2).2).2).1) (1 : Nat)))).toNat))).1)), (z ((accR (gd I f.2.2.2.1 (((z (gd I (((((gd s_api_Instr (((gd s_api_Block f.2.2.2.2.1 (((z at_.1)).toNat)).2).1) (((z at_.2.1)).toNat)).2).2).2).1) (1 : Nat)))).toNat))).2)))))) ((z (gd I (((((gd s_api_Instr (((gd s_api_Block f.2.2.2.2.1 (((z at_.1)).toNat)).2).1) (((z at_.2.1)).toNat)).2).2).2).1) (0 : Nat))), (z ((accR ((gd s_api_Instr (((gd s_api_Block f.2.2.2.2.1 (((z at_.1)).toNat)).2).1) (((z at_.2.1)).toNat)).2).1).1)), (z ((accR ((gd s_api_Instr (((gd s_api_Block f.2.2.2.2.1 (((z at_.1)).toNat)).2).1) (((z at_.2.1)).toNat)).2).1).2))))))) (cond (((ln I (((((gd s_api_Instr (((gd s_api_Block f.2.2.2.2.1 (((z at_.1)).toNat)).2).1) (((z at_.2.1)).toNat)).2).2).2).1)) : Int) == (0 : Int)) ((0 : Int), (0 : Int), (0 : Int)) (cond (!(ptrR f (gd I (((((gd s_api_Instr (((gd s_api_Block f.2.2.2.2.1 (((z at_.1)).toNat)).2).1) (((z at_.2.1)).toNat)).2).2).2).1) (0 : Nat)))) ((0 : Int), (0 : Int), (0 : Int)) (cond ((z ((gd s_api_Instr (((gd s_api_Block f.2.2.2.2.1 (((z at_.1)).toNat)).2).1) (((z at_.2.1)).toNat)).1)) == (29 : Int)) (cond (decide (((ln I (((((gd s_api_Instr (((gd s_api_Block f.2.2.2.2.1 (((z at_.1)).toNat)).2).1) (((z at_.2.1)).toNat)).2).2).2).1)) : Int) < (2 : Int))) ((0 : Int), (0 : Int), (0 : Int)) (cond (decide ((z (gd I (((((gd s_api_Instr (((gd s_api_Block f.2.2.2.2.1 (((z at_.1)).toNat)).2).1) (((z at_.2.1)).toNat)).2).2).2).1) (1 : Nat))) < (0 : Int))) ((0 : Int), (0 : Int), (0 : Int)) (cond (decide ((z (gd I (((((gd s_api_Instr (((gd s_api_Block f.2.2.2.2.1 (((z at_.1)).toNat)).2).1) (((z at_.2.1)).toNat)).2).2).2).1) (1 : Nat))) ≥ ((ln I f.2.2.2.1) : Int))) ((0 : Int), (0 : Int), (0 : Int)) ((z (gd I (((((gd s_api_Instr (((gd s_api_Block f.2.2.2.2.1 (((z at_.1)).toNat)).2).1) (((z at_.2.1)).toNat)).2).2).2).1) (0 : Nat))), (z ((accR (gd I f.2.2.2.1 (((z (gd I (((((gd s_api_Instr (((gd s_api_Block f.2.2.2.2.1 (((z at_.1)).toNat)).2).1) (((z at_.2.1)).toNat)).2).2).2).1) (1 : Nat)))).toNat))).1)), (z ((accR (gd I f.2.2.2.1 (((z (gd I (((((gd s_api_Instr (((gd s_api_Block f.2.2.2.2.1 (((z at_.1)).toNat)).2).1) (((z at_.2.1)).toNat)).2).2).2).1) (1 : Nat)))).toNat))).2)))))) ((z (gd I (((((gd s_api_Instr (((gd s_api_Block f.2.2.2.2.1 (((z at_.1)).toNat)).2).1) (((z at_.2.1)).toNat)).2).2).2).1) (0 : Nat))), (z ((accR ((gd s_api_Instr (((gd s_api_Block f.2.2.2.2.1 (((z at_.1)).toNat)).2).1) (((z at_.2.1)).toNat)).2).1).1)), (z ((accR ((gd s_api_Instr (((gd s_api_Block f.2.2.2.2.1 (((z at_.1)).toNat)).2).1) (((z at_.2.1)).toNat)).2).1).2))))))))))

def k_r27_accessed : Con := conT3 [.d s_api_Func, .d s_api_Pos] I I I (fun x => True) fun x => acsR x.1 x.2.1
theorem m_r27_accessed (f : Den s_api_Func) (at_ : Den s_api_Pos) (h_f : okD s_api_Func f) (h_at_ : okD s_api_Pos at_) (hp : True) : Runs E_A22 (start E_A22 f_r27_accessed [(.tv s_api_Func f), (.tv s_api_Pos at_)]) (fun r_ h_ => r_ = (.tup [(vi (z ((acsR f at_).1))), (vi (z (((acsR f at_).2).1))), (vi (z (((acsR f at_).2).2)))]) ∧ h_ = []) := .tree E_A22_ok (r27_accessed_t f at_) (by
  refine ⟨trivial, fun _ => ?_⟩
  refine wp_cond (fun h1 => ?_) (fun h1 => ?_)
  · refine fun _ => ?_
    exact ⟨by simp only [acsR, h1, cond_true, cond_false], rfl⟩
  · refine wp_cond (fun h2 => ?_) (fun h2 => ?_)
    · have h2_ := of_decide_eq_true h2
      refine fun _ => ?_
      exact ⟨by simp only [acsR, h1, h2, cond_true, cond_false], rfl⟩
    · have h2_ := of_decide_eq_false h2
      refine ⟨by first | omega | exact (ins_in (by assumption)) | (have g_ := ins_in (by assumption); omega) | exact (ptr_in' (by assumption)) | (have g_ := ptr_in' (by assumption); omega) | assumption | exact hp.1 | exact hp.2 | exact hp.2.1 | (simp_all; done) | (simp_all; omega), fun _ => ?_⟩
      refine fun _ => ?_
      refine wp_cond (fun h3 => ?_) (fun h3 => ?_)
      · have h3_ := of_decide_eq_true h3
        exact ⟨by simp only [acsR, h1, h2, h3, cond_true, cond_false], rfl⟩
      · have h3_ := of_decide_eq_false h3
        refine ⟨by first | omega | exact (ins_in (by assumption)) | (have g_ := ins_in (by assumption); omega) | exact (ptr_in' (by assumption)) | (have g_ := ptr_in' (by assumption); omega) | assumption | exact hp.1 | exact hp.2 | exact hp.2.1 | (simp_all; done) | (simp_all; omega), fun _ => ?_⟩
        refine ⟨by first | omega | exact (ins_in (by assumption)) | (have g_ := ins_in (by assumption); omega) | exact (ptr_in' (by assumption)) | (have g_ := ptr_in' (by assumption); omega) | assumption | exact hp.1 | exact hp.2 | exact hp.2.1 | (simp_all; done) | (simp_all; omega), fun _ => ?_⟩
        refine wp_cond (fun h4 => ?_) (fun h4 => ?_)
        · have h4_ := bne_t h4
          refine wp_cond (fun h5 => ?_) (fun h5 => ?_)
          · have h5_ := bne_t h5
            exact ⟨by simp only [acsR, h1, h2, h3, h4, h5, cond_true, cond_false], rfl⟩
          · have h5_ := bne_f h5
            refine wp_cond (fun h6 => ?_) (fun h6 => ?_)
            · have h6_ := beq_t h6
              exact ⟨by simp only [acsR, h1, h2, h3, h4, h5, h6, cond_true, cond_false], rfl⟩
            · have h6_ := beq_f h6
              refine ⟨by first | omega | exact (ins_in (by assumption)) | (have g_ := ins_in (by assumption); omega) | exact (ptr_in' (by assumption)) | (have g_ := ptr_in' (by assumption); omega) | assumption | exact hp.1 | exact hp.2 | exact hp.2.1 | (simp_all; done) | (simp_all; omega), fun _ => ?_⟩
              refine ⟨trivial, fun _ => ?_⟩
              refine fun _ => ?_
              refine wp_cond (fun h7 => ?_) (fun h7 => ?_)
              · exact ⟨by simp only [acsR, h1, h2, h3, h4, h5, h6, h7, cond_true, cond_false], rfl⟩
              · refine wp_cond (fun h8 => ?_) (fun h8 => ?_)
                · have h8_ := beq_t h8
                  refine wp_cond (fun h9 => ?_) (fun h9 => ?_)
                  · have h9_ := of_decide_eq_true h9
                    exact ⟨by simp only [acsR, h1, h2, h3, h4, h5, h6, h7, h8, h9, cond_true, cond_false], rfl⟩
                  · have h9_ := of_decide_eq_false h9
                    refine ⟨by first | omega | exact (ins_in (by assumption)) | (have g_ := ins_in (by assumption); omega) | exact (ptr_in' (by assumption)) | (have g_ := ptr_in' (by assumption); omega) | assumption | exact hp.1 | exact hp.2 | exact hp.2.1 | (simp_all; done) | (simp_all; omega), fun _ => ?_⟩
                    refine wp_cond (fun h10 => ?_) (fun h10 => ?_)
                    · have h10_ := of_decide_eq_true h10
                      exact ⟨by simp only [acsR, h1, h2, h3, h4, h5, h6, h7, h8, h9, h10, cond_true, cond_false], rfl⟩
                    · have h10_ := of_decide_eq_false h10
                      refine ⟨by first | omega | exact (ins_in (by assumption)) | (have g_ := ins_in (by assumption); omega) | exact (ptr_in' (by assumption)) | (have g_ := ptr_in' (by assumption); omega) | assumption | exact hp.1 | exact hp.2 | exact hp.2.1 | (simp_all; done) | (simp_all; omega), fun _ => ?_⟩
                      refine wp_cond (fun h11 => ?_) (fun h11 => ?_)
                      · have h11_ := of_decide_eq_true h11
                        exact ⟨by simp only [acsR, h1, h2, h3, h4, h5, h6, h7, h8, h9, h10, h11, cond_true, cond_false], rfl⟩
                      · have h11_ := of_decide_eq_false h11
                        refine ⟨by first | omega | exact (ins_in (by assumption)) | (have g_ := ins_in (by assumption); omega) | exact (ptr_in' (by assumption)) | (have g_ := ptr_in' (by assumption); omega) | assumption | exact hp.1 | exact hp.2 | exact hp.2.1 | (simp_all; done) | (simp_all; omega), fun _ => ?_⟩
                        refine ⟨by first | omega | exact (ins_in (by assumption)) | (have g_ := ins_in (by assumption); omega) | exact (ptr_in' (by assumption)) | (have g_ := ptr_in' (by assumption); omega) | assumption | exact hp.1 | exact hp.2 | exact hp.2.1 | (simp_all; done) | (simp_all; omega), fun _ => ?_⟩
                        refine ⟨trivial, fun _ => ?_⟩
                        refine fun _ => ?_
                        refine ⟨by first | omega | exact (ins_in (by assumption)) | (have g_ := ins_in (by assumption); omega) | exact (ptr_in' (by assumption)) | (have g_ := ptr_in' (by assumption); omega) | assumption | exact hp.1 | exact hp.2 | exact hp.2.1 | (simp_all; done) | (simp_all; omega), fun _ => ?_⟩
                        exact ⟨by simp only [acsR, h1, h2, h3, h4, h5, h6, h7, h8, h9, h10, h11, cond_true, cond_false], rfl⟩
                · have h8_ := beq_f h8
                  refine ⟨trivial, fun _ => ?_⟩
                  refine fun _ => ?_
                  refine ⟨by first | omega | exact (ins_in (by assumption)) | (have g_ := ins_in (by assumption); omega) | exact (ptr_in' (by assumption)) | (have g_ := ptr_in' (by assumption); omega) | assumption | exact hp.1 | exact hp.2 | exact hp.2.1 | (simp_all; done) | (simp_all; omega), fun _ => ?_⟩
                  exact ⟨by simp only [acsR, h1, h2, h3, h4, h5, h6, h7, h8, cond_true, cond_false], rfl⟩
        · have h4_ := bne_f h4
          refine wp_cond (fun h12 => ?_) (fun h12 => ?_)
          · have h12_ := beq_t h12
            exact ⟨by simp only [acsR, h1, h2, h3, h4, h12, cond_true, cond_false], rfl⟩
          · have h12_ := beq_f h12
            refine ⟨by first | omega | exact (ins_in (by assumption)) | (have g_ := ins_in (by assumption); omega) | exact (ptr_in' (by assumption)) | (have g_ := ptr_in' (by assumption); omega) | assumption | exact hp.1 | exact hp.2 | exact hp.2.1 | (simp_all; done) | (simp_all; omega), fun _ => ?_⟩
            refine ⟨trivial, fun _ => ?_⟩
            refine fun _ => ?_
            refine wp_cond (fun h13 => ?_) (fun h13 => ?_)
            · exact ⟨by simp only [acsR, h1, h2, h3, h4, h12, h13, cond_true, cond_false], rfl⟩
            · refine wp_cond (fun h14 => ?_) (fun h14 => ?_)
              · have h14_ := beq_t h14
                refine wp_cond (fun h15 => ?_) (fun h15 => ?_)
                · have h15_ := of_decide_eq_true h15
                  exact ⟨by simp only [acsR, h1, h2, h3, h4, h12, h13, h14, h15, cond_true, cond_false], rfl⟩
                · have h15_ := of_decide_eq_false h15
                  refine ⟨by first | omega | exact (ins_in (by assumption)) | (have g_ := ins_in (by assumption); omega) | exact (ptr_in' (by assumption)) | (have g_ := ptr_in' (by assumption); omega) | assumption | exact hp.1 | exact hp.2 | exact hp.2.1 | (simp_all; done) | (simp_all; omega), fun _ => ?_⟩
                  refine wp_cond (fun h16 => ?_) (fun h16 => ?_)
                  · have h16_ := of_decide_eq_true h16
                    exact ⟨by simp only [acsR, h1, h2, h3, h4, h12, h13, h14, h15, h16, cond_true, cond_false], rfl⟩
                  · have h16_ := of_decide_eq_false h16
                    refine ⟨by first | omega | exact (ins_in (by assumption)) | (have g_ := ins_in (by assumption); omega) | exact (ptr_in' (by assumption)) | (have g_ := ptr_in' (by assumption); omega) | assumption | exact hp.1 | exact hp.2 | exact hp.2.1 | (simp_all; done) | (simp_all; omega), fun _ => ?_⟩
                    refine wp_cond (fun h17 => ?_) (fun h17 => ?_)
                    · have h17_ := of_decide_eq_true h17
                      exact ⟨by simp only [acsR, h1, h2, h3, h4, h12, h13, h14, h15, h16, h17, cond_true, cond_false], rfl⟩
                    · have h17_ := of_decide_eq_false h17
                      refine ⟨by first | omega | exact (ins_in (by assumption)) | (have g_ := ins_in (by assumption); omega) | exact (ptr_in' (by assumption)) | (have g_ := ptr_in' (by assumption); omega) | assumption | exact hp.1 | exact hp.2 | exact hp.2.1 | (simp_all; done) | (simp_all; omega), fun _ => ?_⟩
                      refine ⟨by first | omega | exact (ins_in (by assumption)) | (have g_ := ins_in (by assumption); omega) | exact (ptr_in' (by assumption)) | (have g_ := ptr_in' (by assumption); omega) | assumption | exact hp.1 | exact hp.2 | exact hp.2.1 | (simp_all; done) | (simp_all; omega), fun _ => ?_⟩
                      refine ⟨trivial, fun _ => ?_⟩
                      refine fun _ => ?_
                      refine ⟨by first | omega | exact (ins_in (by assumption)) | (have g_ := ins_in (by assumption); omega) | exact (ptr_in' (by assumption)) | (have g_ := ptr_in' (by assumption); omega) | assumption | exact hp.1 | exact hp.2 | exact hp.2.1 | (simp_all; done) | (simp_all; omega), fun _ => ?_⟩
                      exact ⟨by simp only [acsR, h1, h2, h3, h4, h12, h13, h14, h15, h16, h17, cond_true, cond_false], rfl⟩
              · have h14_ := beq_f h14
                refine ⟨trivial, fun _ => ?_⟩
                refine fun _ => ?_
                refine ⟨by first | omega | exact (ins_in (by assumption)) | (have g_ := ins_in (by assumption); omega) | exact (ptr_in' (by assumption)) | (have g_ := ptr_in' (by assumption); omega) | assumption | exact hp.1 | exact hp.2 | exact hp.2.1 | (simp_all; done) | (simp_all; omega), fun _ => ?_⟩
                exact ⟨by simp only [acsR, h1, h2, h3, h4, h12, h13, h14, cond_true, cond_false], rfl⟩)
theorem c_r27_accessed : SpecOK E_A22 f_r27_accessed k_r27_accessed.spec := spec_of fun x hx hp => ⟨rfl, m_r27_accessed x.1 x.2.1 hx.1 hx.2.1 hp⟩
def L_A22 : List (FuncId × FSpec) := [(f_r27_accessed, k_r27_accessed.spec)] ++ L_A21
theorem L_A22_ok : ∀ x ∈ L_A22, SpecOK (ctx []) x.1 x.2 := by
  unfold L_A22
  simp only [List.cons_append, List.nil_append, List.forall_mem_cons]
  exact ⟨c_r27_accessed, L_A21_ok⟩
end Burn.M27Q
namespace Burn.M27Q
open Go Go.BE Go.Proofs
set_option maxRecDepth 100000
set_option linter.unusedVariables false
set_option linter.unusedSimpArgs false
open Burn.Cfg Burn.Intn Burn.Ref
theorem has_idx {f : Fn} {r : Int} : hasF f r = decide (idxF f.2.1 r ≥ 0) := rfl
theorem alc_out {f : Fn} {r : Int} (h : ¬ (0 ≤ r ∧ r < (ln I f.2.2.2.1 : Int))) : alcR f (rDefs f) r = false := by
  have hln : ln (.sl 16 s_api_Pos) (rDefs f) = ln I f.2.2.2.1 := (good_defs f).1
  unfold alcR defR
  by_cases h1 : r < 0
  · rw [decide_eq_true h1]; rfl
  · rw [decide_eq_false h1, hln, decide_eq_true (show r ≥ (ln I f.2.2.2.1 : Int) by omega)]; rfl
theorem loc_conf {f : Fn} {a b : Bs} (ha : z a.1 = 2) (hb : z b.1 = 3) : locF f a b = confF f a b := by
  unfold locF confF
  rw [ha, hb, has_idx]
  simp only [bne_self_eq_false, cond_false]
  congr 1
  by_cases h1 : z a.2.1 ≥ 0
  · by_cases h2 : z a.2.1 < (ln I f.2.2.2.1 : Int)
    · rw [decide_eq_true h1, decide_eq_true h2]
      simp only [cond_true]
      have e : (z a.2.1).toNat < nR f := by show _ < ln I f.2.2.2.1; omega
      have e2 : ((z a.2.1).toNat : Int) = a.2.1 := by show _ = z a.2.1; omega
      have g1 : gd .bool (allocsF f) (z a.2.1).toNat = alcR f (rDefs f) a.2.1 := by
        rw [← e2]
        exact tab_gd e
      have g2 : gd .bool (escF f) (z a.2.1).toNat = (escR f (basesF f) a.2.1 && alcR f (rDefs f) a.2.1) := by
        rw [← e2]
        exact tab_gd e
      rw [g1, g2]
      cases alcR f (rDefs f) a.2.1 <;> cases escR f (basesF f) a.2.1 <;> rfl
    · rw [decide_eq_true h1, decide_eq_false h2, alc_out (fun h => h2 h.2)]; rfl
  · rw [decide_eq_false h1, alc_out (fun h => h1 h.1)]; rfl
theorem conf_no {f : Fn} {a b : Bs} (h : z a.1 ≠ 2 ∨ z b.1 ≠ 3) : confF f a b = false := by
  unfold confF
  by_cases h1 : z a.1 = 2
  · rw [show (z a.1 != (2 : Int)) = false by simp [h1], show (z b.1 != (3 : Int)) = true by simp only [bne_iff_ne]; exact h.resolve_left fun x => x h1]; rfl
  · rw [show (z a.1 != (2 : Int)) = true by simpa only [bne_iff_ne] using h1]; rfl
theorem u64neg (x y : Int) : (0 - (y % 18446744073709551616 - x % 18446744073709551616) % 18446744073709551616) % 18446744073709551616 = (x % 18446744073709551616 - y % 18446744073709551616) % 18446744073709551616 := by omega
theorem over_apart {a b : Bs} {n k : Int} : apartR a b n k = !overP a.2.2.1 b.2.2.1 n k := by
  unfold apartR overP
  simp only [Bool.cond_eq_ite, u64, z]
  rw [u64neg a.2.2.1 b.2.2.1]
  generalize ((b.2.2.1 : Int) % 18446744073709551616 - (a.2.2.1 : Int) % 18446744073709551616) % 18446744073709551616 = d
  generalize ((a.2.2.1 : Int) % 18446744073709551616 - (b.2.2.1 : Int) % 18446744073709551616) % 18446744073709551616 = e
  generalize n % 18446744073709551616 = n
  generalize k % 18446744073709551616 = k
  rw [show decide (d ≥ n) = !decide (d < n) by rw [← decide_not]; exact decide_eq_decide.2 Int.not_lt.symm, show decide (e ≥ k) = !decide (e < k) by rw [← decide_not]; exact decide_eq_decide.2 Int.not_lt.symm]
  cases decide (d < n) <;> cases decide (e < k) <;> rfl
theorem over_comm {x y n k : Int} : overP x y n k = overP y x k n := by
  unfold overP
  simp only [Bool.cond_eq_ite]
  generalize decide (IntKind.wrap .u64 (IntKind.wrap .u64 y - IntKind.wrap .u64 x) < IntKind.wrap .u64 n) = p
  generalize decide (IntKind.wrap .u64 (IntKind.wrap .u64 x - IntKind.wrap .u64 y) < IntKind.wrap .u64 k) = q
  cases p <;> cases q <;> rfl
def relS (f : Fn) (a b : Bs) (n k : Int) : Int :=
  if n < 1 ∨ k < 1 then 1 else if ¬ ((1 ≤ z a.1 ∧ z a.1 ≤ 3) ∧ 1 ≤ z b.1 ∧ z b.1 ≤ 3) then 2
  else if z a.1 = z b.1 ∧ z a.2.1 = z b.2.1 then
    (if a.2.2.2.1 = true ∧ b.2.2.2.1 = true then (if z a.2.2.1 = z b.2.2.1 ∧ n = k then 3 else if overP a.2.2.1 b.2.2.1 n k = true then 2 else 1) else 2)
  else if confF f a b = true ∨ confF f b a = true ∨ (z a.1 ≠ 3 ∧ z b.1 ≠ 3) then 1 else 2
theorem relS_comm {f : Fn} {a b : Bs} {n k : Int} : relS f a b n k = relS f b a k n := by
  unfold relS
  rw [over_comm (x := a.2.2.1)]
  congr 1
  · exact propext ⟨Or.symm, Or.symm⟩
  congr 1
  · exact propext ⟨fun h hh => h ⟨hh.2, hh.1⟩, fun h hh => h ⟨hh.2, hh.1⟩⟩
  congr 1
  · exact propext ⟨fun h => ⟨h.1.symm, h.2.symm⟩, fun h => ⟨h.1.symm, h.2.symm⟩⟩
  · congr 1
    · exact propext ⟨And.symm, And.symm⟩
    congr 1
    exact propext ⟨fun h => ⟨h.1.symm, h.2.symm⟩, fun h => ⟨h.1.symm, h.2.symm⟩⟩
  · congr 1
    exact propext ⟨fun h => h.elim (fun h => .inr (.inl h)) fun h => h.elim .inl fun h => .inr (.inr h.symm), fun h => h.elim (fun h => .inr (.inl h)) fun h => h.elim .inl fun h => .inr (.inr h.symm)⟩
theorem relQ_eq {f : Fn} {a b : Bs} {n k : Int} : relQ f a b n k = relS f a b n k := by
  unfold relQ relS
  simp only [Bool.cond_eq_ite, decide_eq_true_eq, beq_iff_eq, bne_iff_ne, Bool.not_eq_true']
  by_cases h1 : n < 1
  · rw [if_pos h1, if_pos (.inl h1)]
  by_cases h2 : k < 1
  · rw [if_neg h1, if_pos h2, if_pos (.inr h2)]
  rw [if_neg h1, if_neg h2, if_neg (show ¬ (n < 1 ∨ k < 1) by omega)]
  by_cases h3 : (1 ≤ z a.1 ∧ z a.1 ≤ 3) ∧ 1 ≤ z b.1 ∧ z b.1 ≤ 3
  · rw [if_neg (show ¬ z a.1 < 1 by omega), if_neg (show ¬ z a.1 > 3 by omega), if_neg (show ¬ z b.1 < 1 by omega), if_neg (show ¬ z b.1 > 3 by omega), if_neg (not_not_intro h3)]
    by_cases h4 : z a.1 = z b.1 ∧ z a.2.1 = z b.2.1
    · rw [if_pos h4.1, if_pos h4.2, if_pos h4]
      rw [over_apart]
      generalize overP a.2.2.1 b.2.2.1 n k = o
      generalize z a.2.2.1 = x
      generalize z b.2.2.1 = y
      generalize a.2.2.2.1 = u
      generalize b.2.2.2.1 = v
      by_cases h5 : x = y <;> by_cases h6 : n = k <;> simp only [h5, h6, if_true, if_false, true_and, and_true, false_and, and_false] <;> revert o u v <;> decide
    · rw [if_neg h4]
      have key : (if z a.1 ≠ 3 then (if z b.1 ≠ 3 then (1 : Int) else if confF f a b = true then 1 else if confF f b a = true then 1 else 2) else if confF f a b = true then 1 else if confF f b a = true then 1 else 2) = if confF f a b = true ∨ confF f b a = true ∨ (z a.1 ≠ 3 ∧ z b.1 ≠ 3) then 1 else 2 := by
        generalize confF f a b = p
        generalize confF f b a = q
        generalize z a.1 = x
        generalize z b.1 = y
        by_cases ha : x = 3 <;> by_cases hb : y = 3 <;> cases p <;> cases q <;> simp [ha, hb]
      by_cases h5 : z a.1 = z b.1
      · have h6 : ¬ z a.2.1 = z b.2.1 := fun h => h4 ⟨h5, h⟩
        rw [if_pos h5, if_neg h6]
        exact key
      · rw [if_neg h5]
        exact key
  · rw [if_pos (c := ¬ _) h3]
    by_cases c1 : z a.1 < 1
    · rw [if_pos c1]
    by_cases c2 : z a.1 > 3
    · rw [if_neg c1, if_pos c2]
    by_cases c3 : z b.1 < 1
    · rw [if_neg c1, if_neg c2, if_pos c3]
    by_cases c4 : z b.1 > 3
    · rw [if_neg c1, if_neg c2, if_neg c3, if_pos c4]
    · exact absurd (by omega) h3
theorem relF_eq {f : Fn} {a b : Bs} {n k : Int} : relF f a b n k = relS f a b n k := by
  unfold relF relS
  simp only [Bool.cond_eq_ite, decide_eq_true_eq, beq_iff_eq, bne_iff_ne, Bool.not_eq_true']
  by_cases h1 : n < 1
  · rw [if_pos h1, if_pos (.inl h1)]
  by_cases h2 : k < 1
  · rw [if_neg h1, if_pos h2, if_pos (.inr h2)]
  rw [if_neg h1, if_neg h2, if_neg (show ¬ (n < 1 ∨ k < 1) by omega)]
  by_cases h3 : (1 ≤ z a.1 ∧ z a.1 ≤ 3) ∧ 1 ≤ z b.1 ∧ z b.1 ≤ 3
  · rw [if_pos (show z a.1 ≥ 1 by omega), if_neg (show ¬ decide (z a.1 ≤ 3) = false by simp only [decide_eq_false_iff_not]; omega), if_pos (show z b.1 ≥ 1 by omega), if_neg (show ¬ decide (z b.1 ≤ 3) = false by simp only [decide_eq_false_iff_not]; omega), if_neg (not_not_intro h3)]
    by_cases h4 : z a.1 = z b.1 ∧ z a.2.1 = z b.2.1
    · rw [if_pos h4]
      simp only [h4.1, h4.2, if_true]
      cases ha : a.2.2.2.1 <;> cases hb : b.2.2.2.1 <;> cases ho : overP a.2.2.1 b.2.2.1 n k <;> by_cases h5 : z a.2.2.1 = z b.2.2.1 <;> by_cases h6 : n = k <;> simp [h5, h6, bOf]
    · rw [if_neg h4]
      have key : (if kindsP a.1 b.1 ≠ 0 then kindsP a.1 b.1 else if z a.1 = 3 then (if locF f b a = true then 1 else 2) else if locF f a b = true then 1 else 2) = if confF f a b = true ∨ confF f b a = true ∨ (z a.1 ≠ 3 ∧ z b.1 ≠ 3) then 1 else 2 := by
        obtain ⟨⟨a1, a2⟩, b1, b2⟩ := h3
        have ha : z a.1 = 1 ∨ z a.1 = 2 ∨ z a.1 = 3 := by omega
        have hb : z b.1 = 1 ∨ z b.1 = 2 ∨ z b.1 = 3 := by omega
        rcases ha with ha | ha | ha <;> rcases hb with hb | hb | hb <;> rw [show kindsP a.1 b.1 = kindsP (z a.1) (z b.1) from rfl, ha, hb]
        case inr.inl.inr.inr =>
          rw [if_neg (by decide), if_neg (by decide), loc_conf ha hb, conf_no (f := f) (a := b) (b := a) (.inl (by omega))]
          cases confF f a b <;> simp
        case inr.inr.inr.inl =>
          rw [if_neg (by decide), if_pos rfl, loc_conf hb ha, conf_no (f := f) (a := a) (b := b) (.inl (by omega))]
          cases confF f b a <;> simp
        all_goals
          rw [if_pos (by decide), conf_no (f := f) (a := a) (b := b) (by omega), conf_no (f := f) (a := b) (b := a) (by omega)]
          decide
      by_cases h5 : z a.1 = z b.1
      · have h6 : ¬ z a.2.1 = z b.2.1 := fun h => h4 ⟨h5, h⟩
        simp only [if_pos h5, if_neg h6, ite_self]
        exact key
      · simp only [if_neg h5, ite_self]
        exact key
  · rw [if_pos (c := ¬ _) h3]
    by_cases c1 : z a.1 ≥ 1
    · rw [if_pos c1]
      by_cases c2 : decide (z a.1 ≤ 3) = false
      · rw [if_pos c2]
      rw [if_neg c2]
      have c2 := of_decide_eq_true (by simpa only [Bool.not_eq_false] using c2)
      by_cases c3 : z b.1 ≥ 1
      · rw [if_pos c3]
        by_cases c4 : decide (z b.1 ≤ 3) = false
        · rw [if_pos c4]
        have c4 := of_decide_eq_true (by simpa only [Bool.not_eq_false] using c4)
        exact absurd (by omega) h3
      · rw [if_neg c3]
    · rw [if_neg c1]
def L_A23 : List (FuncId × FSpec) := [] ++ L_A22
theorem L_A23_ok : ∀ x ∈ L_A23, SpecOK (ctx []) x.1 x.2 := L_A22_ok
end Burn.M27Q
namespace Burn.M27Q
open Go Go.BE Go.Proofs
set_option maxRecDepth 100000
set_option linter.unusedVariables false
set_option linter.unusedSimpArgs false
open Burn.Cfg Burn.Intn Burn.Ref
noncomputable abbrev E_A24 : Ctx := ctx L_A23
theorem E_A24_ok : EOK E_A24 := ctx_ok L_A23_ok
def cuts_A24 : CutL := []
def rets_A24 : FuncId → List (Option Fx)
  | _ => []
def H_A24 : Hints := { cut := cutOf cuts_A24, ret := rets_A24 }
theorem query2_t (f : Den s_api_Func) (a : Den s_api_Pos) (b : Den s_api_Pos) : run E_A24 H_A24 f_alias_Query 3000 (start E_A24 f_alias_Query [(.tv s_api_Func f), (.tv s_api_Pos a), (.tv s_api_Pos b)]) = (.chk (True) (.know (okAVs [(vi (z ((acsP f a).1))), (vi (z (((acsP f a).2).1))), (vb (bOf (((acsP f a).2).2)))]) (.chk (True) (.know (okAVs [(vi (z ((acsP f b).1))), (vi (z (((acsP f b).2).1))), (vb (bOf (((acsP f b).2).2)))]) (cond (!(bOf (((acsP f a).2).2))) (rt (vi (0 : Int)) []) (cond (!(bOf (((acsP f b).2).2))) (rt (vi (0 : Int)) []) (.chk (True) (.know (okAVs [(vi (z ((accP ((acsP f a).2).1).1))), (vi (z ((accP ((acsP f a).2).1).2)))]) (.chk (True) (.know (okAVs [(vi (z ((accP ((acsP f b).2).1).1))), (vi (z ((accP ((acsP f b).2).1).2)))]) (cond ((z ((accP ((acsP f a).2).1).1)) != (z ((accP ((acsP f b).2).1).1))) (rt (vi (1 : Int)) []) (.chk (smallF f) (.know (okD (.sl 32 s_alias_Base) (basesF f)) (.chk (0 ≤ (z ((acsP f a).1)) ∧ (z ((acsP f a).1)) < (ln s_alias_Base (basesF f))) (.chk (0 ≤ (z ((acsP f b).1)) ∧ (z ((acsP f b).1)) < (ln s_alias_Base (basesF f))) (.chk (smallF f) (.know (okD (.int .i64) (relF f (gd s_alias_Base (basesF f) (((z ((acsP f a).1))).toNat)) (gd s_alias_Base (basesF f) (((z ((acsP f b).1))).toNat)) (accP ((acsP f a).2).1).2 (accP ((acsP f b).2).1).2)) (rt (vi (relF f (gd s_alias_Base (basesF f) (((z ((acsP f a).1))).toNat)) (gd s_alias_Base (basesF f) (((z ((acsP f b).1))).toNat)) (accP ((acsP f a).2).1).2 (accP ((acsP f b).2).1).2)) [])))))))))))))))))) := by kernel_rfl
theorem r27_Query_t (f : Den s_api_Func) (a : Den s_api_Pos) (b : Den s_api_Pos) : run E_A24 H_A24 f_r27_Query 3000 (start E_A24 f_r27_Query [(.tv s_api_Func f), (.tv s_api_Pos a), (.tv s_api_Pos b)]) = (.chk (True) (.know (okAVs [(vi (z ((acsR f a).1))), (vi (z (((acsR f a).2).1))), (vi (z (((acsR f a).2).2)))]) (.chk (True) (.know (okAVs [(vi (z ((acsR f b).1))), (vi (z (((acsR f b).2).1))), (vi (z (((acsR f b).2).2)))]) (cond ((z (((acsR f a).2).2)) == (0 : Int)) (rt (vi (0 : Int)) []) (cond ((z (((acsR f b).2).2)) == (0 : Int)) (rt (vi (0 : Int)) []) (cond ((z (((acsR f a).2).1)) != (z (((acsR f b).2).1))) (rt (vi (1 : Int)) []) (.chk (smallF f) (.know (okD (.sl 32 s_alias_Base) (basesF f)) (.chk (0 ≤ (z ((acsR f a).1)) ∧ (z ((acsR f a).1)) < (ln s_alias_Base (basesF f))) (.chk (0 ≤ (z ((acsR f b).1)) ∧ (z ((acsR f b).1)) < (ln s_alias_Base (basesF f))) (.chk (smallF f) (.know (okD (.int .i64) (relQ f (gd s_alias_Base (basesF f) (((z ((acsR f a).1))).toNat)) (gd s_alias_Base (basesF f) (((z ((acsR f b).1))).toNat)) ((acsR f a).2).2 ((acsR f b).2).2)) (rt (vi (relQ f (gd s_alias_Base (basesF f) (((z ((acsR f a).1))).toNat)) (gd s_alias_Base (basesF f) (((z ((acsR f b).1))).toNat)) ((acsR f a).2).2 ((acsR f b).2).2)) [])))))))))))))) := by kernel_rfl
theorem acc_eq (t : Int) : accP t = accR t := rfl
theorem acc_nn (t : Int) : 0 ≤ z (accR t).2 := by
  unfold accR
  simp only [Bool.cond_eq_ite]
  repeat' split
  all_goals first | decide | exact Int.zero_le_ofNat 1
theorem arg_no {x : Den s_api_Instr} {k : Nat} (h : ln I x.2.2.2.1 ≤ k) : argP x (k : Int) = -1 := by
  unfold argP
  rw [decide_eq_true (show (k : Int) ≥ (ln I x.2.2.2.1 : Int) by omega)]; rfl
theorem arg_at {x : Den s_api_Instr} {k : Nat} (h : k < ln I x.2.2.2.1) : argP x (k : Int) = z (gd I x.2.2.2.1 k) := by
  unfold argP
  rw [decide_eq_false (show ¬ (k : Int) ≥ (ln I x.2.2.2.1 : Int) by omega)]; rfl
abbrev AP := Den I × Den I × Den .bool
def accV (f : Fn) (p t : Int) : AP := cond (decide (z (accP t).2 > 0)) (cond (decide (p ≥ 0)) (cond (decide (p < (ln I f.2.2.2.1 : Int))) (p, t, z (gd I f.2.2.2.1 p.toNat) == 5) (p, t, false)) (p, t, false)) (p, t, false)
def agree (f : Fn) (u : AP) (v : Den I × Den I × Den I) : Prop := (u.2.2 = true ∧ v = (u.1, accR u.2.1) ∧ z (accR u.2.1).2 > 0 ∧ 0 ≤ z u.1 ∧ z u.1 < (ln I f.2.2.2.1 : Int)) ∨ (u.2.2 = false ∧ z v.2.2 = 0)
theorem accV_no {f : Fn} {p t : Int} (h : ptrR f p = false) (v : Den I × Den I × Den I) (hv : z v.2.2 = 0) : agree f (accV f p t) v := by
  refine .inr ⟨?_, hv⟩
  unfold accV
  unfold ptrR at h
  revert h
  cases decide (z (accP t).2 > 0) <;> cases decide (p ≥ 0) <;> cases decide (p < (ln I f.2.2.2.1 : Int)) <;> intro h <;> first | rfl | exact h
theorem accV_yes {f : Fn} {p t : Int} (h : ptrR f p = true) : agree f (accV f p t) (p, accR t) := by
  have hr := ptrR_in h
  have e : accV f p t = cond (decide (z (accP t).2 > 0)) (p, t, true) (p, t, false) := by
    unfold accV
    unfold ptrR at h
    revert h
    rw [decide_eq_true (show p ≥ 0 from hr.1), decide_eq_true hr.2]
    intro h
    rw [show (z (gd I f.2.2.2.1 p.toNat) == 5) = true from h]
    rfl
  rw [e, acc_eq]
  by_cases hn : z (accR t).2 > 0
  · rw [decide_eq_true hn]
    exact .inl ⟨rfl, rfl, hn, hr⟩
  · rw [decide_eq_false hn]
    have := acc_nn t
    exact .inr ⟨rfl, by show z (accR t).2 = 0; omega⟩
theorem agree_0 {f : Fn} : agree f ((0 : Int), (0 : Int), false) ((0 : Int), (0 : Int), (0 : Int)) := .inr ⟨rfl, rfl⟩
theorem ptr_neg {f : Fn} : ptrR f (-1) = false := rfl
theorem acs_rel (f : Fn) (p : Den s_api_Pos) : agree f (acsP f p) (acsR f p) := by
  unfold acsP acsR
  by_cases h1 : z p.1 < 0
  · rw [decide_eq_true h1, show insideF f p = false by unfold insideF; rw [decide_eq_false (show ¬ z p.1 ≥ 0 by omega)]; rfl]
    exact agree_0
  by_cases h2 : z p.1 ≥ (ln s_api_Block f.2.2.2.2.1 : Int)
  · rw [decide_eq_false h1, decide_eq_true h2, show insideF f p = false by unfold insideF; rw [decide_eq_false (show ¬ z p.1 < (ln s_api_Block (blocks f) : Int) by show ¬ z p.1 < (ln s_api_Block f.2.2.2.2.1 : Int); omega), Bool.false_and, Bool.and_false]]
    exact agree_0
  rw [decide_eq_false h1, decide_eq_false h2, cond_false, cond_false]
  by_cases h3 : z p.2.1 < 0
  · rw [decide_eq_true h3]
    cases insideF f p <;> exact agree_0
  by_cases h4 : z p.2.1 ≥ (ln s_api_Instr (gd s_api_Block f.2.2.2.2.1 (z p.1).toNat).2.1 : Int)
  · rw [decide_eq_false h3, decide_eq_true h4]
    cases insideF f p <;> exact agree_0
  have hi : insideF f p = true := by
    unfold insideF
    rw [decide_eq_true (show z p.1 ≥ 0 by omega), decide_eq_true (show z p.1 < (ln s_api_Block (blocks f) : Int) by show z p.1 < (ln s_api_Block f.2.2.2.2.1 : Int); omega), decide_eq_true (show z p.2.1 ≥ -1 by omega), decide_eq_true (show z p.2.1 ≤ (ln s_api_Instr (bIns (blk f (z p.1))) : Int) by show z p.2.1 ≤ (ln s_api_Instr (gd s_api_Block f.2.2.2.2.1 (z p.1).toNat).2.1 : Int); omega)]
    rfl
  rw [hi, decide_eq_false h3, decide_eq_false h4]
  generalize gd s_api_Instr (gd s_api_Block f.2.2.2.2.1 (z p.1).toNat).2.1 (z p.2.1).toNat = x
  simp only [Bool.not_true, cond_false]
  by_cases e28 : z x.1 = 28
  · rw [show (z x.1 == 28) = true by simp [e28], show (z x.1 != 28) = false by simp [e28], show (z x.1 == 29) = false by rw [e28]; rfl]
    simp only [cond_true, cond_false]
    by_cases l0 : (ln I x.2.2.2.1 : Int) = 0
    · rw [show ((ln I x.2.2.2.1 : Int) == 0) = true by simp [l0], show argP x 0 = -1 from arg_no (k := 0) (by omega)]
      exact accV_no ptr_neg _ rfl
    · rw [show ((ln I x.2.2.2.1 : Int) == 0) = false from beq_eq_false_iff_ne.2 l0, show argP x 0 = z (gd I x.2.2.2.1 0) from arg_at (k := 0) (by omega)]
      cases hp : ptrR f (gd I x.2.2.2.1 0) with
      | false => exact accV_no hp _ rfl
      | true => exact accV_yes hp
  · rw [show (z x.1 == 28) = false by simp [e28], show (z x.1 != 28) = true by simp [e28]]
    simp only [cond_true, cond_false]
    by_cases e29 : z x.1 = 29
    · rw [show (z x.1 == 29) = true by simp [e29], show (z x.1 != 29) = false by simp [e29]]
      simp only [cond_true, cond_false]
      by_cases l1 : (ln I x.2.2.2.1 : Int) < 2
      · rw [decide_eq_true l1, show argP x 1 = -1 from arg_no (k := 1) (by omega)]
        cases ((ln I x.2.2.2.1 : Int) == 0) <;> cases ptrR f (gd I x.2.2.2.1 0) <;> exact agree_0
      · rw [decide_eq_false l1, show ((ln I x.2.2.2.1 : Int) == 0) = false by rw [beq_eq_false_iff_ne]; omega, show argP x 0 = z (gd I x.2.2.2.1 0) from arg_at (k := 0) (by omega), show argP x 1 = z (gd I x.2.2.2.1 1) from arg_at (k := 1) (by omega)]
        simp only [cond_true, cond_false]
        by_cases q1 : z (gd I x.2.2.2.1 1) < 0
        · rw [decide_eq_true q1]
          cases ptrR f (gd I x.2.2.2.1 0) <;> exact agree_0
        by_cases q2 : z (gd I x.2.2.2.1 1) ≥ (ln I f.2.2.2.1 : Int)
        · rw [decide_eq_false q1, decide_eq_true q2]
          cases ptrR f (gd I x.2.2.2.1 0) <;> exact agree_0
        rw [decide_eq_false q1, decide_eq_false q2]
        cases hp : ptrR f (gd I x.2.2.2.1 0) with
        | false => exact accV_no hp _ rfl
        | true => exact accV_yes hp
    · rw [show (z x.1 == 29) = false by simp [e29], show (z x.1 != 29) = true by simp [e29]]
      exact agree_0
theorem acs_in {f : Fn} {p : Den s_api_Pos} (h : (!(bOf (acsP f p).2.2)) = false) : 0 ≤ z (acsP f p).1 ∧ z (acsP f p).1 < (ln s_alias_Base (basesF f) : Int) := by
  rw [ln_bases]
  rcases acs_rel f p with h2 | h2
  · exact ⟨h2.2.2.2.1, h2.2.2.2.2⟩
  · rw [show bOf (acsP f p).2.2 = false from h2.1] at h; cases h
theorem acs_in2 {f : Fn} {p : Den s_api_Pos} (h : ¬ z (acsR f p).2.2 = 0) : 0 ≤ z (acsR f p).1 ∧ z (acsR f p).1 < (ln s_alias_Base (basesF f) : Int) := by
  rw [ln_bases]
  rcases acs_rel f p with h2 | h2
  · rw [h2.2.1]
    exact ⟨h2.2.2.2.1, h2.2.2.2.2⟩
  · exact absurd h2.2 h
def qryF (f : Den s_api_Func) (a : Den s_api_Pos) (b : Den s_api_Pos) : Int := (cond (!(bOf (((acsP f a).2).2))) (0 : Int) (cond (!(bOf (((acsP f b).2).2))) (0 : Int) (cond ((z ((accP ((acsP f a).2).1).1)) != (z ((accP ((acsP f b).2).1).1))) (1 : Int) (relF f (gd s_alias_Base (basesF f) (((z ((acsP f a).1))).toNat)) (gd s_alias_Base (basesF f) (((z ((acsP f b).1))).toNat)) (accP ((acsP f a).2).1).2 (accP ((acsP f b).2).1).2))))

def k_query2 : Con := con [.d s_api_Func, .d s_api_Pos, .d s_api_Pos] I (fun x => smallF x.1) fun x => qryF x.1 x.2.1 x.2.2.1
theorem m_query2 (f : Den s_api_Func) (a : Den s_api_Pos) (b : Den s_api_Pos) (h_f : okD s_api_Func f) (h_a : okD s_api_Pos a) (h_b : okD s_api_Pos b) (hp : smallF f) : Runs E_A24 (start E_A24 f_alias_Query [(.tv s_api_Func f), (.tv s_api_Pos a), (.tv s_api_Pos b)]) (fun r_ h_ => r_ = (vi (qryF f a b)) ∧ h_ = []) := .tree E_A24_ok (query2_t f a b) (by
  have hp_ := hp
  try simp only [z] at hp_
  refine ⟨trivial, fun _ => ?_⟩
  refine fun _ => ?_
  refine ⟨trivial, fun _ => ?_⟩
  refine fun _ => ?_
  refine wp_cond (fun h1 => ?_) (fun h1 => ?_)
  · exact ⟨by simp only [qryF, h1, cond_true, cond_false], rfl⟩
  · refine wp_cond (fun h2 => ?_) (fun h2 => ?_)
    · exact ⟨by simp only [qryF, h1, h2, cond_true, cond_false], rfl⟩
    · refine ⟨trivial, fun _ => ?_⟩
      refine fun _ => ?_
      refine ⟨trivial, fun _ => ?_⟩
      refine fun _ => ?_
      refine wp_cond (fun h3 => ?_) (fun h3 => ?_)
      · have h3_ := bne_t h3
        exact ⟨by simp only [qryF, h1, h2, h3, cond_true, cond_false], rfl⟩
      · have h3_ := bne_f h3
        refine ⟨by first | omega | exact (hp) | (have g_ := hp; omega) | exact (acs_in (by assumption)) | (have g_ := acs_in (by assumption); omega) | assumption | exact hp.1 | exact hp.2 | exact hp.2.1 | (simp_all; done) | (simp_all; omega), fun _ => ?_⟩
        refine fun _ => ?_
        refine ⟨by first | omega | exact (hp) | (have g_ := hp; omega) | exact (acs_in (by assumption)) | (have g_ := acs_in (by assumption); omega) | assumption | exact hp.1 | exact hp.2 | exact hp.2.1 | (simp_all; done) | (simp_all; omega), fun _ => ?_⟩
        refine ⟨by first | omega | exact (hp) | (have g_ := hp; omega) | exact (acs_in (by assumption)) | (have g_ := acs_in (by assumption); omega) | assumption | exact hp.1 | exact hp.2 | exact hp.2.1 | (simp_all; done) | (simp_all; omega), fun _ => ?_⟩
        refine ⟨by first | omega | exact (hp) | (have g_ := hp; omega) | exact (acs_in (by assumption)) | (have g_ := acs_in (by assumption); omega) | assumption | exact hp.1 | exact hp.2 | exact hp.2.1 | (simp_all; done) | (simp_all; omega), fun _ => ?_⟩
        refine fun _ => ?_
        exact ⟨by simp only [qryF, h1, h2, h3, cond_true, cond_false], rfl⟩)
theorem c_query2 : SpecOK E_A24 f_alias_Query k_query2.spec := spec_of fun x hx hp => ⟨rfl, m_query2 x.1 x.2.1 x.2.2.1 hx.1 hx.2.1 hx.2.2.1 hp⟩
def qryR (f : Den s_api_Func) (a : Den s_api_Pos) (b : Den s_api_Pos) : Int := (cond ((z (((acsR f a).2).2)) == (0 : Int)) (0 : Int) (cond ((z (((acsR f b).2).2)) == (0 : Int)) (0 : Int) (cond ((z (((acsR f a).2).1)) != (z (((acsR f b).2).1))) (1 : Int) (relQ f (gd s_alias_Base (basesF f) (((z ((acsR f a).1))).toNat)) (gd s_alias_Base (basesF f) (((z ((acsR f b).1))).toNat)) ((acsR f a).2).2 ((acsR f b).2).2))))

def k_r27_Query : Con := con [.d s_api_Func, .d s_api_Pos, .d s_api_Pos] I (fun x => smallF x.1) fun x => qryR x.1 x.2.1 x.2.2.1
theorem m_r27_Query (f : Den s_api_Func) (a : Den s_api_Pos) (b : Den s_api_Pos) (h_f : okD s_api_Func f) (h_a : okD s_api_Pos a) (h_b : okD s_api_Pos b) (hp : smallF f) : Runs E_A24 (start E_A24 f_r27_Query [(.tv s_api_Func f), (.tv s_api_Pos a), (.tv s_api_Pos b)]) (fun r_ h_ => r_ = (vi (qryR f a b)) ∧ h_ = []) := .tree E_A24_ok (r27_Query_t f a b) (by
  have hp_ := hp
  try simp only [z] at hp_
  refine ⟨trivial, fun _ => ?_⟩
  refine fun _ => ?_
  refine ⟨trivial, fun _ => ?_⟩
  refine fun _ => ?_
  refine wp_cond (fun h1 => ?_) (fun h1 => ?_)
  · have h1_ := beq_t h1
    exact ⟨by simp only [qryR, h1, cond_true, cond_false], rfl⟩
  · have h1_ := beq_f h1
    refine wp_cond (fun h2 => ?_) (fun h2 => ?_)
    · have h2_ := beq_t h2
      exact ⟨by simp only [qryR, h1, h2, cond_true, cond_false], rfl⟩
    · have h2_ := beq_f h2
      refine wp_cond (fun h3 => ?_) (fun h3 => ?_)
      · have h3_ := bne_t h3
        exact ⟨by simp only [qryR, h1, h2, h3, cond_true, cond_false], rfl⟩
      · have h3_ := bne_f h3
        refine ⟨by first | omega | exact (hp) | (have g_ := hp; omega) | exact (acs_in2 (by assumption)) | (have g_ := acs_in2 (by assumption); omega) | assumption | exact hp.1 | exact hp.2 | exact hp.2.1 | (simp_all; done) | (simp_all; omega), fun _ => ?_⟩
        refine fun _ => ?_
        refine ⟨by first | omega | exact (hp) | (have g_ := hp; omega) | exact (acs_in2 (by assumption)) | (have g_ := acs_in2 (by assumption); omega) | assumption | exact hp.1 | exact hp.2 | exact hp.2.1 | (simp_all; done) | (simp_all; omega), fun _ => ?_⟩
        refine ⟨by first | omega | exact (hp) | (have g_ := hp; omega) | exact (acs_in2 (by assumption)) | (have g_ := acs_in2 (by assumption); omega) | assumption | exact hp.1 | exact hp.2 | exact hp.2.1 | (simp_all; done) | (simp_all; omega), fun _ => ?_⟩
        refine ⟨by first | omega | exact (hp) | (have g_ := hp; omega) | exact (acs_in2 (by assumption)) | (have g_ := acs_in2 (by assumption); omega) | assumption | exact hp.1 | exact hp.2 | exact hp.2.1 | (simp_all; done) | (simp_all; omega), fun _ => ?_⟩
        refine fun _ => ?_
        exact ⟨by simp only [qryR, h1, h2, h3, cond_true, cond_false], rfl⟩)
theorem c_r27_Query : SpecOK E_A24 f_r27_Query k_r27_Query.spec := spec_of fun x hx hp => ⟨rfl, m_r27_Query x.1 x.2.1 x.2.2.1 hx.1 hx.2.1 hx.2.2.1 hp⟩
def L_A24 : List (FuncId × FSpec) := [(f_alias_Query, k_query2.spec), (f_r27_Query, k_r27_Query.spec)] ++ L_A23
theorem L_A24_ok : ∀ x ∈ L_A24, SpecOK (ctx []) x.1 x.2 := by
  unfold L_A24
  simp only [List.cons_append, List.nil_append, List.forall_mem_cons]
  exact ⟨c_query2, c_r27_Query, L_A23_ok⟩
end Burn.M27Q
namespace Burn.M27Q
open Go Go.BE Go.Proofs
set_option maxRecDepth 100000
set_option linter.unusedVariables false
set_option linter.unusedSimpArgs false
open Burn.Cfg Burn.Intn Burn.Ref
noncomputable abbrev E_A25 : Ctx := ctx L_A24
theorem E_A25_ok : EOK E_A25 := ctx_ok L_A24_ok
def cuts_A25 : CutL := [([], 16, 0, [3, 10, 11, 12], [], [])]
def rets_A25 : FuncId → List (Option Fx)
  | _ => []
def H_A25 : Hints := { cut := cutOf cuts_A25, ret := rets_A25 }
noncomputable def r14_Size_L0 (n : Int) (t10 : List (Den s_api_Block)) (t11 : Int) (t12 : Int) : Cfg := hcfg E_A25 f_r14_Size 0 [(3, (vi n)), (10, (.tv (.sl 136 s_api_Block) t10)), (11, (vi t11)), (12, (vi t12))] [] 0
theorem r14_Size_t (f : Den s_api_Func) : run E_A25 H_A25 f_r14_Size 3000 (start E_A25 f_r14_Size [(.tv s_api_Func f)]) = (hd (r14_Size_L0 ((ln s_api_Block f.2.2.2.2.1) : Int) f.2.2.2.2.1 ((ln s_api_Block f.2.2.2.2.1) : Int) (0 : Int))) := by kernel_rfl
theorem r14_Size_L0_t (n : Int) (t10 : List (Den s_api_Block)) (t11 : Int) (t12 : Int) : run E_A25 H_A25 f_r14_Size 3000 (r14_Size_L0 n t10 t11 t12) = (cond (decide (t12 < t11)) (.chk (0 ≤ t12 ∧ t12 < (ln s_api_Block t10)) (hd (r14_Size_L0 (IntKind.wrap .i64 (n + ((ln s_api_Instr (((gd s_api_Block t10 ((t12).toNat)).2).1)) : Int))) t10 t11 (IntKind.wrap .i64 (t12 + (1 : Int)))))) (rt (vi n) [])) := by kernel_rfl
def sizeF (f : Den s_api_Func) : Int := List.foldl (α := Int) (β := Den s_api_Block) (fun n b => IntKind.wrap .i64 (n + (ln s_api_Instr b.2.1 : Int))) (ln s_api_Block f.2.2.2.2.1 : Int) f.2.2.2.2.1
theorem r14_Size_l (l : List (Den s_api_Block)) (hl : ln s_api_Block l < 9223372036854775807) : ∀ i, i ≤ ln s_api_Block l → ∀ n : Int, Runs E_A25 (r14_Size_L0 n l (ln s_api_Block l : Nat) i) (fun x h => x = vi (List.foldl (α := Int) (β := Den s_api_Block) (fun n b => IntKind.wrap .i64 (n + (ln s_api_Instr b.2.1 : Int))) n (l.drop i)) ∧ h = []) :=
  up_ind (fun n => .tree E_A25_ok (r14_Size_L0_t _ _ _ _) (by
    rw [drop_ln]
    simp only [wp_iff, chk_iff, know_iff, any_iff, rt_iff, hd_iff, true_imp_iff, true_and, and_true, and_self, lt01, Int.ofNat_lt, Int.ofNat_le, Int.natCast_nonneg, Int.toNat_natCast, decide_true, decide_false, Bool.true_eq_false, Bool.false_eq_true, false_imp_iff, Nat.lt_irrefl, imp_self, implies_true,  List.foldl_nil]))
    fun i hi ih n => .tree E_A25_ok (r14_Size_L0_t _ _ _ _) (by
      simp only [wp_iff, chk_iff, know_iff, any_iff, rt_iff, hd_iff, true_imp_iff, true_and, and_true, and_self, lt01, Int.ofNat_lt, Int.ofNat_le, Int.natCast_nonneg, Int.toNat_natCast, decide_true, decide_false, Bool.true_eq_false, Bool.false_eq_true, false_imp_iff, Nat.lt_irrefl, imp_self, implies_true,  hi, wrapS hi hl, drop_gd hi, List.foldl_cons]
      exact ih _)
def k_r14_Size : Con := con [.d s_api_Func] I (fun x => True) fun x => sizeF x.1
theorem m_r14_Size (f : Den s_api_Func) (h_f : okD s_api_Func f) (hp : True) : Runs E_A25 (start E_A25 f_r14_Size [(.tv s_api_Func f)]) (fun r_ h_ => r_ = (vi (sizeF f)) ∧ h_ = []) := .tree E_A25_ok (r14_Size_t f) (by
  unfold sizeF
  simp only [wp_iff, chk_iff, know_iff, any_iff, rt_iff, hd_iff, true_imp_iff, true_and, and_true, and_self, lt01]
  obtain ⟨_, _, _, _, h1, _⟩ := h_f
  exact r14_Size_l _ (room_lt h1.1) 0 (Nat.zero_le _) _)
theorem c_r14_Size : SpecOK E_A25 f_r14_Size k_r14_Size.spec := spec_of fun x hx hp => ⟨rfl, m_r14_Size x.1 hx.1 hp⟩
def L_A25 : List (FuncId × FSpec) := [(f_r14_Size, k_r14_Size.spec)] ++ L_A24
theorem L_A25_ok : ∀ x ∈ L_A25, SpecOK (ctx []) x.1 x.2 := by
  unfold L_A25
  simp only [List.cons_append, List.nil_append, List.forall_mem_cons]
  exact ⟨c_r14_Size, L_A24_ok⟩
end Burn.M27Q
namespace Burn.M27Q
open Go Go.BE Go.Proofs
set_option maxRecDepth 100000
set_option linter.unusedVariables false
set_option linter.unusedSimpArgs false
open Burn.Cfg Burn.Intn Burn.Ref
noncomputable abbrev E_A26 : Ctx := ctx L_A25
theorem E_A26_ok : EOK E_A26 := ctx_ok L_A25_ok
def cuts_A26 : CutL := []
def rets_A26 : FuncId → List (Option Fx)
  | 11 => [some (.dat s_alias_Base)]
  | _ => []
def H_A26 : Hints := { cut := cutOf cuts_A26, ret := rets_A26 }
theorem law27_large_t (f : Den s_api_Func) : run E_A26 H_A26 f_law27_large 3000 (start E_A26 f_law27_large [(.tv s_api_Func f)]) = (cond (decide (((ln s_api_Block f.2.2.2.2.1) : Int) > (60 : Int))) (rt (vb true) []) (cond (decide (((ln I f.2.2.2.1) : Int) > (200 : Int))) (rt (vb true) []) (cond (decide (((ln I f.2.1) : Int) > (50 : Int))) (rt (vb true) []) (.chk (True) (.know (okD (.int .i64) (sizeF f)) (rt (vb (decide ((sizeF f) > (300 : Int)))) [])))))) := by kernel_rfl
theorem law27_ref_t (b : Den s_alias_Base) : run E_A26 H_A26 f_law27_ref 3000 (start E_A26 f_law27_ref [(.tv s_alias_Base b)]) = (.chk ((0 : Nat) < (1 : Nat)) (.chk ((0 : Nat) < (1 : Nat)) (rt (.tv s_alias_Base b) []))) := by kernel_rfl
def lrgF (f : Den s_api_Func) : Bool := (cond (decide (((ln s_api_Block f.2.2.2.2.1) : Int) > (60 : Int))) true (cond (decide (((ln I f.2.2.2.1) : Int) > (200 : Int))) true (cond (decide (((ln I f.2.1) : Int) > (50 : Int))) true (decide ((sizeF f) > (300 : Int))))))

def k_law27_large : Con := con [.d s_api_Func] .bool (fun x => True) fun x => lrgF x.1
theorem m_law27_large (f : Den s_api_Func) (h_f : okD s_api_Func f) (hp : True) : Runs E_A26 (start E_A26 f_law27_large [(.tv s_api_Func f)]) (fun r_ h_ => r_ = (vb (lrgF f)) ∧ h_ = []) := .tree E_A26_ok (law27_large_t f) (by
  refine wp_cond (fun h1 => ?_) (fun h1 => ?_)
  · have h1_ := of_decide_eq_true h1
    exact ⟨by simp only [lrgF, h1, cond_true, cond_false], rfl⟩
  · have h1_ := of_decide_eq_false h1
    refine wp_cond (fun h2 => ?_) (fun h2 => ?_)
    · have h2_ := of_decide_eq_true h2
      exact ⟨by simp only [lrgF, h1, h2, cond_true, cond_false], rfl⟩
    · have h2_ := of_decide_eq_false h2
      refine wp_cond (fun h3 => ?_) (fun h3 => ?_)
      · have h3_ := of_decide_eq_true h3
        exact ⟨by simp only [lrgF, h1, h2, h3, cond_true, cond_false], rfl⟩
      · have h3_ := of_decide_eq_false h3
        refine ⟨trivial, fun _ => ?_⟩
        refine fun _ => ?_
        exact ⟨by simp only [lrgF, h1, h2, h3, cond_true, cond_false], rfl⟩)
theorem c_law27_large : SpecOK E_A26 f_law27_large k_law27_large.spec := spec_of fun x hx hp => ⟨rfl, m_law27_large x.1 hx.1 hp⟩
def refB (b : Den s_alias_Base) : Den s_alias_Base := b

def k_law27_ref : Con := con [.d s_alias_Base] s_alias_Base (fun x => True) fun x => refB x.1
theorem m_law27_ref (b : Den s_alias_Base) (h_b : okD s_alias_Base b) (hp : True) : Runs E_A26 (start E_A26 f_law27_ref [(.tv s_alias_Base b)]) (fun r_ h_ => r_ = (.tv s_alias_Base (refB b)) ∧ h_ = []) := .tree E_A26_ok (law27_ref_t b) (by
  refine ⟨Nat.zero_lt_one, fun _ => ?_⟩
  refine ⟨Nat.zero_lt_one, fun _ => ?_⟩
  exact ⟨by simp only [refB, cond_true, cond_false], rfl⟩)
theorem c_law27_ref : SpecOK E_A26 f_law27_ref k_law27_ref.spec := spec_of fun x hx hp => ⟨rfl, m_law27_ref x.1 hx.1 hp⟩
def L_A26 : List (FuncId × FSpec) := [(f_law27_large, k_law27_large.spec), (f_law27_ref, k_law27_ref.spec)] ++ L_A25
theorem L_A26_ok : ∀ x ∈ L_A26, SpecOK (ctx []) x.1 x.2 := by
  unfold L_A26
  simp only [List.cons_append, List.nil_append, List.forall_mem_cons]
  exact ⟨c_law27_large, c_law27_ref, L_A25_ok⟩
end Burn.M27Q
namespace Burn.M27Q
open Go Go.BE Go.Proofs
set_option maxRecDepth 100000
set_option linter.unusedVariables false
set_option linter.unusedSimpArgs false
open Burn.Cfg Burn.Intn Burn.Ref
noncomputable abbrev E_A27 : Ctx := ctx L_A26
theorem E_A27_ok : EOK E_A27 := ctx_ok L_A26_ok
def cuts_A27 : CutL := []
def rets_A27 : FuncId → List (Option Fx)
  | _ => []
def H_A27 : Hints := { cut := cutOf cuts_A27, ret := rets_A27 }
theorem law27_AliasRelate_t (f : Den s_api_Func) (a : Den s_alias_Base) (b : Den s_alias_Base) (n : Int) (k : Int) : run E_A27 H_A27 f_law27_AliasRelate 3000 (start E_A27 f_law27_AliasRelate [(.tv s_api_Func f), (.tv s_alias_Base a), (.tv s_alias_Base b), (vi n), (vi k)]) = (.chk ((0 : Nat) < (1 : Nat)) (.chk (True) (.know True (cond (lrgF f) (.chk (True) (.know True (rt (vb (worksR)) []))) (.chk ((0 : Nat) < (1 : Nat)) (.chk ((0 : Nat) < (1 : Nat)) (.chk ((0 : Nat) < (1 : Nat)) (.chk (smallF f) (.know (okD (.int .i64) (relF f a b n k)) (.chk ((0 : Nat) < (1 : Nat)) (.chk ((0 : Nat) < (1 : Nat)) (.chk (True) (.chk ((0 : Nat) < (1 : Nat)) (.chk (True) (.chk (smallF f) (cond ((relF f a b n k) == (relQ f (refB a) (refB b) n k)) (.chk ((0 : Nat) < (1 : Nat)) (.chk ((0 : Nat) < (1 : Nat)) (.chk ((0 : Nat) < (1 : Nat)) (.chk (smallF f) (cond ((relF f a b n k) == (relF f b a k n)) (.chk (True) (.know (okD s_alias_Base (refB a)) (.know (okD s_alias_Base (refB b)) (.know (okD (.int .i64) (relQ f (refB a) (refB b) n k)) (.know (okD (.int .i64) (relF f b a k n)) (.know True (rt (vb (worksR)) []))))))) (.know (okD s_alias_Base (refB a)) (.know (okD s_alias_Base (refB b)) (.know (okD (.int .i64) (relQ f (refB a) (refB b) n k)) (.know (okD (.int .i64) (relF f b a k n)) (rt (vb false) [])))))))))) (.know (okD s_alias_Base (refB a)) (.know (okD s_alias_Base (refB b)) (.know (okD (.int .i64) (relQ f (refB a) (refB b) n k)) (rt (vb false) [])))))))))))))))))))) := by kernel_rfl
theorem law27_AliasQuery_t (f : Den s_api_Func) (a : Den s_api_Pos) (b : Den s_api_Pos) : run E_A27 H_A27 f_law27_AliasQuery 3000 (start E_A27 f_law27_AliasQuery [(.tv s_api_Func f), (.tv s_api_Pos a), (.tv s_api_Pos b)]) = (.chk ((0 : Nat) < (1 : Nat)) (.chk (True) (.know True (cond (lrgF f) (.chk (True) (.know True (rt (vb (worksR)) []))) (.chk ((0 : Nat) < (1 : Nat)) (.chk ((0 : Nat) < (1 : Nat)) (.chk ((0 : Nat) < (1 : Nat)) (.chk (smallF f) (.know (okD (.int .i64) (qryF f a b)) (.chk ((0 : Nat) < (1 : Nat)) (.chk ((0 : Nat) < (1 : Nat)) (.chk ((0 : Nat) < (1 : Nat)) (.chk (smallF f) (.know (okD (.int .i64) (qryR f a b)) (cond ((qryF f a b) == (qryR f a b)) (.chk ((0 : Nat) < (1 : Nat)) (.chk ((0 : Nat) < (1 : Nat)) (.chk ((0 : Nat) < (1 : Nat)) (.chk (smallF f) (.know (okD (.int .i64) (qryF f b a)) (cond ((qryF f a b) == (qryF f b a)) (.chk (True) (.know True (rt (vb (worksR)) []))) (rt (vb false) []))))))) (rt (vb false) [])))))))))))))))) := by kernel_rfl
def yesR (_ : Fn) (_ _ : Bs) (_ _ : Int) : Bool := true
def yesQ (_ : Fn) (_ _ : Den s_api_Pos) : Bool := true
theorem qry_eq {f : Fn} {a b : Den s_api_Pos} : qryF f a b = qryR f a b := by
  unfold qryF qryR
  rcases acs_rel f a with ⟨a1, a2, a3, _⟩ | ⟨a1, a2⟩
  · rw [show bOf (acsP f a).2.2 = true from a1, a2, show (z (accR (acsP f a).2.1).2 == 0) = false from beq_eq_false_iff_ne.2 (by omega)]
    simp only [Bool.not_true, cond_false]
    rcases acs_rel f b with ⟨b1, b2, b3, _⟩ | ⟨b1, b2⟩
    · rw [show bOf (acsP f b).2.2 = true from b1, b2, show (z (accR (acsP f b).2.1).2 == 0) = false from beq_eq_false_iff_ne.2 (by omega)]
      simp only [Bool.not_true, cond_false, acc_eq]
      rw [relF_eq, relQ_eq]
    · rw [show bOf (acsP f b).2.2 = false from b1, show (z (acsR f b).2.2 == 0) = true from beq_iff_eq.2 b2]
      rfl
  · rw [show bOf (acsP f a).2.2 = false from a1, show (z (acsR f a).2.2 == 0) = true from beq_iff_eq.2 a2]
    rfl
theorem qry_comm {f : Fn} {a b : Den s_api_Pos} : qryF f a b = qryF f b a := by
  unfold qryF
  rw [relF_eq, relF_eq, relS_comm]
  cases bOf (acsP f a).2.2 <;> cases bOf (acsP f b).2.2 <;> try rfl
  simp only [Bool.not_true, cond_false]
  rw [show (z (accP (acsP f a).2.1).1 != z (accP (acsP f b).2.1).1) = (z (accP (acsP f b).2.1).1 != z (accP (acsP f a).2.1).1) from bne_comm]

def k_law27_AliasRelate : Con := con [.d s_api_Func, .d s_alias_Base, .d s_alias_Base, .d I, .d I] .bool (fun x => smallF x.1) fun x => yesR x.1 x.2.1 x.2.2.1 x.2.2.2.1 x.2.2.2.2.1
theorem m_law27_AliasRelate (f : Den s_api_Func) (a : Den s_alias_Base) (b : Den s_alias_Base) (n : Int) (k : Int) (h_f : okD s_api_Func f) (h_a : okD s_alias_Base a) (h_b : okD s_alias_Base b) (h_n : okD I n) (h_k : okD I k) (hp : smallF f) : Runs E_A27 (start E_A27 f_law27_AliasRelate [(.tv s_api_Func f), (.tv s_alias_Base a), (.tv s_alias_Base b), (vi n), (vi k)]) (fun r_ h_ => r_ = (vb (yesR f a b n k)) ∧ h_ = []) := .tree E_A27_ok (law27_AliasRelate_t f a b n k) (by
  have e1 : relF f a b n k = relQ f (refB a) (refB b) n k := relF_eq.trans relQ_eq.symm
  have e2 : relF f a b n k = relF f b a k n := relF_eq.trans (relS_comm.trans relF_eq.symm)
  repeat' (first | refine ⟨trivial, fun _ => ?_⟩ | refine ⟨Nat.zero_lt_one, fun _ => ?_⟩ | refine ⟨hp, fun _ => ?_⟩ | exact ⟨rfl, rfl⟩ | refine fun _ => ?_ | refine wp_cond (fun _ => ?_) (fun h => absurd e1 (beq_f h)) | refine wp_cond (fun _ => ?_) (fun h => absurd e2 (beq_f h)) | refine wp_cond (fun _ => ?_) (fun _ => ?_)))
theorem c_law27_AliasRelate : SpecOK E_A27 f_law27_AliasRelate k_law27_AliasRelate.spec := spec_of fun x hx hp => ⟨rfl, m_law27_AliasRelate x.1 x.2.1 x.2.2.1 x.2.2.2.1 x.2.2.2.2.1 hx.1 hx.2.1 hx.2.2.1 hx.2.2.2.1 hx.2.2.2.2.1 hp⟩

def k_law27_AliasQuery : Con := con [.d s_api_Func, .d s_api_Pos, .d s_api_Pos] .bool (fun x => smallF x.1) fun x => yesQ x.1 x.2.1 x.2.2.1
theorem m_law27_AliasQuery (f : Den s_api_Func) (a : Den s_api_Pos) (b : Den s_api_Pos) (h_f : okD s_api_Func f) (h_a : okD s_api_Pos a) (h_b : okD s_api_Pos b) (hp : smallF f) : Runs E_A27 (start E_A27 f_law27_AliasQuery [(.tv s_api_Func f), (.tv s_api_Pos a), (.tv s_api_Pos b)]) (fun r_ h_ => r_ = (vb (yesQ f a b)) ∧ h_ = []) := .tree E_A27_ok (law27_AliasQuery_t f a b) (by
  have e1 : qryF f a b = qryR f a b := qry_eq
  have e2 : qryF f a b = qryF f b a := qry_comm
  repeat' (first | refine ⟨trivial, fun _ => ?_⟩ | refine ⟨Nat.zero_lt_one, fun _ => ?_⟩ | refine ⟨hp, fun _ => ?_⟩ | exact ⟨rfl, rfl⟩ | refine fun _ => ?_ | refine wp_cond (fun _ => ?_) (fun h => absurd e1 (beq_f h)) | refine wp_cond (fun _ => ?_) (fun h => absurd e2 (beq_f h)) | refine wp_cond (fun _ => ?_) (fun _ => ?_)))
theorem c_law27_AliasQuery : SpecOK E_A27 f_law27_AliasQuery k_law27_AliasQuery.spec := spec_of fun x hx hp => ⟨rfl, m_law27_AliasQuery x.1 x.2.1 x.2.2.1 hx.1 hx.2.1 hx.2.2.1 hp⟩
end Burn.M27Q

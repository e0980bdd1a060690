/- What the functions that the law reaches compute, one contract each. No conditions beyond those written. -/
import Derived.Test.YteaealfalanccaaGreatDoorWalkA
import Derived.Test.YteaealfalanccaaGreatDoorEngineD
namespace Burn.MTT
open Go Go.BE Go.Proofs
set_option maxRecDepth 100000
set_option linter.unusedVariables false
set_option linter.unusedSimpArgs false
open Burn.Intn Burn.Ref
noncomputable abbrev E_V13 : Ctx := ctx L_V12
theorem E_V13_ok : EOK E_V13 := qbq L_V12_ok
def cuts_V13 : CutL := []
def rets_V13 : FuncId → List (Option Fx)
 | _ => []
def H_V13 : Hints := { cut := cutOf cuts_V13, ret := rets_V13 }
theorem opcode_typed_t (in_ : Den qac) (args : List (Den I)) (m : Den qad) : run E_V13 H_V13 qhn 3000 (start E_V13 qhn [(.tv qac in_), (.tv (.sl 8 I) args), (.tv qad m)]) = (cond ((z in_.1) == (1 : Int)) (.chk (True) (.know True (rt (vb (intP in_.2.1)) []))) (cond ((z in_.1) == (2 : Int)) (.chk (True) (.know True (rt (vb (typP in_.2.1)) []))) (cond ((z in_.1) == (3 : Int)) (.chk (True) (.know True (cond (typP in_.2.1) (cond ((z in_.2.1) != (5 : Int)) (.chk (True) (.know True (rt (vb (samF args in_.2.1)) []))) (rt (vb false) [])) (rt (vb false) [])))) (cond ((z in_.1) == (4 : Int)) (.chk (True) (.know True (cond (typP in_.2.1) (.chk (True) (.know True (rt (vb (samF args in_.2.1)) []))) (rt (vb false) [])))) (cond ((z in_.1) == (5 : Int)) (.chk (True) (.know True (cond (wideP in_.2.1) (.chk (True) (.know True (rt (vb (samF args in_.2.1)) []))) (.chk (True) (.know True (cond (vecP in_.2.1) (.chk (True) (.know True (rt (vb (samF args in_.2.1)) []))) (rt (vb false) []))))))) (cond ((z in_.1) == (6 : Int)) (.chk (True) (.know True (cond (wideP in_.2.1) (.chk (True) (.know True (rt (vb (samF args in_.2.1)) []))) (.chk (True) (.know True (cond (vecP in_.2.1) (.chk (True) (.know True (rt (vb (samF args in_.2.1)) []))) (rt (vb false) []))))))) (cond ((z in_.1) == (7 : Int)) (.chk (True) (.know True (cond (wideP in_.2.1) (.chk (True) (.know True (rt (vb (samF args in_.2.1)) []))) (.chk (True) (.know True (cond (vecP in_.2.1) (.chk (True) (.know True (rt (vb (samF args in_.2.1)) []))) (rt (vb false) []))))))) (cond ((z in_.1) == (8 : Int)) (.chk (True) (.know True (cond (intP in_.2.1) (.chk (True) (.know True (rt (vb (samF args in_.2.1)) []))) (.chk (True) (.know True (cond (vecP in_.2.1) (.chk (True) (.know True (rt (vb (samF args in_.2.1)) []))) (rt (vb false) []))))))) (cond ((z in_.1) == (9 : Int)) (.chk (True) (.know True (cond (intP in_.2.1) (.chk (True) (.know True (rt (vb (samF args in_.2.1)) []))) (.chk (True) (.know True (cond (vecP in_.2.1) (.chk (True) (.know True (rt (vb (samF args in_.2.1)) []))) (rt (vb false) []))))))) (cond ((z in_.1) == (10 : Int)) (.chk (True) (.know True (cond (intP in_.2.1) (.chk (True) (.know True (rt (vb (samF args in_.2.1)) []))) (.chk (True) (.know True (cond (vecP in_.2.1) (.chk (True) (.know True (rt (vb (samF args in_.2.1)) []))) (rt (vb false) []))))))) (cond ((z in_.1) == (11 : Int)) (.chk (True) (.know True (cond (wideP in_.2.1) (.chk (True) (.know True (rt (vb (samF args in_.2.1)) []))) (rt (vb false) [])))) (cond ((z in_.1) == (12 : Int)) (.chk (True) (.know True (cond (wideP in_.2.1) (.chk (True) (.know True (rt (vb (samF args in_.2.1)) []))) (rt (vb false) [])))) (cond ((z in_.1) == (13 : Int)) (.chk (True) (.know True (cond (wideP in_.2.1) (.chk (True) (.know True (rt (vb (samF args in_.2.1)) []))) (rt (vb false) [])))) (cond ((z in_.1) == (14 : Int)) (.chk (True) (.know True (cond (wideP in_.2.1) (.chk (True) (.know True (rt (vb (samF args in_.2.1)) []))) (rt (vb false) [])))) (cond ((z in_.1) == (15 : Int)) (.chk (True) (.know True (cond (wideP in_.2.1) (.chk (True) (.know True (rt (vb (samF args in_.2.1)) []))) (rt (vb false) [])))) (cond ((z in_.1) == (16 : Int)) (cond ((z in_.2.1) == (1 : Int)) (.chk (0 ≤ (0 : Int) ∧ (0 : Int) < (ln I args)) (.chk (True) (cond (intP (gd I args (0 : Nat))) (.chk (0 ≤ (1 : Int) ∧ (1 : Int) < (ln I args)) (.chk (0 ≤ (0 : Int) ∧ (0 : Int) < (ln I args)) (.know True (rt (vb ((z (gd I args (1 : Nat))) == (z (gd I args (0 : Nat))))) [])))) (.chk (0 ≤ (0 : Int) ∧ (0 : Int) < (ln I args)) (cond ((z (gd I args (0 : Nat))) == (5 : Int)) (.chk (0 ≤ (1 : Int) ∧ (1 : Int) < (ln I args)) (.chk (0 ≤ (0 : Int) ∧ (0 : Int) < (ln I args)) (.know True (rt (vb ((z (gd I args (1 : Nat))) == (z (gd I args (0 : Nat))))) [])))) (.know True (rt (vb false) []))))))) (rt (vb false) [])) (cond ((z in_.1) == (17 : Int)) (cond ((z in_.2.1) == (1 : Int)) (.chk (0 ≤ (0 : Int) ∧ (0 : Int) < (ln I args)) (.chk (True) (cond (intP (gd I args (0 : Nat))) (.chk (0 ≤ (1 : Int) ∧ (1 : Int) < (ln I args)) (.chk (0 ≤ (0 : Int) ∧ (0 : Int) < (ln I args)) (.know True (rt (vb ((z (gd I args (1 : Nat))) == (z (gd I args (0 : Nat))))) [])))) (.chk (0 ≤ (0 : Int) ∧ (0 : Int) < (ln I args)) (cond ((z (gd I args (0 : Nat))) == (5 : Int)) (.chk (0 ≤ (1 : Int) ∧ (1 : Int) < (ln I args)) (.chk (0 ≤ (0 : Int) ∧ (0 : Int) < (ln I args)) (.know True (rt (vb ((z (gd I args (1 : Nat))) == (z (gd I args (0 : Nat))))) [])))) (.know True (rt (vb false) []))))))) (rt (vb false) [])) (cond ((z in_.1) == (18 : Int)) (cond ((z in_.2.1) == (1 : Int)) (.chk (0 ≤ (0 : Int) ∧ (0 : Int) < (ln I args)) (.chk (True) (cond (wideP (gd I args (0 : Nat))) (.chk (0 ≤ (1 : Int) ∧ (1 : Int) < (ln I args)) (.chk (0 ≤ (0 : Int) ∧ (0 : Int) < (ln I args)) (.know True (rt (vb ((z (gd I args (1 : Nat))) == (z (gd I args (0 : Nat))))) [])))) (.know True (rt (vb false) []))))) (rt (vb false) [])) (cond ((z in_.1) == (19 : Int)) (cond ((z in_.2.1) == (1 : Int)) (.chk (0 ≤ (0 : Int) ∧ (0 : Int) < (ln I args)) (.chk (True) (cond (wideP (gd I args (0 : Nat))) (.chk (0 ≤ (1 : Int) ∧ (1 : Int) < (ln I args)) (.chk (0 ≤ (0 : Int) ∧ (0 : Int) < (ln I args)) (.know True (rt (vb ((z (gd I args (1 : Nat))) == (z (gd I args (0 : Nat))))) [])))) (.know True (rt (vb false) []))))) (rt (vb false) [])) (cond ((z in_.1) == (20 : Int)) (cond ((z in_.2.1) == (1 : Int)) (.chk (0 ≤ (0 : Int) ∧ (0 : Int) < (ln I args)) (.chk (True) (cond (wideP (gd I args (0 : Nat))) (.chk (0 ≤ (1 : Int) ∧ (1 : Int) < (ln I args)) (.chk (0 ≤ (0 : Int) ∧ (0 : Int) < (ln I args)) (.know True (rt (vb ((z (gd I args (1 : Nat))) == (z (gd I args (0 : Nat))))) [])))) (.know True (rt (vb false) []))))) (rt (vb false) [])) (cond ((z in_.1) == (21 : Int)) (.chk (True) (.know True (cond (typP in_.2.1) (.chk (0 ≤ (0 : Int) ∧ (0 : Int) < (ln I args)) (cond ((z (gd I args (0 : Nat))) == (1 : Int)) (.chk (0 ≤ (1 : Int) ∧ (1 : Int) ≤ ((ln I args) : Int) ∧ ((ln I args) : Int) ≤ ((ln I args) : Int)) (.chk (True) (.know True (rt (vb (samF (wn I args (1 : Nat) ((ln I args) - (1 : Nat))) in_.2.1)) [])))) (rt (vb false) []))) (rt (vb false) [])))) (cond ((z in_.1) == (22 : Int)) (.chk (0 ≤ (0 : Int) ∧ (0 : Int) < (ln I args)) (cond ((z (gd I args (0 : Nat))) == (2 : Int)) (cond ((z in_.2.1) == (3 : Int)) (.chk (0 ≤ (0 : Int) ∧ (0 : Int) < (ln I args)) (rt (vb (decide ((z in_.2.1) > (z (gd I args (0 : Nat)))))) [])) (cond ((z in_.2.1) == (4 : Int)) (.chk (0 ≤ (0 : Int) ∧ (0 : Int) < (ln I args)) (rt (vb (decide ((z in_.2.1) > (z (gd I args (0 : Nat)))))) [])) (rt (vb false) []))) (.chk (0 ≤ (0 : Int) ∧ (0 : Int) < (ln I args)) (cond ((z (gd I args (0 : Nat))) == (3 : Int)) (cond ((z in_.2.1) == (3 : Int)) (.chk (0 ≤ (0 : Int) ∧ (0 : Int) < (ln I args)) (rt (vb (decide ((z in_.2.1) > (z (gd I args (0 : Nat)))))) [])) (cond ((z in_.2.1) == (4 : Int)) (.chk (0 ≤ (0 : Int) ∧ (0 : Int) < (ln I args)) (rt (vb (decide ((z in_.2.1) > (z (gd I args (0 : Nat)))))) [])) (rt (vb false) []))) (rt (vb false) []))))) (cond ((z in_.1) == (23 : Int)) (.chk (0 ≤ (0 : Int) ∧ (0 : Int) < (ln I args)) (cond ((z (gd I args (0 : Nat))) == (1 : Int)) (.chk (True) (.know True (cond (wideP in_.2.1) (.chk (0 ≤ (0 : Int) ∧ (0 : Int) < (ln I args)) (rt (vb (decide ((z in_.2.1) > (z (gd I args (0 : Nat)))))) [])) (rt (vb false) [])))) (.chk (0 ≤ (0 : Int) ∧ (0 : Int) < (ln I args)) (cond ((z (gd I args (0 : Nat))) == (2 : Int)) (.chk (True) (.know True (cond (wideP in_.2.1) (.chk (0 ≤ (0 : Int) ∧ (0 : Int) < (ln I args)) (rt (vb (decide ((z in_.2.1) > (z (gd I args (0 : Nat)))))) [])) (rt (vb false) [])))) (.chk (0 ≤ (0 : Int) ∧ (0 : Int) < (ln I args)) (cond ((z (gd I args (0 : Nat))) == (3 : Int)) (.chk (True) (.know True (cond (wideP in_.2.1) (.chk (0 ≤ (0 : Int) ∧ (0 : Int) < (ln I args)) (rt (vb (decide ((z in_.2.1) > (z (gd I args (0 : Nat)))))) [])) (rt (vb false) [])))) (rt (vb false) []))))))) (cond ((z in_.1) == (24 : Int)) (.chk (0 ≤ (0 : Int) ∧ (0 : Int) < (ln I args)) (.chk (True) (.know True (cond (wideP (gd I args (0 : Nat))) (.chk (True) (.know True (cond (intP in_.2.1) (.chk (0 ≤ (0 : Int) ∧ (0 : Int) < (ln I args)) (rt (vb (decide ((z in_.2.1) < (z (gd I args (0 : Nat)))))) [])) (rt (vb false) [])))) (rt (vb false) []))))) (cond ((z in_.1) == (25 : Int)) (rt (vb ((z in_.2.1) == (5 : Int))) []) (cond ((z in_.1) == (26 : Int)) (rt (vb ((z in_.2.1) == (5 : Int))) []) (cond ((z in_.1) == (27 : Int)) (cond ((z in_.2.1) == (5 : Int)) (.chk (0 ≤ (0 : Int) ∧ (0 : Int) < (ln I args)) (cond ((z (gd I args (0 : Nat))) == (5 : Int)) (.chk (0 ≤ (1 : Int) ∧ (1 : Int) < (ln I args)) (rt (vb ((z (gd I args (1 : Nat))) == (4 : Int))) [])) (rt (vb false) []))) (rt (vb false) [])) (cond ((z in_.1) == (28 : Int)) (.chk (True) (.know True (cond (cellP in_.2.1) (.chk (0 ≤ (0 : Int) ∧ (0 : Int) < (ln I args)) (rt (vb ((z (gd I args (0 : Nat))) == (5 : Int))) [])) (rt (vb false) [])))) (cond ((z in_.1) == (29 : Int)) (cond ((z in_.2.1) == (0 : Int)) (.chk (0 ≤ (0 : Int) ∧ (0 : Int) < (ln I args)) (cond ((z (gd I args (0 : Nat))) == (5 : Int)) (.chk (0 ≤ (1 : Int) ∧ (1 : Int) < (ln I args)) (.chk (True) (.know True (rt (vb (cellP (gd I args (1 : Nat)))) [])))) (rt (vb false) []))) (rt (vb false) [])) (cond ((z in_.1) == (30 : Int)) (.chk ((0 ≤ z in_.2.2.2.2.2.1 ∧ z in_.2.2.2.2.2.1 < (ln qab m.2.1 : Nat)) ∧ ln I (gd qab m.2.1 (z in_.2.2.2.2.2.1).toNat).2.1 ≤ ln I args) (.know True (rt (vb (calF in_ args m)) []))) (cond ((z in_.1) == (31 : Int)) (cond ((z in_.2.1) == (0 : Int)) (.chk (0 ≤ (0 : Int) ∧ (0 : Int) < (ln I args)) (.chk (True) (.know True (rt (vb (typP (gd I args (0 : Nat)))) [])))) (rt (vb false) [])) (cond ((z in_.1) == (32 : Int)) (cond ((z in_.2.1) == (6 : Int)) (cond (((ln I args) : Int) == (2 : Int)) (.chk (True) (.know True (rt (vb (samF args (3 : Int))) []))) (cond ((z in_.2.1) == (7 : Int)) (cond (((ln I args) : Int) == (4 : Int)) (.chk (True) (.know True (rt (vb (samF args (3 : Int))) []))) (rt (vb false) [])) (rt (vb false) []))) (cond ((z in_.2.1) == (7 : Int)) (cond (((ln I args) : Int) == (4 : Int)) (.chk (True) (.know True (rt (vb (samF args (3 : Int))) []))) (rt (vb false) [])) (rt (vb false) []))) (cond ((z in_.2.1) == (3 : Int)) (.chk (0 ≤ (0 : Int) ∧ (0 : Int) < (ln I args)) (.chk (True) (.know True (rt (vb (vecP (gd I args (0 : Nat)))) [])))) (rt (vb false) [])))))))))))))))))))))))))))))))))) := by kernel_rfl
def tydOK (x : Ins) (args : List (Den I)) (m : Md) : Prop := (z x.1 = 30 → (0 ≤ z x.2.2.2.2.2.1 ∧ z x.2.2.2.2.2.1 < (ln qab m.2.1 : Nat)) ∧ ln I (gd qab m.2.1 (z x.2.2.2.2.2.1).toNat).2.1 ≤ ln I args) ∧
 ((16 ≤ z x.1 ∧ z x.1 ≤ 21 ∨ z x.1 = 27 ∨ z x.1 = 29) → 2 ≤ ln I args) ∧ (z x.1 = 21 → 3 ≤ ln I args) ∧ ((22 ≤ z x.1 ∧ z x.1 ≤ 24 ∨ z x.1 = 28 ∨ z x.1 = 31 ∨ z x.1 = 33) → 1 ≤ ln I args)
def tydP (in_ : Den qac) (args : List (Den I)) (m : Den qad) : Bool := (cond ((z in_.1) == (1 : Int)) (intP in_.2.1) (cond ((z in_.1) == (2 : Int)) (typP in_.2.1) (cond ((z in_.1) == (3 : Int)) (cond (typP in_.2.1) (cond ((z in_.2.1) != (5 : Int)) (samF args in_.2.1) false) false) (cond ((z in_.1) == (4 : Int)) (cond (typP in_.2.1) (samF args in_.2.1) false) (cond ((z in_.1) == (5 : Int)) (cond (wideP in_.2.1) (samF args in_.2.1) (cond (vecP in_.2.1) (samF args in_.2.1) false)) (cond ((z in_.1) == (6 : Int)) (cond (wideP in_.2.1) (samF args in_.2.1) (cond (vecP in_.2.1) (samF args in_.2.1) false)) (cond ((z in_.1) == (7 : Int)) (cond (wideP in_.2.1) (samF args in_.2.1) (cond (vecP in_.2.1) (samF args in_.2.1) false)) (cond ((z in_.1) == (8 : Int)) (cond (intP in_.2.1) (samF args in_.2.1) (cond (vecP in_.2.1) (samF args in_.2.1) false)) (cond ((z in_.1) == (9 : Int)) (cond (intP in_.2.1) (samF args in_.2.1) (cond (vecP in_.2.1) (samF args in_.2.1) false)) (cond ((z in_.1) == (10 : Int)) (cond (intP in_.2.1) (samF args in_.2.1) (cond (vecP in_.2.1) (samF args in_.2.1) false)) (cond ((z in_.1) == (11 : Int)) (cond (wideP in_.2.1) (samF args in_.2.1) false) (cond ((z in_.1) == (12 : Int)) (cond (wideP in_.2.1) (samF args in_.2.1) false) (cond ((z in_.1) == (13 : Int)) (cond (wideP in_.2.1) (samF args in_.2.1) false) (cond ((z in_.1) == (14 : Int)) (cond (wideP in_.2.1) (samF args in_.2.1) false) (cond ((z in_.1) == (15 : Int)) (cond (wideP in_.2.1) (samF args in_.2.1) false) (cond ((z in_.1) == (16 : Int)) (cond ((z in_.2.1) == (1 : Int)) (cond (intP (gd I args (0 : Nat))) ((z (gd I args (1 : Nat))) == (z (gd I args (0 : Nat)))) (cond ((z (gd I args (0 : Nat))) == (5 : Int)) ((z (gd I args (1 : Nat))) == (z (gd I args (0 : Nat)))) false)) false) (cond ((z in_.1) == (17 : Int)) (cond ((z in_.2.1) == (1 : Int)) (cond (intP (gd I args (0 : Nat))) ((z (gd I args (1 : Nat))) == (z (gd I args (0 : Nat)))) (cond ((z (gd I args (0 : Nat))) == (5 : Int)) ((z (gd I args (1 : Nat))) == (z (gd I args (0 : Nat)))) false)) false) (cond ((z in_.1) == (18 : Int)) (cond ((z in_.2.1) == (1 : Int)) (cond (wideP (gd I args (0 : Nat))) ((z (gd I args (1 : Nat))) == (z (gd I args (0 : Nat)))) false) false) (cond ((z in_.1) == (19 : Int)) (cond ((z in_.2.1) == (1 : Int)) (cond (wideP (gd I args (0 : Nat))) ((z (gd I args (1 : Nat))) == (z (gd I args (0 : Nat)))) false) false) (cond ((z in_.1) == (20 : Int)) (cond ((z in_.2.1) == (1 : Int)) (cond (wideP (gd I args (0 : Nat))) ((z (gd I args (1 : Nat))) == (z (gd I args (0 : Nat)))) false) false) (cond ((z in_.1) == (21 : Int)) (cond (typP in_.2.1) (cond ((z (gd I args (0 : Nat))) == (1 : Int)) (samF (wn I args (1 : Nat) ((ln I args) - (1 : Nat))) in_.2.1) false) false) (cond ((z in_.1) == (22 : Int)) (cond ((z (gd I args (0 : Nat))) == (2 : Int)) (cond ((z in_.2.1) == (3 : Int)) (decide ((z in_.2.1) > (z (gd I args (0 : Nat))))) (cond ((z in_.2.1) == (4 : Int)) (decide ((z in_.2.1) > (z (gd I args (0 : Nat))))) false)) (cond ((z (gd I args (0 : Nat))) == (3 : Int)) (cond ((z in_.2.1) == (3 : Int)) (decide ((z in_.2.1) > (z (gd I args (0 : Nat))))) (cond ((z in_.2.1) == (4 : Int)) (decide ((z in_.2.1) > (z (gd I args (0 : Nat))))) false)) false)) (cond ((z in_.1) == (23 : Int)) (cond ((z (gd I args (0 : Nat))) == (1 : Int)) (cond (wideP in_.2.1) (decide ((z in_.2.1) > (z (gd I args (0 : Nat))))) false) (cond ((z (gd I args (0 : Nat))) == (2 : Int)) (cond (wideP in_.2.1) (decide ((z in_.2.1) > (z (gd I args (0 : Nat))))) false) (cond ((z (gd I args (0 : Nat))) == (3 : Int)) (cond (wideP in_.2.1) (decide ((z in_.2.1) > (z (gd I args (0 : Nat))))) false) false))) (cond ((z in_.1) == (24 : Int)) (cond (wideP (gd I args (0 : Nat))) (cond (intP in_.2.1) (decide ((z in_.2.1) < (z (gd I args (0 : Nat))))) false) false) (cond ((z in_.1) == (25 : Int)) ((z in_.2.1) == (5 : Int)) (cond ((z in_.1) == (26 : Int)) ((z in_.2.1) == (5 : Int)) (cond ((z in_.1) == (27 : Int)) (cond ((z in_.2.1) == (5 : Int)) (cond ((z (gd I args (0 : Nat))) == (5 : Int)) ((z (gd I args (1 : Nat))) == (4 : Int)) false) false) (cond ((z in_.1) == (28 : Int)) (cond (cellP in_.2.1) ((z (gd I args (0 : Nat))) == (5 : Int)) false) (cond ((z in_.1) == (29 : Int)) (cond ((z in_.2.1) == (0 : Int)) (cond ((z (gd I args (0 : Nat))) == (5 : Int)) (cellP (gd I args (1 : Nat))) false) false) (cond ((z in_.1) == (30 : Int)) (calF in_ args m) (cond ((z in_.1) == (31 : Int)) (cond ((z in_.2.1) == (0 : Int)) (typP (gd I args (0 : Nat))) false) (cond ((z in_.1) == (32 : Int)) (cond ((z in_.2.1) == (6 : Int)) (cond (((ln I args) : Int) == (2 : Int)) (samF args (3 : Int)) (cond ((z in_.2.1) == (7 : Int)) (cond (((ln I args) : Int) == (4 : Int)) (samF args (3 : Int)) false) false)) (cond ((z in_.2.1) == (7 : Int)) (cond (((ln I args) : Int) == (4 : Int)) (samF args (3 : Int)) false) false)) (cond ((z in_.2.1) == (3 : Int)) (vecP (gd I args (0 : Nat))) false)))))))))))))))))))))))))))))))))

def k_opcode_typed : Con := con [.d qac, .d (.sl 8 I), .d qad] .bool (fun x => 1 ≤ z x.1.1 ∧ z x.1.1 ≤ 33 ∧ tydOK x.1 x.2.1 x.2.2.1) fun x => tydP x.1 x.2.1 x.2.2.1
theorem m_opcode_typed (in_ : Den qac) (args : List (Den I)) (m : Den qad) (h_in_ : okD qac in_) (h_args : okD (.sl 8 I) args) (h_m : okD qad m) (hp : 1 ≤ z in_.1 ∧ z in_.1 ≤ 33 ∧ tydOK in_ args m) : Runs E_V13 (start E_V13 qhn [(.tv qac in_), (.tv (.sl 8 I) args), (.tv qad m)]) (fun r_ h_ => r_ = (vb (tydP in_ args m)) ∧ h_ = []) := .tree E_V13_ok (opcode_typed_t in_ args m) (by
 have hp_ := hp
 try simp only [z] at hp_
 show Tre.wp (Qv _ (fun x_ => (vb x_)) (tydP in_ args m)) _
 unfold tydP
 refine qag (fun h1 => ⟨trivial, fun _ => fun _ => ⟨rfl, rfl⟩⟩) (fun h1 => ?_)
 have h1_ := beq_f h1
 refine qag (fun h2 => ⟨trivial, fun _ => fun _ => ⟨rfl, rfl⟩⟩) (fun h2 => ?_)
 have h2_ := beq_f h2
 refine qag (fun h3 => ?_) (fun h3 => ?_)
 ·refine ⟨trivial, fun _ => ?_⟩
  refine fun _ => ?_
  refine qag (fun h4 => ?_) (fun h4 => ⟨rfl, rfl⟩)
  refine qag (fun h5 => ⟨trivial, fun _ => fun _ => ⟨rfl, rfl⟩⟩) (fun h5 => ?_)
  exact ⟨rfl, rfl⟩
 ·have h3_ := beq_f h3
  refine qag (fun h6 => ?_) (fun h6 => ?_)
  ·refine ⟨trivial, fun _ => ?_⟩
   refine fun _ => ?_
   refine qag (fun h7 => ⟨trivial, fun _ => fun _ => ⟨rfl, rfl⟩⟩) (fun h7 => ?_)
   exact ⟨rfl, rfl⟩
  ·have h6_ := beq_f h6
   refine qag (fun h8 => ?_) (fun h8 => ?_)
   ·refine ⟨trivial, fun _ => ?_⟩
    refine fun _ => ?_
    refine qag (fun h9 => ⟨trivial, fun _ => fun _ => ⟨rfl, rfl⟩⟩) (fun h9 => ?_)
    refine ⟨trivial, fun _ => ?_⟩
    refine fun _ => ?_
    refine qag (fun h10 => ⟨trivial, fun _ => fun _ => ⟨rfl, rfl⟩⟩) (fun h10 => ?_)
    exact ⟨rfl, rfl⟩
   ·have h8_ := beq_f h8
    refine qag (fun h11 => ?_) (fun h11 => ?_)
    ·refine ⟨trivial, fun _ => ?_⟩
     refine fun _ => ?_
     refine qag (fun h12 => ⟨trivial, fun _ => fun _ => ⟨rfl, rfl⟩⟩) (fun h12 => ?_)
     refine ⟨trivial, fun _ => ?_⟩
     refine fun _ => ?_
     refine qag (fun h13 => ⟨trivial, fun _ => fun _ => ⟨rfl, rfl⟩⟩) (fun h13 => ?_)
     exact ⟨rfl, rfl⟩
    ·have h11_ := beq_f h11
     refine qag (fun h14 => ?_) (fun h14 => ?_)
     ·refine ⟨trivial, fun _ => ?_⟩
      refine fun _ => ?_
      refine qag (fun h15 => ⟨trivial, fun _ => fun _ => ⟨rfl, rfl⟩⟩) (fun h15 => ?_)
      refine ⟨trivial, fun _ => ?_⟩
      refine fun _ => ?_
      refine qag (fun h16 => ⟨trivial, fun _ => fun _ => ⟨rfl, rfl⟩⟩) (fun h16 => ?_)
      exact ⟨rfl, rfl⟩
     ·have h14_ := beq_f h14
      refine qag (fun h17 => ?_) (fun h17 => ?_)
      ·refine ⟨trivial, fun _ => ?_⟩
       refine fun _ => ?_
       refine qag (fun h18 => ⟨trivial, fun _ => fun _ => ⟨rfl, rfl⟩⟩) (fun h18 => ?_)
       refine ⟨trivial, fun _ => ?_⟩
       refine fun _ => ?_
       refine qag (fun h19 => ⟨trivial, fun _ => fun _ => ⟨rfl, rfl⟩⟩) (fun h19 => ?_)
       exact ⟨rfl, rfl⟩
      ·have h17_ := beq_f h17
       refine qag (fun h20 => ?_) (fun h20 => ?_)
       ·refine ⟨trivial, fun _ => ?_⟩
        refine fun _ => ?_
        refine qag (fun h21 => ⟨trivial, fun _ => fun _ => ⟨rfl, rfl⟩⟩) (fun h21 => ?_)
        refine ⟨trivial, fun _ => ?_⟩
        refine fun _ => ?_
        refine qag (fun h22 => ⟨trivial, fun _ => fun _ => ⟨rfl, rfl⟩⟩) (fun h22 => ?_)
        exact ⟨rfl, rfl⟩
       ·have h20_ := beq_f h20
        refine qag (fun h23 => ?_) (fun h23 => ?_)
        ·refine ⟨trivial, fun _ => ?_⟩
         refine fun _ => ?_
         refine qag (fun h24 => ⟨trivial, fun _ => fun _ => ⟨rfl, rfl⟩⟩) (fun h24 => ?_)
         refine ⟨trivial, fun _ => ?_⟩
         refine fun _ => ?_
         refine qag (fun h25 => ⟨trivial, fun _ => fun _ => ⟨rfl, rfl⟩⟩) (fun h25 => ?_)
         exact ⟨rfl, rfl⟩
        ·have h23_ := beq_f h23
         refine qag (fun h26 => ?_) (fun h26 => ?_)
         ·refine ⟨trivial, fun _ => ?_⟩
          refine fun _ => ?_
          refine qag (fun h27 => ⟨trivial, fun _ => fun _ => ⟨rfl, rfl⟩⟩) (fun h27 => ?_)
          exact ⟨rfl, rfl⟩
         ·have h26_ := beq_f h26
          refine qag (fun h28 => ?_) (fun h28 => ?_)
          ·refine ⟨trivial, fun _ => ?_⟩
           refine fun _ => ?_
           refine qag (fun h29 => ⟨trivial, fun _ => fun _ => ⟨rfl, rfl⟩⟩) (fun h29 => ?_)
           exact ⟨rfl, rfl⟩
          ·have h28_ := beq_f h28
           refine qag (fun h30 => ?_) (fun h30 => ?_)
           ·refine ⟨trivial, fun _ => ?_⟩
            refine fun _ => ?_
            refine qag (fun h31 => ⟨trivial, fun _ => fun _ => ⟨rfl, rfl⟩⟩) (fun h31 => ?_)
            exact ⟨rfl, rfl⟩
           ·have h30_ := beq_f h30
            refine qag (fun h32 => ?_) (fun h32 => ?_)
            ·refine ⟨trivial, fun _ => ?_⟩
             refine fun _ => ?_
             refine qag (fun h33 => ⟨trivial, fun _ => fun _ => ⟨rfl, rfl⟩⟩) (fun h33 => ?_)
             exact ⟨rfl, rfl⟩
            ·have h32_ := beq_f h32
             refine qag (fun h34 => ?_) (fun h34 => ?_)
             ·refine ⟨trivial, fun _ => ?_⟩
              refine fun _ => ?_
              refine qag (fun h35 => ⟨trivial, fun _ => fun _ => ⟨rfl, rfl⟩⟩) (fun h35 => ?_)
              exact ⟨rfl, rfl⟩
             ·have h34_ := beq_f h34
              refine qag (fun h36 => ?_) (fun h36 => ?_)
              ·have h36_ := beq_t h36
               refine qag (fun h37 => ?_) (fun h37 => ⟨rfl, rfl⟩)
               have h37_ := beq_t h37
               refine ⟨by first | omega | exact (hp.2.2.1 (by assumption)) | (have g_ := hp.2.2.1 (by assumption); omega) | exact ((by have q := hp.2.2; unfold tydOK at q; omega)) | (have g_ := (by have q := hp.2.2; unfold tydOK at q; omega); omega) | assumption | exact hp.1 | exact hp.2 | exact hp.2.1 | (simp_all; done) | (simp_all; omega), fun _ => ?_⟩
               refine ⟨trivial, fun _ => ?_⟩
               refine qag (fun h38 => ?_) (fun h38 => ?_)
               ·refine ⟨by first | omega | exact (hp.2.2.1 (by assumption)) | (have g_ := hp.2.2.1 (by assumption); omega) | exact ((by have q := hp.2.2; unfold tydOK at q; omega)) | (have g_ := (by have q := hp.2.2; unfold tydOK at q; omega); omega) | assumption | exact hp.1 | exact hp.2 | exact hp.2.1 | (simp_all; done) | (simp_all; omega), fun _ => ?_⟩
                refine ⟨by first | omega | exact (hp.2.2.1 (by assumption)) | (have g_ := hp.2.2.1 (by assumption); omega) | exact ((by have q := hp.2.2; unfold tydOK at q; omega)) | (have g_ := (by have q := hp.2.2; unfold tydOK at q; omega); omega) | assumption | exact hp.1 | exact hp.2 | exact hp.2.1 | (simp_all; done) | (simp_all; omega), fun _ => ?_⟩
                exact fun _ => ⟨rfl, rfl⟩
               ·refine ⟨by first | omega | exact (hp.2.2.1 (by assumption)) | (have g_ := hp.2.2.1 (by assumption); omega) | exact ((by have q := hp.2.2; unfold tydOK at q; omega)) | (have g_ := (by have q := hp.2.2; unfold tydOK at q; omega); omega) | assumption | exact hp.1 | exact hp.2 | exact hp.2.1 | (simp_all; done) | (simp_all; omega), fun _ => ?_⟩
                refine qag (fun h39 => ?_) (fun h39 => fun _ => ⟨rfl, rfl⟩)
                have h39_ := beq_t h39
                refine ⟨by first | omega | exact (hp.2.2.1 (by assumption)) | (have g_ := hp.2.2.1 (by assumption); omega) | exact ((by have q := hp.2.2; unfold tydOK at q; omega)) | (have g_ := (by have q := hp.2.2; unfold tydOK at q; omega); omega) | assumption | exact hp.1 | exact hp.2 | exact hp.2.1 | (simp_all; done) | (simp_all; omega), fun _ => ?_⟩
                refine ⟨by first | omega | exact (hp.2.2.1 (by assumption)) | (have g_ := hp.2.2.1 (by assumption); omega) | exact ((by have q := hp.2.2; unfold tydOK at q; omega)) | (have g_ := (by have q := hp.2.2; unfold tydOK at q; omega); omega) | assumption | exact hp.1 | exact hp.2 | exact hp.2.1 | (simp_all; done) | (simp_all; omega), fun _ => ?_⟩
                exact fun _ => ⟨rfl, rfl⟩
              ·have h36_ := beq_f h36
               refine qag (fun h40 => ?_) (fun h40 => ?_)
               ·have h40_ := beq_t h40
                refine qag (fun h41 => ?_) (fun h41 => ⟨rfl, rfl⟩)
                have h41_ := beq_t h41
                refine ⟨by first | omega | exact (hp.2.2.1 (by assumption)) | (have g_ := hp.2.2.1 (by assumption); omega) | exact ((by have q := hp.2.2; unfold tydOK at q; omega)) | (have g_ := (by have q := hp.2.2; unfold tydOK at q; omega); omega) | assumption | exact hp.1 | exact hp.2 | exact hp.2.1 | (simp_all; done) | (simp_all; omega), fun _ => ?_⟩
                refine ⟨trivial, fun _ => ?_⟩
                refine qag (fun h42 => ?_) (fun h42 => ?_)
                ·refine ⟨by first | omega | exact (hp.2.2.1 (by assumption)) | (have g_ := hp.2.2.1 (by assumption); omega) | exact ((by have q := hp.2.2; unfold tydOK at q; omega)) | (have g_ := (by have q := hp.2.2; unfold tydOK at q; omega); omega) | assumption | exact hp.1 | exact hp.2 | exact hp.2.1 | (simp_all; done) | (simp_all; omega), fun _ => ?_⟩
                 refine ⟨by first | omega | exact (hp.2.2.1 (by assumption)) | (have g_ := hp.2.2.1 (by assumption); omega) | exact ((by have q := hp.2.2; unfold tydOK at q; omega)) | (have g_ := (by have q := hp.2.2; unfold tydOK at q; omega); omega) | assumption | exact hp.1 | exact hp.2 | exact hp.2.1 | (simp_all; done) | (simp_all; omega), fun _ => ?_⟩
                 exact fun _ => ⟨rfl, rfl⟩
                ·refine ⟨by first | omega | exact (hp.2.2.1 (by assumption)) | (have g_ := hp.2.2.1 (by assumption); omega) | exact ((by have q := hp.2.2; unfold tydOK at q; omega)) | (have g_ := (by have q := hp.2.2; unfold tydOK at q; omega); omega) | assumption | exact hp.1 | exact hp.2 | exact hp.2.1 | (simp_all; done) | (simp_all; omega), fun _ => ?_⟩
                 refine qag (fun h43 => ?_) (fun h43 => fun _ => ⟨rfl, rfl⟩)
                 have h43_ := beq_t h43
                 refine ⟨by first | omega | exact (hp.2.2.1 (by assumption)) | (have g_ := hp.2.2.1 (by assumption); omega) | exact ((by have q := hp.2.2; unfold tydOK at q; omega)) | (have g_ := (by have q := hp.2.2; unfold tydOK at q; omega); omega) | assumption | exact hp.1 | exact hp.2 | exact hp.2.1 | (simp_all; done) | (simp_all; omega), fun _ => ?_⟩
                 refine ⟨by first | omega | exact (hp.2.2.1 (by assumption)) | (have g_ := hp.2.2.1 (by assumption); omega) | exact ((by have q := hp.2.2; unfold tydOK at q; omega)) | (have g_ := (by have q := hp.2.2; unfold tydOK at q; omega); omega) | assumption | exact hp.1 | exact hp.2 | exact hp.2.1 | (simp_all; done) | (simp_all; omega), fun _ => ?_⟩
                 exact fun _ => ⟨rfl, rfl⟩
               ·have h40_ := beq_f h40
                refine qag (fun h44 => ?_) (fun h44 => ?_)
                ·have h44_ := beq_t h44
                 refine qag (fun h45 => ?_) (fun h45 => ⟨rfl, rfl⟩)
                 have h45_ := beq_t h45
                 refine ⟨by first | omega | exact (hp.2.2.1 (by assumption)) | (have g_ := hp.2.2.1 (by assumption); omega) | exact ((by have q := hp.2.2; unfold tydOK at q; omega)) | (have g_ := (by have q := hp.2.2; unfold tydOK at q; omega); omega) | assumption | exact hp.1 | exact hp.2 | exact hp.2.1 | (simp_all; done) | (simp_all; omega), fun _ => ?_⟩
                 refine ⟨trivial, fun _ => ?_⟩
                 refine qag (fun h46 => ?_) (fun h46 => fun _ => ⟨rfl, rfl⟩)
                 refine ⟨by first | omega | exact (hp.2.2.1 (by assumption)) | (have g_ := hp.2.2.1 (by assumption); omega) | exact ((by have q := hp.2.2; unfold tydOK at q; omega)) | (have g_ := (by have q := hp.2.2; unfold tydOK at q; omega); omega) | assumption | exact hp.1 | exact hp.2 | exact hp.2.1 | (simp_all; done) | (simp_all; omega), fun _ => ?_⟩
                 refine ⟨by first | omega | exact (hp.2.2.1 (by assumption)) | (have g_ := hp.2.2.1 (by assumption); omega) | exact ((by have q := hp.2.2; unfold tydOK at q; omega)) | (have g_ := (by have q := hp.2.2; unfold tydOK at q; omega); omega) | assumption | exact hp.1 | exact hp.2 | exact hp.2.1 | (simp_all; done) | (simp_all; omega), fun _ => ?_⟩
                 exact fun _ => ⟨rfl, rfl⟩
                ·have h44_ := beq_f h44
                 refine qag (fun h47 => ?_) (fun h47 => ?_)
                 ·have h47_ := beq_t h47
                  refine qag (fun h48 => ?_) (fun h48 => ⟨rfl, rfl⟩)
                  have h48_ := beq_t h48
                  refine ⟨by first | omega | exact (hp.2.2.1 (by assumption)) | (have g_ := hp.2.2.1 (by assumption); omega) | exact ((by have q := hp.2.2; unfold tydOK at q; omega)) | (have g_ := (by have q := hp.2.2; unfold tydOK at q; omega); omega) | assumption | exact hp.1 | exact hp.2 | exact hp.2.1 | (simp_all; done) | (simp_all; omega), fun _ => ?_⟩
                  refine ⟨trivial, fun _ => ?_⟩
                  refine qag (fun h49 => ?_) (fun h49 => fun _ => ⟨rfl, rfl⟩)
                  refine ⟨by first | omega | exact (hp.2.2.1 (by assumption)) | (have g_ := hp.2.2.1 (by assumption); omega) | exact ((by have q := hp.2.2; unfold tydOK at q; omega)) | (have g_ := (by have q := hp.2.2; unfold tydOK at q; omega); omega) | assumption | exact hp.1 | exact hp.2 | exact hp.2.1 | (simp_all; done) | (simp_all; omega), fun _ => ?_⟩
                  refine ⟨by first | omega | exact (hp.2.2.1 (by assumption)) | (have g_ := hp.2.2.1 (by assumption); omega) | exact ((by have q := hp.2.2; unfold tydOK at q; omega)) | (have g_ := (by have q := hp.2.2; unfold tydOK at q; omega); omega) | assumption | exact hp.1 | exact hp.2 | exact hp.2.1 | (simp_all; done) | (simp_all; omega), fun _ => ?_⟩
                  exact fun _ => ⟨rfl, rfl⟩
                 ·have h47_ := beq_f h47
                  refine qag (fun h50 => ?_) (fun h50 => ?_)
                  ·have h50_ := beq_t h50
                   refine qag (fun h51 => ?_) (fun h51 => ⟨rfl, rfl⟩)
                   have h51_ := beq_t h51
                   refine ⟨by first | omega | exact (hp.2.2.1 (by assumption)) | (have g_ := hp.2.2.1 (by assumption); omega) | exact ((by have q := hp.2.2; unfold tydOK at q; omega)) | (have g_ := (by have q := hp.2.2; unfold tydOK at q; omega); omega) | assumption | exact hp.1 | exact hp.2 | exact hp.2.1 | (simp_all; done) | (simp_all; omega), fun _ => ?_⟩
                   refine ⟨trivial, fun _ => ?_⟩
                   refine qag (fun h52 => ?_) (fun h52 => fun _ => ⟨rfl, rfl⟩)
                   refine ⟨by first | omega | exact (hp.2.2.1 (by assumption)) | (have g_ := hp.2.2.1 (by assumption); omega) | exact ((by have q := hp.2.2; unfold tydOK at q; omega)) | (have g_ := (by have q := hp.2.2; unfold tydOK at q; omega); omega) | assumption | exact hp.1 | exact hp.2 | exact hp.2.1 | (simp_all; done) | (simp_all; omega), fun _ => ?_⟩
                   refine ⟨by first | omega | exact (hp.2.2.1 (by assumption)) | (have g_ := hp.2.2.1 (by assumption); omega) | exact ((by have q := hp.2.2; unfold tydOK at q; omega)) | (have g_ := (by have q := hp.2.2; unfold tydOK at q; omega); omega) | assumption | exact hp.1 | exact hp.2 | exact hp.2.1 | (simp_all; done) | (simp_all; omega), fun _ => ?_⟩
                   exact fun _ => ⟨rfl, rfl⟩
                  ·have h50_ := beq_f h50
                   refine qag (fun h53 => ?_) (fun h53 => ?_)
                   ·have h53_ := beq_t h53
                    refine ⟨trivial, fun _ => ?_⟩
                    refine fun _ => ?_
                    refine qag (fun h54 => ?_) (fun h54 => ⟨rfl, rfl⟩)
                    refine ⟨by first | omega | exact (hp.2.2.1 (by assumption)) | (have g_ := hp.2.2.1 (by assumption); omega) | exact ((by have q := hp.2.2; unfold tydOK at q; omega)) | (have g_ := (by have q := hp.2.2; unfold tydOK at q; omega); omega) | assumption | exact hp.1 | exact hp.2 | exact hp.2.1 | (simp_all; done) | (simp_all; omega), fun _ => ?_⟩
                    refine qag (fun h55 => ?_) (fun h55 => ⟨rfl, rfl⟩)
                    have h55_ := beq_t h55
                    refine ⟨by first | omega | exact (hp.2.2.1 (by assumption)) | (have g_ := hp.2.2.1 (by assumption); omega) | exact ((by have q := hp.2.2; unfold tydOK at q; omega)) | (have g_ := (by have q := hp.2.2; unfold tydOK at q; omega); omega) | assumption | exact hp.1 | exact hp.2 | exact hp.2.1 | (simp_all; done) | (simp_all; omega), fun _ => ?_⟩
                    exact ⟨trivial, fun _ => fun _ => ⟨rfl, rfl⟩⟩
                   ·have h53_ := beq_f h53
                    refine qag (fun h56 => ?_) (fun h56 => ?_)
                    ·have h56_ := beq_t h56
                     refine ⟨by first | omega | exact (hp.2.2.1 (by assumption)) | (have g_ := hp.2.2.1 (by assumption); omega) | exact ((by have q := hp.2.2; unfold tydOK at q; omega)) | (have g_ := (by have q := hp.2.2; unfold tydOK at q; omega); omega) | assumption | exact hp.1 | exact hp.2 | exact hp.2.1 | (simp_all; done) | (simp_all; omega), fun _ => ?_⟩
                     refine qag (fun h57 => ?_) (fun h57 => ?_)
                     ·have h57_ := beq_t h57
                      refine qag (fun h58 => ?_) (fun h58 => ?_)
                      ·have h58_ := beq_t h58
                       refine ⟨by first | omega | exact (hp.2.2.1 (by assumption)) | (have g_ := hp.2.2.1 (by assumption); omega) | exact ((by have q := hp.2.2; unfold tydOK at q; omega)) | (have g_ := (by have q := hp.2.2; unfold tydOK at q; omega); omega) | assumption | exact hp.1 | exact hp.2 | exact hp.2.1 | (simp_all; done) | (simp_all; omega), fun _ => ?_⟩
                       exact ⟨rfl, rfl⟩
                      ·have h58_ := beq_f h58
                       refine qag (fun h59 => ?_) (fun h59 => ⟨rfl, rfl⟩)
                       have h59_ := beq_t h59
                       refine ⟨by first | omega | exact (hp.2.2.1 (by assumption)) | (have g_ := hp.2.2.1 (by assumption); omega) | exact ((by have q := hp.2.2; unfold tydOK at q; omega)) | (have g_ := (by have q := hp.2.2; unfold tydOK at q; omega); omega) | assumption | exact hp.1 | exact hp.2 | exact hp.2.1 | (simp_all; done) | (simp_all; omega), fun _ => ?_⟩
                       exact ⟨rfl, rfl⟩
                     ·have h57_ := beq_f h57
                      refine ⟨by first | omega | exact (hp.2.2.1 (by assumption)) | (have g_ := hp.2.2.1 (by assumption); omega) | exact ((by have q := hp.2.2; unfold tydOK at q; omega)) | (have g_ := (by have q := hp.2.2; unfold tydOK at q; omega); omega) | assumption | exact hp.1 | exact hp.2 | exact hp.2.1 | (simp_all; done) | (simp_all; omega), fun _ => ?_⟩
                      refine qag (fun h60 => ?_) (fun h60 => ⟨rfl, rfl⟩)
                      have h60_ := beq_t h60
                      refine qag (fun h61 => ?_) (fun h61 => ?_)
                      ·have h61_ := beq_t h61
                       refine ⟨by first | omega | exact (hp.2.2.1 (by assumption)) | (have g_ := hp.2.2.1 (by assumption); omega) | exact ((by have q := hp.2.2; unfold tydOK at q; omega)) | (have g_ := (by have q := hp.2.2; unfold tydOK at q; omega); omega) | assumption | exact hp.1 | exact hp.2 | exact hp.2.1 | (simp_all; done) | (simp_all; omega), fun _ => ?_⟩
                       exact ⟨rfl, rfl⟩
                      ·have h61_ := beq_f h61
                       refine qag (fun h62 => ?_) (fun h62 => ⟨rfl, rfl⟩)
                       have h62_ := beq_t h62
                       refine ⟨by first | omega | exact (hp.2.2.1 (by assumption)) | (have g_ := hp.2.2.1 (by assumption); omega) | exact ((by have q := hp.2.2; unfold tydOK at q; omega)) | (have g_ := (by have q := hp.2.2; unfold tydOK at q; omega); omega) | assumption | exact hp.1 | exact hp.2 | exact hp.2.1 | (simp_all; done) | (simp_all; omega), fun _ => ?_⟩
                       exact ⟨rfl, rfl⟩
                    ·have h56_ := beq_f h56
                     refine qag (fun h63 => ?_) (fun h63 => ?_)
                     ·have h63_ := beq_t h63
                      refine ⟨by first | omega | exact (hp.2.2.1 (by assumption)) | (have g_ := hp.2.2.1 (by assumption); omega) | exact ((by have q := hp.2.2; unfold tydOK at q; omega)) | (have g_ := (by have q := hp.2.2; unfold tydOK at q; omega); omega) | assumption | exact hp.1 | exact hp.2 | exact hp.2.1 | (simp_all; done) | (simp_all; omega), fun _ => ?_⟩
                      refine qag (fun h64 => ?_) (fun h64 => ?_)
                      ·have h64_ := beq_t h64
                       refine ⟨trivial, fun _ => ?_⟩
                       refine fun _ => ?_
                       refine qag (fun h65 => ?_) (fun h65 => ⟨rfl, rfl⟩)
                       refine ⟨by first | omega | exact (hp.2.2.1 (by assumption)) | (have g_ := hp.2.2.1 (by assumption); omega) | exact ((by have q := hp.2.2; unfold tydOK at q; omega)) | (have g_ := (by have q := hp.2.2; unfold tydOK at q; omega); omega) | assumption | exact hp.1 | exact hp.2 | exact hp.2.1 | (simp_all; done) | (simp_all; omega), fun _ => ?_⟩
                       exact ⟨rfl, rfl⟩
                      ·have h64_ := beq_f h64
                       refine ⟨by first | omega | exact (hp.2.2.1 (by assumption)) | (have g_ := hp.2.2.1 (by assumption); omega) | exact ((by have q := hp.2.2; unfold tydOK at q; omega)) | (have g_ := (by have q := hp.2.2; unfold tydOK at q; omega); omega) | assumption | exact hp.1 | exact hp.2 | exact hp.2.1 | (simp_all; done) | (simp_all; omega), fun _ => ?_⟩
                       refine qag (fun h66 => ?_) (fun h66 => ?_)
                       ·have h66_ := beq_t h66
                        refine ⟨trivial, fun _ => ?_⟩
                        refine fun _ => ?_
                        refine qag (fun h67 => ?_) (fun h67 => ⟨rfl, rfl⟩)
                        refine ⟨by first | omega | exact (hp.2.2.1 (by assumption)) | (have g_ := hp.2.2.1 (by assumption); omega) | exact ((by have q := hp.2.2; unfold tydOK at q; omega)) | (have g_ := (by have q := hp.2.2; unfold tydOK at q; omega); omega) | assumption | exact hp.1 | exact hp.2 | exact hp.2.1 | (simp_all; done) | (simp_all; omega), fun _ => ?_⟩
                        exact ⟨rfl, rfl⟩
                       ·have h66_ := beq_f h66
                        refine ⟨by first | omega | exact (hp.2.2.1 (by assumption)) | (have g_ := hp.2.2.1 (by assumption); omega) | exact ((by have q := hp.2.2; unfold tydOK at q; omega)) | (have g_ := (by have q := hp.2.2; unfold tydOK at q; omega); omega) | assumption | exact hp.1 | exact hp.2 | exact hp.2.1 | (simp_all; done) | (simp_all; omega), fun _ => ?_⟩
                        refine qag (fun h68 => ?_) (fun h68 => ⟨rfl, rfl⟩)
                        have h68_ := beq_t h68
                        refine ⟨trivial, fun _ => ?_⟩
                        refine fun _ => ?_
                        refine qag (fun h69 => ?_) (fun h69 => ⟨rfl, rfl⟩)
                        refine ⟨by first | omega | exact (hp.2.2.1 (by assumption)) | (have g_ := hp.2.2.1 (by assumption); omega) | exact ((by have q := hp.2.2; unfold tydOK at q; omega)) | (have g_ := (by have q := hp.2.2; unfold tydOK at q; omega); omega) | assumption | exact hp.1 | exact hp.2 | exact hp.2.1 | (simp_all; done) | (simp_all; omega), fun _ => ?_⟩
                        exact ⟨rfl, rfl⟩
                     ·have h63_ := beq_f h63
                      refine qag (fun h70 => ?_) (fun h70 => ?_)
                      ·have h70_ := beq_t h70
                       refine ⟨by first | omega | exact (hp.2.2.1 (by assumption)) | (have g_ := hp.2.2.1 (by assumption); omega) | exact ((by have q := hp.2.2; unfold tydOK at q; omega)) | (have g_ := (by have q := hp.2.2; unfold tydOK at q; omega); omega) | assumption | exact hp.1 | exact hp.2 | exact hp.2.1 | (simp_all; done) | (simp_all; omega), fun _ => ?_⟩
                       refine ⟨trivial, fun _ => ?_⟩
                       refine fun _ => ?_
                       refine qag (fun h71 => ?_) (fun h71 => ⟨rfl, rfl⟩)
                       refine ⟨trivial, fun _ => ?_⟩
                       refine fun _ => ?_
                       refine qag (fun h72 => ?_) (fun h72 => ⟨rfl, rfl⟩)
                       refine ⟨by first | omega | exact (hp.2.2.1 (by assumption)) | (have g_ := hp.2.2.1 (by assumption); omega) | exact ((by have q := hp.2.2; unfold tydOK at q; omega)) | (have g_ := (by have q := hp.2.2; unfold tydOK at q; omega); omega) | assumption | exact hp.1 | exact hp.2 | exact hp.2.1 | (simp_all; done) | (simp_all; omega), fun _ => ?_⟩
                       exact ⟨rfl, rfl⟩
                      ·have h70_ := beq_f h70
                       refine qag (fun h73 => ⟨rfl, rfl⟩) (fun h73 => ?_)
                       have h73_ := beq_f h73
                       refine qag (fun h74 => ⟨rfl, rfl⟩) (fun h74 => ?_)
                       have h74_ := beq_f h74
                       refine qag (fun h75 => ?_) (fun h75 => ?_)
                       ·have h75_ := beq_t h75
                        refine qag (fun h76 => ?_) (fun h76 => ⟨rfl, rfl⟩)
                        have h76_ := beq_t h76
                        refine ⟨by first | omega | exact (hp.2.2.1 (by assumption)) | (have g_ := hp.2.2.1 (by assumption); omega) | exact ((by have q := hp.2.2; unfold tydOK at q; omega)) | (have g_ := (by have q := hp.2.2; unfold tydOK at q; omega); omega) | assumption | exact hp.1 | exact hp.2 | exact hp.2.1 | (simp_all; done) | (simp_all; omega), fun _ => ?_⟩
                        refine qag (fun h77 => ?_) (fun h77 => ⟨rfl, rfl⟩)
                        have h77_ := beq_t h77
                        refine ⟨by first | omega | exact (hp.2.2.1 (by assumption)) | (have g_ := hp.2.2.1 (by assumption); omega) | exact ((by have q := hp.2.2; unfold tydOK at q; omega)) | (have g_ := (by have q := hp.2.2; unfold tydOK at q; omega); omega) | assumption | exact hp.1 | exact hp.2 | exact hp.2.1 | (simp_all; done) | (simp_all; omega), fun _ => ?_⟩
                        exact ⟨rfl, rfl⟩
                       ·have h75_ := beq_f h75
                        refine qag (fun h78 => ?_) (fun h78 => ?_)
                        ·have h78_ := beq_t h78
                         refine ⟨trivial, fun _ => ?_⟩
                         refine fun _ => ?_
                         refine qag (fun h79 => ?_) (fun h79 => ⟨rfl, rfl⟩)
                         refine ⟨by first | omega | exact (hp.2.2.1 (by assumption)) | (have g_ := hp.2.2.1 (by assumption); omega) | exact ((by have q := hp.2.2; unfold tydOK at q; omega)) | (have g_ := (by have q := hp.2.2; unfold tydOK at q; omega); omega) | assumption | exact hp.1 | exact hp.2 | exact hp.2.1 | (simp_all; done) | (simp_all; omega), fun _ => ?_⟩
                         exact ⟨rfl, rfl⟩
                        ·have h78_ := beq_f h78
                         refine qag (fun h80 => ?_) (fun h80 => ?_)
                         ·have h80_ := beq_t h80
                          refine qag (fun h81 => ?_) (fun h81 => ⟨rfl, rfl⟩)
                          have h81_ := beq_t h81
                          refine ⟨by first | omega | exact (hp.2.2.1 (by assumption)) | (have g_ := hp.2.2.1 (by assumption); omega) | exact ((by have q := hp.2.2; unfold tydOK at q; omega)) | (have g_ := (by have q := hp.2.2; unfold tydOK at q; omega); omega) | assumption | exact hp.1 | exact hp.2 | exact hp.2.1 | (simp_all; done) | (simp_all; omega), fun _ => ?_⟩
                          refine qag (fun h82 => ?_) (fun h82 => ⟨rfl, rfl⟩)
                          have h82_ := beq_t h82
                          refine ⟨by first | omega | exact (hp.2.2.1 (by assumption)) | (have g_ := hp.2.2.1 (by assumption); omega) | exact ((by have q := hp.2.2; unfold tydOK at q; omega)) | (have g_ := (by have q := hp.2.2; unfold tydOK at q; omega); omega) | assumption | exact hp.1 | exact hp.2 | exact hp.2.1 | (simp_all; done) | (simp_all; omega), fun _ => ?_⟩
                          exact ⟨trivial, fun _ => fun _ => ⟨rfl, rfl⟩⟩
                         ·have h80_ := beq_f h80
                          refine qag (fun h83 => ?_) (fun h83 => ?_)
                          ·have h83_ := beq_t h83
                           refine ⟨by first | omega | exact (hp.2.2.1 (by assumption)) | (have g_ := hp.2.2.1 (by assumption); omega) | exact ((by have q := hp.2.2; unfold tydOK at q; omega)) | (have g_ := (by have q := hp.2.2; unfold tydOK at q; omega); omega) | assumption | exact hp.1 | exact hp.2 | exact hp.2.1 | (simp_all; done) | (simp_all; omega), fun _ => ?_⟩
                           exact fun _ => ⟨rfl, rfl⟩
                          ·have h83_ := beq_f h83
                           refine qag (fun h84 => ?_) (fun h84 => ?_)
                           ·have h84_ := beq_t h84
                            refine qag (fun h85 => ?_) (fun h85 => ⟨rfl, rfl⟩)
                            have h85_ := beq_t h85
                            refine ⟨by first | omega | exact (hp.2.2.1 (by assumption)) | (have g_ := hp.2.2.1 (by assumption); omega) | exact ((by have q := hp.2.2; unfold tydOK at q; omega)) | (have g_ := (by have q := hp.2.2; unfold tydOK at q; omega); omega) | assumption | exact hp.1 | exact hp.2 | exact hp.2.1 | (simp_all; done) | (simp_all; omega), fun _ => ?_⟩
                            exact ⟨trivial, fun _ => fun _ => ⟨rfl, rfl⟩⟩
                           ·have h84_ := beq_f h84
                            refine qag (fun h86 => ?_) (fun h86 => ?_)
                            ·refine qag (fun h87 => ?_) (fun h87 => ?_)
                             ·refine qag (fun h88 => ⟨trivial, fun _ => fun _ => ⟨rfl, rfl⟩⟩) (fun h88 => ?_)
                              have h89k : ((z in_.2.1) == (7 : Int)) = false := by rw [(beq_t h87)]; rfl
                              refine qag (fun h89 => absurd (h89k.symm.trans h89) (by decide)) (fun _ => ?_)
                              exact ⟨rfl, rfl⟩
                             ·refine qag (fun h90 => ?_) (fun h90 => ⟨rfl, rfl⟩)
                              refine qag (fun h91 => ⟨trivial, fun _ => fun _ => ⟨rfl, rfl⟩⟩) (fun h91 => ?_)
                              exact ⟨rfl, rfl⟩
                            ·have h86_ := beq_f h86
                             refine qag (fun h92 => ?_) (fun h92 => ⟨rfl, rfl⟩)
                             have h92_ := beq_t h92
                             refine ⟨by first | omega | exact (hp.2.2.1 (by assumption)) | (have g_ := hp.2.2.1 (by assumption); omega) | exact ((by have q := hp.2.2; unfold tydOK at q; omega)) | (have g_ := (by have q := hp.2.2; unfold tydOK at q; omega); omega) | assumption | exact hp.1 | exact hp.2 | exact hp.2.1 | (simp_all; done) | (simp_all; omega), fun _ => ?_⟩
                             exact ⟨trivial, fun _ => fun _ => ⟨rfl, rfl⟩⟩)
theorem c_opcode_typed : qal E_V13 qhn k_opcode_typed.spec := qam fun x hx hp => ⟨rfl, m_opcode_typed x.1 x.2.1 x.2.2.1 hx.1 hx.2.1 hx.2.2.1 hp⟩
def L_V13 : List (FuncId × FSpec) := [(qhn, k_opcode_typed.spec)] ++ L_V12
theorem L_V13_ok : ∀ x ∈ L_V13, qal (ctx []) x.1 x.2 := by
 unfold L_V13
 simp only [List.cons_append, List.nil_append, List.forall_mem_cons]
 exact ⟨c_opcode_typed, L_V12_ok⟩
end Burn.MTT
namespace Burn.MTT
open Go Go.BE Go.Proofs
set_option maxRecDepth 100000
set_option linter.unusedVariables false
set_option linter.unusedSimpArgs false
open Burn.Intn Burn.Ref
noncomputable abbrev E_V14 : Ctx := ctx L_V13
theorem E_V14_ok : EOK E_V14 := qbq L_V13_ok
def cuts_V14 : CutL := [([], 47, 0, [3, 4, 5, 10, 35, 36, 37], [(.t 10, .own 8 I)], [])]
def rets_V14 : FuncId → List (Option Fx)
 | _ => []
def H_V14 : Hints := { cut := cutOf cuts_V14, ret := rets_V14 }
noncomputable def opcode_Check_L0 (in_ : Den qac) (f : Den qab) (m : Den qad) (t35 : List (Den I)) (t36 : Int) (t37 : Int) (args : List (Den I)) : Cfg := hcfg E_V14 qdx 0 [(3, (.rtp qac in_)), (4, (.rtp qab f)), (5, (.rtp qad m)), (10, (.osl 0 0 [] none)), (35, (.tv (.sl 8 I) t35)), (36, (vi t36)), (37, (vi t37))] [(0, ⟨(.arr 0 8 I args), 0, [], false, none⟩)] 1
theorem opcode_Check_t (in_ : Den qac) (f : Den qab) (m : Den qad) : run E_V14 H_V14 qdx 3000 (start E_V14 qdx [(.tv qac in_), (.tv qab f), (.tv qad m)]) = (.chk (True) (.know (okD .str (nameP in_.1)) (cond (((nameP in_.1)).toList == (ByteArray.empty).toList) (rt (vi (8 : Int)) []) (.chk (True) (.know (okD (.int .i64) (fldP in_)) (cond ((fldP in_) != (0 : Int)) (rt (vi (fldP in_)) []) (.chk (True) (.know (okD (.int .i64) (symP in_ m)) (cond ((symP in_ m) != (0 : Int)) (rt (vi (symP in_ m)) []) (.chk ((1 ≤ z in_.1 ∧ z in_.1 ≤ 33) ∧ symOK in_ m) (.know (okD (.int .i64) (cntP in_ m)) (cond ((cntP in_ m) != (0 : Int)) (rt (vi (cntP in_ m)) []) (hd (opcode_Check_L0 in_ f m in_.2.2.2.1 ((ln I in_.2.2.2.1) : Int) (0 : Int) ([] : List (Den I)))))))))))))))) := by kernel_rfl
theorem opcode_Check_L0_t (in_ : Den qac) (f : Den qab) (m : Den qad) (t35 : List (Den I)) (t36 : Int) (t37 : Int) (args : List (Den I)) : run E_V14 H_V14 qdx 3000 (opcode_Check_L0 in_ f m t35 t36 t37 args) = (cond (decide (t37 < t36)) (.chk (0 ≤ t37 ∧ t37 < (ln I t35)) (cond (decide ((z (gd I t35 t37.toNat)) < (0 : Int))) (rt (vi (10 : Int)) []) (cond (decide ((z (gd I t35 t37.toNat)) ≥ ((ln I f.2.2.2.1) : Int))) (rt (vi (10 : Int)) []) (.chk (0 ≤ (z (gd I t35 t37.toNat)) ∧ (z (gd I t35 t37.toNat)) < (ln I f.2.2.2.1)) (.chk (((ln I args) + (1 : Nat)) * 8 ≤ roomB) (hd (opcode_Check_L0 in_ f m t35 t36 (IntKind.wrap .i64 (t37 + (1 : Int))) (ap I args ([(gd I f.2.2.2.1 (((z (gd I t35 t37.toNat))).toNat))] : List (Den I)))))))))) (cond (decide ((z in_.2.2.1) < (-1 : Int))) (rt (vi (10 : Int)) []) (cond (decide ((z in_.2.2.1) ≥ ((ln I f.2.2.2.1) : Int))) (rt (vi (10 : Int)) []) (.chk (1 ≤ z in_.1 ∧ z in_.1 ≤ 33 ∧ tydOK in_ args m) (.know True (cond (!(tydP in_ args m)) (rt (vi (9 : Int)) []) (.chk (-1 ≤ z in_.2.2.1 ∧ z in_.2.2.1 < (ln I f.2.2.2.1 : Nat)) (.know True (cond (!(resP in_ f)) (rt (vi (9 : Int)) []) (.chk (z in_.1 = 33 → 0 < ln I args) (.know (okD (.int .i64) (immP in_ args)) (rt (vi (immP in_ args)) [])))))))))))) := by kernel_rfl
def rowN (op : Int) : Int := z (gd qaq rowsP (IntKind.wrap .i64 (op - 1)).toNat).2.1
def argT (f : Fn) (l : List (Den I)) (i : Nat) : List (Den I) := (l.take i).map fun r => gd I f.2.2.2.1 (z r).toNat
def argI (f : Fn) (l : List (Den I)) (i : Nat) : Int := cond (decide (z (gd I l i) < (0 : Int))) 10 (cond (decide (z (gd I l i) ≥ (ln I f.2.2.2.1 : Int))) 10 0)
def argE (f : Fn) (l : List (Den I)) : Int := qap (argI f l) (ln I l) 0
def chkT (x : Ins) (f : Fn) (m : Md) (args : List (Den I)) : Int := cond (decide (z x.2.2.1 < (-1 : Int))) 10 (cond (decide (z x.2.2.1 ≥ (ln I f.2.2.2.1 : Int))) 10 (cond (!(tydP x args m)) 9 (cond (!(resP x f)) 9 (immP x args))))
def chkF (x : Ins) (f : Fn) (m : Md) : Int := cond ((nameP x.1).toList == ByteArray.empty.toList) 8 (cond (fldP x != (0 : Int)) (fldP x) (cond (symP x m != (0 : Int)) (symP x m) (cond (cntP x m != (0 : Int)) (cntP x m) (orE (argE f x.2.2.2.1) (chkT x f m (argT f x.2.2.2.1 (ln I x.2.2.2.1)))))))
theorem argT_ln {f : Fn} {l : List (Den I)} {i : Nat} (h : i ≤ ln I l) : ln I (argT f l i) = i := by
 show ((l.take i).map _).length = i
 rw [List.length_map, List.length_take]
 exact Nat.min_eq_left h
theorem argT_ap {f : Fn} {l : List (Den I)} {i : Nat} (h : i < ln I l) : ap I (argT f l i) ([gd I f.2.2.2.1 (z (gd I l i)).toNat] : List (Den I)) = argT f l (i + 1) := by
 show (l.take i).map _ ++ [_] = (l.take (i + 1)).map _
 rw [List.take_succ_eq_append_getElem h, List.map_append]
 have hq : l[i]? = some l[i] := List.getElem?_eq_getElem h
 have hg : gd I l i = l[i] := by unfold gd; simp [hq]
 rw [hg]
 rfl
theorem name_in {op : Int} (h : ((nameP op).toList == ByteArray.empty.toList) = false) : 1 ≤ op ∧ op ≤ 33 := by
 unfold nameP at h
 have h33 : ln qaq rowsP = 33 := rfl
 rw [h33] at h
 by_cases h1 : op < 1
 ·rw [decide_eq_true h1, cond_true] at h
  simp at h
 ·by_cases h2 : op > ((33 : Nat) : Int)
  ·rw [decide_eq_true h2, cond_true] at h
   cases hd : decide (op < 1) <;> rw [hd] at h <;> simp at h
  ·omega
theorem sym_ok {x : Ins} {m : Md} (h : (symP x m != (0 : Int)) = false) : symOK x m := by
 have h' : symP x m = 0 := by simpa using h
 unfold symP at h'
 simp only [Bool.cond_eq_ite, decide_eq_true_eq, beq_iff_eq] at h'
 unfold symOK
 constructor <;> intro h25
 ·rw [if_pos h25] at h'
  repeat' split at h'
  all_goals first | omega | simp_all
 ·rw [if_neg (by omega), if_pos h25] at h'
  repeat' split at h'
  all_goals first | omega | simp_all
theorem cnt_row {x : Ins} {m : Md} (h : (cntP x m != (0 : Int)) = false) : (z x.1 = 30 → (ln I x.2.2.2.1 : Int) = (ln I (gd qab m.2.1 (z x.2.2.2.2.2.1).toNat).2.1 : Nat)) ∧ (z x.1 = 32 → (ln I x.2.2.2.1 : Int) = 2 ∨ (ln I x.2.2.2.1 : Int) = 4) ∧ (z x.1 ≠ 30 → z x.1 ≠ 32 → (ln I x.2.2.2.1 : Int) = rowN (z x.1)) := by
 have h' : cntP x m = 0 := by simpa using h
 unfold cntP at h'
 simp only [Bool.cond_eq_ite, decide_eq_true_eq, beq_iff_eq, bne_iff_ne, ne_eq, ite_not] at h'
 refine ⟨fun h1 => ?_, fun h1 => ?_, fun h1 h2 => ?_⟩
 ·rw [if_pos h1] at h'
  repeat' split at h'
  all_goals first | omega | simp_all
 ·rw [if_neg (by omega), if_pos h1] at h'
  repeat' split at h'
  all_goals first | omega | simp_all
 ·rw [if_neg h1, if_neg h2] at h'
  unfold rowN
  repeat' split at h'
  all_goals first | assumption | omega | simp_all
theorem typed_ok {x : Ins} {m : Md} (hs : symOK x m) (hc : (cntP x m != (0 : Int)) = false) {args : List (Den I)} (ha : ln I args = ln I x.2.2.2.1) : tydOK x args m := by
 have hr := cnt_row hc
 have r16 : rowN 16 = 2 := rfl
 have r17 : rowN 17 = 2 := rfl
 have r18 : rowN 18 = 2 := rfl
 have r19 : rowN 19 = 2 := rfl
 have r20 : rowN 20 = 2 := rfl
 have r21 : rowN 21 = 3 := rfl
 have r22 : rowN 22 = 1 := rfl
 have r23 : rowN 23 = 1 := rfl
 have r24 : rowN 24 = 1 := rfl
 have r27 : rowN 27 = 2 := rfl
 have r28 : rowN 28 = 1 := rfl
 have r29 : rowN 29 = 2 := rfl
 have r31 : rowN 31 = 1 := rfl
 have r33 : rowN 33 = 1 := rfl
 have hq : ∀ k n : Int, rowN k = n → z x.1 = k → k ≠ 30 → k ≠ 32 → (ln I args : Int) = n := fun k n h1 h2 h3 h4 => by
  have := hr.2.2 (by omega) (by omega)
  rw [h2, h1] at this
  omega
 have q16 := hq _ _ r16; have q17 := hq _ _ r17; have q18 := hq _ _ r18; have q19 := hq _ _ r19; have q20 := hq _ _ r20; have q21 := hq _ _ r21
 have q22 := hq _ _ r22; have q23 := hq _ _ r23; have q24 := hq _ _ r24; have q27 := hq _ _ r27; have q28 := hq _ _ r28; have q29 := hq _ _ r29; have q31 := hq _ _ r31; have q33 := hq _ _ r33
 refine ⟨fun h => ⟨hs.2 h, by have := hr.1 h; omega⟩, fun h => by omega, fun h => by omega, fun h => by omega⟩
theorem opcode_Check_l (x : Ins) (f : Fn) (m : Md) (hx : okD qac x) (h1 : 1 ≤ z x.1 ∧ z x.1 ≤ 33) (hs : symOK x m) (hc : (cntP x m != (0 : Int)) = false) : ∀ i, i ≤ ln I x.2.2.2.1 → RunI E_V14 (opcode_Check_L0 x f m x.2.2.2.1 (ln I x.2.2.2.1 : Nat) i (argT f x.2.2.2.1 i)) (orE (qap (argI f x.2.2.2.1) (ln I x.2.2.2.1 - i) i) (chkT x f m (argT f x.2.2.2.1 (ln I x.2.2.2.1)))) :=
 qba (.tree E_V14_ok (opcode_Check_L0_t _ _ _ _ _ _ _) (by
  rw [Nat.sub_self]
  simp only [sS, sL,  Nat.lt_irrefl, qap]
  have ha : ln I (argT f x.2.2.2.1 (ln I x.2.2.2.1)) = ln I x.2.2.2.1 := argT_ln (Nat.le_refl _)
  have ht := typed_ok hs hc ha
  refine ⟨fun q1 => ⟨congrArg vi (by simp only [orE, chkT, q1, cond_true]; rfl), rfl⟩, fun q1 => ⟨fun q2 => ⟨congrArg vi (by simp only [orE, chkT, q1, q2, cond_true, cond_false]; rfl), rfl⟩, fun q2 => ⟨⟨h1.1, h1.2, ht⟩, fun _ => ⟨fun q3 => ⟨congrArg vi (by simp only [orE, chkT, q1, q2, q3, cond_true, cond_false]; rfl), rfl⟩, fun q3 => ⟨⟨by simpa using q1, by simpa using q2⟩, fun _ => ⟨fun q4 => ⟨congrArg vi (by simp only [orE, chkT, q1, q2, q3, q4, cond_true, cond_false]; rfl), rfl⟩, fun q4 => ⟨fun q5 => by have := ht.2.2.2 (by omega); omega, fun _ _ => ⟨congrArg vi (by simp only [orE, chkT, q1, q2, q3, q4, cond_true, cond_false]; rfl), rfl⟩⟩⟩⟩⟩⟩⟩⟩))
  fun i hi ih => .tree E_V14_ok (opcode_Check_L0_t _ _ _ _ _ _ _) (by
   rw [sub1 hi]
   simp only [sS, sL,  hi, wrapS hi (qas hx.2.2.2.1.1), argT_ln (Nat.le_of_lt hi), argT_ap hi]
   have hroom : (i + 1) * 8 ≤ roomB := by
    have : ln I x.2.2.2.1 * 8 ≤ roomB := hx.2.2.2.1.1.1
    omega
   refine ⟨fun q1 => ?_, fun q1 => ⟨fun q2 => ?_, fun q2 => ⟨⟨by simpa using q1, by simpa using q2⟩, fun _ => ⟨hroom, fun _ => ?_⟩⟩⟩⟩
   ·rw [first_hit (by simp only [argI, q1, cond_true]; decide), show argI f x.2.2.2.1 i = 10 by simp only [argI, q1, cond_true]]
    exact ⟨rfl, rfl⟩
   ·rw [first_hit (by simp only [argI, q1, q2, cond_true, cond_false]; decide), show argI f x.2.2.2.1 i = 10 by simp only [argI, q1, q2, cond_true, cond_false]]
    exact ⟨rfl, rfl⟩
   ·rw [qil (by simp only [argI, q1, q2, cond_false])]
    exact ih)
def k_opcode_Check : Con := con [.d qac, .d qab, .d qad] I (fun x => True) fun x => chkF x.1 x.2.1 x.2.2.1
theorem m_opcode_Check (in_ : Den qac) (f : Den qab) (m : Den qad) (h_in_ : okD qac in_) (h_f : okD qab f) (h_m : okD qad m) (hp : True) : Runs E_V14 (start E_V14 qdx [(.tv qac in_), (.tv qab f), (.tv qad m)]) (fun r_ h_ => r_ = (vi (chkF in_ f m)) ∧ h_ = []) := .tree E_V14_ok (opcode_Check_t in_ f m) (by
 unfold chkF
 simp only [sS]
 refine fun _ => ⟨fun q1 => by rw [q1]; rfl, fun q1 => ?_⟩
 have h1 := name_in q1
 rw [q1]
 refine fun _ => ⟨fun q2 => by rw [q2]; rfl, fun q2 => ?_⟩
 rw [q2]
 refine fun _ => ⟨fun q3 => by rw [q3]; rfl, fun q3 => ?_⟩
 have hs := sym_ok q3
 rw [q3]
 refine ⟨⟨h1, hs⟩, fun _ _ => ⟨fun q4 => by rw [q4]; rfl, fun q4 => ?_⟩⟩
 rw [q4]
 exact opcode_Check_l in_ f m h_in_ h1 hs q4 0 (Nat.zero_le _))
theorem c_opcode_Check : qal E_V14 qdx k_opcode_Check.spec := qam fun x hx hp => ⟨rfl, m_opcode_Check x.1 x.2.1 x.2.2.1 hx.1 hx.2.1 hx.2.2.1 hp⟩
def L_V14 : List (FuncId × FSpec) := [(qdx, k_opcode_Check.spec)] ++ L_V13
theorem L_V14_ok : ∀ x ∈ L_V14, qal (ctx []) x.1 x.2 := by
 unfold L_V14
 simp only [List.cons_append, List.nil_append, List.forall_mem_cons]
 exact ⟨c_opcode_Check, L_V13_ok⟩
end Burn.MTT
namespace Burn.MTT
open Go Go.BE Go.Proofs
set_option maxRecDepth 100000
set_option linter.unusedVariables false
set_option linter.unusedSimpArgs false
open Burn.Intn Burn.Ref
noncomputable abbrev E_V15 : Ctx := ctx L_V14
theorem E_V15_ok : EOK E_V15 := qbq L_V14_ok
def cuts_V15 : CutL := []
def rets_V15 : FuncId → List (Option Fx)
 | _ => []
def H_V15 : Hints := { cut := cutOf cuts_V15, ret := rets_V15 }
theorem verify_shape_t (m : Den qad) (f : Den qab) (t : Den qai) : run E_V15 H_V15 qhk 3000 (start E_V15 qhk [(.tv qad m), (.tv qab f), (.tv qai t)]) = (cond ((z t.1) != (6 : Int)) (cond ((z t.2.2.2.2.1) != (0 : Int)) (rt (vb false) []) (cond ((z t.1) == (1 : Int)) (cond (((ln I t.2.1) : Int) == (0 : Int)) (cond (((ln I t.2.2.1) : Int) == (0 : Int)) (rt (vb (((ln qae t.2.2.2.1) : Int) == (1 : Int))) []) (rt (vb false) [])) (rt (vb false) [])) (cond ((z t.1) == (2 : Int)) (cond (((ln I t.2.1) : Int) == (1 : Int)) (cond (((ln I t.2.2.1) : Int) == (0 : Int)) (rt (vb (((ln qae t.2.2.2.1) : Int) == (2 : Int))) []) (rt (vb false) [])) (rt (vb false) [])) (cond ((z t.1) == (3 : Int)) (cond (((ln I t.2.1) : Int) == (1 : Int)) (cond (((ln I t.2.2.1) : Int) == ((ln I t.2.2.1) : Int)) (rt (vb (((ln qae t.2.2.2.1) : Int) == (IntKind.wrap .i64 (((ln I t.2.2.1) : Int) + (1 : Int))))) []) (rt (vb false) [])) (rt (vb false) [])) (cond ((z t.1) == (4 : Int)) (cond ((z f.2.2.1) != (0 : Int)) (cond (((ln I t.2.1) : Int) == (1 : Int)) (cond (((ln I t.2.2.1) : Int) == (0 : Int)) (rt (vb (((ln qae t.2.2.2.1) : Int) == (0 : Int))) []) (rt (vb false) [])) (rt (vb false) [])) (cond (((ln I t.2.1) : Int) == (0 : Int)) (cond (((ln I t.2.2.1) : Int) == (0 : Int)) (rt (vb (((ln qae t.2.2.2.1) : Int) == (0 : Int))) []) (rt (vb false) [])) (rt (vb false) []))) (cond ((z t.1) == (5 : Int)) (cond (((ln I t.2.1) : Int) == (0 : Int)) (cond (((ln I t.2.2.1) : Int) == (1 : Int)) (rt (vb (((ln qae t.2.2.2.1) : Int) == (0 : Int))) []) (rt (vb false) [])) (rt (vb false) [])) (cond ((z t.1) == (6 : Int)) (.chk (0 ≤ (z t.2.2.2.2.1) ∧ (z t.2.2.2.2.1) < (ln qab m.2.1)) (cond (((ln I t.2.1) : Int) == ((ln I ((gd qab m.2.1 (((z t.2.2.2.2.1)).toNat)).2.1)) : Int)) (cond (((ln I t.2.2.1) : Int) == (0 : Int)) (rt (vb (((ln qae t.2.2.2.1) : Int) == (0 : Int))) []) (rt (vb false) [])) (rt (vb false) []))) (cond (((ln I t.2.1) : Int) == (0 : Int)) (cond (((ln I t.2.2.1) : Int) == (0 : Int)) (rt (vb (((ln qae t.2.2.2.1) : Int) == (0 : Int))) []) (rt (vb false) [])) (rt (vb false) []))))))))) (cond ((z t.1) == (1 : Int)) (cond (((ln I t.2.1) : Int) == (0 : Int)) (cond (((ln I t.2.2.1) : Int) == (0 : Int)) (rt (vb (((ln qae t.2.2.2.1) : Int) == (1 : Int))) []) (rt (vb false) [])) (rt (vb false) [])) (cond ((z t.1) == (2 : Int)) (cond (((ln I t.2.1) : Int) == (1 : Int)) (cond (((ln I t.2.2.1) : Int) == (0 : Int)) (rt (vb (((ln qae t.2.2.2.1) : Int) == (2 : Int))) []) (rt (vb false) [])) (rt (vb false) [])) (cond ((z t.1) == (3 : Int)) (cond (((ln I t.2.1) : Int) == (1 : Int)) (cond (((ln I t.2.2.1) : Int) == ((ln I t.2.2.1) : Int)) (rt (vb (((ln qae t.2.2.2.1) : Int) == (IntKind.wrap .i64 (((ln I t.2.2.1) : Int) + (1 : Int))))) []) (rt (vb false) [])) (rt (vb false) [])) (cond ((z t.1) == (4 : Int)) (cond ((z f.2.2.1) != (0 : Int)) (cond (((ln I t.2.1) : Int) == (1 : Int)) (cond (((ln I t.2.2.1) : Int) == (0 : Int)) (rt (vb (((ln qae t.2.2.2.1) : Int) == (0 : Int))) []) (rt (vb false) [])) (rt (vb false) [])) (cond (((ln I t.2.1) : Int) == (0 : Int)) (cond (((ln I t.2.2.1) : Int) == (0 : Int)) (rt (vb (((ln qae t.2.2.2.1) : Int) == (0 : Int))) []) (rt (vb false) [])) (rt (vb false) []))) (cond ((z t.1) == (5 : Int)) (cond (((ln I t.2.1) : Int) == (0 : Int)) (cond (((ln I t.2.2.1) : Int) == (1 : Int)) (rt (vb (((ln qae t.2.2.2.1) : Int) == (0 : Int))) []) (rt (vb false) [])) (rt (vb false) [])) (cond ((z t.1) == (6 : Int)) (.chk (0 ≤ (z t.2.2.2.2.1) ∧ (z t.2.2.2.2.1) < (ln qab m.2.1)) (cond (((ln I t.2.1) : Int) == ((ln I ((gd qab m.2.1 (((z t.2.2.2.2.1)).toNat)).2.1)) : Int)) (cond (((ln I t.2.2.1) : Int) == (0 : Int)) (rt (vb (((ln qae t.2.2.2.1) : Int) == (0 : Int))) []) (rt (vb false) [])) (rt (vb false) []))) (cond (((ln I t.2.1) : Int) == (0 : Int)) (cond (((ln I t.2.2.1) : Int) == (0 : Int)) (rt (vb (((ln qae t.2.2.2.1) : Int) == (0 : Int))) []) (rt (vb false) [])) (rt (vb false) []))))))))) := by kernel_rfl
theorem verify_operand_t (m : Den qad) (f : Den qab) (t : Den qai) (i : Int) (u : Int) : run E_V15 H_V15 qfe 3000 (start E_V15 qfe [(.tv qad m), (.tv qab f), (.tv qai t), (vi i), (vi u)]) = (cond ((z t.1) == (2 : Int)) (rt (vb (u == (1 : Int))) []) (cond ((z t.1) == (3 : Int)) (cond (u == (3 : Int)) (rt (vb true) []) (rt (vb (u == (4 : Int))) [])) (cond ((z t.1) == (4 : Int)) (rt (vb (u == (z f.2.2.1))) []) (.chk (0 ≤ (z t.2.2.2.2.1) ∧ (z t.2.2.2.2.1) < (ln qab m.2.1)) (.chk (0 ≤ i ∧ i < (ln I ((gd qab m.2.1 (((z t.2.2.2.2.1)).toNat)).2.1))) (.chk (True) (.know True (cond (regP (gd qab m.2.1 (((z t.2.2.2.2.1)).toNat)) (gd I ((gd qab m.2.1 (((z t.2.2.2.2.1)).toNat)).2.1) i.toNat)) (.chk (0 ≤ (z (gd I ((gd qab m.2.1 (((z t.2.2.2.2.1)).toNat)).2.1) i.toNat)) ∧ (z (gd I ((gd qab m.2.1 (((z t.2.2.2.2.1)).toNat)).2.1) i.toNat)) < (ln I ((gd qab m.2.1 (((z t.2.2.2.2.1)).toNat)).2.2.2.1))) (rt (vb (u == (z (gd I ((gd qab m.2.1 (((z t.2.2.2.2.1)).toNat)).2.2.2.1) (((z (gd I ((gd qab m.2.1 (((z t.2.2.2.2.1)).toNat)).2.1) i.toNat))).toNat))))) [])) (rt (vb false) []))))))))) := by kernel_rfl
theorem qfz {f : Fn} {r : Int} (h : regP f r = true) : 0 ≤ r ∧ r < (ln I f.2.2.2.1 : Nat) := by
 unfold regP at h
 cases h1 : decide (r ≥ 0) <;> rw [h1] at h
 ·exact Bool.noConfusion h
 ·exact ⟨of_decide_eq_true h1, of_decide_eq_true h⟩
def opdOK (m : Md) (t : Trm) (i : Int) : Prop := z t.1 ≠ 2 → z t.1 ≠ 3 → z t.1 ≠ 4 → (0 ≤ z t.2.2.2.2.1 ∧ z t.2.2.2.2.1 < (ln qab m.2.1 : Nat)) ∧ 0 ≤ i ∧ i < (ln I (gd qab m.2.1 (z t.2.2.2.2.1).toNat).2.1 : Nat)
def shpP (m : Den qad) (f : Den qab) (t : Den qai) : Bool := (cond ((z t.1) != (6 : Int)) (cond ((z t.2.2.2.2.1) != (0 : Int)) false (cond ((z t.1) == (1 : Int)) (cond (((ln I t.2.1) : Int) == (0 : Int)) (cond (((ln I t.2.2.1) : Int) == (0 : Int)) (((ln qae t.2.2.2.1) : Int) == (1 : Int)) false) false) (cond ((z t.1) == (2 : Int)) (cond (((ln I t.2.1) : Int) == (1 : Int)) (cond (((ln I t.2.2.1) : Int) == (0 : Int)) (((ln qae t.2.2.2.1) : Int) == (2 : Int)) false) false) (cond ((z t.1) == (3 : Int)) (cond (((ln I t.2.1) : Int) == (1 : Int)) (cond (((ln I t.2.2.1) : Int) == ((ln I t.2.2.1) : Int)) (((ln qae t.2.2.2.1) : Int) == (IntKind.wrap .i64 (((ln I t.2.2.1) : Int) + (1 : Int)))) false) false) (cond ((z t.1) == (4 : Int)) (cond ((z f.2.2.1) != (0 : Int)) (cond (((ln I t.2.1) : Int) == (1 : Int)) (cond (((ln I t.2.2.1) : Int) == (0 : Int)) (((ln qae t.2.2.2.1) : Int) == (0 : Int)) false) false) (cond (((ln I t.2.1) : Int) == (0 : Int)) (cond (((ln I t.2.2.1) : Int) == (0 : Int)) (((ln qae t.2.2.2.1) : Int) == (0 : Int)) false) false)) (cond ((z t.1) == (5 : Int)) (cond (((ln I t.2.1) : Int) == (0 : Int)) (cond (((ln I t.2.2.1) : Int) == (1 : Int)) (((ln qae t.2.2.2.1) : Int) == (0 : Int)) false) false) (cond ((z t.1) == (6 : Int)) (cond (((ln I t.2.1) : Int) == ((ln I ((gd qab m.2.1 (((z t.2.2.2.2.1)).toNat)).2.1)) : Int)) (cond (((ln I t.2.2.1) : Int) == (0 : Int)) (((ln qae t.2.2.2.1) : Int) == (0 : Int)) false) false) (cond (((ln I t.2.1) : Int) == (0 : Int)) (cond (((ln I t.2.2.1) : Int) == (0 : Int)) (((ln qae t.2.2.2.1) : Int) == (0 : Int)) false) false)))))))) (cond ((z t.1) == (1 : Int)) (cond (((ln I t.2.1) : Int) == (0 : Int)) (cond (((ln I t.2.2.1) : Int) == (0 : Int)) (((ln qae t.2.2.2.1) : Int) == (1 : Int)) false) false) (cond ((z t.1) == (2 : Int)) (cond (((ln I t.2.1) : Int) == (1 : Int)) (cond (((ln I t.2.2.1) : Int) == (0 : Int)) (((ln qae t.2.2.2.1) : Int) == (2 : Int)) false) false) (cond ((z t.1) == (3 : Int)) (cond (((ln I t.2.1) : Int) == (1 : Int)) (cond (((ln I t.2.2.1) : Int) == ((ln I t.2.2.1) : Int)) (((ln qae t.2.2.2.1) : Int) == (IntKind.wrap .i64 (((ln I t.2.2.1) : Int) + (1 : Int)))) false) false) (cond ((z t.1) == (4 : Int)) (cond ((z f.2.2.1) != (0 : Int)) (cond (((ln I t.2.1) : Int) == (1 : Int)) (cond (((ln I t.2.2.1) : Int) == (0 : Int)) (((ln qae t.2.2.2.1) : Int) == (0 : Int)) false) false) (cond (((ln I t.2.1) : Int) == (0 : Int)) (cond (((ln I t.2.2.1) : Int) == (0 : Int)) (((ln qae t.2.2.2.1) : Int) == (0 : Int)) false) false)) (cond ((z t.1) == (5 : Int)) (cond (((ln I t.2.1) : Int) == (0 : Int)) (cond (((ln I t.2.2.1) : Int) == (1 : Int)) (((ln qae t.2.2.2.1) : Int) == (0 : Int)) false) false) (cond ((z t.1) == (6 : Int)) (cond (((ln I t.2.1) : Int) == ((ln I ((gd qab m.2.1 (((z t.2.2.2.2.1)).toNat)).2.1)) : Int)) (cond (((ln I t.2.2.1) : Int) == (0 : Int)) (((ln qae t.2.2.2.1) : Int) == (0 : Int)) false) false) (cond (((ln I t.2.1) : Int) == (0 : Int)) (cond (((ln I t.2.2.1) : Int) == (0 : Int)) (((ln qae t.2.2.2.1) : Int) == (0 : Int)) false) false))))))))

def k_verify_shape : Con := con [.d qad, .d qab, .d qai] .bool (fun x => z x.2.2.1.1 = 6 → 0 ≤ z x.2.2.1.2.2.2.2.1 ∧ z x.2.2.1.2.2.2.2.1 < (ln qab x.1.2.1 : Nat)) fun x => shpP x.1 x.2.1 x.2.2.1
theorem m_verify_shape (m : Den qad) (f : Den qab) (t : Den qai) (h_m : okD qad m) (h_f : okD qab f) (h_t : okD qai t) (hp : z t.1 = 6 → 0 ≤ z t.2.2.2.2.1 ∧ z t.2.2.2.2.1 < (ln qab m.2.1 : Nat)) : Runs E_V15 (start E_V15 qhk [(.tv qad m), (.tv qab f), (.tv qai t)]) (fun r_ h_ => r_ = (vb (shpP m f t)) ∧ h_ = []) := .tree E_V15_ok (verify_shape_t m f t) (by
 have hp_ := hp
 try simp only [z] at hp_
 show Tre.wp (Qv _ (fun x_ => (vb x_)) (shpP m f t)) _
 unfold shpP
 refine qag (fun h1 => ?_) (fun h1 => ?_)
 ·have h1_ := bne_t h1
  refine qag (fun h2 => ⟨rfl, rfl⟩) (fun h2 => ?_)
  have h2_ := bne_f h2
  refine qag (fun h3 => ?_) (fun h3 => ?_)
  ·refine qag (fun h4 => ?_) (fun h4 => ⟨rfl, rfl⟩)
   refine qag (fun h5 => ⟨rfl, rfl⟩) (fun h5 => ?_)
   exact ⟨rfl, rfl⟩
  ·have h3_ := beq_f h3
   refine qag (fun h6 => ?_) (fun h6 => ?_)
   ·refine qag (fun h7 => ?_) (fun h7 => ⟨rfl, rfl⟩)
    refine qag (fun h8 => ⟨rfl, rfl⟩) (fun h8 => ?_)
    exact ⟨rfl, rfl⟩
   ·have h6_ := beq_f h6
    refine qag (fun h9 => ?_) (fun h9 => ?_)
    ·refine qag (fun h10 => ?_) (fun h10 => ⟨rfl, rfl⟩)
     refine qag (fun h11 => ⟨rfl, rfl⟩) (fun h11 => ?_)
     exact ⟨rfl, rfl⟩
    ·have h9_ := beq_f h9
     refine qag (fun h12 => ?_) (fun h12 => ?_)
     ·refine qag (fun h13 => ?_) (fun h13 => ?_)
      ·refine qag (fun h14 => ?_) (fun h14 => ⟨rfl, rfl⟩)
       refine qag (fun h15 => ⟨rfl, rfl⟩) (fun h15 => ?_)
       exact ⟨rfl, rfl⟩
      ·refine qag (fun h16 => ?_) (fun h16 => ⟨rfl, rfl⟩)
       refine qag (fun h17 => ⟨rfl, rfl⟩) (fun h17 => ?_)
       exact ⟨rfl, rfl⟩
     ·have h12_ := beq_f h12
      refine qag (fun h18 => ?_) (fun h18 => ?_)
      ·refine qag (fun h19 => ?_) (fun h19 => ⟨rfl, rfl⟩)
       refine qag (fun h20 => ⟨rfl, rfl⟩) (fun h20 => ?_)
       exact ⟨rfl, rfl⟩
      ·have h18_ := beq_f h18
       refine qag (fun h21 => ?_) (fun h21 => ?_)
       ·have h21_ := beq_t h21
        refine ⟨by first | omega | exact (hp (by assumption)) | (have g_ := hp (by assumption); omega) | assumption | exact hp.1 | exact hp.2 | exact hp.2.1 | (simp_all; done) | (simp_all; omega), fun _ => ?_⟩
        refine qag (fun h22 => ?_) (fun h22 => ⟨rfl, rfl⟩)
        refine qag (fun h23 => ⟨rfl, rfl⟩) (fun h23 => ?_)
        exact ⟨rfl, rfl⟩
       ·refine qag (fun h24 => ?_) (fun h24 => ⟨rfl, rfl⟩)
        refine qag (fun h25 => ⟨rfl, rfl⟩) (fun h25 => ?_)
        exact ⟨rfl, rfl⟩
 ·have h1_ := bne_f h1
  have h26k : ((z t.1) == (1 : Int)) = false := by rw [(bne_f h1)]; rfl
  refine qag (fun h26 => absurd (h26k.symm.trans h26) (by decide)) (fun _ => ?_)
  have h27k : ((z t.1) == (2 : Int)) = false := by rw [(bne_f h1)]; rfl
  refine qag (fun h27 => absurd (h27k.symm.trans h27) (by decide)) (fun _ => ?_)
  have h28k : ((z t.1) == (3 : Int)) = false := by rw [(bne_f h1)]; rfl
  refine qag (fun h28 => absurd (h28k.symm.trans h28) (by decide)) (fun _ => ?_)
  have h29k : ((z t.1) == (4 : Int)) = false := by rw [(bne_f h1)]; rfl
  refine qag (fun h29 => absurd (h29k.symm.trans h29) (by decide)) (fun _ => ?_)
  have h30k : ((z t.1) == (5 : Int)) = false := by rw [(bne_f h1)]; rfl
  refine qag (fun h30 => absurd (h30k.symm.trans h30) (by decide)) (fun _ => ?_)
  have h31k : ((z t.1) == (6 : Int)) = true := by rw [(bne_f h1)]; rfl
  refine qag (fun _ => ?_) (fun h31 => absurd (h31k.symm.trans h31) (by decide))
  refine ⟨by first | omega | exact (hp (by assumption)) | (have g_ := hp (by assumption); omega) | assumption | exact hp.1 | exact hp.2 | exact hp.2.1 | (simp_all; done) | (simp_all; omega), fun _ => ?_⟩
  refine qag (fun h32 => ?_) (fun h32 => ⟨rfl, rfl⟩)
  refine qag (fun h33 => ⟨rfl, rfl⟩) (fun h33 => ?_)
  exact ⟨rfl, rfl⟩)
theorem c_verify_shape : qal E_V15 qhk k_verify_shape.spec := qam fun x hx hp => ⟨rfl, m_verify_shape x.1 x.2.1 x.2.2.1 hx.1 hx.2.1 hx.2.2.1 hp⟩
def opdP (m : Den qad) (f : Den qab) (t : Den qai) (i : Int) (u : Int) : Bool := (cond ((z t.1) == (2 : Int)) (u == (1 : Int)) (cond ((z t.1) == (3 : Int)) (cond (u == (3 : Int)) true (u == (4 : Int))) (cond ((z t.1) == (4 : Int)) (u == (z f.2.2.1)) (cond (regP (gd qab m.2.1 (((z t.2.2.2.2.1)).toNat)) (gd I ((gd qab m.2.1 (((z t.2.2.2.2.1)).toNat)).2.1) i.toNat)) (u == (z (gd I ((gd qab m.2.1 (((z t.2.2.2.2.1)).toNat)).2.2.2.1) (((z (gd I ((gd qab m.2.1 (((z t.2.2.2.2.1)).toNat)).2.1) i.toNat))).toNat)))) false))))

def k_verify_operand : Con := con [.d qad, .d qab, .d qai, .d I, .d I] .bool (fun x => opdOK x.1 x.2.2.1 (z x.2.2.2.1)) fun x => opdP x.1 x.2.1 x.2.2.1 x.2.2.2.1 x.2.2.2.2.1
theorem m_verify_operand (m : Den qad) (f : Den qab) (t : Den qai) (i : Int) (u : Int) (h_m : okD qad m) (h_f : okD qab f) (h_t : okD qai t) (h_i : okD I i) (h_u : okD I u) (hp : opdOK m t (z i)) : Runs E_V15 (start E_V15 qfe [(.tv qad m), (.tv qab f), (.tv qai t), (vi i), (vi u)]) (fun r_ h_ => r_ = (vb (opdP m f t i u)) ∧ h_ = []) := .tree E_V15_ok (verify_operand_t m f t i u) (by
 have hp_ := hp
 try simp only [z] at hp_
 show Tre.wp (Qv _ (fun x_ => (vb x_)) (opdP m f t i u)) _
 unfold opdP
 refine qag (fun h1 => ⟨rfl, rfl⟩) (fun h1 => ?_)
 have h1_ := beq_f h1
 refine qag (fun h2 => ?_) (fun h2 => ?_)
 ·refine qag (fun h3 => ⟨rfl, rfl⟩) (fun h3 => ?_)
  exact ⟨rfl, rfl⟩
 ·have h2_ := beq_f h2
  refine qag (fun h4 => ⟨rfl, rfl⟩) (fun h4 => ?_)
  have h4_ := beq_f h4
  refine ⟨by first | omega | exact ((hp (by assumption) (by assumption) (by assumption)).1) | (have g_ := (hp (by assumption) (by assumption) (by assumption)).1; omega) | exact ((hp (by assumption) (by assumption) (by assumption)).2) | (have g_ := (hp (by assumption) (by assumption) (by assumption)).2; omega) | exact (qfz (by assumption)) | (have g_ := qfz (by assumption); omega) | assumption | exact hp.1 | exact hp.2 | exact hp.2.1 | (simp_all; done) | (simp_all; omega), fun _ => ?_⟩
  refine ⟨by first | omega | exact ((hp (by assumption) (by assumption) (by assumption)).1) | (have g_ := (hp (by assumption) (by assumption) (by assumption)).1; omega) | exact ((hp (by assumption) (by assumption) (by assumption)).2) | (have g_ := (hp (by assumption) (by assumption) (by assumption)).2; omega) | exact (qfz (by assumption)) | (have g_ := qfz (by assumption); omega) | assumption | exact hp.1 | exact hp.2 | exact hp.2.1 | (simp_all; done) | (simp_all; omega), fun _ => ?_⟩
  refine ⟨trivial, fun _ => ?_⟩
  refine fun _ => ?_
  refine qag (fun h5 => ?_) (fun h5 => ⟨rfl, rfl⟩)
  refine ⟨by first | omega | exact ((hp (by assumption) (by assumption) (by assumption)).1) | (have g_ := (hp (by assumption) (by assumption) (by assumption)).1; omega) | exact ((hp (by assumption) (by assumption) (by assumption)).2) | (have g_ := (hp (by assumption) (by assumption) (by assumption)).2; omega) | exact (qfz (by assumption)) | (have g_ := qfz (by assumption); omega) | assumption | exact hp.1 | exact hp.2 | exact hp.2.1 | (simp_all; done) | (simp_all; omega), fun _ => ?_⟩
  exact ⟨rfl, rfl⟩)
theorem c_verify_operand : qal E_V15 qfe k_verify_operand.spec := qam fun x hx hp => ⟨rfl, m_verify_operand x.1 x.2.1 x.2.2.1 x.2.2.2.1 x.2.2.2.2.1 hx.1 hx.2.1 hx.2.2.1 hx.2.2.2.1 hx.2.2.2.2.1 hp⟩
def L_V15 : List (FuncId × FSpec) := [(qhk, k_verify_shape.spec), (qfe, k_verify_operand.spec)] ++ L_V14
theorem L_V15_ok : ∀ x ∈ L_V15, qal (ctx []) x.1 x.2 := by
 unfold L_V15
 simp only [List.cons_append, List.nil_append, List.forall_mem_cons]
 exact ⟨c_verify_shape, c_verify_operand, L_V14_ok⟩
end Burn.MTT
namespace Burn.MTT
open Go Go.BE Go.Proofs
set_option maxRecDepth 100000
set_option linter.unusedVariables false
set_option linter.unusedSimpArgs false
open Burn.Intn Burn.Ref
noncomputable abbrev E_V16 : Ctx := ctx L_V15
theorem E_V16_ok : EOK E_V16 := qbq L_V15_ok
def cuts_V16 : CutL := [([], 75, 0, [4, 5, 6, 7, 63, 64, 65], [], []),
 ([], 75, 2, [4, 6, 7, 106, 107, 108], [], []),
 ([], 75, 4, [4, 6, 147, 148, 149], [], []),
 ([], 75, 6, [4, 6, 14, 147, 148, 149, 195, 196, 197], [], [])]
def rets_V16 : FuncId → List (Option Fx)
 | _ => []
def H_V16 : Hints := { cut := cutOf cuts_V16, ret := rets_V16 }
noncomputable def qbk (at_ : Den qak) (m : Den qad) (f : Den qab) (t : Den qai) (t63 : List (Den I)) (t64 : Int) (t65 : Int) : Cfg := hcfg E_V16 qav 0 [(4, (.rtp qak at_)), (5, (.rtp qad m)), (6, (.rtp qab f)), (7, (.rtp qai t)), (63, (.tv (.sl 8 I) t63)), (64, (vi t64)), (65, (vi t65))] [] 0
noncomputable def qcm (at_ : Den qak) (f : Den qab) (t : Den qai) (t106 : List (Den I)) (t107 : Int) (t108 : Int) : Cfg := hcfg E_V16 qav 2 [(4, (.rtp qak at_)), (6, (.rtp qab f)), (7, (.rtp qai t)), (106, (.tv (.sl 8 I) t106)), (107, (vi t107)), (108, (vi t108))] [] 0
noncomputable def qcz (at_ : Den qak) (f : Den qab) (t147 : List (Den qae)) (t148 : Int) (t149 : Int) : Cfg := hcfg E_V16 qav 4 [(4, (.rtp qak at_)), (6, (.rtp qab f)), (147, (.tv (.sl 32 qae) t147)), (148, (vi t148)), (149, (vi t149))] [] 0
noncomputable def qeb (at_ : Den qak) (f : Den qab) (to : List (Den I)) (t147 : List (Den qae)) (t148 : Int) (t149 : Int) (t195 : List (Den I)) (t196 : Int) (t197 : Int) : Cfg := hcfg E_V16 qav 6 [(4, (.rtp qak at_)), (6, (.rtp qab f)), (14, (.tv (.sl 8 I) to)), (147, (.tv (.sl 32 qae) t147)), (148, (vi t148)), (149, (vi t149)), (195, (.tv (.sl 8 I) t195)), (196, (vi t196)), (197, (vi t197))] [] 0
theorem verify_terminator_t (at_ : Den qak) (m : Den qad) (f : Den qab) (t : Den qai) : run E_V16 H_V16 qav 3000 (start E_V16 qav [(.tv qak at_), (.tv qad m), (.tv qab f), (.tv qai t)]) = (cond (decide ((z t.1) ≥ (1 : Int))) (cond (!(decide ((z t.1) ≤ (6 : Int)))) (pn (.val (.iface 106 (.agg #[.int .i64 (9 : Int), .int .i64 (z at_.1), .int .i64 (z at_.2.1), .int .i64 (z at_.2.2.1), .int .i64 (z at_.2.2.2.1)])))) (cond ((z t.1) != (6 : Int)) (cond ((z t.1) != (3 : Int)) (.chk (z t.1 = 6 → 0 ≤ z t.2.2.2.2.1 ∧ z t.2.2.2.2.1 < (ln qab m.2.1 : Nat)) (.know True (cond (!(shpP m f t)) (pn (.val (.iface 106 (.agg #[.int .i64 (3 : Int), .int .i64 (z at_.1), .int .i64 (z at_.2.1), .int .i64 (z at_.2.2.1), .int .i64 (z at_.2.2.2.1)])))) (hd (qbk at_ m f t t.2.1 ((ln I t.2.1) : Int) (0 : Int)))))) (cond (!(decide (((ln I t.2.2.1) : Int) ≤ (16 : Int)))) (pn (.val (.iface 106 (.agg #[.int .i64 (11 : Int), .int .i64 (z at_.1), .int .i64 (z at_.2.1), .int .i64 (z at_.2.2.1), .int .i64 (z at_.2.2.2.1)])))) (.chk (z t.1 = 6 → 0 ≤ z t.2.2.2.2.1 ∧ z t.2.2.2.2.1 < (ln qab m.2.1 : Nat)) (.know True (cond (!(shpP m f t)) (pn (.val (.iface 106 (.agg #[.int .i64 (3 : Int), .int .i64 (z at_.1), .int .i64 (z at_.2.1), .int .i64 (z at_.2.2.1), .int .i64 (z at_.2.2.2.1)])))) (hd (qbk at_ m f t t.2.1 ((ln I t.2.1) : Int) (0 : Int)))))))) (cond (decide ((z t.2.2.2.2.1) ≥ (0 : Int))) (cond (!(decide ((z t.2.2.2.2.1) < ((ln qab m.2.1) : Int)))) (pn (.val (.iface 106 (.agg #[.int .i64 (8 : Int), .int .i64 (z at_.1), .int .i64 (z at_.2.1), .int .i64 (z at_.2.2.1), .int .i64 (z at_.2.2.2.1)])))) (cond ((z t.1) != (3 : Int)) (.chk (z t.1 = 6 → 0 ≤ z t.2.2.2.2.1 ∧ z t.2.2.2.2.1 < (ln qab m.2.1 : Nat)) (.know True (cond (!(shpP m f t)) (pn (.val (.iface 106 (.agg #[.int .i64 (3 : Int), .int .i64 (z at_.1), .int .i64 (z at_.2.1), .int .i64 (z at_.2.2.1), .int .i64 (z at_.2.2.2.1)])))) (hd (qbk at_ m f t t.2.1 ((ln I t.2.1) : Int) (0 : Int)))))) (cond (!(decide (((ln I t.2.2.1) : Int) ≤ (16 : Int)))) (pn (.val (.iface 106 (.agg #[.int .i64 (11 : Int), .int .i64 (z at_.1), .int .i64 (z at_.2.1), .int .i64 (z at_.2.2.1), .int .i64 (z at_.2.2.2.1)])))) (.chk (z t.1 = 6 → 0 ≤ z t.2.2.2.2.1 ∧ z t.2.2.2.2.1 < (ln qab m.2.1 : Nat)) (.know True (cond (!(shpP m f t)) (pn (.val (.iface 106 (.agg #[.int .i64 (3 : Int), .int .i64 (z at_.1), .int .i64 (z at_.2.1), .int .i64 (z at_.2.2.1), .int .i64 (z at_.2.2.2.1)])))) (hd (qbk at_ m f t t.2.1 ((ln I t.2.1) : Int) (0 : Int))))))))) (pn (.val (.iface 106 (.agg #[.int .i64 (8 : Int), .int .i64 (z at_.1), .int .i64 (z at_.2.1), .int .i64 (z at_.2.2.1), .int .i64 (z at_.2.2.2.1)]))))))) (pn (.val (.iface 106 (.agg #[.int .i64 (9 : Int), .int .i64 (z at_.1), .int .i64 (z at_.2.1), .int .i64 (z at_.2.2.1), .int .i64 (z at_.2.2.2.1)]))))) := by kernel_rfl
theorem verify_terminator_L0_t (at_ : Den qak) (m : Den qad) (f : Den qab) (t : Den qai) (t63 : List (Den I)) (t64 : Int) (t65 : Int) : run E_V16 H_V16 qav 3000 (qbk at_ m f t t63 t64 t65) = (cond (decide (t65 < t64)) (.chk (0 ≤ t65 ∧ t65 < (ln I t63)) (.chk (True) (.know True (cond (!(regP f (gd I t63 t65.toNat))) (pn (.val (.iface 106 (.agg #[.int .i64 (10 : Int), .int .i64 (z at_.1), .int .i64 (z at_.2.1), .int .i64 (z at_.2.2.1), .int .i64 (z at_.2.2.2.1)])))) (.chk (0 ≤ (z (gd I t63 t65.toNat)) ∧ (z (gd I t63 t65.toNat)) < (ln I f.2.2.2.1)) (.chk (opdOK m t (z t65)) (.know True (cond (!(opdP m f t t65 (gd I f.2.2.2.1 (((z (gd I t63 t65.toNat))).toNat)))) (pn (.val (.iface 106 (.agg #[.int .i64 (9 : Int), .int .i64 (z at_.1), .int .i64 (z at_.2.1), .int .i64 (z at_.2.2.1), .int .i64 (z at_.2.2.2.1)])))) (hd (qbk at_ m f t t63 t64 (IntKind.wrap .i64 (t65 + (1 : Int))))))))))))) (cond ((z t.1) != (6 : Int)) (hd (qcm at_ f t t.2.2.1 ((ln I t.2.2.1) : Int) (0 : Int))) (.chk (0 ≤ (z t.2.2.2.2.1) ∧ (z t.2.2.2.2.1) < (ln qab m.2.1)) (cond (!((z ((gd qab m.2.1 (((z t.2.2.2.2.1)).toNat)).2.2.1)) == (z f.2.2.1))) (pn (.val (.iface 106 (.agg #[.int .i64 (9 : Int), .int .i64 (z at_.1), .int .i64 (z at_.2.1), .int .i64 (z at_.2.2.1), .int .i64 (z at_.2.2.2.1)])))) (hd (qcm at_ f t t.2.2.1 ((ln I t.2.2.1) : Int) (0 : Int))))))) := by kernel_rfl
theorem verify_terminator_L2_t (at_ : Den qak) (f : Den qab) (t : Den qai) (t106 : List (Den I)) (t107 : Int) (t108 : Int) : run E_V16 H_V16 qav 3000 (qcm at_ f t t106 t107 t108) = (cond (decide (t108 < t107)) (.chk (0 ≤ t108 ∧ t108 < (ln I t106)) (cond ((z t.1) == (3 : Int)) (.chk (0 ≤ (0 : Int) ∧ (0 : Int) < (ln I t.2.1)) (.chk (0 ≤ (z (gd I t.2.1 (0 : Nat))) ∧ (z (gd I t.2.1 (0 : Nat))) < (ln I f.2.2.2.1)) (.chk (True) (.know True (cond (!(fitP (gd I f.2.2.2.1 (((z (gd I t.2.1 (0 : Nat)))).toNat)) (gd I t106 t108.toNat))) (pn (.val (.iface 106 (.agg #[.int .i64 (10 : Int), .int .i64 (z at_.1), .int .i64 (z at_.2.1), .int .i64 (z at_.2.2.1), .int .i64 (z at_.2.2.2.1)])))) (.chk (0 ≤ (0 : Int) ∧ (0 : Int) ≤ t108 ∧ t108 ≤ ((ln I t.2.2.1) : Int)) (.chk (True) (.know True (cond (!(!(hasI (wn I t.2.2.1 (0 : Nat) (t108.toNat - (0 : Nat))) (gd I t106 t108.toNat)))) (pn (.val (.iface 106 (.agg #[.int .i64 (7 : Int), .int .i64 (z at_.1), .int .i64 (z at_.2.1), .int .i64 (z at_.2.2.1), .int .i64 (z at_.2.2.2.1)])))) (hd (qcm at_ f t t106 t107 (IntKind.wrap .i64 (t108 + (1 : Int)))))))))))))) (cond (decide ((z (gd I t106 t108.toNat)) ≥ (16 : Int))) (cond (!(decide ((z (gd I t106 t108.toNat)) ≤ (255 : Int)))) (pn (.val (.iface 106 (.agg #[.int .i64 (10 : Int), .int .i64 (z at_.1), .int .i64 (z at_.2.1), .int .i64 (z at_.2.2.1), .int .i64 (z at_.2.2.2.1)])))) (.chk (0 ≤ (0 : Int) ∧ (0 : Int) ≤ t108 ∧ t108 ≤ ((ln I t.2.2.1) : Int)) (.chk (True) (.know True (cond (!(!(hasI (wn I t.2.2.1 (0 : Nat) (t108.toNat - (0 : Nat))) (gd I t106 t108.toNat)))) (pn (.val (.iface 106 (.agg #[.int .i64 (7 : Int), .int .i64 (z at_.1), .int .i64 (z at_.2.1), .int .i64 (z at_.2.2.1), .int .i64 (z at_.2.2.2.1)])))) (hd (qcm at_ f t t106 t107 (IntKind.wrap .i64 (t108 + (1 : Int)))))))))) (pn (.val (.iface 106 (.agg #[.int .i64 (10 : Int), .int .i64 (z at_.1), .int .i64 (z at_.2.1), .int .i64 (z at_.2.2.1), .int .i64 (z at_.2.2.2.1)]))))))) (hd (qcz at_ f t.2.2.2.1 ((ln qae t.2.2.2.1) : Int) (0 : Int)))) := by kernel_rfl
theorem verify_terminator_L4_t (at_ : Den qak) (f : Den qab) (t147 : List (Den qae)) (t148 : Int) (t149 : Int) : run E_V16 H_V16 qav 3000 (qcz at_ f t147 t148 t149) = (cond (decide (t149 < t148)) (.chk (0 ≤ t149 ∧ t149 < (ln qae t147)) (cond (decide ((z ((gd qae t147 t149.toNat).1)) ≥ (0 : Int))) (cond (!(decide ((z ((gd qae t147 t149.toNat).1)) < ((ln qaa f.2.2.2.2.1) : Int)))) (pn (.val (.iface 106 (.agg #[.int .i64 (8 : Int), .int .i64 (z at_.1), .int .i64 (z at_.2.1), .int .i64 (z at_.2.2.1), .int .i64 (z at_.2.2.2.1)])))) (cond (!((z ((gd qae t147 t149.toNat).1)) != (0 : Int))) (pn (.val (.iface 106 (.agg #[.int .i64 (3 : Int), .int .i64 (z at_.1), .int .i64 (z at_.2.1), .int .i64 (z at_.2.2.1), .int .i64 (z at_.2.2.2.1)])))) (.chk (0 ≤ (z ((gd qae t147 t149.toNat).1)) ∧ (z ((gd qae t147 t149.toNat).1)) < (ln qaa f.2.2.2.2.1)) (cond (!(decide (((ln I ((gd qae t147 t149.toNat).2.1)) : Int) ≥ ((ln I ((gd qaa f.2.2.2.2.1 (((z ((gd qae t147 t149.toNat).1))).toNat)).1)) : Int)))) (pn (.val (.iface 106 (.agg #[.int .i64 (4 : Int), .int .i64 (z at_.1), .int .i64 (z at_.2.1), .int .i64 (z at_.2.2.1), .int .i64 (z at_.2.2.2.1)])))) (cond (!(decide (((ln I ((gd qae t147 t149.toNat).2.1)) : Int) ≤ ((ln I ((gd qaa f.2.2.2.2.1 (((z ((gd qae t147 t149.toNat).1))).toNat)).1)) : Int)))) (pn (.val (.iface 106 (.agg #[.int .i64 (5 : Int), .int .i64 (z at_.1), .int .i64 (z at_.2.1), .int .i64 (z at_.2.2.1), .int .i64 (z at_.2.2.2.1)])))) (hd (qeb at_ f ((gd qaa f.2.2.2.2.1 (((z ((gd qae t147 t149.toNat).1))).toNat)).1) t147 t148 t149 ((gd qae t147 t149.toNat).2.1) ((ln I ((gd qae t147 t149.toNat).2.1)) : Int) (0 : Int)))))))) (pn (.val (.iface 106 (.agg #[.int .i64 (8 : Int), .int .i64 (z at_.1), .int .i64 (z at_.2.1), .int .i64 (z at_.2.2.1), .int .i64 (z at_.2.2.2.1)])))))) (rt (.tup []) [])) := by kernel_rfl
theorem verify_terminator_L6_t (at_ : Den qak) (f : Den qab) (to : List (Den I)) (t147 : List (Den qae)) (t148 : Int) (t149 : Int) (t195 : List (Den I)) (t196 : Int) (t197 : Int) : run E_V16 H_V16 qav 3000 (qeb at_ f to t147 t148 t149 t195 t196 t197) = (cond (decide (t197 < t196)) (.chk (0 ≤ t197 ∧ t197 < (ln I t195)) (.chk (True) (.know True (cond (!(regP f (gd I t195 t197.toNat))) (pn (.val (.iface 106 (.agg #[.int .i64 (10 : Int), .int .i64 (z at_.1), .int .i64 (z at_.2.1), .int .i64 (z at_.2.2.1), .int .i64 (z at_.2.2.2.1)])))) (.chk (0 ≤ t197 ∧ t197 < (ln I to)) (.chk (True) (cond (regP f (gd I to t197.toNat)) (.chk (0 ≤ (z (gd I t195 t197.toNat)) ∧ (z (gd I t195 t197.toNat)) < (ln I f.2.2.2.1)) (.chk (0 ≤ t197 ∧ t197 < (ln I to)) (.chk (0 ≤ (z (gd I to t197.toNat)) ∧ (z (gd I to t197.toNat)) < (ln I f.2.2.2.1)) (.know True (cond (!((z (gd I f.2.2.2.1 (((z (gd I t195 t197.toNat))).toNat))) == (z (gd I f.2.2.2.1 (((z (gd I to t197.toNat))).toNat))))) (pn (.val (.iface 106 (.agg #[.int .i64 (9 : Int), .int .i64 (z at_.1), .int .i64 (z at_.2.1), .int .i64 (z at_.2.2.1), .int .i64 (z at_.2.2.2.1)])))) (hd (qeb at_ f to t147 t148 t149 t195 t196 (IntKind.wrap .i64 (t197 + (1 : Int)))))))))) (.know True (pn (.val (.iface 106 (.agg #[.int .i64 (9 : Int), .int .i64 (z at_.1), .int .i64 (z at_.2.1), .int .i64 (z at_.2.2.1), .int .i64 (z at_.2.2.2.1)])))))))))))) (hd (qcz at_ f t147 t148 (IntKind.wrap .i64 (t149 + (1 : Int)))))) := by kernel_rfl
theorem at_or {p : Plc} {a b : Int} : atD p (orE a b) = orD (atD p a) (atD p b) := by
 unfold orE
 cases h : a == 0
 ·rw [cond_false, or_hit (a := atD p a) (by rw [errAt, h]; rfl)]
 ·rw [cond_true, qdw (a := atD p a) (by rw [errAt, h]; rfl)]
theorem at_fe {p : Plc} {e : Nat → Int} {n i : Nat} : atD p (qap e (n + 1) i) = orD (atD p (e i)) (atD p (qap e n (i + 1))) := at_or (a := e i)
theorem shp_use {m : Md} {f : Fn} {t : Trm} (h : shpP m f t = true) : (z t.1 = 1 → ln I t.2.1 = 0) ∧ (z t.1 = 5 → ln I t.2.1 = 0) ∧ (z t.1 = 3 → ln I t.2.1 = 1) ∧ (z t.1 = 6 → ln I t.2.1 = ln I (gd qab m.2.1 (z t.2.2.2.2.1).toNat).2.1) := by
 unfold shpP at h
 refine ⟨fun hk => ?_, fun hk => ?_, fun hk => ?_, fun hk => ?_⟩ <;> rw [hk] at h <;> simp [Bool.cond_eq_ite] at h <;> omega
def trmA (m : Md) (f : Fn) (t : Trm) (i : Nat) : Int := cond (!(regP f (gd I t.2.1 i))) 10 (cond (!(opdP m f t i (gd I f.2.2.2.1 (z (gd I t.2.1 i)).toNat))) 9 0)
def trmS (m : Md) (f : Fn) (t : Trm) : Int := cond (z t.1 != (6 : Int)) 0 (cond (!(z (gd qab m.2.1 (z t.2.2.2.2.1).toNat).2.2.1 == z f.2.2.1)) 9 0)
def casD (t : Trm) (i : Nat) : Int := cond (!(!(hasI (wn I t.2.2.1 0 i) (gd I t.2.2.1 i)))) 7 0
def casI (f : Fn) (t : Trm) (i : Nat) : Int := cond (z t.1 == (3 : Int)) (cond (!(fitP (gd I f.2.2.2.1 (z (gd I t.2.1 0)).toNat) (gd I t.2.2.1 i))) 10 (casD t i)) (cond (decide (z (gd I t.2.2.1 i) ≥ (16 : Int))) (cond (!(decide (z (gd I t.2.2.1 i) ≤ (255 : Int)))) 10 (casD t i)) 10)
def edgK (f : Fn) (to l : List (Den I)) (k : Nat) : Int := cond (!(regP f (gd I l k))) 10 (cond (regP f (gd I to k)) (cond (!(z (gd I f.2.2.2.1 (z (gd I l k)).toNat) == z (gd I f.2.2.2.1 (z (gd I to k)).toNat))) 9 0) 9)
def edgT (f : Fn) (e : Edg) : List (Den I) := (gd qaa f.2.2.2.2.1 (z e.1).toNat).1
def edgE (f : Fn) (e : Edg) : Int := cond (decide (z e.1 ≥ (0 : Int))) (cond (!(decide (z e.1 < (ln qaa f.2.2.2.2.1 : Int)))) 8 (cond (!(z e.1 != (0 : Int))) 3 (cond (!(decide ((ln I e.2.1 : Int) ≥ (ln I (edgT f e) : Int)))) 4 (cond (!(decide ((ln I e.2.1 : Int) ≤ (ln I (edgT f e) : Int)))) 5 (qap (edgK f (edgT f e) e.2.1) (ln I e.2.1) 0))))) 8
def edgI (f : Fn) (l : List Edg) (i : Nat) : Int := edgE f (gd qae l i)
def trmC (m : Md) (f : Fn) (t : Trm) : Int := cond (!(shpP m f t)) 3 (orE (qap (trmA m f t) (ln I t.2.1) 0) (orE (trmS m f t) (orE (qap (casI f t) (ln I t.2.2.1) 0) (qap (edgI f t.2.2.2.1) (ln qae t.2.2.2.1) 0))))
def trmB (m : Md) (f : Fn) (t : Trm) : Int := cond (z t.1 != (3 : Int)) (trmC m f t) (cond (!(decide ((ln I t.2.2.1 : Int) ≤ (16 : Int)))) 11 (trmC m f t))
def trmE (m : Md) (f : Fn) (t : Trm) : Int := cond (decide (z t.1 ≥ (1 : Int))) (cond (!(decide (z t.1 ≤ (6 : Int)))) 9 (cond (z t.1 != (6 : Int)) (trmB m f t) (cond (decide (z t.2.2.2.2.1 ≥ (0 : Int))) (cond (!(decide (z t.2.2.2.2.1 < (ln qab m.2.1 : Int)))) 8 (trmB m f t)) 8))) 9
def trmF (p : Plc) (m : Md) (f : Fn) (t : Trm) : Dg := atD p (trmE m f t)
theorem verify_terminator_l6 (p : Plc) (f : Fn) (to : List (Den I)) (l : List Edg) (i : Nat) (q : List (Den I)) (d : Dg) (hi : i < ln qae l) (hl : ln qae l < 9223372036854775807) (hq : ln I q < 9223372036854775807) (ht : ln I q = ln I to)
  (ih : RunD E_V16 (qcz p f l (ln qae l : Nat) (i + 1 : Nat)) d) : ∀ k, k ≤ ln I q → RunD E_V16 (qeb p f to l (ln qae l : Nat) i q (ln I q : Nat) k) (orD (atD p (qap (edgK f to q) (ln I q - k) k)) d) :=
 qba (RunsP.tree E_V16_ok (verify_terminator_L6_t _ _ _ _ _ _ _ _ _) (by
  rw [Nat.sub_self, qap, qdw at_zero]
  simp only [sQ, sL,  Nat.lt_irrefl, wrapS hi hl]
  exact ih))
  fun k hk ihk => RunsP.tree E_V16_ok (verify_terminator_L6_t _ _ _ _ _ _ _ _ _) (by
   rw [sub1 hk]
   simp only [sQ, sL,  hk, wrapS hk hq]
   refine ⟨fun h1 => .or (.fe (x := 10) rfl (by simp only [edgK, h1, cond_true]) rfl), fun h1 => ⟨by omega, fun _ => ⟨fun h2 => ⟨qfz (by simpa using h1), fun _ => ⟨by omega, fun _ => ⟨qfz h2, fun _ => ⟨fun h3 => .or (.fe (x := 9) rfl (by simp only [edgK, h1, h2, h3, cond_true, cond_false]) rfl), fun h3 => RunD.fe ihk (by simp only [edgK, h1, h2, h3, cond_true, cond_false])⟩⟩⟩⟩, fun h2 => .or (.fe (x := 9) rfl (by simp only [edgK, h1, h2, cond_false]) rfl)⟩⟩⟩)
theorem verify_terminator_l4 (p : Plc) (f : Fn) (l : List Edg) (hok : okD (.sl 32 qae) l) : ∀ i, i ≤ ln qae l → RunD E_V16 (qcz p f l (ln qae l : Nat) i) (atD p (qap (edgI f l) (ln qae l - i) i)) :=
 qba (RunsP.tree E_V16_ok (verify_terminator_L4_t _ _ _ _ _) (by
  rw [Nat.sub_self]
  simp only [sQ, sL,  Nat.lt_irrefl]
  exact ⟨rfl, rfl, rfl⟩))
  fun i hi ih => RunsP.tree E_V16_ok (verify_terminator_L4_t _ _ _ _ _) (by
   have hgo := ok_gd hok hi
   have go := fun hq => verify_terminator_l6 p f (edgT f (gd qae l i)) l i (gd qae l i).2.1 _ hi (qas hok.1) (qas hgo.2.1.1) hq ih
   rw [sub1 hi, at_fe]
   simp only [sQ, sL,  hi]
   refine ⟨fun h1 => ⟨fun h2 => .or (.at (p := p) (x := 8) rfl (congrArg (atD p) (by simp only [edgI, edgE, h1, h2, cond_true])) rfl), fun h2 => ⟨fun h3 => .or (.at (p := p) (x := 3) rfl (congrArg (atD p) (by simp only [edgI, edgE, h1, h2, h3, cond_true, cond_false])) rfl), fun h3 => ⟨⟨by simpa using h1, by simpa using h2⟩, fun _ => ⟨fun h4 => .or (.at (p := p) (x := 4) rfl (congrArg (atD p) ?_) rfl), fun h4 => ⟨fun h5 => .or (.at (p := p) (x := 5) rfl (congrArg (atD p) ?_) rfl), fun h5 => ?_⟩⟩⟩⟩⟩, fun h1 => .or (.at (p := p) (x := 8) rfl (congrArg (atD p) (by simp only [edgI, edgE, h1, cond_false])) rfl)⟩
   ·have h4' : (!(decide ((ln I (gd qae l i).2.1 : Int) ≥ (ln I (edgT f (gd qae l i)) : Int)))) = true := by simp only [ge_iff_le, Int.ofNat_le]; exact h4
    simp only [edgI, edgE, h1, h2, h3, h4', cond_true, cond_false]
   ·have h4' : (!(decide ((ln I (gd qae l i).2.1 : Int) ≥ (ln I (edgT f (gd qae l i)) : Int)))) = false := by simp only [ge_iff_le, Int.ofNat_le]; exact h4
    have h5' : (!(decide ((ln I (gd qae l i).2.1 : Int) ≤ (ln I (edgT f (gd qae l i)) : Int)))) = true := by simp only [ge_iff_le, Int.ofNat_le]; exact h5
    simp only [edgI, edgE, h1, h2, h3, h4', h5', cond_true, cond_false]
   ·have h4' : (!(decide ((ln I (gd qae l i).2.1 : Int) ≥ (ln I (edgT f (gd qae l i)) : Int)))) = false := by simp only [ge_iff_le, Int.ofNat_le]; exact h4
    have h5' : (!(decide ((ln I (gd qae l i).2.1 : Int) ≤ (ln I (edgT f (gd qae l i)) : Int)))) = false := by simp only [ge_iff_le, Int.ofNat_le]; exact h5
    refine (go (by simp at h4' h5'; omega) 0 (Nat.zero_le _)).cast ?_
    simp only [edgI, edgE, h1, h2, h3, h4', h5', cond_true, cond_false]
    rfl)
theorem verify_terminator_l2 (p : Plc) (f : Fn) (t : Trm) (hok : okD qai t) (hr : z t.1 = 3 → 0 < ln I t.2.1 ∧ regP f (gd I t.2.1 0) = true) : ∀ i, i ≤ ln I t.2.2.1 → RunD E_V16 (qcm p f t t.2.2.1 (ln I t.2.2.1 : Nat) i) (orD (atD p (qap (casI f t) (ln I t.2.2.1 - i) i)) (atD p (qap (edgI f t.2.2.2.1) (ln qae t.2.2.2.1) 0))) :=
 qba (RunsP.tree E_V16_ok (verify_terminator_L2_t _ _ _ _ _ _) (by
  rw [Nat.sub_self, qap, qdw at_zero]
  simp only [sQ, sL,  Nat.lt_irrefl]
  exact verify_terminator_l4 p f t.2.2.2.1 hok.2.2.2.1 0 (Nat.zero_le _)))
  fun i hi ih => RunsP.tree E_V16_ok (verify_terminator_L2_t _ _ _ _ _ _) (by
   rw [sub1 hi]
   simp only [sQ, sL,  hi, wrapS hi (qas hok.2.2.1.1), Nat.sub_zero]
   refine ⟨fun h1 => ⟨⟨Int.le_refl _, Int.ofNat_lt.mpr (hr (by simpa using h1)).1⟩, fun _ => ⟨qfz (hr (by simpa using h1)).2, fun _ => ⟨fun h2 => .or (.fe (x := 10) rfl (by simp only [casI, h1, h2, cond_true]) rfl), fun h2 => ⟨⟨by decide, by omega⟩, fun _ => ⟨fun h3 => .or (.fe (x := 7) rfl (by simp only [casI, casD, h1, h2, h3, cond_true, cond_false]) rfl), fun h3 => RunD.fe ih (by simp only [casI, casD, h1, h2, h3, cond_true, cond_false])⟩⟩⟩⟩⟩, fun h1 => ⟨fun h2 => ⟨fun h3 => .or (.fe (x := 10) rfl (by simp only [casI, h1, h2, h3, cond_true, cond_false]) rfl), fun h3 => ⟨⟨by decide, by omega⟩, fun _ => ⟨fun h4 => .or (.fe (x := 7) rfl (by simp only [casI, casD, h1, h2, h3, h4, cond_true, cond_false]) rfl), fun h4 => RunD.fe ih (by simp only [casI, casD, h1, h2, h3, h4, cond_true, cond_false])⟩⟩⟩, fun h2 => .or (.fe (x := 10) rfl (by simp only [casI, h1, h2, cond_false]) rfl)⟩⟩)
theorem verify_terminator_l0 (p : Plc) (m : Md) (f : Fn) (t : Trm) (hok : okD qai t) (hk : 1 ≤ z t.1 ∧ z t.1 ≤ 6) (hs : z t.1 = 6 → 0 ≤ z t.2.2.2.2.1 ∧ z t.2.2.2.2.1 < (ln qab m.2.1 : Nat)) (hp : shpP m f t = true) : ∀ i, i ≤ ln I t.2.1 → (∀ j, j < i → trmA m f t j = 0) → RunD E_V16 (qbk p m f t t.2.1 (ln I t.2.1 : Nat) i) (orD (atD p (qap (trmA m f t) (ln I t.2.1 - i) i)) (orD (atD p (trmS m f t)) (orD (atD p (qap (casI f t) (ln I t.2.2.1) 0)) (atD p (qap (edgI f t.2.2.2.1) (ln qae t.2.2.2.1) 0))))) :=
 qba (fun hj => RunsP.tree E_V16_ok (verify_terminator_L0_t _ _ _ _ _ _ _) (by
  have hu := shp_use hp
  have hr : z t.1 = 3 → 0 < ln I t.2.1 ∧ regP f (gd I t.2.1 0) = true := fun h3 => by
   have h1 : ln I t.2.1 = 1 := hu.2.2.1 h3
   have h0 := hj 0 (by omega)
   refine ⟨by omega, ?_⟩
   unfold trmA at h0
   cases hg : regP f (gd I t.2.1 0)
   ·rw [hg] at h0
    exact absurd h0 (show (10 : Int) ≠ 0 by decide)
   ·rfl
  have go := verify_terminator_l2 p f t hok hr 0 (Nat.zero_le _)
  rw [Nat.sub_self, qap, qdw at_zero]
  simp only [sQ, sL,  Nat.lt_irrefl]
  refine ⟨fun h1 => go.cast ?_, fun h1 => ⟨hs (by simpa using h1), fun _ => ⟨fun h2 => .or (.at (p := p) (x := 9) rfl (congrArg (atD p) (by simp only [trmS, h1, h2, cond_true, cond_false])) rfl), fun h2 => go.cast ?_⟩⟩⟩
  ·rw [qdw]
   ·rfl
   ·simp only [trmS, h1, cond_true]
    rfl
  ·rw [qdw]
   ·rfl
   ·simp only [trmS, h1, h2, cond_false]
    rfl))
  fun i hi ih hj => RunsP.tree E_V16_ok (verify_terminator_L0_t _ _ _ _ _ _ _) (by
   have hu := shp_use hp
   have hod : opdOK m t (z (i : Int)) := fun a b c => by
    have h6 : z t.1 = 6 := by
     rcases (show z t.1 = 1 ∨ z t.1 = 5 ∨ z t.1 = 6 by omega) with h | h | h
     ·have := hu.1 h; omega
     ·have := hu.2.1 h; omega
     ·exact h
    have := hu.2.2.2 h6
    exact ⟨hs h6, Int.natCast_nonneg _, by show (i : Int) < _; omega⟩
   rw [sub1 hi]
   simp only [sQ, sL,  hi, wrapS hi (qas hok.2.1.1)]
   refine ⟨fun h1 => .or (.fe (x := 10) rfl (by simp only [trmA, h1, cond_true]) rfl), fun h1 => ⟨qfz (by simpa using h1), fun _ => ⟨hod, fun _ => ⟨fun h2 => .or (.fe (x := 9) rfl (by simp only [trmA, h1, h2, cond_true, cond_false]) rfl), fun h2 => ?_⟩⟩⟩⟩
   have h0 : trmA m f t i = 0 := by simp only [trmA, h1, h2, cond_false]
   exact RunD.fe (ih fun j h => (Nat.lt_succ_iff_lt_or_eq.mp h).elim (hj j) (fun e => e ▸ h0)) h0)
def k_verify_terminator : ConP := ⟨[.d qak, .d qad, .d qab, .d qai], fun x => True, fun x => errB (trmF x.1 x.2.1 x.2.2.1 x.2.2.2.1), fun x => ifD (trmF x.1 x.2.1 x.2.2.1 x.2.2.2.1)⟩
theorem m_verify_terminator (at_ : Den qak) (m : Den qad) (f : Den qab) (t : Den qai) (h_at_ : okD qak at_) (h_m : okD qad m) (h_f : okD qab f) (h_t : okD qai t) (hp : True) : RunsP E_V16 (start E_V16 qav [(.tv qak at_), (.tv qad m), (.tv qab f), (.tv qai t)]) (fun r_ h_ => r_ = .tup [] ∧ h_ = [] ∧ errB (trmF at_ m f t) = false) (fun r_ => r_ = ifD (trmF at_ m f t) ∧ errB (trmF at_ m f t) = true) := .tree E_V16_ok (verify_terminator_t at_ m f t) (by
 have go : ∀ {d}, 1 ≤ z t.1 ∧ z t.1 ≤ 6 → (z t.1 = 6 → 0 ≤ z t.2.2.2.2.1 ∧ z t.2.2.2.2.1 < (ln qab m.2.1 : Nat)) → (!(shpP m f t)) = false → d = atD at_ (trmC m f t) → RunD E_V16 (qbk at_ m f t t.2.1 (ln I t.2.1 : Nat) (0 : Nat)) d := fun h1 h2 h3 hd => by
  refine (verify_terminator_l0 at_ m f t h_t h1 h2 (by simpa using h3) 0 (Nat.zero_le _) (fun j h => absurd h (Nat.not_lt_zero _))).cast ?_
  rw [hd, trmC, h3, cond_false, at_or, at_or, at_or]
  rfl
 show Tre.wp (contP _ (Don (trmF at_ m f t)) (Thr (trmF at_ m f t))) _
 simp only [sQ]
 refine ⟨fun h1 => ⟨fun h2 => .at (p := at_) (x := 9) rfl (congrArg (atD at_) (by simp only [trmE, h1, h2, cond_true])) rfl, fun h2 => ⟨fun h3 => ?_, fun h3 => ⟨fun h4 => ⟨fun h5 => .at (p := at_) (x := 8) rfl (congrArg (atD at_) (by simp only [trmE, h1, h2, h3, h4, h5, cond_true, cond_false])) rfl, fun h5 => ?_⟩, fun h4 => .at (p := at_) (x := 8) rfl (congrArg (atD at_) (by simp only [trmE, h1, h2, h3, h4, cond_true, cond_false])) rfl⟩⟩⟩, fun h1 => .at (p := at_) (x := 9) rfl (congrArg (atD at_) (by simp only [trmE, h1, cond_false])) rfl⟩
 ·have hk : 1 ≤ z t.1 ∧ z t.1 ≤ 6 := ⟨by simpa using h1, by simpa using h2⟩
  have h6 : z t.1 ≠ 6 := by simpa using h3
  refine ⟨fun h4 => ⟨fun h => absurd h h6, fun _ => ⟨fun h5 => .at (p := at_) (x := 3) rfl (congrArg (atD at_) (by simp only [trmE, trmB, trmC, h1, h2, h3, h4, h5, cond_true, cond_false])) rfl, fun h5 => go hk (fun h => absurd h h6) h5 (congrArg (atD at_) (by simp only [trmE, trmB, h1, h2, h3, h4, cond_true, cond_false]))⟩⟩, fun h4 => ⟨fun h5 => .at (p := at_) (x := 11) rfl (congrArg (atD at_) (by simp only [trmE, trmB, h1, h2, h3, h4, h5, cond_true, cond_false])) rfl, fun h5 => ⟨fun h => absurd h h6, fun _ => ⟨fun h7 => .at (p := at_) (x := 3) rfl (congrArg (atD at_) (by simp only [trmE, trmB, trmC, h1, h2, h3, h4, h5, h7, cond_true, cond_false])) rfl, fun h7 => go hk (fun h => absurd h h6) h7 (congrArg (atD at_) (by simp only [trmE, trmB, h1, h2, h3, h4, h5, cond_true, cond_false]))⟩⟩⟩⟩
 ·have hk : 1 ≤ z t.1 ∧ z t.1 ≤ 6 := ⟨by simpa using h1, by simpa using h2⟩
  have hs : 0 ≤ z t.2.2.2.2.1 ∧ z t.2.2.2.2.1 < (ln qab m.2.1 : Nat) := ⟨by simpa using h4, by simpa using h5⟩
  refine ⟨fun h6 => ⟨fun _ => hs, fun _ => ⟨fun h7 => .at (p := at_) (x := 3) rfl (congrArg (atD at_) (by simp only [trmE, trmB, trmC, h1, h2, h3, h4, h5, h6, h7, cond_true, cond_false])) rfl, fun h7 => go hk (fun _ => hs) h7 (congrArg (atD at_) (by simp only [trmE, trmB, h1, h2, h3, h4, h5, h6, cond_true, cond_false]))⟩⟩, fun h6 => ⟨fun h7 => .at (p := at_) (x := 11) rfl (congrArg (atD at_) (by simp only [trmE, trmB, h1, h2, h3, h4, h5, h6, h7, cond_true, cond_false])) rfl, fun h7 => ⟨fun _ => hs, fun _ => ⟨fun h8 => .at (p := at_) (x := 3) rfl (congrArg (atD at_) (by simp only [trmE, trmB, trmC, h1, h2, h3, h4, h5, h6, h7, h8, cond_true, cond_false])) rfl, fun h8 => go hk (fun _ => hs) h8 (congrArg (atD at_) (by simp only [trmE, trmB, h1, h2, h3, h4, h5, h6, h7, cond_true, cond_false]))⟩⟩⟩⟩)
theorem c_verify_terminator : qal E_V16 qav k_verify_terminator.spec := spec_ofP fun x hx hp => ⟨rfl, m_verify_terminator x.1 x.2.1 x.2.2.1 x.2.2.2.1 hx.1 hx.2.1 hx.2.2.1 hx.2.2.2.1 hp⟩
def L_V16 : List (FuncId × FSpec) := [(qav, k_verify_terminator.spec)] ++ L_V15
theorem L_V16_ok : ∀ x ∈ L_V16, qal (ctx []) x.1 x.2 := by
 unfold L_V16
 simp only [List.cons_append, List.nil_append, List.forall_mem_cons]
 exact ⟨c_verify_terminator, L_V15_ok⟩
end Burn.MTT
namespace Burn.MTT
open Go Go.BE Go.Proofs
set_option maxRecDepth 100000
set_option linter.unusedVariables false
set_option linter.unusedSimpArgs false
open Burn.Intn Burn.Ref
noncomputable abbrev E_V17 : Ctx := ctx L_V16
theorem E_V17_ok : EOK E_V17 := qbq L_V16_ok
def cuts_V17 : CutL := [([], 38, 0, [1, 2, 4, 5, 6, 29, 30, 31], [], []),
 ([], 38, 2, [1, 2, 4, 52, 53, 54], [], []),
 ([], 38, 4, [1, 2, 4, 10, 11, 52, 53, 54, 78, 79, 80], [], [])]
def rets_V17 : FuncId → List (Option Fx)
 | _ => []
def H_V17 : Hints := { cut := cutOf cuts_V17, ret := rets_V17 }
noncomputable def verify_body_L0 (fn : Int) (m : Den qad) (instrs : Int) (t29 : List (Den qaa)) (t30 : Int) (t31 : Int) (f_0 : ByteArray) (f_1 : List (Den I)) (f_2 : Int) (f_3 : List (Den I)) (f_4 : List (Den qaa)) (at_ : Den qak) : Cfg := hcfg E_V17 qch 0 [(1, (vi fn)), (2, (.rtp qad m)), (4, (.ref 0 0)), (5, (.tref 1 1 [] (0 : Nat) [])), (6, (vi instrs)), (29, (.tv (.sl 136 qaa) t29)), (30, (vi t30)), (31, (vi t31))] [(0, ⟨(.cells [(vs f_0), (.tv (.sl 8 I) f_1), (vi f_2), (.tv (.sl 8 I) f_3), (.tv (.sl 136 qaa) f_4)]), 0, [], false, none⟩), (1, ⟨(.arr 0 32 qak ([at_] : List (Den qak))), 1, [], false, none⟩)] 2
noncomputable def qhc (fn : Int) (m : Den qad) (t52 : List (Den qaa)) (t53 : Int) (t54 : Int) (f_0 : ByteArray) (f_1 : List (Den I)) (f_2 : Int) (f_3 : List (Den I)) (f_4 : List (Den qaa)) : Cfg := hcfg E_V17 qch 2 [(1, (vi fn)), (2, (.rtp qad m)), (4, (.ref 0 0)), (52, (.tv (.sl 136 qaa) t52)), (53, (vi t53)), (54, (vi t54))] [(0, ⟨(.cells [(vs f_0), (.tv (.sl 8 I) f_1), (vi f_2), (.tv (.sl 8 I) f_3), (.tv (.sl 136 qaa) f_4)]), 0, [], false, none⟩)] 1
noncomputable def qhb (fn : Int) (m : Den qad) (t52 : List (Den qaa)) (t53 : Int) (t54 : Int) (t78 : List (Den qac)) (t79 : Int) (t80 : Int) (f_0 : ByteArray) (f_1 : List (Den I)) (f_2 : Int) (f_3 : List (Den I)) (f_4 : List (Den qaa)) (b_0 : List (Den I)) (b_1 : List (Den qac)) (b_2 : Int) (b_3 : List (Den I)) (b_4 : List (Den I)) (b_5 : List (Den qae)) (b_6 : Int) (at_ : Den qak) : Cfg := hcfg E_V17 qch 4 [(1, (vi fn)), (2, (.rtp qad m)), (4, (.ref 0 0)), (10, (.ref 1 0)), (11, (.tref 2 2 [] (0 : Nat) [])), (52, (.tv (.sl 136 qaa) t52)), (53, (vi t53)), (54, (vi t54)), (78, (.tv (.sl 80 qac) t78)), (79, (vi t79)), (80, (vi t80))] [(0, ⟨(.cells [(vs f_0), (.tv (.sl 8 I) f_1), (vi f_2), (.tv (.sl 8 I) f_3), (.tv (.sl 136 qaa) f_4)]), 0, [], false, none⟩), (1, ⟨(.cells [(.tv (.sl 8 I) b_0), (.tv (.sl 80 qac) b_1), (vi b_2), (.tv (.sl 8 I) b_3), (.tv (.sl 8 I) b_4), (.tv (.sl 32 qae) b_5), (vi b_6)]), 1, [], false, none⟩), (2, ⟨(.arr 0 32 qak ([at_] : List (Den qak))), 2, [], false, none⟩)] 3
theorem verify_body_t (m : Den qad) (fn : Int) : run E_V17 H_V17 qch 3000 (start E_V17 qch [(.tv qad m), (vi fn)]) = (.chk (0 ≤ fn ∧ fn < (ln qab m.2.1)) (.chk ((0 : Nat) < (1 : Nat)) (.chk ((0 : Nat) < (1 : Nat)) (cond (!(decide (((ln qaa ((gd qab m.2.1 fn.toNat).2.2.2.2.1)) : Int) > (0 : Int)))) (pn (.val (.iface 106 (.agg #[.int .i64 (4 : Int), .int .i64 (2 : Int), .int .i64 fn, .int .i64 (-1 : Int), .int .i64 (-1 : Int)])))) (hd (verify_body_L0 fn m (0 : Int) ((gd qab m.2.1 fn.toNat).2.2.2.2.1) ((ln qaa ((gd qab m.2.1 fn.toNat).2.2.2.2.1)) : Int) (0 : Int) (tOf ((gd qab m.2.1 fn.toNat).1)) ((gd qab m.2.1 fn.toNat).2.1) (z ((gd qab m.2.1 fn.toNat).2.2.1)) ((gd qab m.2.1 fn.toNat).2.2.2.1) ((gd qab m.2.1 fn.toNat).2.2.2.2.1) ((2 : Int), fn, (-1 : Int), (-1 : Int), ()))))))) := by kernel_rfl
theorem verify_body_L0_t (fn : Int) (m : Den qad) (instrs : Int) (t29 : List (Den qaa)) (t30 : Int) (t31 : Int) (f_0 : ByteArray) (f_1 : List (Den I)) (f_2 : Int) (f_3 : List (Den I)) (f_4 : List (Den qaa)) (at_ : Den qak) : run E_V17 H_V17 qch 3000 (verify_body_L0 fn m instrs t29 t30 t31 f_0 f_1 f_2 f_3 f_4 at_) = (cond (decide (t31 < t30)) (.chk (0 ≤ t31 ∧ t31 < (ln qaa t29)) (hd (verify_body_L0 fn m (IntKind.wrap .i64 (instrs + ((ln qac ((gd qaa t29 t31.toNat).2.1)) : Int))) t29 t30 (IntKind.wrap .i64 (t31 + (1 : Int))) f_0 f_1 f_2 f_3 f_4 at_))) (.chk ((0 : Nat) < (1 : Nat)) (cond (decide (((ln qaa f_4) : Int) ≤ (400 : Int))) (cond (!(decide (instrs ≤ (4000 : Int)))) (pn (.val (.iface 106 (.agg #[.int .i64 (11 : Int), .int .i64 (z at_.1), .int .i64 (z at_.2.1), .int .i64 (z at_.2.2.1), .int .i64 (z at_.2.2.2.1)])))) (hd (qhc fn m f_4 ((ln qaa f_4) : Int) (0 : Int) f_0 f_1 f_2 f_3 f_4))) (pn (.val (.iface 106 (.agg #[.int .i64 (11 : Int), .int .i64 (z at_.1), .int .i64 (z at_.2.1), .int .i64 (z at_.2.2.1), .int .i64 (z at_.2.2.2.1)]))))))) := by kernel_rfl
theorem verify_body_L2_t (fn : Int) (m : Den qad) (t52 : List (Den qaa)) (t53 : Int) (t54 : Int) (f_0 : ByteArray) (f_1 : List (Den I)) (f_2 : Int) (f_3 : List (Den I)) (f_4 : List (Den qaa)) : run E_V17 H_V17 qch 3000 (qhc fn m t52 t53 t54 f_0 f_1 f_2 f_3 f_4) = (cond (decide (t54 < t53)) (.chk (0 ≤ t54 ∧ t54 < (ln qaa t52)) (.chk ((0 : Nat) < (1 : Nat)) (.chk ((0 : Nat) < (1 : Nat)) (cond (decide (t54 > (0 : Int))) (.chk ((0 : Nat) < (1 : Nat)) (.chk (True) (cond (errB (parF ((2 : Int), fn, t54, (-1 : Int), ()) (f_0, f_1, f_2, f_3, f_4, ()) (gd qaa t52 t54.toNat).1)) (pn (ifD (parF ((2 : Int), fn, t54, (-1 : Int), ()) (f_0, f_1, f_2, f_3, f_4, ()) ((gd qaa t52 t54.toNat).1)))) (hd (qhb fn m t52 t53 t54 ((gd qaa t52 t54.toNat).2.1) ((ln qac ((gd qaa t52 t54.toNat).2.1)) : Int) (0 : Int) f_0 f_1 f_2 f_3 f_4 ((gd qaa t52 t54.toNat).1) ((gd qaa t52 t54.toNat).2.1) (z ((gd qaa t52 t54.toNat).2.2.1.1)) ((gd qaa t52 t54.toNat).2.2.1.2.1) ((gd qaa t52 t54.toNat).2.2.1.2.2.1) ((gd qaa t52 t54.toNat).2.2.1.2.2.2.1) (z ((gd qaa t52 t54.toNat).2.2.1.2.2.2.2.1)) ((2 : Int), fn, t54, (-1 : Int), ())))))) (cond (!(((ln I ((gd qaa t52 t54.toNat).1)) : Int) == (0 : Int))) (pn (.val (.iface 106 (.agg #[.int .i64 (3 : Int), .int .i64 (2 : Int), .int .i64 fn, .int .i64 t54, .int .i64 (-1 : Int)])))) (.chk ((0 : Nat) < (1 : Nat)) (.chk (True) (cond (errB (parF ((2 : Int), fn, t54, (-1 : Int), ()) (f_0, f_1, f_2, f_3, f_4, ()) (gd qaa t52 t54.toNat).1)) (pn (ifD (parF ((2 : Int), fn, t54, (-1 : Int), ()) (f_0, f_1, f_2, f_3, f_4, ()) ((gd qaa t52 t54.toNat).1)))) (hd (qhb fn m t52 t53 t54 ((gd qaa t52 t54.toNat).2.1) ((ln qac ((gd qaa t52 t54.toNat).2.1)) : Int) (0 : Int) f_0 f_1 f_2 f_3 f_4 ((gd qaa t52 t54.toNat).1) ((gd qaa t52 t54.toNat).2.1) (z ((gd qaa t52 t54.toNat).2.2.1.1)) ((gd qaa t52 t54.toNat).2.2.1.2.1) ((gd qaa t52 t54.toNat).2.2.1.2.2.1) ((gd qaa t52 t54.toNat).2.2.1.2.2.2.1) (z ((gd qaa t52 t54.toNat).2.2.1.2.2.2.2.1)) ((2 : Int), fn, t54, (-1 : Int), ()))))))))))) (rt (.tup []) [])) := by kernel_rfl
theorem verify_body_L4_t (fn : Int) (m : Den qad) (t52 : List (Den qaa)) (t53 : Int) (t54 : Int) (t78 : List (Den qac)) (t79 : Int) (t80 : Int) (f_0 : ByteArray) (f_1 : List (Den I)) (f_2 : Int) (f_3 : List (Den I)) (f_4 : List (Den qaa)) (b_0 : List (Den I)) (b_1 : List (Den qac)) (b_2 : Int) (b_3 : List (Den I)) (b_4 : List (Den I)) (b_5 : List (Den qae)) (b_6 : Int) (at_ : Den qak) : run E_V17 H_V17 qch 3000 (qhb fn m t52 t53 t54 t78 t79 t80 f_0 f_1 f_2 f_3 f_4 b_0 b_1 b_2 b_3 b_4 b_5 b_6 at_) = (cond (decide (t80 < t79)) (.chk (0 ≤ t80 ∧ t80 < (ln qac t78)) (.chk ((0 : Nat) < (1 : Nat)) (.chk (True) (.know (okD (.int .i64) (chkF (gd qac t78 t80.toNat) (f_0, f_1, f_2, f_3, f_4, ()) m)) (.chk ((0 : Nat) < (1 : Nat)) (cond (!((chkF (gd qac t78 t80.toNat) (f_0, f_1, f_2, f_3, f_4, ()) m) == (0 : Int))) (pn (.val (.iface 106 (.agg #[.int .i64 (chkF (gd qac t78 t80.toNat) (f_0, f_1, f_2, f_3, f_4, ()) m), .int .i64 (z at_.1), .int .i64 (z at_.2.1), .int .i64 (z at_.2.2.1), .int .i64 t80])))) (hd (qhb fn m t52 t53 t54 t78 t79 (IntKind.wrap .i64 (t80 + (1 : Int))) f_0 f_1 f_2 f_3 f_4 b_0 b_1 b_2 b_3 b_4 b_5 b_6 (at_.1, at_.2.1, at_.2.2.1, t80, at_.2.2.2.2))))))))) (.chk ((0 : Nat) < (1 : Nat)) (.chk ((0 : Nat) < (1 : Nat)) (.chk (True) (cond (errB (trmF (at_.1, at_.2.1, at_.2.2.1, ((ln qac b_1) : Int), at_.2.2.2.2) m (f_0, f_1, f_2, f_3, f_4, ()) (b_2, b_3, b_4, b_5, b_6, ()))) (pn (ifD (trmF (at_.1, at_.2.1, at_.2.2.1, ((ln qac b_1) : Int), at_.2.2.2.2) m (f_0, f_1, f_2, f_3, f_4, ()) (b_2, b_3, b_4, b_5, b_6, ())))) (hd (qhc fn m t52 t53 (IntKind.wrap .i64 (t54 + (1 : Int))) f_0 f_1 f_2 f_3 f_4))))))) := by kernel_rfl
def plB (fn i : Nat) (k : Int) : Plc := ((2 : Int), (fn : Int), (i : Int), k, ())
theorem or_assoc (a b c : Dg) : orD (orD a b) c = orD a (orD b c) := by
 unfold orD
 cases h : errB a
 ·rw [cond_false]; rfl
 ·simp [h]
theorem no_or (d : Dg) : orD noD d = d := rfl
def blkH (b : Blk) (i : Nat) : Int := cond (decide ((i : Int) > (0 : Int))) 0 (cond (!((ln I b.1 : Int) == (0 : Int))) 3 0)
def insI (m : Md) (f : Fn) (fn i : Nat) (b : Blk) (k : Nat) : Dg := atD (plB fn i k) (chkF (gd qac b.2.1 k) f m)
def blkE (m : Md) (f : Fn) (fn i : Nat) (b : Blk) : Dg := orD (atD (plB fn i (-1)) (blkH b i)) (orD (parF (plB fn i (-1)) f b.1) (orD (qco (insI m f fn i b) (ln qac b.2.1) 0) (trmF (plB fn i (ln qac b.2.1 : Nat)) m f b.2.2.1)))
def blkD (m : Md) (f : Fn) (fn i : Nat) : Dg := blkE m f fn i (gd qaa f.2.2.2.2.1 i)
def sumW : Int → List Blk → Int
 | n, [] => n
 | n, b :: l => sumW (IntKind.wrap .i64 (n + (ln qac b.2.1 : Nat))) l
def bodB (m : Md) (f : Fn) (fn : Nat) (s : Int) : Dg := cond (decide ((ln qaa f.2.2.2.2.1 : Int) ≤ (400 : Int))) (cond (!(decide (s ≤ (4000 : Int)))) (atD (plF fn) 11) (qco (blkD m f fn) (ln qaa f.2.2.2.2.1) 0)) (atD (plF fn) 11)
def bodE (m : Md) (f : Fn) (fn : Nat) : Dg := cond (!(decide ((ln qaa f.2.2.2.2.1 : Int) > (0 : Int)))) (atD (plF fn) 4) (bodB m f fn (sumW 0 f.2.2.2.2.1))
def bodF (m : Md) (fn : Int) : Dg := bodE m (gd qab m.2.1 fn.toNat) fn.toNat
theorem verify_body_l4 (m : Md) (f : Fn) (fn i : Nat) (b : Blk) (d : Dg) (hi : i < ln qaa f.2.2.2.2.1) (hok : okD qab f) (hb : okD qaa b)
  (ih : RunD E_V17 (qhc fn m f.2.2.2.2.1 (ln qaa f.2.2.2.2.1 : Nat) (i + 1 : Nat) (tOf f.1) f.2.1 (z f.2.2.1) f.2.2.2.1 f.2.2.2.2.1) d) : ∀ k, k ≤ ln qac b.2.1 → ∀ q, RunD E_V17 (qhb fn m f.2.2.2.2.1 (ln qaa f.2.2.2.2.1 : Nat) i b.2.1 (ln qac b.2.1 : Nat) k (tOf f.1) f.2.1 (z f.2.2.1) f.2.2.2.1 f.2.2.2.2.1 b.1 b.2.1 (z b.2.2.1.1) b.2.2.1.2.1 b.2.2.1.2.2.1 b.2.2.1.2.2.2.1 (z b.2.2.1.2.2.2.2.1) (plB fn i q)) (orD (qco (insI m f fn i b) (ln qac b.2.1 - k) k) (orD (trmF (plB fn i (ln qac b.2.1 : Nat)) m f b.2.2.1) d)) :=
 qba (fun q => RunsP.tree E_V17_ok (verify_body_L4_t _ _ _ _ _ _ _ _ _ _ _ _ _ _ _ _ _ _ _ _ _) (by
  rw [Nat.sub_self, qco, no_or]
  simp only [sQ, sL,  Nat.lt_irrefl, wrapS hi (qas hok.2.2.2.2.1.1)]
  exact ⟨fun h1 => .or ⟨rfl, h1⟩, fun h1 => ih.cast (qdw h1)⟩))
  fun k hk ihk q => RunsP.tree E_V17_ok (verify_body_L4_t _ _ _ _ _ _ _ _ _ _ _ _ _ _ _ _ _ _ _ _ _) (by
   rw [sub1 hk, qco, or_assoc]
   simp only [sQ, sL,  hk, wrapS hk (qas hb.2.1.1)]
   refine fun _ => ⟨fun h1 => .or (.at (p := plB fn i k) (x := chkF (gd qac b.2.1 k) f m) rfl rfl (by rw [Bool.not_eq_true'] at h1; exact h1)), fun h1 => ?_⟩
   refine (ihk k).cast (qdw ?_)
   show (!(_ == (0 : Int))) = false
   exact h1)
theorem verify_body_l2 (m : Md) (f : Fn) (fn : Nat) (hok : okD qab f) : ∀ i, i ≤ ln qaa f.2.2.2.2.1 → RunD E_V17 (qhc fn m f.2.2.2.2.1 (ln qaa f.2.2.2.2.1 : Nat) i (tOf f.1) f.2.1 (z f.2.2.1) f.2.2.2.1 f.2.2.2.2.1) (qco (blkD m f fn) (ln qaa f.2.2.2.2.1 - i) i) :=
 qba (RunsP.tree E_V17_ok (verify_body_L2_t _ _ _ _ _ _ _ _ _ _) (by
  rw [Nat.sub_self]
  simp only [sQ, sL,  Nat.lt_irrefl]
  exact ⟨rfl, rfl, rfl⟩))
  fun i hi ih => RunsP.tree E_V17_ok (verify_body_L2_t _ _ _ _ _ _ _ _ _ _) (by
   have hb := ok_gd hok.2.2.2.2.1 hi
   have go := verify_body_l4 m f fn i (gd qaa f.2.2.2.2.1 i) _ hi hok hb ih 0 (Nat.zero_le _) (-1)
   rw [sub1 hi, qco, blkD, blkE, or_assoc, or_assoc, or_assoc]
   simp only [sQ, sL,  hi]
   refine ⟨fun h1 => ?_, fun h1 => ⟨fun h2 => .or (.at (p := plB fn i (-1)) (x := 3) rfl (congrArg (atD (plB fn i (-1))) ?_) rfl), fun h2 => ?_⟩⟩
   ·have hh : errB (atD (plB fn i (-1)) (blkH (gd qaa f.2.2.2.2.1 i) i)) = false := by
     rw [show blkH (gd qaa f.2.2.2.2.1 i) i = 0 from by unfold blkH; rw [show decide ((i : Int) > 0) = true from by simpa using h1]; rfl]
     rfl
    rw [qdw hh]
    exact ⟨fun h3 => .or ⟨rfl, h3⟩, fun h3 => go.cast (qdw h3)⟩
   ·unfold blkH
    rw [show decide ((i : Int) > 0) = false from by simpa using h1, cond_false, show (!((ln I (gd qaa f.2.2.2.2.1 i).1 : Int) == 0)) = true from h2]
    rfl
   ·have hh : errB (atD (plB fn i (-1)) (blkH (gd qaa f.2.2.2.2.1 i) i)) = false := by
     rw [show blkH (gd qaa f.2.2.2.2.1 i) i = 0 from by unfold blkH; rw [show decide ((i : Int) > 0) = false from by simpa using h1, cond_false, show (!((ln I (gd qaa f.2.2.2.2.1 i).1 : Int) == 0)) = false from h2]; rfl]
     rfl
    rw [qdw hh]
    exact ⟨fun h3 => .or ⟨rfl, h3⟩, fun h3 => go.cast (qdw h3)⟩)
theorem verify_body_l0 (m : Md) (f : Fn) (fn : Nat) (hok : okD qab f) : ∀ i, i ≤ ln qaa f.2.2.2.2.1 → ∀ n, RunD E_V17 (verify_body_L0 fn m n f.2.2.2.2.1 (ln qaa f.2.2.2.2.1 : Nat) i (tOf f.1) f.2.1 (z f.2.2.1) f.2.2.2.1 f.2.2.2.2.1 (plF fn)) (bodB m f fn (sumW n (f.2.2.2.2.1.drop i))) :=
 qba (fun n => RunsP.tree E_V17_ok (verify_body_L0_t _ _ _ _ _ _ _ _ _ _ _ _) (by
  rw [show f.2.2.2.2.1.drop (ln qaa f.2.2.2.2.1) = [] from drop_ln, sumW]
  simp only [sQ, sL,  Nat.lt_irrefl]
  have go := verify_body_l2 m f fn hok 0 (Nat.zero_le _)
  refine ⟨fun h1 => ⟨fun h2 => .at (p := plF fn) (x := 11) rfl ?_ rfl, fun h2 => go.cast ?_⟩, fun h1 => .at (p := plF fn) (x := 11) rfl ?_ rfl⟩
  ·simp only [bodB, h1, h2, cond_true]
  ·simp only [bodB, h1, h2, cond_true, cond_false]
   rfl
  ·simp only [bodB, h1, cond_false]))
  fun i hi ih n => RunsP.tree E_V17_ok (verify_body_L0_t _ _ _ _ _ _ _ _ _ _ _ _) (by
   rw [show f.2.2.2.2.1.drop i = gd qaa f.2.2.2.2.1 i :: f.2.2.2.2.1.drop (i + 1) from qgz hi, sumW]
   simp only [sQ, sL,  hi, wrapS hi (qas hok.2.2.2.2.1.1)]
   exact ih _)
def k_verify_body : ConP := ⟨[.d qad, .d I], fun x => 0 ≤ z x.2.1 ∧ z x.2.1 < (ln qab x.1.2.1 : Nat), fun x => errB (bodF x.1 x.2.1), fun x => ifD (bodF x.1 x.2.1)⟩
theorem m_verify_body (m : Den qad) (fn : Int) (h_m : okD qad m) (h_fn : okD I fn) (hp : 0 ≤ z fn ∧ z fn < (ln qab m.2.1 : Nat)) : RunsP E_V17 (start E_V17 qch [(.tv qad m), (vi fn)]) (fun r_ h_ => r_ = .tup [] ∧ h_ = [] ∧ errB (bodF m fn) = false) (fun r_ => r_ = ifD (bodF m fn) ∧ errB (bodF m fn) = true) := .tree E_V17_ok (verify_body_t m fn) (by
 have h1 : 0 ≤ fn := hp.1
 have h2 : fn < (ln qab m.2.1 : Nat) := hp.2
 obtain ⟨n, rfl⟩ : ∃ n : Nat, fn = n := ⟨fn.toNat, by omega⟩
 have hn : n < ln qab m.2.1 := by omega
 have hgo := ok_gd h_m.2.1 hn
 show Tre.wp (contP _ (Don (bodE m (gd qab m.2.1 n) n)) (Thr (bodE m (gd qab m.2.1 n) n))) _
 simp only [sQ, sL,  hn]
 refine ⟨fun h3 => .at (p := plF n) (x := 4) rfl ?_ rfl, fun h3 => (verify_body_l0 m (gd qab m.2.1 n) n hgo 0 (Nat.zero_le _) 0).cast ?_⟩
 ·unfold bodE
  rw [show (!(decide ((ln qaa (gd qab m.2.1 n).2.2.2.2.1 : Int) > (0 : Int)))) = true from by simpa using h3]
  rfl
 ·unfold bodE
  rw [show (!(decide ((ln qaa (gd qab m.2.1 n).2.2.2.2.1 : Int) > (0 : Int)))) = false from by simpa using h3]
  rfl)
theorem c_verify_body : qal E_V17 qch k_verify_body.spec := spec_ofP fun x hx hp => ⟨rfl, m_verify_body x.1 x.2.1 hx.1 hx.2.1 hp⟩
def L_V17 : List (FuncId × FSpec) := [(qch, k_verify_body.spec)] ++ L_V16
theorem L_V17_ok : ∀ x ∈ L_V17, qal (ctx []) x.1 x.2 := by
 unfold L_V17
 simp only [List.cons_append, List.nil_append, List.forall_mem_cons]
 exact ⟨c_verify_body, L_V16_ok⟩
end Burn.MTT
namespace Burn.MTT
open Go Go.BE Go.Proofs
set_option maxRecDepth 100000
set_option linter.unusedVariables false
set_option linter.unusedSimpArgs false
open Burn.Intn Burn.Ref
noncomputable abbrev E_V18 : Ctx := ctx L_V17
theorem E_V18_ok : EOK E_V18 := qbq L_V17_ok
def cuts_V18 : CutL := [([], 35, 0, [0, 10, 11], [], [])]
def rets_V18 : FuncId → List (Option Fx)
 | _ => []
def H_V18 : Hints := { cut := cutOf cuts_V18, ret := rets_V18 }
noncomputable def qec (t0 : Den qad) (t10 : Int) (t11 : Int) : Cfg := hcfg E_V18 qau 0 [(0, (.rtp qad t0)), (10, (vi t10)), (11, (vi t11))] [] 0
theorem verify_Module_cl1_t (x : Den qad) : run E_V18 H_V18 qau 3000 (start E_V18 qau [(.rtp qad x)]) = (.chk (True) (cond (errB (gloD x.1)) (pn (ifD (gloD x.1))) (.chk (True) (cond (errB (sigD x.2.1)) (pn (ifD (sigD x.2.1))) (hd (qec x ((ln qab x.2.1) : Int) (0 : Int))))))) := by kernel_rfl
theorem verify_Module_cl1_L0_t (t0 : Den qad) (t10 : Int) (t11 : Int) : run E_V18 H_V18 qau 3000 (qec t0 t10 t11) = (cond (decide (t11 < t10)) (.chk (0 ≤ z t11 ∧ z t11 < (ln qab t0.2.1 : Nat)) (cond (errB (bodF t0 t11)) (pn (ifD (bodF t0 t11))) (hd (qec t0 t10 (IntKind.wrap .i64 (t11 + (1 : Int))))))) (rt (.tup []) [])) := by kernel_rfl
def modB (m : Md) (i : Nat) : Dg := bodF m (i : Int)
def modD (m : Md) : Dg := orD (gloD m.1) (orD (sigD m.2.1) (qco (modB m) (ln qab m.2.1) 0))
theorem verify_Module_cl1_l (m : Md) (hok : okD qad m) : ∀ i, i ≤ ln qab m.2.1 → RunD E_V18 (qec m (ln qab m.2.1 : Nat) i) (qco (modB m) (ln qab m.2.1 - i) i) :=
 qba (RunsP.tree E_V18_ok (verify_Module_cl1_L0_t _ _ _) (by
  rw [Nat.sub_self]
  simp only [sQ, sL,  Nat.lt_irrefl]
  exact ⟨rfl, rfl, rfl⟩))
  fun i hi ih => RunsP.tree E_V18_ok (verify_Module_cl1_L0_t _ _ _) (by
   rw [sub1 hi, qco]
   simp only [sQ, sL,  hi, wrapS hi (qas hok.2.1.1)]
   exact ⟨fun h1 => .or ⟨rfl, h1⟩, fun h1 => ih.cast (qdw h1)⟩)
def k_verify_Module_cl1 : ConP := ⟨[.cap qad], fun x => True, fun x => errB (modD x.1), fun x => ifD (modD x.1)⟩
theorem m_verify_Module_cl1 (x : Den qad) (h_x : okD qad x) (hp : True) : RunsP E_V18 (start E_V18 qau [(.rtp qad x)]) (fun r_ h_ => r_ = .tup [] ∧ h_ = [] ∧ errB (modD x) = false) (fun r_ => r_ = ifD (modD x) ∧ errB (modD x) = true) := .tree E_V18_ok (verify_Module_cl1_t x) (by
 show Tre.wp (contP _ (Don (modD x)) (Thr (modD x))) _
 unfold modD
 simp only [sQ]
 refine ⟨fun h1 => .or ⟨rfl, h1⟩, fun h1 => ?_⟩
 rw [qdw h1]
 refine ⟨fun h2 => .or ⟨rfl, h2⟩, fun h2 => ?_⟩
 rw [qdw h2]
 exact verify_Module_cl1_l x (by first | exact h_x | assumption) 0 (Nat.zero_le _))
theorem c_verify_Module_cl1 : qal E_V18 qau k_verify_Module_cl1.spec := spec_ofP fun x hx hp => ⟨rfl, m_verify_Module_cl1 x.1 hx.1 hp⟩
def L_V18 : List (FuncId × FSpec) := [(qau, k_verify_Module_cl1.spec)] ++ L_V17
theorem L_V18_ok : ∀ x ∈ L_V18, qal (ctx []) x.1 x.2 := by
 unfold L_V18
 simp only [List.cons_append, List.nil_append, List.forall_mem_cons]
 exact ⟨c_verify_Module_cl1, L_V17_ok⟩
end Burn.MTT
namespace Burn.MTT
open Go Go.BE Go.Proofs
set_option maxRecDepth 100000
set_option linter.unusedVariables false
set_option linter.unusedSimpArgs false
noncomputable abbrev E_V19 : Ctx := ctx L_V18
theorem E_V19_ok : EOK E_V19 := qbq L_V18_ok
theorem first_idle {l : List (FuncId × FSpec)} (p : Value) (w : World) : CallsD Tryz.prog 67 #[p] .returning w fun e u' w' => e = .returned (.tuple #[]) ∧ u' = .returning ∧ w' = w := by
 refine callsD_of_wpS Tryz.func67 rfl fun c₀ cs hu => ?_
 apply (show ∀ {c : Code} {Q : Exit → Act → List Frame → World → Prop} {cs : List Frame} {w : World}, CS (ctx l) c Q (mkA [p, undef, undef, undef, undef, undef, undef, undef, undef, undef, undef, undef, undef, undef, undef, undef, undef] []) cs w → Code.wpS Tryz.prog c Q _ cs w from fun h => h.out)
 refine .seq (.reg [0, 1] rfl ?_)
 refine .rcv0 [p, undef, undef, undef, .nilIface, undef, undef, undef, undef, undef, undef, undef, undef, undef, undef, undef, undef] rfl rfl rfl (by kernel_rfl) (by simp [recoverD, hu]) rfl ?_
 refine .at_ .nilIface [p, .nilIface, undef, undef, .nilIface, undef, undef, undef, undef, undef, undef, undef, undef, undef, undef, undef, undef] rfl rfl rfl (by kernel_rfl) rfl ?_
 refine .next (.seq (.reg [0, 1] rfl ?_))
 refine .at_ .nilIface [p, .nilIface, undef, undef, .nilIface, .nilIface, undef, undef, undef, undef, undef, undef, undef, undef, undef, undef, undef] rfl rfl rfl (by kernel_rfl) rfl ?_
 refine .at_ (.bool false) [p, .nilIface, undef, undef, .nilIface, .nilIface, .bool false, undef, undef, undef, undef, undef, undef, undef, undef, undef, undef] rfl rfl rfl (by kernel_rfl) rfl ?_
 refine .next (.condF (by kernel_rfl) (.skip ?_))
 refine ⟨rfl, .returning, ?_, .tuple #[], by kernel_rfl, rfl, rfl, rfl⟩
 cases c₀
 simp_all
theorem first_catch {l : List (FuncId × FSpec)} {w0 w : World} {K : Kp} {Z : Nat → Prop} {own : Own} {γ : Gst} {c1 c2 c3 c4 c5 : AV} {d : Dg} {p : Value} (hE : EOK (ctx l)) (hm : MemR w0 K w Z own γ [(0, qdo 0 (.cells [c1, c2, c3, c4, c5]))] (fun s => s < 64)) (hg : GlR (ctx l) w Z) (hp : VR w Z γ (.ref 0 0) p) (hd : okV (.iface 106 (dgV d))) :
  CallsD Tryz.prog 67 #[p] (.panicking [{ v := .iface 106 (dgV d), recovered := false }]) w fun e u' w' => e = .returned (.tuple #[]) ∧ u' = .panicking [{ v := .iface 106 (dgV d), recovered := true }] ∧
   ∃ Z' own' γ' h' nx', Stay w Z w' Z' ∧ γ.Le γ' ∧ MemR w0 K w' Z' own' γ' h' (fun s => s < nx') ∧ GlR (ctx l) w' Z' ∧ hget h' 0 = some (qdo 0 (.cells [vi d.1, vi d.2.1, vi d.2.2.1, vi d.2.2.2.1, vi d.2.2.2.2.1])) := by
 refine callsD_of_wpS Tryz.func67 rfl fun c₀ cs hu => ?_
 apply (show ∀ {c : Code} {Q : Exit → Act → List Frame → World → Prop} {cs : List Frame} {w : World}, CS (ctx l) c Q (mkA [p, undef, undef, undef, undef, undef, undef, undef, undef, undef, undef, undef, undef, undef, undef, undef, undef] []) cs w → Code.wpS Tryz.prog c Q _ cs w from fun h => h.out)
 refine .seq (.reg [0, 1] rfl ?_)
 refine .rcv (cs' := { c₀ with mode := .panicking [{ v := (.iface 106 (dgV d)), recovered := true }] } :: cs) (.iface 106 (dgV d)) [p, undef, undef, undef, (.iface 106 (dgV d)), undef, undef, undef, undef, undef, undef, undef, undef, undef, undef, undef, undef] rfl rfl rfl (by kernel_rfl) (by simp [recoverD, hu]) rfl ?_
 refine .at_ (.iface 106 (dgV d)) [p, (.iface 106 (dgV d)), undef, undef, (.iface 106 (dgV d)), undef, undef, undef, undef, undef, undef, undef, undef, undef, undef, undef, undef] rfl rfl rfl (by kernel_rfl) rfl ?_
 refine .next (.seq (.reg [0, 1] rfl ?_))
 refine .at_ (.iface 106 (dgV d)) [p, (.iface 106 (dgV d)), undef, undef, (.iface 106 (dgV d)), (.iface 106 (dgV d)), undef, undef, undef, undef, undef, undef, undef, undef, undef, undef, undef] rfl rfl rfl (by kernel_rfl) rfl ?_
 refine .at_ (.bool true) [p, (.iface 106 (dgV d)), undef, undef, (.iface 106 (dgV d)), (.iface 106 (dgV d)), .bool true, undef, undef, undef, undef, undef, undef, undef, undef, undef, undef] rfl rfl rfl (by kernel_rfl) rfl ?_
 refine .next (.condT (by kernel_rfl) (.seq (.reg [0, 1, 2, 3, 4, 5, 6, 7] rfl ?_)))
 refine .at_ (.iface 106 (dgV d)) [p, (.iface 106 (dgV d)), undef, undef, (.iface 106 (dgV d)), (.iface 106 (dgV d)), .bool true, undef, (.iface 106 (dgV d)), undef, undef, undef, undef, undef, undef, undef, undef] rfl rfl rfl (by kernel_rfl) rfl ?_
 refine .at_ (.tuple #[dgV d, .bool true]) [p, (.iface 106 (dgV d)), undef, undef, (.iface 106 (dgV d)), (.iface 106 (dgV d)), .bool true, undef, (.iface 106 (dgV d)), (.tuple #[dgV d, .bool true]), undef, undef, undef, undef, undef, undef, undef] rfl rfl rfl (by kernel_rfl) rfl ?_
 refine .at_ (.tuple #[dgV d, .bool true]) [p, (.iface 106 (dgV d)), undef, undef, (.iface 106 (dgV d)), (.iface 106 (dgV d)), .bool true, (.tuple #[dgV d, .bool true]), (.iface 106 (dgV d)), (.tuple #[dgV d, .bool true]), undef, undef, undef, undef, undef, undef, undef] rfl rfl rfl (by kernel_rfl) rfl ?_
 refine .at_ (dgV d) [p, (.iface 106 (dgV d)), undef, undef, (.iface 106 (dgV d)), (.iface 106 (dgV d)), .bool true, (.tuple #[dgV d, .bool true]), (.iface 106 (dgV d)), (.tuple #[dgV d, .bool true]), dgV d, undef, undef, undef, undef, undef, undef] rfl rfl rfl (by kernel_rfl) rfl ?_
 refine .at_ (.bool true) [p, (.iface 106 (dgV d)), undef, undef, (.iface 106 (dgV d)), (.iface 106 (dgV d)), .bool true, (.tuple #[dgV d, .bool true]), (.iface 106 (dgV d)), (.tuple #[dgV d, .bool true]), dgV d, .bool true, undef, undef, undef, undef, undef] rfl rfl rfl (by kernel_rfl) rfl ?_
 have hd' : ∀ v ∈ ([.int .i64 d.1, .int .i64 d.2.1, .int .i64 d.2.2.1, .int .i64 d.2.2.2.1, .int .i64 d.2.2.2.2.1] : List Value), okV1 v := hd
 have hv : ∀ {x : Int}, Value.int .i64 x ∈ ([.int .i64 d.1, .int .i64 d.2.1, .int .i64 d.2.2.1, .int .i64 d.2.2.2.1, .int .i64 d.2.2.2.2.1] : List Value) → VR w Z γ (vi x) (.int .i64 x) := fun hx => .cr (.val _ (hd' _ hx))
 have hag : VR w Z γ (.agg [vi d.1, vi d.2.1, vi d.2.2.1, vi d.2.2.2.1, vi d.2.2.2.2.1]) (dgV d) := by
  refine .agg _ _ rfl fun j x y hx hy => ?_
  match j, hx, hy with
  | 0, hx, hy => injection hx with hx; injection hy with hy; subst hx; subst hy; exact hv (by simp)
  | 1, hx, hy => injection hx with hx; injection hy with hy; subst hx; subst hy; exact hv (by simp)
  | 2, hx, hy => injection hx with hx; injection hy with hy; subst hx; subst hy; exact hv (by simp)
  | 3, hx, hy => injection hx with hx; injection hy with hy; subst hx; subst hy; exact hv (by simp)
  | 4, hx, hy => injection hx with hx; injection hy with hy; subst hx; subst hy; exact hv (by simp)
  | j + 5, hx, hy => simp at hx
 have hf : VRs w Z γ [.ref 0 0, .bad, .bad, .bad, .bad, .bad, .bad, .bad, .bad, .bad, .agg [vi d.1, vi d.2.1, vi d.2.2.1, vi d.2.2.2.1, vi d.2.2.2.2.1], vb true, .bad, .bad, .bad, .bad, .bad] [p, (.iface 106 (dgV d)), undef, undef, (.iface 106 (dgV d)), (.iface 106 (dgV d)), .bool true, (.tuple #[dgV d, .bool true]), (.iface 106 (dgV d)), (.tuple #[dgV d, .bool true]), dgV d, .bool true, undef, undef, undef, undef, undef] := by
  refine .cons hp ?_
  repeat (first | exact .nil | refine .cons (.bad _) ?_ | refine .cons hag ?_ | refine .cons (.cr (.val _ trivial)) ?_)
 refine .sr (h := [(0, qdo 0 (.cells [c1, c2, c3, c4, c5]))]) (nx := 64) hE [5, 6, 7] [] (by kernel_rfl) hm hg (by simpa [mkA] using hf) fun a1 w1 Z1 own1 γ1 q1 q2 q3 q4 q5 q6 => ?_
 refine .next (.seq (.seq (.reg [0, 1] rfl ?_)))
 refine .sr hE [0, 1] [] (by kernel_rfl) q4 q5 q6 fun a2 w2 Z2 own2 γ2 r1 r2 r3 r4 r5 r6 => ?_
 have e13 : a2.eval (.tmp 13) = .bool false := ((ev_rel' r5 r6 (.tmp 13)).cast (B := vb false) (by kernel_rfl)).val_inv
 refine .next (.condF e13 (.skip (thenS_n (.reg [0, 1, 2] rfl ?_))))
 refine .sr hE [0, 1, 2] [] (by kernel_rfl) r4 r5 r6 fun a3 w3 Z3 own3 γ3 s1 s2 s3 s4 s5 s6 => .fin ?_
 refine ⟨(s1.trans (r1.trans q1)).trans rfl, .panicking [{ v := .iface 106 (dgV d), recovered := true }], rfl, .tuple #[], ?_, rfl, rfl, Z3, own3, γ3, _, _, q2.trans (r2.trans s2), q3.trans (r3.trans s3), s4, s5, by kernel_rfl⟩
 simp [results, Tryz.results67]
theorem first_leaves {l : List (FuncId × FSpec)} {w0 w : World} {Z0 Z : Nat → Prop} {own : Own} {γ : Gst} {h : Heap} {nx : Nat} {fr : List AV} {a : Act} {d : Dg} (hE : EOK (ctx l)) (hm : MemR w0 ⟨fun _ => True, Z0⟩ w Z own γ h (fun s => s < nx)) (hs : Stay w0 Z0 w Z) (hf : VRs w Z γ fr a.tmps.toList)
  (hl : lget fr 2 = .ref 0 0) (hh : hget h 0 = some (qdo 0 (.cells [vi d.1, vi d.2.1, vi d.2.2.1, vi d.2.2.2.1, vi d.2.2.2.2.1]))) :
  Leaves (ctx l).P Tryz.f34 a.tmps (fun e w' => ∃ v Z' own' γ', e = .returned v ∧ Stay w0 Z0 w' Z' ∧ MemR w0 ⟨fun _ => True, Z0⟩ w' Z' own' γ' [] (fun s => s < 16) ∧ VR w' Z' γ' (avOf qaj d) v) [] .returning w := by
 have he : aresults (ctx l) h fr Tryz.f34.results.toList = some ([], [.agg [vi d.1, vi d.2.1, vi d.2.2.1, vi d.2.2.2.1, vi d.2.2.2.2.1]]) := load_root (ty := 39) hl hh (by kernel_rfl)
 obtain ⟨V, h1, h2⟩ := results_sound hE.ty hm hf he trivial
 refine ⟨V, h1, V, Z, fun _ => none, ⟨fun _ => none, fun _ _ => none⟩, rfl, hs, hm.drop, ?_⟩
 have hcr := h2.toCR rfl
 exact .cr (argD_sound (S := qaj) (y := d) rfl hcr)
def qeo (m : Md) : Dg := cond (errB (modD m)) (modD m) ((0 : Int), (0 : Int), (0 : Int), (0 : Int), (0 : Int), ())

def k_verify_first : Con := con [.fn qau [qad]] qaj (fun x => True) fun x => qeo x.1.1
theorem c_verify_first : qal E_V19 f_verify_first k_verify_first.spec := spec_hand fun x _ _ w Z vs hg hz hc => by
 obtain ⟨⟨m, u1⟩, u2⟩ : (Md × Unit) × Unit := x
 have hc : CRs w Z [.fn qau [.rtp qad m]] vs := hc
 obtain ⟨V, rfl⟩ : ∃ V, vs = [V] := by
  have := hc.1
  match vs, this with
  | [V], _ => exact ⟨V, rfl⟩
 have hE : EOK E_V19 := E_V19_ok
 refine calls_of_wp_defers Tryz.func34 rfl ?_
 refine (show ∀ {c : Code} {Q : Exit → Act → World → Prop} {w : World}, CN E_V19 c Q (mkA [V, undef, undef, undef, undef, undef, undef] []) w → Code.wp Tryz.prog c Q _ w from fun h => h.out) ?_
 have hf0 : VRs w Z ⟨fun _ => none, fun _ _ => none⟩ [.fn qau [.rtp qad m], und, und, und, und, und, und] [V, undef, undef, undef, undef, undef, undef] := by
  refine .cons (.cr (hc.2 0 _ _ rfl rfl)) ?_
  repeat (first | exact .nil | refine .cons (.cr (.val _ trivial)) ?_)
 refine .seq (.reg [0] rfl ?_)
 refine .sr hE [0] [] (by kernel_rfl) (MemR.none hz) hg (by simpa [mkA] using hf0) fun a1 w1 Z1 own1 γ1 q1 q2 q3 q4 q5 q6 => ?_
 refine .next (.seq (.reg [0, 1] rfl ?_))
 refine .sr hE [0] [1] (by kernel_rfl) q4 q5 q6 fun a2 w2 Z2 own2 γ2 r1 r2 r3 r4 r5 r6 => ?_
 obtain ⟨us, e3, hus⟩ := ((ev_rel' r5 r6 (.tmp 3)).cast (B := .fn qbl [.ref 0 0]) (by kernel_rfl)).fn_inv
 obtain ⟨p, rfl⟩ : ∃ p, us = #[p] := by
  have := hus.1
  obtain ⟨l⟩ := us
  match l, this with
  | [p], _ => exact ⟨p, rfl⟩
 have hpr : VR w2 Z2 γ2 (.ref 0 0) p := hus.head
 refine .defer ⟨.fn (.func qbl) #[p], #[]⟩ rfl rfl rfl (by simp [execOp, resolve, e3, Deferred.ofValue]) ?_
 refine .next (.seq (.reg [0, 1] rfl ?_))
 refine .sr (a := { a2 with defers := ⟨.fn (.func qbl) #[p], #[]⟩ :: a2.defers }) hE [0] [1] (by kernel_rfl) r4 r5 r6 fun a3 w3 Z3 own3 γ3 s1 s2 s3 s4 s5 s6 => ?_
 have hdef : a3.defers = [⟨.fn (.func qbl) #[p], #[]⟩] := by
  rw [s1]
  show _ :: a2.defers = _
  rw [r1, q1]
  rfl
 obtain ⟨cs, e4, hcs⟩ := ((ev_rel' s5 s6 (.tmp 4)).cast (B := .fn qau [.rtp qad m]) (by kernel_rfl)).fn_inv
 have hcall := acallP_sound (K := ⟨fun _ => True, Z⟩) (used' := fun s => s < 64) hE.env s4 s5 (f := qau) (args := [.rtp qad m]) (C := [True]) (bb := errB (modD m)) (pv := ifD (modD m)) (a := .tup []) (by kernel_rfl) ⟨trivial, trivial⟩ hcs (fun s h => Nat.lt_of_lt_of_le h (Nat.le_of_ble_eq_true (by kernel_rfl)))
 have hst3 : Stay w Z w3 Z3 := q2.trans (r2.trans s2)
 refine .call (f := qau) (args := cs) rfl rfl ?_ (by simpa using hcall) (fun v w4 hR => ?_) (fun ch w4 hR => ?_) (fun w4 hR => ?_)
 ·have hfn := hE.fns qau (by kernel_rfl) cs w3
  simp [execOp, resolve, e4, Deferred.ofValue, invoke]
  exact hfn
 ·obtain ⟨Z4, k1, k2, k3⟩ := hR
  rcases k3 with ⟨_, V4, he, _⟩ | ⟨hb, V4, he, hv⟩
  ·cases he
  ·injection he with he
   subst he
   refine .next (.seq (.reg [0, 1] rfl ?_))
   refine .sr hE [0, 1] [] (by kernel_rfl) k2 (s5.mono k1) ((s6.mono k1 (Gst.Le.refl _)).putT (some 5) hv) fun a5 w5 Z5 own5 γ5 t1 t2 t3 t4 t5 t6 => ?_
   refine .next (.ret ?_)
   have hd5 : a5.defers = [⟨.fn (.func qbl) #[p], #[]⟩] := by rw [t1, put_defers]; exact hdef
   show Leaves E_V19.P Tryz.f34 a5.tmps _ a5.defers .returning w5
   rw [hd5]
   refine leaves_cons (by simp) (f := qbl) (args := #[p]) ?_ ?_
   ·have hfn := hE.fns qbl (by kernel_rfl) #[p] w5
    simpa [invoke] using hfn
   ·refine (first_idle (l := L_V18) p w5).mono fun e u' w' ⟨he, hu, hw⟩ => ?_
    subst he; subst hu; subst hw
    have hF : qeo m = ((0 : Int), (0 : Int), (0 : Int), (0 : Int), (0 : Int), ()) := by unfold qeo; rw [hb]; rfl
    show Leaves _ _ _ (fun e w' => ∃ v Z' own' γ', e = .returned v ∧ Stay w Z w' Z' ∧ MemR w ⟨fun _ => True, Z⟩ w' Z' own' γ' [] (fun s => s < 16) ∧ VR w' Z' γ' (avOf qaj (qeo m)) v) [] .returning _
    rw [hF]
    exact first_leaves hE t4 (hst3.trans (k1.trans t2)) t6 (by kernel_rfl) (by kernel_rfl)
 ·obtain ⟨Z4, k1, k2, k3⟩ := hR
  rcases k3 with ⟨hb, V4, he, Z6, j1, j2⟩ | ⟨hb, V4, he, hv⟩
  ·injection he with he
   subst he
   have hV : V4 = .iface 106 (dgV (modD m)) := (VR.cr (γ := γ3) j2).val_inv
   have hok : okV (.iface 106 (dgV (modD m))) := (VR.cr (γ := γ3) j2).val_ok
   subst hV
   show Leaves E_V19.P Tryz.f34 a3.tmps _ a3.defers (.panicking _) w4
   rw [hdef]
   have hp4 : VR w4 Z4 γ3 (.ref 0 0) p := hpr.mono (s2.trans k1) s3
   refine leaves_cons (by simp) (f := qbl) (args := #[p]) ?_ ?_
   ·have hfn := hE.fns qbl (by kernel_rfl) #[p] w4
    simpa [invoke] using hfn
   ·refine (first_catch (l := L_V18) (c1 := vi 0) (c2 := vi 0) (c3 := vi 0) (c4 := vi 0) (c5 := vi 0) hE (k2.castH (by kernel_rfl)) (s5.mono k1) hp4 hok).mono fun e u' w' ⟨he, hu, Z5, own5, γ5, h5, nx5, st5, le5, m5, g5, hh5⟩ => ?_
    subst he; subst hu
    have hF : qeo m = modD m := by unfold qeo; rw [hb]; rfl
    show Leaves _ _ _ (fun e w' => ∃ v Z' own' γ', e = .returned v ∧ Stay w Z w' Z' ∧ MemR w ⟨fun _ => True, Z⟩ w' Z' own' γ' [] (fun s => s < 16) ∧ VR w' Z' γ' (avOf qaj (qeo m)) v) [] .returning _
    rw [hF]
    exact first_leaves hE m5 (hst3.trans (k1.trans st5)) (s6.mono (k1.trans st5) le5) (by kernel_rfl) hh5
  ·cases he
 ·obtain ⟨Z4, k1, k2, k3⟩ := hR
  rcases k3 with ⟨hb, V4, he, _⟩ | ⟨hb, V4, he, _⟩ <;> cases he
def L_V19 : List (FuncId × FSpec) := [(f_verify_first, k_verify_first.spec)] ++ L_V18
theorem L_V19_ok : ∀ x ∈ L_V19, qal (ctx []) x.1 x.2 := by
 unfold L_V19
 simp only [List.cons_append, List.nil_append, List.forall_mem_cons]
 exact ⟨c_verify_first, L_V18_ok⟩
end Burn.MTT
namespace Burn.MTT
open Go Go.BE Go.Proofs
set_option maxRecDepth 100000
set_option linter.unusedVariables false
set_option linter.unusedSimpArgs false
noncomputable abbrev E_V20 : Ctx := ctx L_V19
theorem E_V20_ok : EOK E_V20 := qbq L_V19_ok
def cuts_V20 : CutL := []
def rets_V20 : FuncId → List (Option Fx)
 | 17 => [some (.dat qaj)]
 | _ => []
def H_V20 : Hints := { cut := cutOf cuts_V20, ret := rets_V20 }
theorem verify_Module_t (m : Den qad) : run E_V20 H_V20 qgh 3000 (start E_V20 qgh [(.tv qad m)]) = (.chk (True) (.know (okD qaj (qeo m)) (.chk ((0 : Nat) < (1 : Nat)) (.chk ((0 : Nat) < (1 : Nat)) (rt (.tv qaj (qeo m)) []))))) := by kernel_rfl

def k_verify_Module : Con := con [.d qad] qaj (fun x => True) fun x => qeo x.1
theorem m_verify_Module (m : Den qad) (h_m : okD qad m) (hp : True) : Runs E_V20 (start E_V20 qgh [(.tv qad m)]) (fun r_ h_ => r_ = (.tv qaj (qeo m)) ∧ h_ = []) := .tree E_V20_ok (verify_Module_t m) (by
 simp only [sS]
 exact fun _ => trivial)
theorem c_verify_Module : qal E_V20 qgh k_verify_Module.spec := qam fun x hx hp => ⟨rfl, m_verify_Module x.1 hx.1 hp⟩
def L_V20 : List (FuncId × FSpec) := [(qgh, k_verify_Module.spec)] ++ L_V19
theorem L_V20_ok : ∀ x ∈ L_V20, qal (ctx []) x.1 x.2 := by
 unfold L_V20
 simp only [List.cons_append, List.nil_append, List.forall_mem_cons]
 exact ⟨c_verify_Module, L_V19_ok⟩
end Burn.MTT
namespace Burn.MTT
open Go Go.BE Go.Proofs
set_option maxRecDepth 100000
set_option linter.unusedVariables false
set_option linter.unusedSimpArgs false
open Burn.Intn Burn.Ref
noncomputable abbrev E_V22 : Ctx := ctx L_V20
theorem E_V22_ok : EOK E_V22 := qbq L_V20_ok
def cuts_V22 : CutL := [([], 102, 0, [2, 3, 8, 9, 10], [], []),
 ([], 103, 0, [2, 5, 42, 43, 44], [], [])]
def rets_V22 : FuncId → List (Option Fx)
 | _ => []
def H_V22 : Hints := { cut := cutOf cuts_V22, ret := rets_V22 }
noncomputable def r14_edge_L0 (f : Den qab) (l : List (Den I)) (t42 : List (Den I)) (t43 : Int) (t44 : Int) : Cfg := hcfg E_V22 f_r14_edge 0 [(2, (.rtp qab f)), (5, (.tv (.sl 8 I) l)), (42, (.tv (.sl 8 I) t42)), (43, (vi t43)), (44, (vi t44))] [] 0
theorem r14_edge_t (f : Den qab) (e : Den qae) : run E_V22 H_V22 f_r14_edge 3000 (start E_V22 f_r14_edge [(.tv qab f), (.tv qae e)]) = (cond (decide ((z e.1) < (0 : Int))) (rt (vi (8 : Int)) []) (cond (decide ((z e.1) ≥ ((ln qaa f.2.2.2.2.1) : Int))) (rt (vi (8 : Int)) []) (cond ((z e.1) == (0 : Int)) (rt (vi (3 : Int)) []) (.chk (0 ≤ (z e.1) ∧ (z e.1) < (ln qaa f.2.2.2.2.1)) (cond (decide (((ln I e.2.1) : Int) < ((ln I ((gd qaa f.2.2.2.2.1 (((z e.1)).toNat)).1)) : Int))) (rt (vi (4 : Int)) []) (cond (decide (((ln I e.2.1) : Int) > ((ln I ((gd qaa f.2.2.2.2.1 (((z e.1)).toNat)).1)) : Int))) (rt (vi (5 : Int)) []) (hd (r14_edge_L0 f ((gd qaa f.2.2.2.2.1 (((z e.1)).toNat)).1) e.2.1 ((ln I e.2.1) : Int) (0 : Int))))))))) := by kernel_rfl
theorem r14_edge_L0_t (f : Den qab) (l : List (Den I)) (t42 : List (Den I)) (t43 : Int) (t44 : Int) : run E_V22 H_V22 f_r14_edge 3000 (r14_edge_L0 f l t42 t43 t44) = (cond (decide (t44 < t43)) (.chk (0 ≤ t44 ∧ t44 < (ln I t42)) (.chk (True) (.know True (cond (!(regP f (gd I t42 t44.toNat))) (rt (vi (10 : Int)) []) (.chk (0 ≤ t44 ∧ t44 < (ln I l)) (.chk (True) (cond (!(regP f (gd I l t44.toNat))) (.know True (rt (vi (9 : Int)) [])) (.chk (0 ≤ (z (gd I t42 t44.toNat)) ∧ (z (gd I t42 t44.toNat)) < (ln I f.2.2.2.1)) (.chk (0 ≤ t44 ∧ t44 < (ln I l)) (.chk (0 ≤ (z (gd I l t44.toNat)) ∧ (z (gd I l t44.toNat)) < (ln I f.2.2.2.1)) (.know True (cond ((z (gd I f.2.2.2.1 (((z (gd I t42 t44.toNat))).toNat))) != (z (gd I f.2.2.2.1 (((z (gd I l t44.toNat))).toNat)))) (rt (vi (9 : Int)) []) (hd (r14_edge_L0 f l t42 t43 (IntKind.wrap .i64 (t44 + (1 : Int))))))))))))))))) (rt (vi (0 : Int)) [])) := by kernel_rfl
noncomputable def qga (f : Den qab) (t : Den qai) (t8 : List (Den I)) (t9 : Int) (t10 : Int) : Cfg := hcfg E_V22 qie 0 [(2, (.rtp qab f)), (3, (.rtp qai t)), (8, (.tv (.sl 8 I) t8)), (9, (vi t9)), (10, (vi t10))] [] 0
theorem r14_cases_t (f : Den qab) (t : Den qai) : run E_V22 H_V22 qie 3000 (start E_V22 qie [(.tv qab f), (.tv qai t)]) = (hd (qga f t t.2.2.1 ((ln I t.2.2.1) : Int) (0 : Int))) := by kernel_rfl
theorem r14_cases_L0_t (f : Den qab) (t : Den qai) (t8 : List (Den I)) (t9 : Int) (t10 : Int) : run E_V22 H_V22 qie 3000 (qga f t t8 t9 t10) = (cond (decide (t10 < t9)) (.chk (0 ≤ t10 ∧ t10 < (ln I t8)) (cond ((z t.1) == (3 : Int)) (.chk (0 ≤ (0 : Int) ∧ (0 : Int) < (ln I t.2.1)) (.chk (0 ≤ (z (gd I t.2.1 (0 : Nat))) ∧ (z (gd I t.2.1 (0 : Nat))) < (ln I f.2.2.2.1)) (.chk (True) (cond (!(fitP (gd I f.2.2.2.1 (((z (gd I t.2.1 (0 : Nat)))).toNat)) (gd I t8 t10.toNat))) (.know True (rt (vi (10 : Int)) [])) (cond ((z t.1) == (5 : Int)) (cond (decide ((z (gd I t8 t10.toNat)) < (16 : Int))) (.know True (rt (vi (10 : Int)) [])) (.know True (cond (decide ((z (gd I t8 t10.toNat)) > (255 : Int))) (rt (vi (10 : Int)) []) (.chk (0 ≤ (0 : Int) ∧ (0 : Int) ≤ t10 ∧ t10 ≤ ((ln I t.2.2.1) : Int)) (.chk (True) (.know True (cond (hasI (wn I t.2.2.1 (0 : Nat) (t10.toNat - (0 : Nat))) (gd I t8 t10.toNat)) (rt (vi (7 : Int)) []) (hd (qga f t t8 t9 (IntKind.wrap .i64 (t10 + (1 : Int)))))))))))) (.know True (.chk (0 ≤ (0 : Int) ∧ (0 : Int) ≤ t10 ∧ t10 ≤ ((ln I t.2.2.1) : Int)) (.chk (True) (.know True (cond (hasI (wn I t.2.2.1 (0 : Nat) (t10.toNat - (0 : Nat))) (gd I t8 t10.toNat)) (rt (vi (7 : Int)) []) (hd (qga f t t8 t9 (IntKind.wrap .i64 (t10 + (1 : Int))))))))))))))) (cond ((z t.1) == (5 : Int)) (cond (decide ((z (gd I t8 t10.toNat)) < (16 : Int))) (rt (vi (10 : Int)) []) (cond (decide ((z (gd I t8 t10.toNat)) > (255 : Int))) (rt (vi (10 : Int)) []) (.chk (0 ≤ (0 : Int) ∧ (0 : Int) ≤ t10 ∧ t10 ≤ ((ln I t.2.2.1) : Int)) (.chk (True) (.know True (cond (hasI (wn I t.2.2.1 (0 : Nat) (t10.toNat - (0 : Nat))) (gd I t8 t10.toNat)) (rt (vi (7 : Int)) []) (hd (qga f t t8 t9 (IntKind.wrap .i64 (t10 + (1 : Int))))))))))) (.chk (0 ≤ (0 : Int) ∧ (0 : Int) ≤ t10 ∧ t10 ≤ ((ln I t.2.2.1) : Int)) (.chk (True) (.know True (cond (hasI (wn I t.2.2.1 (0 : Nat) (t10.toNat - (0 : Nat))) (gd I t8 t10.toNat)) (rt (vi (7 : Int)) []) (hd (qga f t t8 t9 (IntKind.wrap .i64 (t10 + (1 : Int)))))))))))) (rt (vi (0 : Int)) [])) := by kernel_rfl
theorem r14_edge_l (f : Fn) (to q : List (Den I)) (hq : ln I q < 9223372036854775807) (ht : ln I q = ln I to) : ∀ k, k ≤ ln I q → RunI E_V22 (r14_edge_L0 f to q (ln I q : Nat) k) (qap (edgK f to q) (ln I q - k) k) :=
 qba (.tree E_V22_ok (r14_edge_L0_t _ _ _ _ _) (by
  rw [Nat.sub_self]
  simp only [sS, sL,  Nat.lt_irrefl, qap]
  exact ⟨rfl, rfl⟩))
  fun k hk ihk => .tree E_V22_ok (r14_edge_L0_t _ _ _ _ _) (by
   rw [sub1 hk]
   simp only [sS, sL,  hk, wrapS hk hq]
   refine ⟨fun h1 => .fe (x := 10) (by simp only [edgK, h1, cond_true]) rfl, fun h1 => ⟨by omega, fun _ => ⟨fun h2 => .fe (x := 9) ?_ rfl, fun h2 => ⟨qfz (by simpa using h1), fun _ => ⟨by omega, fun _ => ⟨qfz (by simpa using h2), fun _ => ⟨fun h3 => .fe (x := 9) ?_ rfl, fun h3 => RunI.fe ihk ?_⟩⟩⟩⟩⟩⟩⟩
   ·have h2' : regP f (gd I to k) = false := by simpa using h2
    simp only [edgK, h1, h2', cond_false]
   ·have h2' : regP f (gd I to k) = true := by simpa using h2
    have h3' : (!(z (gd I f.2.2.2.1 (z (gd I q k)).toNat) == z (gd I f.2.2.2.1 (z (gd I to k)).toNat))) = true := h3
    simp only [edgK, h1, h2', h3', cond_true, cond_false]
   ·have h2' : regP f (gd I to k) = true := by simpa using h2
    have h3' : (!(z (gd I f.2.2.2.1 (z (gd I q k)).toNat) == z (gd I f.2.2.2.1 (z (gd I to k)).toNat))) = false := h3
    simp only [edgK, h1, h2', h3', cond_true, cond_false])
def edgR (f : Fn) (e : Edg) : Int := cond (decide (z e.1 < (0 : Int))) 8 (cond (decide (z e.1 ≥ (ln qaa f.2.2.2.2.1 : Int))) 8 (cond (z e.1 == (0 : Int)) 3 (cond (decide ((ln I e.2.1 : Int) < (ln I (edgT f e) : Int))) 4 (cond (decide ((ln I e.2.1 : Int) > (ln I (edgT f e) : Int))) 5 (qap (edgK f (edgT f e) e.2.1) (ln I e.2.1) 0)))))
theorem edgR_eq (f : Fn) (e : Edg) : edgE f e = edgR f e := by
 unfold edgE edgR
 generalize ln I (edgT f e) = a
 generalize qap (edgK f (edgT f e) e.2.1) (ln I e.2.1) 0 = b
 simp only [Bool.cond_eq_ite, decide_eq_true_eq, bne_iff_ne, ne_eq, beq_iff_eq, Bool.not_eq_true', decide_eq_false_iff_not, bne_eq_false_iff_eq]
 repeat' split
 all_goals first | rfl | omega
def k_r14_edge : Con := con [.d qab, .d qae] I (fun x => True) fun x => edgE x.1 x.2.1
theorem m_r14_edge (f : Den qab) (e : Den qae) (h_f : okD qab f) (h_e : okD qae e) (hp : True) : Runs E_V22 (start E_V22 f_r14_edge [(.tv qab f), (.tv qae e)]) (fun r_ h_ => r_ = (vi (edgE f e)) ∧ h_ = []) := .tree E_V22_ok (r14_edge_t f e) (by
 rw [edgR_eq]
 unfold edgR
 simp only [sS]
 refine ⟨fun h1 => by rw [h1]; rfl, fun h1 => ⟨fun h2 => by rw [h1, h2]; rfl, fun h2 => ⟨fun h3 => by rw [h1, h2, h3]; rfl, fun h3 => ⟨⟨by simpa using h1, by simpa using h2⟩, fun _ => ⟨fun h4 => ?_, fun h4 => ⟨fun h5 => ?_, fun h5 => ?_⟩⟩⟩⟩⟩⟩
 ·have h4' : decide ((ln I e.2.1 : Int) < (ln I (edgT f e) : Int)) = true := h4
  rw [h1, h2, h3, h4']
  rfl
 ·have h4' : decide ((ln I e.2.1 : Int) < (ln I (edgT f e) : Int)) = false := h4
  have h5' : decide ((ln I e.2.1 : Int) > (ln I (edgT f e) : Int)) = true := h5
  rw [h1, h2, h3, h4', h5']
  rfl
 ·have h4' : decide ((ln I e.2.1 : Int) < (ln I (edgT f e) : Int)) = false := h4
  have h5' : decide ((ln I e.2.1 : Int) > (ln I (edgT f e) : Int)) = false := h5
  rw [h1, h2, h3, h4', h5']
  exact r14_edge_l f (edgT f e) e.2.1 (qas h_e.2.1.1) (by simp at h4' h5'; omega) 0 (Nat.zero_le _))
theorem c_r14_edge : qal E_V22 f_r14_edge k_r14_edge.spec := qam fun x hx hp => ⟨rfl, m_r14_edge x.1 x.2.1 hx.1 hx.2.1 hp⟩
def casF (f : Fn) (t : Trm) : Int := qap (casI f t) (ln I t.2.2.1) 0
theorem r14_cases_l (f : Fn) (t : Trm) (hok : okD qai t) (hk : z t.1 = 3 ∨ z t.1 = 5 ∨ ln I t.2.2.1 = 0) (hr : z t.1 = 3 → 0 < ln I t.2.1 ∧ regP f (gd I t.2.1 0) = true) : ∀ i, i ≤ ln I t.2.2.1 → RunI E_V22 (qga f t t.2.2.1 (ln I t.2.2.1 : Nat) i) (qap (casI f t) (ln I t.2.2.1 - i) i) :=
  qba (.tree E_V22_ok (r14_cases_L0_t _ _ _ _ _) (by
    rw [Nat.sub_self]
    simp only [sS, sL,  Nat.lt_irrefl, qap]
    exact ⟨rfl, rfl⟩))
    fun i hi ih => .tree E_V22_ok (r14_cases_L0_t _ _ _ _ _) (by
      rw [sub1 hi]
      simp only [sS, sL,  hi, wrapS hi (qas hok.2.2.1.1), Nat.sub_zero]
      refine ⟨fun h1 => ?_, fun h1 => ?_⟩
      · have h5 : (z t.1 == (5 : Int)) = false := by have : z t.1 = 3 := by simpa using h1
                                                     rw [this]; rfl
        refine ⟨⟨Int.le_refl _, Int.ofNat_lt.mpr (hr (by simpa using h1)).1⟩, fun _ => ⟨qfz (hr (by simpa using h1)).2, fun _ => ⟨fun h2 => .fe (x := 10) (by simp only [casI, h1, h2, cond_true]) rfl, fun h2 => ⟨fun h => absurd (h5 ▸ h) (by decide), fun _ => ⟨⟨by decide, by omega⟩, fun _ => ⟨fun h3 => .fe (x := 7) (by simp only [casI, casD, h1, h2, h3, Bool.not_not, cond_true, cond_false]) rfl, fun h3 => RunI.fe ih (by simp only [casI, casD, h1, h2, h3, Bool.not_not, cond_true, cond_false])⟩⟩⟩⟩⟩⟩
      · have h5 : (z t.1 == (5 : Int)) = true := by
          have h3 : z t.1 ≠ 3 := by simpa using h1
          simp; omega
        refine ⟨fun _ => ⟨fun h2 => .fe (x := 10) ?_ rfl, fun h2 => ⟨fun h3 => .fe (x := 10) ?_ rfl, fun h3 => ⟨⟨by decide, by omega⟩, fun _ => ⟨fun h4 => .fe (x := 7) ?_ rfl, fun h4 => RunI.fe ih ?_⟩⟩⟩⟩, fun h => absurd (h5 ▸ h) (by decide)⟩
        · have h2' : decide (z (gd I t.2.2.1 i) ≥ (16 : Int)) = false := by simpa using h2
          simp only [casI, h1, h2', cond_false]
        · have h2' : decide (z (gd I t.2.2.1 i) ≥ (16 : Int)) = true := by simpa using h2
          have h3' : (!(decide (z (gd I t.2.2.1 i) ≤ (255 : Int)))) = true := by simpa using h3
          simp only [casI, h1, h2', h3', cond_true, cond_false]
        · have h2' : decide (z (gd I t.2.2.1 i) ≥ (16 : Int)) = true := by simpa using h2
          have h3' : (!(decide (z (gd I t.2.2.1 i) ≤ (255 : Int)))) = false := by simpa using h3
          simp only [casI, casD, h1, h2', h3', h4, Bool.not_not, cond_true, cond_false]
        · have h2' : decide (z (gd I t.2.2.1 i) ≥ (16 : Int)) = true := by simpa using h2
          have h3' : (!(decide (z (gd I t.2.2.1 i) ≤ (255 : Int)))) = false := by simpa using h3
          simp only [casI, casD, h1, h2', h3', h4, Bool.not_not, cond_true, cond_false])
def k_r14_cases : Con := con [.d qab, .d qai] I (fun x => (z x.2.1.1 = 3 ∨ z x.2.1.1 = 5 ∨ ln I x.2.1.2.2.1 = 0) ∧ (z x.2.1.1 = 3 → 0 < ln I x.2.1.2.1 ∧ regP x.1 (gd I x.2.1.2.1 0) = true)) fun x => casF x.1 x.2.1
theorem m_r14_cases (f : Den qab) (t : Den qai) (h_f : okD qab f) (h_t : okD qai t) (hp : (z t.1 = 3 ∨ z t.1 = 5 ∨ ln I t.2.2.1 = 0) ∧ (z t.1 = 3 → 0 < ln I t.2.1 ∧ regP f (gd I t.2.1 0) = true)) : Runs E_V22 (start E_V22 qie [(.tv qab f), (.tv qai t)]) (fun r_ h_ => r_ = (vi (casF f t)) ∧ h_ = []) := .tree E_V22_ok (r14_cases_t f t) (by
 exact r14_cases_l f t h_t hp.1 hp.2 0 (Nat.zero_le _))
theorem c_r14_cases : qal E_V22 qie k_r14_cases.spec := qam fun x hx hp => ⟨rfl, m_r14_cases x.1 x.2.1 hx.1 hx.2.1 hp⟩
def L_V22 : List (FuncId × FSpec) := [(f_r14_edge, k_r14_edge.spec), (qie, k_r14_cases.spec)] ++ L_V20
theorem L_V22_ok : ∀ x ∈ L_V22, qal (ctx []) x.1 x.2 := by
 unfold L_V22
 simp only [List.cons_append, List.nil_append, List.forall_mem_cons]
 exact ⟨c_r14_edge, c_r14_cases, L_V20_ok⟩
end Burn.MTT
namespace Burn.MTT
open Go Go.BE Go.Proofs
set_option maxRecDepth 100000
set_option linter.unusedVariables false
set_option linter.unusedSimpArgs false
open Burn.Intn Burn.Ref
noncomputable abbrev E_V23 : Ctx := ctx L_V22
theorem E_V23_ok : EOK E_V23 := qbq L_V22_ok
def cuts_V23 : CutL := []
def rets_V23 : FuncId → List (Option Fx)
 | _ => []
def H_V23 : Hints := { cut := cutOf cuts_V23, ret := rets_V23 }
theorem r14_shape_t (m : Den qad) (f : Den qab) (t : Den qai) : run E_V23 H_V23 f_r14_shape 3000 (start E_V23 f_r14_shape [(.tv qad m), (.tv qab f), (.tv qai t)]) = (cond ((z t.1) != (6 : Int)) (cond ((z t.2.2.2.2.1) != (0 : Int)) (rt (vb false) []) (cond ((z t.1) == (1 : Int)) (cond (((ln I t.2.1) : Int) == (0 : Int)) (cond (((ln I t.2.2.1) : Int) == (0 : Int)) (rt (vb (((ln qae t.2.2.2.1) : Int) == (1 : Int))) []) (rt (vb false) [])) (rt (vb false) [])) (cond ((z t.1) == (2 : Int)) (cond (((ln I t.2.1) : Int) == (1 : Int)) (cond (((ln I t.2.2.1) : Int) == (0 : Int)) (rt (vb (((ln qae t.2.2.2.1) : Int) == (2 : Int))) []) (rt (vb false) [])) (rt (vb false) [])) (cond ((z t.1) == (3 : Int)) (cond (((ln I t.2.1) : Int) == (1 : Int)) (rt (vb (((ln qae t.2.2.2.1) : Int) == (IntKind.wrap .i64 (((ln I t.2.2.1) : Int) + (1 : Int))))) []) (rt (vb false) [])) (cond ((z t.1) == (4 : Int)) (cond ((z f.2.2.1) == (0 : Int)) (cond (((ln I t.2.1) : Int) == (0 : Int)) (cond (((ln I t.2.2.1) : Int) == (0 : Int)) (rt (vb (((ln qae t.2.2.2.1) : Int) == (0 : Int))) []) (rt (vb false) [])) (rt (vb false) [])) (cond (((ln I t.2.1) : Int) == (1 : Int)) (cond (((ln I t.2.2.1) : Int) == (0 : Int)) (rt (vb (((ln qae t.2.2.2.1) : Int) == (0 : Int))) []) (rt (vb false) [])) (rt (vb false) []))) (cond ((z t.1) == (5 : Int)) (cond (((ln I t.2.1) : Int) == (0 : Int)) (cond (((ln I t.2.2.1) : Int) == (1 : Int)) (rt (vb (((ln qae t.2.2.2.1) : Int) == (0 : Int))) []) (rt (vb false) [])) (rt (vb false) [])) (.chk (0 ≤ (z t.2.2.2.2.1) ∧ (z t.2.2.2.2.1) < (ln qab m.2.1)) (cond (((ln I t.2.1) : Int) == ((ln I ((gd qab m.2.1 (((z t.2.2.2.2.1)).toNat)).2.1)) : Int)) (cond (((ln I t.2.2.1) : Int) == (0 : Int)) (rt (vb (((ln qae t.2.2.2.1) : Int) == (0 : Int))) []) (rt (vb false) [])) (rt (vb false) []))))))))) (cond ((z t.1) == (1 : Int)) (cond (((ln I t.2.1) : Int) == (0 : Int)) (cond (((ln I t.2.2.1) : Int) == (0 : Int)) (rt (vb (((ln qae t.2.2.2.1) : Int) == (1 : Int))) []) (rt (vb false) [])) (rt (vb false) [])) (cond ((z t.1) == (2 : Int)) (cond (((ln I t.2.1) : Int) == (1 : Int)) (cond (((ln I t.2.2.1) : Int) == (0 : Int)) (rt (vb (((ln qae t.2.2.2.1) : Int) == (2 : Int))) []) (rt (vb false) [])) (rt (vb false) [])) (cond ((z t.1) == (3 : Int)) (cond (((ln I t.2.1) : Int) == (1 : Int)) (rt (vb (((ln qae t.2.2.2.1) : Int) == (IntKind.wrap .i64 (((ln I t.2.2.1) : Int) + (1 : Int))))) []) (rt (vb false) [])) (cond ((z t.1) == (4 : Int)) (cond ((z f.2.2.1) == (0 : Int)) (cond (((ln I t.2.1) : Int) == (0 : Int)) (cond (((ln I t.2.2.1) : Int) == (0 : Int)) (rt (vb (((ln qae t.2.2.2.1) : Int) == (0 : Int))) []) (rt (vb false) [])) (rt (vb false) [])) (cond (((ln I t.2.1) : Int) == (1 : Int)) (cond (((ln I t.2.2.1) : Int) == (0 : Int)) (rt (vb (((ln qae t.2.2.2.1) : Int) == (0 : Int))) []) (rt (vb false) [])) (rt (vb false) []))) (cond ((z t.1) == (5 : Int)) (cond (((ln I t.2.1) : Int) == (0 : Int)) (cond (((ln I t.2.2.1) : Int) == (1 : Int)) (rt (vb (((ln qae t.2.2.2.1) : Int) == (0 : Int))) []) (rt (vb false) [])) (rt (vb false) [])) (.chk (0 ≤ (z t.2.2.2.2.1) ∧ (z t.2.2.2.2.1) < (ln qab m.2.1)) (cond (((ln I t.2.1) : Int) == ((ln I ((gd qab m.2.1 (((z t.2.2.2.2.1)).toNat)).2.1)) : Int)) (cond (((ln I t.2.2.1) : Int) == (0 : Int)) (rt (vb (((ln qae t.2.2.2.1) : Int) == (0 : Int))) []) (rt (vb false) [])) (rt (vb false) []))))))))) := by kernel_rfl
theorem r14_typed_t (m : Den qad) (f : Den qab) (x : Den qai) (i : Int) (t : Int) : run E_V23 H_V23 f_r14_typed 3000 (start E_V23 f_r14_typed [(.tv qad m), (.tv qab f), (.tv qai x), (vi i), (vi t)]) = (cond ((z x.1) == (2 : Int)) (rt (vb (t == (1 : Int))) []) (cond ((z x.1) == (3 : Int)) (cond (t == (3 : Int)) (rt (vb true) []) (rt (vb (t == (4 : Int))) [])) (cond ((z x.1) == (4 : Int)) (rt (vb (t == (z f.2.2.1))) []) (.chk (0 ≤ (z x.2.2.2.2.1) ∧ (z x.2.2.2.2.1) < (ln qab m.2.1)) (.chk (0 ≤ i ∧ i < (ln I ((gd qab m.2.1 (((z x.2.2.2.2.1)).toNat)).2.1))) (.chk (True) (cond (regP (gd qab m.2.1 (((z x.2.2.2.2.1)).toNat)) (gd I ((gd qab m.2.1 (((z x.2.2.2.2.1)).toNat)).2.1) i.toNat)) (.chk (0 ≤ i ∧ i < (ln I ((gd qab m.2.1 (((z x.2.2.2.2.1)).toNat)).2.1))) (.chk (0 ≤ (z (gd I ((gd qab m.2.1 (((z x.2.2.2.2.1)).toNat)).2.1) i.toNat)) ∧ (z (gd I ((gd qab m.2.1 (((z x.2.2.2.2.1)).toNat)).2.1) i.toNat)) < (ln I ((gd qab m.2.1 (((z x.2.2.2.2.1)).toNat)).2.2.2.1))) (.know True (rt (vb (t == (z (gd I ((gd qab m.2.1 (((z x.2.2.2.2.1)).toNat)).2.2.2.1) (((z (gd I ((gd qab m.2.1 (((z x.2.2.2.2.1)).toNat)).2.1) i.toNat))).toNat))))) [])))) (.know True (rt (vb false) []))))))))) := by kernel_rfl
def shpR (m : Den qad) (f : Den qab) (t : Den qai) : Bool := (cond ((z t.1) != (6 : Int)) (cond ((z t.2.2.2.2.1) != (0 : Int)) false (cond ((z t.1) == (1 : Int)) (cond (((ln I t.2.1) : Int) == (0 : Int)) (cond (((ln I t.2.2.1) : Int) == (0 : Int)) (((ln qae t.2.2.2.1) : Int) == (1 : Int)) false) false) (cond ((z t.1) == (2 : Int)) (cond (((ln I t.2.1) : Int) == (1 : Int)) (cond (((ln I t.2.2.1) : Int) == (0 : Int)) (((ln qae t.2.2.2.1) : Int) == (2 : Int)) false) false) (cond ((z t.1) == (3 : Int)) (cond (((ln I t.2.1) : Int) == (1 : Int)) (((ln qae t.2.2.2.1) : Int) == (IntKind.wrap .i64 (((ln I t.2.2.1) : Int) + (1 : Int)))) false) (cond ((z t.1) == (4 : Int)) (cond ((z f.2.2.1) == (0 : Int)) (cond (((ln I t.2.1) : Int) == (0 : Int)) (cond (((ln I t.2.2.1) : Int) == (0 : Int)) (((ln qae t.2.2.2.1) : Int) == (0 : Int)) false) false) (cond (((ln I t.2.1) : Int) == (1 : Int)) (cond (((ln I t.2.2.1) : Int) == (0 : Int)) (((ln qae t.2.2.2.1) : Int) == (0 : Int)) false) false)) (cond ((z t.1) == (5 : Int)) (cond (((ln I t.2.1) : Int) == (0 : Int)) (cond (((ln I t.2.2.1) : Int) == (1 : Int)) (((ln qae t.2.2.2.1) : Int) == (0 : Int)) false) false) (cond (((ln I t.2.1) : Int) == ((ln I ((gd qab m.2.1 (((z t.2.2.2.2.1)).toNat)).2.1)) : Int)) (cond (((ln I t.2.2.1) : Int) == (0 : Int)) (((ln qae t.2.2.2.1) : Int) == (0 : Int)) false) false))))))) (cond ((z t.1) == (1 : Int)) (cond (((ln I t.2.1) : Int) == (0 : Int)) (cond (((ln I t.2.2.1) : Int) == (0 : Int)) (((ln qae t.2.2.2.1) : Int) == (1 : Int)) false) false) (cond ((z t.1) == (2 : Int)) (cond (((ln I t.2.1) : Int) == (1 : Int)) (cond (((ln I t.2.2.1) : Int) == (0 : Int)) (((ln qae t.2.2.2.1) : Int) == (2 : Int)) false) false) (cond ((z t.1) == (3 : Int)) (cond (((ln I t.2.1) : Int) == (1 : Int)) (((ln qae t.2.2.2.1) : Int) == (IntKind.wrap .i64 (((ln I t.2.2.1) : Int) + (1 : Int)))) false) (cond ((z t.1) == (4 : Int)) (cond ((z f.2.2.1) == (0 : Int)) (cond (((ln I t.2.1) : Int) == (0 : Int)) (cond (((ln I t.2.2.1) : Int) == (0 : Int)) (((ln qae t.2.2.2.1) : Int) == (0 : Int)) false) false) (cond (((ln I t.2.1) : Int) == (1 : Int)) (cond (((ln I t.2.2.1) : Int) == (0 : Int)) (((ln qae t.2.2.2.1) : Int) == (0 : Int)) false) false)) (cond ((z t.1) == (5 : Int)) (cond (((ln I t.2.1) : Int) == (0 : Int)) (cond (((ln I t.2.2.1) : Int) == (1 : Int)) (((ln qae t.2.2.2.1) : Int) == (0 : Int)) false) false) (cond (((ln I t.2.1) : Int) == ((ln I ((gd qab m.2.1 (((z t.2.2.2.2.1)).toNat)).2.1)) : Int)) (cond (((ln I t.2.2.1) : Int) == (0 : Int)) (((ln qae t.2.2.2.1) : Int) == (0 : Int)) false) false)))))))

def k_r14_shape : Con := con [.d qad, .d qab, .d qai] .bool (fun x => (1 ≤ z x.2.2.1.1 ∧ z x.2.2.1.1 ≤ 6) ∧ (z x.2.2.1.1 = 6 → 0 ≤ z x.2.2.1.2.2.2.2.1 ∧ z x.2.2.1.2.2.2.2.1 < (ln qab x.1.2.1 : Nat))) fun x => shpR x.1 x.2.1 x.2.2.1
theorem m_r14_shape (m : Den qad) (f : Den qab) (t : Den qai) (h_m : okD qad m) (h_f : okD qab f) (h_t : okD qai t) (hp : (1 ≤ z t.1 ∧ z t.1 ≤ 6) ∧ (z t.1 = 6 → 0 ≤ z t.2.2.2.2.1 ∧ z t.2.2.2.2.1 < (ln qab m.2.1 : Nat))) : Runs E_V23 (start E_V23 f_r14_shape [(.tv qad m), (.tv qab f), (.tv qai t)]) (fun r_ h_ => r_ = (vb (shpR m f t)) ∧ h_ = []) := .tree E_V23_ok (r14_shape_t m f t) (by
 have hp_ := hp
 try simp only [z] at hp_
 show Tre.wp (Qv _ (fun x_ => (vb x_)) (shpR m f t)) _
 unfold shpR
 refine qag (fun h1 => ?_) (fun h1 => ?_)
 ·have h1_ := bne_t h1
  refine qag (fun h2 => ⟨rfl, rfl⟩) (fun h2 => ?_)
  have h2_ := bne_f h2
  refine qag (fun h3 => ?_) (fun h3 => ?_)
  ·refine qag (fun h4 => ?_) (fun h4 => ⟨rfl, rfl⟩)
   refine qag (fun h5 => ⟨rfl, rfl⟩) (fun h5 => ?_)
   exact ⟨rfl, rfl⟩
  ·have h3_ := beq_f h3
   refine qag (fun h6 => ?_) (fun h6 => ?_)
   ·refine qag (fun h7 => ?_) (fun h7 => ⟨rfl, rfl⟩)
    refine qag (fun h8 => ⟨rfl, rfl⟩) (fun h8 => ?_)
    exact ⟨rfl, rfl⟩
   ·have h6_ := beq_f h6
    refine qag (fun h9 => ?_) (fun h9 => ?_)
    ·refine qag (fun h10 => ⟨rfl, rfl⟩) (fun h10 => ?_)
     exact ⟨rfl, rfl⟩
    ·have h9_ := beq_f h9
     refine qag (fun h11 => ?_) (fun h11 => ?_)
     ·refine qag (fun h12 => ?_) (fun h12 => ?_)
      ·refine qag (fun h13 => ?_) (fun h13 => ⟨rfl, rfl⟩)
       refine qag (fun h14 => ⟨rfl, rfl⟩) (fun h14 => ?_)
       exact ⟨rfl, rfl⟩
      ·refine qag (fun h15 => ?_) (fun h15 => ⟨rfl, rfl⟩)
       refine qag (fun h16 => ⟨rfl, rfl⟩) (fun h16 => ?_)
       exact ⟨rfl, rfl⟩
     ·have h11_ := beq_f h11
      refine qag (fun h17 => ?_) (fun h17 => ?_)
      ·refine qag (fun h18 => ?_) (fun h18 => ⟨rfl, rfl⟩)
       refine qag (fun h19 => ⟨rfl, rfl⟩) (fun h19 => ?_)
       exact ⟨rfl, rfl⟩
      ·have h17_ := beq_f h17
       refine ⟨by first | omega | exact (hp.2 (by omega)) | (have g_ := hp.2 (by omega); omega) | assumption | exact hp.1 | exact hp.2 | exact hp.2.1 | (simp_all; done) | (simp_all; omega), fun _ => ?_⟩
       refine qag (fun h20 => ?_) (fun h20 => ⟨rfl, rfl⟩)
       refine qag (fun h21 => ⟨rfl, rfl⟩) (fun h21 => ?_)
       exact ⟨rfl, rfl⟩
 ·have h1_ := bne_f h1
  have h22k : ((z t.1) == (1 : Int)) = false := by rw [(bne_f h1)]; rfl
  refine qag (fun h22 => absurd (h22k.symm.trans h22) (by decide)) (fun _ => ?_)
  have h23k : ((z t.1) == (2 : Int)) = false := by rw [(bne_f h1)]; rfl
  refine qag (fun h23 => absurd (h23k.symm.trans h23) (by decide)) (fun _ => ?_)
  have h24k : ((z t.1) == (3 : Int)) = false := by rw [(bne_f h1)]; rfl
  refine qag (fun h24 => absurd (h24k.symm.trans h24) (by decide)) (fun _ => ?_)
  have h25k : ((z t.1) == (4 : Int)) = false := by rw [(bne_f h1)]; rfl
  refine qag (fun h25 => absurd (h25k.symm.trans h25) (by decide)) (fun _ => ?_)
  have h26k : ((z t.1) == (5 : Int)) = false := by rw [(bne_f h1)]; rfl
  refine qag (fun h26 => absurd (h26k.symm.trans h26) (by decide)) (fun _ => ?_)
  refine ⟨by first | omega | exact (hp.2 (by omega)) | (have g_ := hp.2 (by omega); omega) | assumption | exact hp.1 | exact hp.2 | exact hp.2.1 | (simp_all; done) | (simp_all; omega), fun _ => ?_⟩
  refine qag (fun h27 => ?_) (fun h27 => ⟨rfl, rfl⟩)
  refine qag (fun h28 => ⟨rfl, rfl⟩) (fun h28 => ?_)
  exact ⟨rfl, rfl⟩)
theorem c_r14_shape : qal E_V23 f_r14_shape k_r14_shape.spec := qam fun x hx hp => ⟨rfl, m_r14_shape x.1 x.2.1 x.2.2.1 hx.1 hx.2.1 hx.2.2.1 hp⟩
theorem shp_eq {m : Md} {f : Fn} {t : Trm} (h : 1 ≤ z t.1 ∧ z t.1 ≤ 6) : shpR m f t = shpP m f t := by
 unfold shpR shpP bne
 generalize z t.1 = k at h
 generalize (ln I t.2.1 : Int) = a
 generalize (ln I t.2.2.1 : Int) = c
 cases z f.2.2.1 == (0 : Int) <;> rcases (show k = 1 ∨ k = 2 ∨ k = 3 ∨ k = 4 ∨ k = 5 ∨ k = 6 by omega) with rfl | rfl | rfl | rfl | rfl | rfl <;> simp

def k_r14_typed : Con := con [.d qad, .d qab, .d qai, .d I, .d I] .bool (fun x => opdOK x.1 x.2.2.1 (z x.2.2.2.1)) fun x => opdP x.1 x.2.1 x.2.2.1 x.2.2.2.1 x.2.2.2.2.1
theorem m_r14_typed (m : Den qad) (f : Den qab) (x : Den qai) (i : Int) (t : Int) (h_m : okD qad m) (h_f : okD qab f) (h_x : okD qai x) (h_i : okD I i) (h_t : okD I t) (hp : opdOK m x (z i)) : Runs E_V23 (start E_V23 f_r14_typed [(.tv qad m), (.tv qab f), (.tv qai x), (vi i), (vi t)]) (fun r_ h_ => r_ = (vb (opdP m f x i t)) ∧ h_ = []) := .tree E_V23_ok (r14_typed_t m f x i t) (by
 have hp_ := hp
 try simp only [z] at hp_
 refine qdv (fun h1 => ?_) (fun h1 => ?_)
 ·have h1_ := beq_t h1
  exact ⟨by first | rw [show opdP m f x i t = _ from (Bool.cond_pos h1)] | simp only [opdP, h1, cond_true, cond_false], rfl⟩
 ·have h1_ := beq_f h1
  refine qdv (fun h2 => ?_) (fun h2 => ?_)
  ·have h2_ := beq_t h2
   refine qdv (fun h3 => ?_) (fun h3 => ?_)
   ·have h3_ := beq_t h3
    exact ⟨by first | rw [show opdP m f x i t = _ from (Eq.trans (Bool.cond_neg h1) (Eq.trans (Bool.cond_pos h2) (Bool.cond_pos h3)))] | simp only [opdP, h1, h2, h3, cond_true, cond_false], rfl⟩
   ·have h3_ := beq_f h3
    exact ⟨by first | rw [show opdP m f x i t = _ from (Eq.trans (Bool.cond_neg h1) (Eq.trans (Bool.cond_pos h2) (Bool.cond_neg h3)))] | simp only [opdP, h1, h2, h3, cond_true, cond_false], rfl⟩
  ·have h2_ := beq_f h2
   refine qdv (fun h4 => ?_) (fun h4 => ?_)
   ·have h4_ := beq_t h4
    exact ⟨by first | rw [show opdP m f x i t = _ from (Eq.trans (Bool.cond_neg h1) (Eq.trans (Bool.cond_neg h2) (Bool.cond_pos h4)))] | simp only [opdP, h1, h2, h4, cond_true, cond_false], rfl⟩
   ·have h4_ := beq_f h4
    refine ⟨by first | omega | exact ((hp (by assumption) (by assumption) (by assumption)).1) | (have g_ := (hp (by assumption) (by assumption) (by assumption)).1; omega) | exact ((hp (by assumption) (by assumption) (by assumption)).2) | (have g_ := (hp (by assumption) (by assumption) (by assumption)).2; omega) | exact (qfz (by assumption)) | (have g_ := qfz (by assumption); omega) | assumption | exact hp.1 | exact hp.2 | exact hp.2.1 | (simp_all; done) | (simp_all; omega), fun _ => ?_⟩
    refine ⟨by first | omega | exact ((hp (by assumption) (by assumption) (by assumption)).1) | (have g_ := (hp (by assumption) (by assumption) (by assumption)).1; omega) | exact ((hp (by assumption) (by assumption) (by assumption)).2) | (have g_ := (hp (by assumption) (by assumption) (by assumption)).2; omega) | exact (qfz (by assumption)) | (have g_ := qfz (by assumption); omega) | assumption | exact hp.1 | exact hp.2 | exact hp.2.1 | (simp_all; done) | (simp_all; omega), fun _ => ?_⟩
    refine ⟨trivial, fun _ => ?_⟩
    refine qdv (fun h5 => ?_) (fun h5 => ?_)
    ·refine ⟨by first | omega | exact ((hp (by assumption) (by assumption) (by assumption)).1) | (have g_ := (hp (by assumption) (by assumption) (by assumption)).1; omega) | exact ((hp (by assumption) (by assumption) (by assumption)).2) | (have g_ := (hp (by assumption) (by assumption) (by assumption)).2; omega) | exact (qfz (by assumption)) | (have g_ := qfz (by assumption); omega) | assumption | exact hp.1 | exact hp.2 | exact hp.2.1 | (simp_all; done) | (simp_all; omega), fun _ => ?_⟩
     refine ⟨by first | omega | exact ((hp (by assumption) (by assumption) (by assumption)).1) | (have g_ := (hp (by assumption) (by assumption) (by assumption)).1; omega) | exact ((hp (by assumption) (by assumption) (by assumption)).2) | (have g_ := (hp (by assumption) (by assumption) (by assumption)).2; omega) | exact (qfz (by assumption)) | (have g_ := qfz (by assumption); omega) | assumption | exact hp.1 | exact hp.2 | exact hp.2.1 | (simp_all; done) | (simp_all; omega), fun _ => ?_⟩
     refine fun _ => ?_
     exact ⟨by first | rw [show opdP m f x i t = _ from (Eq.trans (Bool.cond_neg h1) (Eq.trans (Bool.cond_neg h2) (Eq.trans (Bool.cond_neg h4) (Bool.cond_pos h5))))] | simp only [opdP, h1, h2, h4, h5, cond_true, cond_false], rfl⟩
    ·refine fun _ => ?_
     exact ⟨by first | rw [show opdP m f x i t = _ from (Eq.trans (Bool.cond_neg h1) (Eq.trans (Bool.cond_neg h2) (Eq.trans (Bool.cond_neg h4) (Bool.cond_neg h5))))] | simp only [opdP, h1, h2, h4, h5, cond_true, cond_false], rfl⟩)
theorem c_r14_typed : qal E_V23 f_r14_typed k_r14_typed.spec := qam fun x hx hp => ⟨rfl, m_r14_typed x.1 x.2.1 x.2.2.1 x.2.2.2.1 x.2.2.2.2.1 hx.1 hx.2.1 hx.2.2.1 hx.2.2.2.1 hx.2.2.2.2.1 hp⟩
def L_V23 : List (FuncId × FSpec) := [(f_r14_shape, k_r14_shape.spec), (f_r14_typed, k_r14_typed.spec)] ++ L_V22
theorem L_V23_ok : ∀ x ∈ L_V23, qal (ctx []) x.1 x.2 := by
 unfold L_V23
 simp only [List.cons_append, List.nil_append, List.forall_mem_cons]
 exact ⟨c_r14_shape, c_r14_typed, L_V22_ok⟩
end Burn.MTT
namespace Burn.MTT
open Go Go.BE Go.Proofs
set_option maxRecDepth 100000
set_option linter.unusedVariables false
set_option linter.unusedSimpArgs false
open Burn.Intn Burn.Ref
noncomputable abbrev E_V24 : Ctx := ctx L_V23
theorem E_V24_ok : EOK E_V24 := qbq L_V23_ok
def cuts_V24 : CutL := [([], 64, 0, [3, 4, 5, 52, 53, 54], [], []),
 ([], 64, 2, [4, 97, 98, 99], [], [])]
def rets_V24 : FuncId → List (Option Fx)
 | _ => []
def H_V24 : Hints := { cut := cutOf cuts_V24, ret := rets_V24 }
noncomputable def qce (m : Den qad) (f : Den qab) (t : Den qai) (t52 : List (Den I)) (t53 : Int) (t54 : Int) : Cfg := hcfg E_V24 qcc 0 [(3, (.rtp qad m)), (4, (.rtp qab f)), (5, (.rtp qai t)), (52, (.tv (.sl 8 I) t52)), (53, (vi t53)), (54, (vi t54))] [] 0
noncomputable def qdf (f : Den qab) (t97 : List (Den qae)) (t98 : Int) (t99 : Int) : Cfg := hcfg E_V24 qcc 2 [(4, (.rtp qab f)), (97, (.tv (.sl 32 qae) t97)), (98, (vi t98)), (99, (vi t99))] [] 0
theorem r14_terminator_t (m : Den qad) (f : Den qab) (t : Den qai) : run E_V24 H_V24 qcc 3000 (start E_V24 qcc [(.tv qad m), (.tv qab f), (.tv qai t)]) = (cond (decide ((z t.1) < (1 : Int))) (rt (vi (9 : Int)) []) (cond (decide ((z t.1) > (6 : Int))) (rt (vi (9 : Int)) []) (cond ((z t.1) == (6 : Int)) (cond (decide ((z t.2.2.2.2.1) < (0 : Int))) (rt (vi (8 : Int)) []) (cond (decide ((z t.2.2.2.2.1) ≥ ((ln qab m.2.1) : Int))) (rt (vi (8 : Int)) []) (cond ((z t.1) == (3 : Int)) (cond (decide (((ln I t.2.2.1) : Int) > (16 : Int))) (rt (vi (11 : Int)) []) (.chk ((1 ≤ z t.1 ∧ z t.1 ≤ 6) ∧ (z t.1 = 6 → 0 ≤ z t.2.2.2.2.1 ∧ z t.2.2.2.2.1 < (ln qab m.2.1 : Nat))) (.know True (cond (!(shpR m f t)) (rt (vi (3 : Int)) []) (hd (qce m f t t.2.1 ((ln I t.2.1) : Int) (0 : Int))))))) (.chk ((1 ≤ z t.1 ∧ z t.1 ≤ 6) ∧ (z t.1 = 6 → 0 ≤ z t.2.2.2.2.1 ∧ z t.2.2.2.2.1 < (ln qab m.2.1 : Nat))) (.know True (cond (!(shpR m f t)) (rt (vi (3 : Int)) []) (hd (qce m f t t.2.1 ((ln I t.2.1) : Int) (0 : Int))))))))) (cond ((z t.1) == (3 : Int)) (cond (decide (((ln I t.2.2.1) : Int) > (16 : Int))) (rt (vi (11 : Int)) []) (.chk ((1 ≤ z t.1 ∧ z t.1 ≤ 6) ∧ (z t.1 = 6 → 0 ≤ z t.2.2.2.2.1 ∧ z t.2.2.2.2.1 < (ln qab m.2.1 : Nat))) (.know True (cond (!(shpR m f t)) (rt (vi (3 : Int)) []) (hd (qce m f t t.2.1 ((ln I t.2.1) : Int) (0 : Int))))))) (.chk ((1 ≤ z t.1 ∧ z t.1 ≤ 6) ∧ (z t.1 = 6 → 0 ≤ z t.2.2.2.2.1 ∧ z t.2.2.2.2.1 < (ln qab m.2.1 : Nat))) (.know True (cond (!(shpR m f t)) (rt (vi (3 : Int)) []) (hd (qce m f t t.2.1 ((ln I t.2.1) : Int) (0 : Int)))))))))) := by kernel_rfl
theorem r14_terminator_L0_t (m : Den qad) (f : Den qab) (t : Den qai) (t52 : List (Den I)) (t53 : Int) (t54 : Int) : run E_V24 H_V24 qcc 3000 (qce m f t t52 t53 t54) = (cond (decide (t54 < t53)) (.chk (0 ≤ t54 ∧ t54 < (ln I t52)) (.chk (True) (.know True (cond (!(regP f (gd I t52 t54.toNat))) (rt (vi (10 : Int)) []) (.chk (0 ≤ (z (gd I t52 t54.toNat)) ∧ (z (gd I t52 t54.toNat)) < (ln I f.2.2.2.1)) (.chk (opdOK m t (z t54)) (.know True (cond (!(opdP m f t t54 (gd I f.2.2.2.1 (((z (gd I t52 t54.toNat))).toNat)))) (rt (vi (9 : Int)) []) (hd (qce m f t t52 t53 (IntKind.wrap .i64 (t54 + (1 : Int))))))))))))) (cond ((z t.1) == (6 : Int)) (.chk (0 ≤ (z t.2.2.2.2.1) ∧ (z t.2.2.2.2.1) < (ln qab m.2.1)) (cond ((z ((gd qab m.2.1 (((z t.2.2.2.2.1)).toNat)).2.2.1)) != (z f.2.2.1)) (rt (vi (9 : Int)) []) (.chk ((z t.1 = 3 ∨ z t.1 = 5 ∨ ln I t.2.2.1 = 0) ∧ (z t.1 = 3 → 0 < ln I t.2.1 ∧ regP f (gd I t.2.1 0) = true)) (.know (okD (.int .i64) (casF f t)) (cond ((casF f t) != (0 : Int)) (rt (vi (casF f t)) []) (hd (qdf f t.2.2.2.1 ((ln qae t.2.2.2.1) : Int) (0 : Int)))))))) (.chk ((z t.1 = 3 ∨ z t.1 = 5 ∨ ln I t.2.2.1 = 0) ∧ (z t.1 = 3 → 0 < ln I t.2.1 ∧ regP f (gd I t.2.1 0) = true)) (.know (okD (.int .i64) (casF f t)) (cond ((casF f t) != (0 : Int)) (rt (vi (casF f t)) []) (hd (qdf f t.2.2.2.1 ((ln qae t.2.2.2.1) : Int) (0 : Int)))))))) := by kernel_rfl
theorem r14_terminator_L2_t (f : Den qab) (t97 : List (Den qae)) (t98 : Int) (t99 : Int) : run E_V24 H_V24 qcc 3000 (qdf f t97 t98 t99) = (cond (decide (t99 < t98)) (.chk (0 ≤ t99 ∧ t99 < (ln qae t97)) (.chk (True) (.know (okD (.int .i64) (edgE f (gd qae t97 t99.toNat))) (cond ((edgE f (gd qae t97 t99.toNat)) != (0 : Int)) (rt (vi (edgE f (gd qae t97 t99.toNat))) []) (hd (qdf f t97 t98 (IntKind.wrap .i64 (t99 + (1 : Int))))))))) (rt (vi (0 : Int)) [])) := by kernel_rfl
theorem shp_cases {m : Md} {f : Fn} {t : Trm} (h : shpP m f t = true) (hk : 1 ≤ z t.1 ∧ z t.1 ≤ 6) : z t.1 = 3 ∨ z t.1 = 5 ∨ ln I t.2.2.1 = 0 := by
 unfold shpP at h
 rcases (show z t.1 = 1 ∨ z t.1 = 2 ∨ z t.1 = 3 ∨ z t.1 = 4 ∨ z t.1 = 5 ∨ z t.1 = 6 by omega) with hq | hq | hq | hq | hq | hq <;> rw [hq] at h <;> simp [Bool.cond_eq_ite] at h <;> first | omega | (split at h <;> omega)
theorem IsI.oe {e : Nat → Int} {n i : Nat} {x b : Int} (h : e i = x) (hx : (x == 0) = false) : IsI (orE (qap e (n + 1) i) b) (vi x) [] := by
 rw [first_hit (by rw [h]; simpa using hx), h, orE, hx]
 exact ⟨rfl, rfl⟩
theorem RunI.oe {E : Ctx} {c : Cfg} {e : Nat → Int} {n i : Nat} {b : Int} (ih : RunI E c (orE (qap e n (i + 1)) b)) (h : e i = 0) : RunI E c (orE (qap e (n + 1) i) b) := by rw [qil h]; exact ih
theorem orE_hit {a b : Int} (h : (a != (0 : Int)) = true) : orE a b = a := by
 have : (a == 0) = false := by simpa using h
 rw [orE, this]; rfl
theorem orE_miss {a b : Int} (h : (a != (0 : Int)) = false) : orE a b = b := by
 have : (a == 0) = true := by simpa using h
 rw [orE, this]; rfl
def trmM (m : Md) (f : Fn) (t : Trm) : Int := cond (z t.1 == (3 : Int)) (cond (decide ((ln I t.2.2.1 : Int) > (16 : Int))) 11 (trmC m f t)) (trmC m f t)
def trmR (m : Md) (f : Fn) (t : Trm) : Int := cond (decide (z t.1 < (1 : Int))) 9 (cond (decide (z t.1 > (6 : Int))) 9 (cond (z t.1 == (6 : Int)) (cond (decide (z t.2.2.2.2.1 < (0 : Int))) 8 (cond (decide (z t.2.2.2.2.1 ≥ (ln qab m.2.1 : Int))) 8 (trmM m f t))) (trmM m f t)))
theorem trmR_eq (m : Md) (f : Fn) (t : Trm) : trmE m f t = trmR m f t := by
 have hb : trmB m f t = trmM m f t := by
  unfold trmB trmM
  generalize trmC m f t = q
  simp only [Bool.cond_eq_ite, decide_eq_true_eq, bne_iff_ne, ne_eq, beq_iff_eq, Bool.not_eq_true', decide_eq_false_iff_not]
  repeat' split
  all_goals first | rfl | omega
 unfold trmE trmR
 rw [hb]
 generalize trmM m f t = q
 simp only [Bool.cond_eq_ite, decide_eq_true_eq, bne_iff_ne, ne_eq, beq_iff_eq, Bool.not_eq_true', decide_eq_false_iff_not]
 repeat' split
 all_goals first | rfl | omega
theorem r14_terminator_l2 (f : Fn) (l : List Edg) (hl : ln qae l < 9223372036854775807) : ∀ i, i ≤ ln qae l → RunI E_V24 (qdf f l (ln qae l : Nat) i) (qap (edgI f l) (ln qae l - i) i) :=
 qba (.tree E_V24_ok (r14_terminator_L2_t _ _ _ _) (by
  rw [Nat.sub_self]
  simp only [sS, sL,  Nat.lt_irrefl, qap]
  exact ⟨rfl, rfl⟩))
  fun i hi ih => .tree E_V24_ok (r14_terminator_L2_t _ _ _ _) (by
   rw [sub1 hi]
   simp only [sS, sL,  hi, wrapS hi hl]
   exact fun _ => ⟨fun h1 => .fe (x := edgE f (gd qae l i)) rfl (by simpa using h1), fun h1 => RunI.fe ih (show edgE f (gd qae l i) = 0 by simpa using h1)⟩)
theorem r14_terminator_l0 (m : Md) (f : Fn) (t : Trm) (hok : okD qai t) (hk : 1 ≤ z t.1 ∧ z t.1 ≤ 6) (hs : z t.1 = 6 → 0 ≤ z t.2.2.2.2.1 ∧ z t.2.2.2.2.1 < (ln qab m.2.1 : Nat)) (hp : shpP m f t = true) : ∀ i, i ≤ ln I t.2.1 → (∀ j, j < i → trmA m f t j = 0) → RunI E_V24 (qce m f t t.2.1 (ln I t.2.1 : Nat) i) (orE (qap (trmA m f t) (ln I t.2.1 - i) i) (orE (trmS m f t) (orE (casF f t) (qap (edgI f t.2.2.2.1) (ln qae t.2.2.2.1) 0)))) :=
 qba (fun hj => .tree E_V24_ok (r14_terminator_L0_t _ _ _ _ _ _) (by
  have hu := shp_use hp
  have hr : z t.1 = 3 → 0 < ln I t.2.1 ∧ regP f (gd I t.2.1 0) = true := fun h3 => by
   have h1 : ln I t.2.1 = 1 := hu.2.2.1 h3
   have h0 := hj 0 (by omega)
   refine ⟨by omega, ?_⟩
   unfold trmA at h0
   cases hg : regP f (gd I t.2.1 0)
   ·rw [hg] at h0
    exact absurd h0 (show (10 : Int) ≠ 0 by decide)
   ·rfl
  have go := r14_terminator_l2 f t.2.2.2.1 (qas hok.2.2.2.1.1) 0 (Nat.zero_le _)
  rw [Nat.sub_self, qap]
  simp only [sS, sL,  Nat.lt_irrefl]
  have hcs : ∀ {s : Int}, trmS m f t = s → (s == 0) = true → ((z t.1 = 3 ∨ z t.1 = 5 ∨ ln I t.2.2.1 = 0) ∧ (z t.1 = 3 → 0 < ln I t.2.1 ∧ regP f (gd I t.2.1 0) = true)) ∧ ((z t.1 = 3 ∨ z t.1 = 5 ∨ ln I t.2.2.1 = 0) ∧ (z t.1 = 3 → 0 < ln I t.2.1 ∧ regP f (gd I t.2.1 0) = true) → okD (.int .i64) (casF f t) → ((casF f t != 0) = true → IsI (orE 0 (orE (trmS m f t) (orE (casF f t) (qap (edgI f t.2.2.2.1) (ln qae t.2.2.2.1) 0)))) (vi (casF f t)) []) ∧ ((casF f t != 0) = false → Runs E_V24 (qdf f t.2.2.2.1 (ln qae t.2.2.2.1 : Nat) 0) (IsI (orE 0 (orE (trmS m f t) (orE (casF f t) (qap (edgI f t.2.2.2.1) (ln qae t.2.2.2.1) 0))))))) := fun hs0 hz0 => by
   refine ⟨⟨shp_cases hp hk, hr⟩, fun _ _ => ⟨fun h1 => ⟨congrArg vi ?_, rfl⟩, fun h1 => go.cast ?_⟩⟩
   ·show _ = orE (trmS m f t) _
    rw [hs0, orE, hz0, cond_true, orE_hit h1]
   ·show orE (trmS m f t) _ = _
    rw [hs0, orE, hz0, cond_true, orE_miss h1]
    rfl
  refine ⟨fun h1 => ⟨hs (by simpa using h1), fun _ => ⟨fun h2 => ⟨congrArg vi ?_, rfl⟩, fun h2 => hcs (s := 0) ?_ rfl⟩⟩, fun h1 => hcs (s := 0) ?_ rfl⟩
  ·have h1' : (z t.1 != (6 : Int)) = false := by simpa using h1
   have h2' : (!(z (gd qab m.2.1 (z t.2.2.2.2.1).toNat).2.2.1 == z f.2.2.1)) = true := h2
   show _ = orE (trmS m f t) _
   simp only [trmS, h1', h2', cond_true, cond_false]
   rfl
  ·have h1' : (z t.1 != (6 : Int)) = false := by simpa using h1
   have h2' : (!(z (gd qab m.2.1 (z t.2.2.2.2.1).toNat).2.2.1 == z f.2.2.1)) = false := h2
   simp only [trmS, h1', h2', cond_false]
  ·have h1' : (z t.1 != (6 : Int)) = true := by simpa using h1
   simp only [trmS, h1', cond_true]))
  fun i hi ih hj => .tree E_V24_ok (r14_terminator_L0_t _ _ _ _ _ _) (by
   have hu := shp_use hp
   have hod : opdOK m t (z (i : Int)) := fun a b c => by
    have h6 : z t.1 = 6 := by
     rcases (show z t.1 = 1 ∨ z t.1 = 5 ∨ z t.1 = 6 by omega) with h | h | h
     ·have := hu.1 h; omega
     ·have := hu.2.1 h; omega
     ·exact h
    have := hu.2.2.2 h6
    exact ⟨hs h6, Int.natCast_nonneg _, by show (i : Int) < _; omega⟩
   rw [sub1 hi]
   simp only [sS, sL,  hi, wrapS hi (qas hok.2.1.1)]
   refine ⟨fun h1 => .oe (x := 10) (by simp only [trmA, h1, cond_true]) rfl, fun h1 => ⟨qfz (by simpa using h1), fun _ => ⟨hod, fun _ => ⟨fun h2 => .oe (x := 9) (by simp only [trmA, h1, h2, cond_true, cond_false]) rfl, fun h2 => ?_⟩⟩⟩⟩
   have h0 : trmA m f t i = 0 := by simp only [trmA, h1, h2, cond_false]
   exact RunI.oe (ih fun j h => (Nat.lt_succ_iff_lt_or_eq.mp h).elim (hj j) (fun e => e ▸ h0)) h0)
def k_r14_terminator : Con := con [.d qad, .d qab, .d qai] I (fun x => True) fun x => trmE x.1 x.2.1 x.2.2.1
theorem m_r14_terminator (m : Den qad) (f : Den qab) (t : Den qai) (h_m : okD qad m) (h_f : okD qab f) (h_t : okD qai t) (hp : True) : Runs E_V24 (start E_V24 qcc [(.tv qad m), (.tv qab f), (.tv qai t)]) (fun r_ h_ => r_ = (vi (trmE m f t)) ∧ h_ = []) := .tree E_V24_ok (r14_terminator_t m f t) (by
 have tail : ∀ {d : Int}, 1 ≤ z t.1 ∧ z t.1 ≤ 6 → (z t.1 = 6 → 0 ≤ z t.2.2.2.2.1 ∧ z t.2.2.2.2.1 < (ln qab m.2.1 : Nat)) → d = trmC m f t → ((1 ≤ z t.1 ∧ z t.1 ≤ 6) ∧ (z t.1 = 6 → 0 ≤ z t.2.2.2.2.1 ∧ z t.2.2.2.2.1 < (ln qab m.2.1 : Nat))) ∧ ((1 ≤ z t.1 ∧ z t.1 ≤ 6) ∧ (z t.1 = 6 → 0 ≤ z t.2.2.2.2.1 ∧ z t.2.2.2.2.1 < (ln qab m.2.1 : Nat)) → ((!(shpR m f t)) = true → IsI d (vi 3) []) ∧ ((!(shpR m f t)) = false → Runs E_V24 (qce m f t t.2.1 (ln I t.2.1 : Nat) 0) (IsI d))) := fun h1 h2 hd => by
  refine ⟨⟨h1, h2⟩, fun _ => ?_⟩
  rw [shp_eq h1, hd]
  refine ⟨fun h3 => ⟨congrArg vi (by rw [trmC, h3, cond_true]), rfl⟩, fun h3 => ?_⟩
  refine RunI.cast (r14_terminator_l0 m f t h_t h1 h2 (by simpa using h3) 0 (Nat.zero_le _) (fun j h => absurd h (Nat.not_lt_zero _))) ?_
  rw [trmC, h3, cond_false]
  rfl
 show Tre.wp (contL _ (IsI (trmE m f t))) _
 rw [trmR_eq]
 simp only [sS]
 refine ⟨fun h1 => ⟨congrArg vi (by simp only [trmR, h1, cond_true]), rfl⟩, fun h1 => ⟨fun h2 => ⟨congrArg vi (by simp only [trmR, h1, h2, cond_true, cond_false]), rfl⟩, fun h2 => ?_⟩⟩
 have hk : 1 ≤ z t.1 ∧ z t.1 ≤ 6 := ⟨by simpa using h1, by simpa using h2⟩
 refine ⟨fun h3 => ⟨fun h4 => ⟨congrArg vi (by simp only [trmR, h1, h2, h3, h4, cond_true, cond_false]), rfl⟩, fun h4 => ⟨fun h5 => ⟨congrArg vi (by simp only [trmR, h1, h2, h3, h4, h5, cond_true, cond_false]), rfl⟩, fun h5 => ?_⟩⟩, fun h3 => ?_⟩
 ·have hs : 0 ≤ z t.2.2.2.2.1 ∧ z t.2.2.2.2.1 < (ln qab m.2.1 : Nat) := ⟨by simpa using h4, by simpa using h5⟩
  refine ⟨fun h6 => ⟨fun h7 => ⟨congrArg vi (by simp only [trmR, trmM, h1, h2, h3, h4, h5, h6, h7, cond_true, cond_false]), rfl⟩, fun h7 => tail hk (fun _ => hs) (by simp only [trmR, trmM, h1, h2, h3, h4, h5, h6, h7, cond_true, cond_false])⟩, fun h6 => tail hk (fun _ => hs) (by simp only [trmR, trmM, h1, h2, h3, h4, h5, h6, cond_true, cond_false])⟩
 ·have hn : z t.1 ≠ 6 := by simpa using h3
  refine ⟨fun h6 => ⟨fun h7 => ⟨congrArg vi (by simp only [trmR, trmM, h1, h2, h3, h6, h7, cond_true, cond_false]), rfl⟩, fun h7 => tail hk (fun h => absurd h hn) (by simp only [trmR, trmM, h1, h2, h3, h6, h7, cond_true, cond_false])⟩, fun h6 => tail hk (fun h => absurd h hn) (by simp only [trmR, trmM, h1, h2, h3, h6, cond_true, cond_false])⟩)
theorem c_r14_terminator : qal E_V24 qcc k_r14_terminator.spec := qam fun x hx hp => ⟨rfl, m_r14_terminator x.1 x.2.1 x.2.2.1 hx.1 hx.2.1 hx.2.2.1 hp⟩
def L_V24 : List (FuncId × FSpec) := [(qcc, k_r14_terminator.spec)] ++ L_V23
theorem L_V24_ok : ∀ x ∈ L_V24, qal (ctx []) x.1 x.2 := by
 unfold L_V24
 simp only [List.cons_append, List.nil_append, List.forall_mem_cons]
 exact ⟨c_r14_terminator, L_V23_ok⟩
end Burn.MTT
namespace Burn.MTT
open Go Go.BE Go.Proofs
set_option maxRecDepth 100000
set_option linter.unusedVariables false
set_option linter.unusedSimpArgs false
open Burn.Intn Burn.Ref
noncomputable abbrev E_V25 : Ctx := ctx L_V24
theorem E_V25_ok : EOK E_V25 := qbq L_V24_ok
def cuts_V25 : CutL := []
def rets_V25 : FuncId → List (Option Fx)
 | _ => []
def H_V25 : Hints := { cut := cutOf cuts_V25, ret := rets_V25 }
theorem r12_count_t (in_ : Den qac) (m : Den qad) : run E_V25 H_V25 f_r12_count 3000 (start E_V25 f_r12_count [(.tv qac in_), (.tv qad m)]) = (cond ((z in_.1) == (1 : Int)) (rt (.tup [(vi (0 : Int)), (vb true)]) []) (cond ((z in_.1) == (2 : Int)) (rt (.tup [(vi (0 : Int)), (vb true)]) []) (cond ((z in_.1) == (25 : Int)) (rt (.tup [(vi (0 : Int)), (vb true)]) []) (cond ((z in_.1) == (26 : Int)) (rt (.tup [(vi (0 : Int)), (vb true)]) []) (cond ((z in_.1) == (3 : Int)) (rt (.tup [(vi (1 : Int)), (vb true)]) []) (cond ((z in_.1) == (4 : Int)) (rt (.tup [(vi (1 : Int)), (vb true)]) []) (cond ((z in_.1) == (22 : Int)) (rt (.tup [(vi (1 : Int)), (vb true)]) []) (cond ((z in_.1) == (23 : Int)) (rt (.tup [(vi (1 : Int)), (vb true)]) []) (cond ((z in_.1) == (24 : Int)) (rt (.tup [(vi (1 : Int)), (vb true)]) []) (cond ((z in_.1) == (28 : Int)) (rt (.tup [(vi (1 : Int)), (vb true)]) []) (cond ((z in_.1) == (31 : Int)) (rt (.tup [(vi (1 : Int)), (vb true)]) []) (cond ((z in_.1) == (33 : Int)) (rt (.tup [(vi (1 : Int)), (vb true)]) []) (cond ((z in_.1) == (21 : Int)) (rt (.tup [(vi (3 : Int)), (vb true)]) []) (cond ((z in_.1) == (30 : Int)) (.chk (0 ≤ (z in_.2.2.2.2.2.1) ∧ (z in_.2.2.2.2.2.1) < (ln qab m.2.1)) (rt (.tup [(vi ((ln I ((gd qab m.2.1 (((z in_.2.2.2.2.2.1)).toNat)).2.1)) : Int)), (vb true)]) [])) (cond ((z in_.1) == (32 : Int)) (cond (((ln I in_.2.2.2.1) : Int) == (2 : Int)) (rt (.tup [(vi ((ln I in_.2.2.2.1) : Int)), (vb true)]) []) (rt (.tup [(vi ((ln I in_.2.2.2.1) : Int)), (vb (((ln I in_.2.2.2.1) : Int) == (4 : Int)))]) [])) (rt (.tup [(vi (2 : Int)), (vb true)]) [])))))))))))))))) := by kernel_rfl
theorem r12_result_t (in_ : Den qac) (m : Den qad) : run E_V25 H_V25 f_r12_result 3000 (start E_V25 f_r12_result [(.tv qac in_), (.tv qad m)]) = (cond ((z in_.1) == (1 : Int)) (.chk (True) (.know True (rt (vb (intP in_.2.1)) []))) (cond ((z in_.1) == (2 : Int)) (.chk (True) (.know True (rt (vb (typP in_.2.1)) []))) (cond ((z in_.1) == (4 : Int)) (.chk (True) (.know True (rt (vb (typP in_.2.1)) []))) (cond ((z in_.1) == (21 : Int)) (.chk (True) (.know True (rt (vb (typP in_.2.1)) []))) (cond ((z in_.1) == (3 : Int)) (.chk (True) (.know True (cond (typP in_.2.1) (rt (vb ((z in_.2.1) != (5 : Int))) []) (rt (vb false) [])))) (cond ((z in_.1) == (5 : Int)) (.chk (True) (.know True (cond (wideP in_.2.1) (rt (vb true) []) (cond ((z in_.2.1) == (6 : Int)) (rt (vb true) []) (rt (vb ((z in_.2.1) == (7 : Int))) []))))) (cond ((z in_.1) == (6 : Int)) (.chk (True) (.know True (cond (wideP in_.2.1) (rt (vb true) []) (cond ((z in_.2.1) == (6 : Int)) (rt (vb true) []) (rt (vb ((z in_.2.1) == (7 : Int))) []))))) (cond ((z in_.1) == (7 : Int)) (.chk (True) (.know True (cond (wideP in_.2.1) (rt (vb true) []) (cond ((z in_.2.1) == (6 : Int)) (rt (vb true) []) (rt (vb ((z in_.2.1) == (7 : Int))) []))))) (cond ((z in_.1) == (8 : Int)) (.chk (True) (.know True (cond (intP in_.2.1) (rt (vb true) []) (cond ((z in_.2.1) == (6 : Int)) (rt (vb true) []) (rt (vb ((z in_.2.1) == (7 : Int))) []))))) (cond ((z in_.1) == (9 : Int)) (.chk (True) (.know True (cond (intP in_.2.1) (rt (vb true) []) (cond ((z in_.2.1) == (6 : Int)) (rt (vb true) []) (rt (vb ((z in_.2.1) == (7 : Int))) []))))) (cond ((z in_.1) == (10 : Int)) (.chk (True) (.know True (cond (intP in_.2.1) (rt (vb true) []) (cond ((z in_.2.1) == (6 : Int)) (rt (vb true) []) (rt (vb ((z in_.2.1) == (7 : Int))) []))))) (cond ((z in_.1) == (11 : Int)) (.chk (True) (.know True (rt (vb (wideP in_.2.1)) []))) (cond ((z in_.1) == (12 : Int)) (.chk (True) (.know True (rt (vb (wideP in_.2.1)) []))) (cond ((z in_.1) == (13 : Int)) (.chk (True) (.know True (rt (vb (wideP in_.2.1)) []))) (cond ((z in_.1) == (14 : Int)) (.chk (True) (.know True (rt (vb (wideP in_.2.1)) []))) (cond ((z in_.1) == (15 : Int)) (.chk (True) (.know True (rt (vb (wideP in_.2.1)) []))) (cond ((z in_.1) == (16 : Int)) (rt (vb ((z in_.2.1) == (1 : Int))) []) (cond ((z in_.1) == (17 : Int)) (rt (vb ((z in_.2.1) == (1 : Int))) []) (cond ((z in_.1) == (18 : Int)) (rt (vb ((z in_.2.1) == (1 : Int))) []) (cond ((z in_.1) == (19 : Int)) (rt (vb ((z in_.2.1) == (1 : Int))) []) (cond ((z in_.1) == (20 : Int)) (rt (vb ((z in_.2.1) == (1 : Int))) []) (cond ((z in_.1) == (22 : Int)) (cond ((z in_.2.1) == (3 : Int)) (rt (vb true) []) (rt (vb ((z in_.2.1) == (4 : Int))) [])) (cond ((z in_.1) == (23 : Int)) (.chk (True) (.know True (rt (vb (wideP in_.2.1)) []))) (cond ((z in_.1) == (24 : Int)) (cond ((z in_.2.1) == (1 : Int)) (rt (vb true) []) (cond ((z in_.2.1) == (2 : Int)) (rt (vb true) []) (rt (vb ((z in_.2.1) == (3 : Int))) []))) (cond ((z in_.1) == (25 : Int)) (rt (vb ((z in_.2.1) == (5 : Int))) []) (cond ((z in_.1) == (26 : Int)) (rt (vb ((z in_.2.1) == (5 : Int))) []) (cond ((z in_.1) == (27 : Int)) (rt (vb ((z in_.2.1) == (5 : Int))) []) (cond ((z in_.1) == (28 : Int)) (.chk (True) (.know (okAVs [(vi (z ((accP in_.2.1).1))), (vi (z ((accP in_.2.1).2)))]) (rt (vb (decide ((z ((accP in_.2.1).2)) > (0 : Int)))) []))) (cond ((z in_.1) == (29 : Int)) (rt (vb ((z in_.2.1) == (0 : Int))) []) (cond ((z in_.1) == (31 : Int)) (rt (vb ((z in_.2.1) == (0 : Int))) []) (cond ((z in_.1) == (30 : Int)) (.chk (0 ≤ (z in_.2.2.2.2.2.1) ∧ (z in_.2.2.2.2.2.1) < (ln qab m.2.1)) (rt (vb ((z in_.2.1) == (z ((gd qab m.2.1 (((z in_.2.2.2.2.2.1)).toNat)).2.2.1)))) [])) (cond ((z in_.1) == (32 : Int)) (cond ((z in_.2.1) == (6 : Int)) (cond (((ln I in_.2.2.2.1) : Int) == (2 : Int)) (rt (vb true) []) (cond ((z in_.2.1) == (7 : Int)) (rt (vb (((ln I in_.2.2.2.1) : Int) == (4 : Int))) []) (rt (vb false) []))) (cond ((z in_.2.1) == (7 : Int)) (rt (vb (((ln I in_.2.2.2.1) : Int) == (4 : Int))) []) (rt (vb false) []))) (rt (vb ((z in_.2.1) == (3 : Int))) []))))))))))))))))))))))))))))))))) := by kernel_rfl
theorem r12_operand_t (in_ : Den qac) (m : Den qad) (k : Int) (a : Int) (first : Int) : run E_V25 H_V25 f_r12_operand 3000 (start E_V25 f_r12_operand [(.tv qac in_), (.tv qad m), (vi k), (vi a), (vi first)]) = (.chk (True) (.chk (True) (.know (okD (.int .i64) (bitsZ a)) (.know (okD (.int .i64) (bitsZ in_.2.1)) (cond ((z in_.1) == (16 : Int)) (cond (a == first) (.chk (True) (.know True (cond (intP a) (rt (vb true) []) (rt (vb (a == (5 : Int))) [])))) (rt (vb false) [])) (cond ((z in_.1) == (17 : Int)) (cond (a == first) (.chk (True) (.know True (cond (intP a) (rt (vb true) []) (rt (vb (a == (5 : Int))) [])))) (rt (vb false) [])) (cond ((z in_.1) == (18 : Int)) (cond (a == first) (.chk (True) (.know True (rt (vb (wideP a)) []))) (rt (vb false) [])) (cond ((z in_.1) == (19 : Int)) (cond (a == first) (.chk (True) (.know True (rt (vb (wideP a)) []))) (rt (vb false) [])) (cond ((z in_.1) == (20 : Int)) (cond (a == first) (.chk (True) (.know True (rt (vb (wideP a)) []))) (rt (vb false) [])) (cond ((z in_.1) == (21 : Int)) (cond (k == (0 : Int)) (cond (a == (1 : Int)) (rt (vb true) []) (cond (decide (k > (0 : Int))) (rt (vb (a == (z in_.2.1))) []) (rt (vb false) []))) (cond (decide (k > (0 : Int))) (rt (vb (a == (z in_.2.1))) []) (rt (vb false) []))) (cond ((z in_.1) == (22 : Int)) (cond (a == (2 : Int)) (rt (vb (decide ((bitsZ a) < (bitsZ in_.2.1)))) []) (cond (a == (3 : Int)) (rt (vb (decide ((bitsZ a) < (bitsZ in_.2.1)))) []) (rt (vb false) []))) (cond ((z in_.1) == (23 : Int)) (cond (a == (1 : Int)) (rt (vb (decide ((bitsZ a) < (bitsZ in_.2.1)))) []) (cond (a == (2 : Int)) (rt (vb (decide ((bitsZ a) < (bitsZ in_.2.1)))) []) (cond (a == (3 : Int)) (rt (vb (decide ((bitsZ a) < (bitsZ in_.2.1)))) []) (rt (vb false) [])))) (cond ((z in_.1) == (24 : Int)) (.chk (True) (.know True (cond (wideP a) (rt (vb (decide ((bitsZ a) > (bitsZ in_.2.1)))) []) (rt (vb false) [])))) (cond ((z in_.1) == (27 : Int)) (cond (k == (0 : Int)) (cond (a == (5 : Int)) (rt (vb true) []) (cond (k == (1 : Int)) (rt (vb (a == (4 : Int))) []) (rt (vb false) []))) (cond (k == (1 : Int)) (rt (vb (a == (4 : Int))) []) (rt (vb false) []))) (cond ((z in_.1) == (28 : Int)) (rt (vb (a == (5 : Int))) []) (cond ((z in_.1) == (29 : Int)) (.chk (True) (.know (okAVs [(vi (z ((accP a).1))), (vi (z ((accP a).2)))]) (cond (k == (0 : Int)) (cond (a == (5 : Int)) (rt (vb true) []) (cond (k == (1 : Int)) (rt (vb (decide ((z ((accP a).2)) > (0 : Int)))) []) (rt (vb false) []))) (cond (k == (1 : Int)) (rt (vb (decide ((z ((accP a).2)) > (0 : Int)))) []) (rt (vb false) []))))) (cond ((z in_.1) == (30 : Int)) (.chk (0 ≤ (z in_.2.2.2.2.2.1) ∧ (z in_.2.2.2.2.2.1) < (ln qab m.2.1)) (.chk (0 ≤ k ∧ k < (ln I ((gd qab m.2.1 (((z in_.2.2.2.2.2.1)).toNat)).2.1))) (cond (decide ((z (gd I ((gd qab m.2.1 (((z in_.2.2.2.2.2.1)).toNat)).2.1) k.toNat)) ≥ (0 : Int))) (cond (decide ((z (gd I ((gd qab m.2.1 (((z in_.2.2.2.2.2.1)).toNat)).2.1) k.toNat)) < ((ln I ((gd qab m.2.1 (((z in_.2.2.2.2.2.1)).toNat)).2.2.2.1)) : Int))) (.chk (0 ≤ (z (gd I ((gd qab m.2.1 (((z in_.2.2.2.2.2.1)).toNat)).2.1) k.toNat)) ∧ (z (gd I ((gd qab m.2.1 (((z in_.2.2.2.2.2.1)).toNat)).2.1) k.toNat)) < (ln I ((gd qab m.2.1 (((z in_.2.2.2.2.2.1)).toNat)).2.2.2.1))) (rt (vb (a == (z (gd I ((gd qab m.2.1 (((z in_.2.2.2.2.2.1)).toNat)).2.2.2.1) (((z (gd I ((gd qab m.2.1 (((z in_.2.2.2.2.2.1)).toNat)).2.1) k.toNat))).toNat))))) [])) (rt (vb false) [])) (rt (vb false) [])))) (cond ((z in_.1) == (31 : Int)) (.chk (True) (.know True (rt (vb (typP a)) []))) (cond ((z in_.1) == (32 : Int)) (rt (vb (a == (3 : Int))) []) (cond ((z in_.1) == (33 : Int)) (cond (a == (6 : Int)) (rt (vb true) []) (rt (vb (a == (7 : Int))) [])) (rt (vb (a == (z in_.2.1))) []))))))))))))))))))))) := by kernel_rfl
def cnR (in_ : Den qac) (m : Den qad) : Den I × Den .bool := (cond ((z in_.1) == (1 : Int)) ((0 : Int), true) (cond ((z in_.1) == (2 : Int)) ((0 : Int), true) (cond ((z in_.1) == (25 : Int)) ((0 : Int), true) (cond ((z in_.1) == (26 : Int)) ((0 : Int), true) (cond ((z in_.1) == (3 : Int)) ((1 : Int), true) (cond ((z in_.1) == (4 : Int)) ((1 : Int), true) (cond ((z in_.1) == (22 : Int)) ((1 : Int), true) (cond ((z in_.1) == (23 : Int)) ((1 : Int), true) (cond ((z in_.1) == (24 : Int)) ((1 : Int), true) (cond ((z in_.1) == (28 : Int)) ((1 : Int), true) (cond ((z in_.1) == (31 : Int)) ((1 : Int), true) (cond ((z in_.1) == (33 : Int)) ((1 : Int), true) (cond ((z in_.1) == (21 : Int)) ((3 : Int), true) (cond ((z in_.1) == (30 : Int)) (((ln I ((gd qab m.2.1 (((z in_.2.2.2.2.2.1)).toNat)).2.1)) : Int), true) (cond ((z in_.1) == (32 : Int)) (cond (((ln I in_.2.2.2.1) : Int) == (2 : Int)) (((ln I in_.2.2.2.1) : Int), true) (((ln I in_.2.2.2.1) : Int), (((ln I in_.2.2.2.1) : Int) == (4 : Int)))) ((2 : Int), true))))))))))))))))

def k_r12_count : Con := conT2 [.d qac, .d qad] I .bool (fun x => z x.1.1 = 30 → 0 ≤ z x.1.2.2.2.2.2.1 ∧ z x.1.2.2.2.2.2.1 < (ln qab x.2.1.2.1 : Nat)) fun x => cnR x.1 x.2.1
theorem m_r12_count (in_ : Den qac) (m : Den qad) (h_in_ : okD qac in_) (h_m : okD qad m) (hp : z in_.1 = 30 → 0 ≤ z in_.2.2.2.2.2.1 ∧ z in_.2.2.2.2.2.1 < (ln qab m.2.1 : Nat)) : Runs E_V25 (start E_V25 f_r12_count [(.tv qac in_), (.tv qad m)]) (fun r_ h_ => r_ = (.tup [(vi (z ((cnR in_ m).1))), (vb (bOf ((cnR in_ m).2)))]) ∧ h_ = []) := .tree E_V25_ok (r12_count_t in_ m) (by
 have hp_ := hp
 try simp only [z] at hp_
 show Tre.wp (Qv _ (fun x_ => (.tup [(vi (z x_.1)), (vb (bOf x_.2))])) (cnR in_ m)) _
 unfold cnR
 refine qag (fun h1 => ⟨rfl, rfl⟩) (fun h1 => ?_)
 have h1_ := beq_f h1
 refine qag (fun h2 => ⟨rfl, rfl⟩) (fun h2 => ?_)
 have h2_ := beq_f h2
 refine qag (fun h3 => ⟨rfl, rfl⟩) (fun h3 => ?_)
 have h3_ := beq_f h3
 refine qag (fun h4 => ⟨rfl, rfl⟩) (fun h4 => ?_)
 have h4_ := beq_f h4
 refine qag (fun h5 => ⟨rfl, rfl⟩) (fun h5 => ?_)
 have h5_ := beq_f h5
 refine qag (fun h6 => ⟨rfl, rfl⟩) (fun h6 => ?_)
 have h6_ := beq_f h6
 refine qag (fun h7 => ⟨rfl, rfl⟩) (fun h7 => ?_)
 have h7_ := beq_f h7
 refine qag (fun h8 => ⟨rfl, rfl⟩) (fun h8 => ?_)
 have h8_ := beq_f h8
 refine qag (fun h9 => ⟨rfl, rfl⟩) (fun h9 => ?_)
 have h9_ := beq_f h9
 refine qag (fun h10 => ⟨rfl, rfl⟩) (fun h10 => ?_)
 have h10_ := beq_f h10
 refine qag (fun h11 => ⟨rfl, rfl⟩) (fun h11 => ?_)
 have h11_ := beq_f h11
 refine qag (fun h12 => ⟨rfl, rfl⟩) (fun h12 => ?_)
 have h12_ := beq_f h12
 refine qag (fun h13 => ⟨rfl, rfl⟩) (fun h13 => ?_)
 have h13_ := beq_f h13
 refine qag (fun h14 => ?_) (fun h14 => ?_)
 ·have h14_ := beq_t h14
  refine ⟨by first | omega | exact (hp (by assumption)) | (have g_ := hp (by assumption); omega) | assumption | exact hp.1 | exact hp.2 | exact hp.2.1 | (simp_all; done) | (simp_all; omega), fun _ => ?_⟩
  exact ⟨rfl, rfl⟩
 ·refine qag (fun h15 => ?_) (fun h15 => ⟨rfl, rfl⟩)
  refine qag (fun h16 => ⟨rfl, rfl⟩) (fun h16 => ?_)
  exact ⟨rfl, rfl⟩)
theorem c_r12_count : qal E_V25 f_r12_count k_r12_count.spec := qam fun x hx hp => ⟨rfl, m_r12_count x.1 x.2.1 hx.1 hx.2.1 hp⟩
def rsR (in_ : Den qac) (m : Den qad) : Bool := (cond ((z in_.1) == (1 : Int)) (intP in_.2.1) (cond ((z in_.1) == (2 : Int)) (typP in_.2.1) (cond ((z in_.1) == (4 : Int)) (typP in_.2.1) (cond ((z in_.1) == (21 : Int)) (typP in_.2.1) (cond ((z in_.1) == (3 : Int)) (cond (typP in_.2.1) ((z in_.2.1) != (5 : Int)) false) (cond ((z in_.1) == (5 : Int)) (cond (wideP in_.2.1) true (cond ((z in_.2.1) == (6 : Int)) true ((z in_.2.1) == (7 : Int)))) (cond ((z in_.1) == (6 : Int)) (cond (wideP in_.2.1) true (cond ((z in_.2.1) == (6 : Int)) true ((z in_.2.1) == (7 : Int)))) (cond ((z in_.1) == (7 : Int)) (cond (wideP in_.2.1) true (cond ((z in_.2.1) == (6 : Int)) true ((z in_.2.1) == (7 : Int)))) (cond ((z in_.1) == (8 : Int)) (cond (intP in_.2.1) true (cond ((z in_.2.1) == (6 : Int)) true ((z in_.2.1) == (7 : Int)))) (cond ((z in_.1) == (9 : Int)) (cond (intP in_.2.1) true (cond ((z in_.2.1) == (6 : Int)) true ((z in_.2.1) == (7 : Int)))) (cond ((z in_.1) == (10 : Int)) (cond (intP in_.2.1) true (cond ((z in_.2.1) == (6 : Int)) true ((z in_.2.1) == (7 : Int)))) (cond ((z in_.1) == (11 : Int)) (wideP in_.2.1) (cond ((z in_.1) == (12 : Int)) (wideP in_.2.1) (cond ((z in_.1) == (13 : Int)) (wideP in_.2.1) (cond ((z in_.1) == (14 : Int)) (wideP in_.2.1) (cond ((z in_.1) == (15 : Int)) (wideP in_.2.1) (cond ((z in_.1) == (16 : Int)) ((z in_.2.1) == (1 : Int)) (cond ((z in_.1) == (17 : Int)) ((z in_.2.1) == (1 : Int)) (cond ((z in_.1) == (18 : Int)) ((z in_.2.1) == (1 : Int)) (cond ((z in_.1) == (19 : Int)) ((z in_.2.1) == (1 : Int)) (cond ((z in_.1) == (20 : Int)) ((z in_.2.1) == (1 : Int)) (cond ((z in_.1) == (22 : Int)) (cond ((z in_.2.1) == (3 : Int)) true ((z in_.2.1) == (4 : Int))) (cond ((z in_.1) == (23 : Int)) (wideP in_.2.1) (cond ((z in_.1) == (24 : Int)) (cond ((z in_.2.1) == (1 : Int)) true (cond ((z in_.2.1) == (2 : Int)) true ((z in_.2.1) == (3 : Int)))) (cond ((z in_.1) == (25 : Int)) ((z in_.2.1) == (5 : Int)) (cond ((z in_.1) == (26 : Int)) ((z in_.2.1) == (5 : Int)) (cond ((z in_.1) == (27 : Int)) ((z in_.2.1) == (5 : Int)) (cond ((z in_.1) == (28 : Int)) (decide ((z ((accP in_.2.1).2)) > (0 : Int))) (cond ((z in_.1) == (29 : Int)) ((z in_.2.1) == (0 : Int)) (cond ((z in_.1) == (31 : Int)) ((z in_.2.1) == (0 : Int)) (cond ((z in_.1) == (30 : Int)) ((z in_.2.1) == (z ((gd qab m.2.1 (((z in_.2.2.2.2.2.1)).toNat)).2.2.1))) (cond ((z in_.1) == (32 : Int)) (cond ((z in_.2.1) == (6 : Int)) (cond (((ln I in_.2.2.2.1) : Int) == (2 : Int)) true (cond ((z in_.2.1) == (7 : Int)) (((ln I in_.2.2.2.1) : Int) == (4 : Int)) false)) (cond ((z in_.2.1) == (7 : Int)) (((ln I in_.2.2.2.1) : Int) == (4 : Int)) false)) ((z in_.2.1) == (3 : Int))))))))))))))))))))))))))))))))))

def k_r12_result : Con := con [.d qac, .d qad] .bool (fun x => z x.1.1 = 30 → 0 ≤ z x.1.2.2.2.2.2.1 ∧ z x.1.2.2.2.2.2.1 < (ln qab x.2.1.2.1 : Nat)) fun x => rsR x.1 x.2.1
theorem m_r12_result (in_ : Den qac) (m : Den qad) (h_in_ : okD qac in_) (h_m : okD qad m) (hp : z in_.1 = 30 → 0 ≤ z in_.2.2.2.2.2.1 ∧ z in_.2.2.2.2.2.1 < (ln qab m.2.1 : Nat)) : Runs E_V25 (start E_V25 f_r12_result [(.tv qac in_), (.tv qad m)]) (fun r_ h_ => r_ = (vb (rsR in_ m)) ∧ h_ = []) := .tree E_V25_ok (r12_result_t in_ m) (by
 have hp_ := hp
 try simp only [z] at hp_
 show Tre.wp (Qv _ (fun x_ => (vb x_)) (rsR in_ m)) _
 unfold rsR
 refine qag (fun h1 => ⟨trivial, fun _ => fun _ => ⟨rfl, rfl⟩⟩) (fun h1 => ?_)
 have h1_ := beq_f h1
 refine qag (fun h2 => ⟨trivial, fun _ => fun _ => ⟨rfl, rfl⟩⟩) (fun h2 => ?_)
 have h2_ := beq_f h2
 refine qag (fun h3 => ⟨trivial, fun _ => fun _ => ⟨rfl, rfl⟩⟩) (fun h3 => ?_)
 have h3_ := beq_f h3
 refine qag (fun h4 => ⟨trivial, fun _ => fun _ => ⟨rfl, rfl⟩⟩) (fun h4 => ?_)
 have h4_ := beq_f h4
 refine qag (fun h5 => ?_) (fun h5 => ?_)
 ·refine ⟨trivial, fun _ => ?_⟩
  refine fun _ => ?_
  refine qag (fun h6 => ⟨rfl, rfl⟩) (fun h6 => ?_)
  exact ⟨rfl, rfl⟩
 ·have h5_ := beq_f h5
  refine qag (fun h7 => ?_) (fun h7 => ?_)
  ·refine ⟨trivial, fun _ => ?_⟩
   refine fun _ => ?_
   refine qag (fun h8 => ⟨rfl, rfl⟩) (fun h8 => ?_)
   refine qag (fun h9 => ⟨rfl, rfl⟩) (fun h9 => ?_)
   exact ⟨rfl, rfl⟩
  ·have h7_ := beq_f h7
   refine qag (fun h10 => ?_) (fun h10 => ?_)
   ·refine ⟨trivial, fun _ => ?_⟩
    refine fun _ => ?_
    refine qag (fun h11 => ⟨rfl, rfl⟩) (fun h11 => ?_)
    refine qag (fun h12 => ⟨rfl, rfl⟩) (fun h12 => ?_)
    exact ⟨rfl, rfl⟩
   ·have h10_ := beq_f h10
    refine qag (fun h13 => ?_) (fun h13 => ?_)
    ·refine ⟨trivial, fun _ => ?_⟩
     refine fun _ => ?_
     refine qag (fun h14 => ⟨rfl, rfl⟩) (fun h14 => ?_)
     refine qag (fun h15 => ⟨rfl, rfl⟩) (fun h15 => ?_)
     exact ⟨rfl, rfl⟩
    ·have h13_ := beq_f h13
     refine qag (fun h16 => ?_) (fun h16 => ?_)
     ·refine ⟨trivial, fun _ => ?_⟩
      refine fun _ => ?_
      refine qag (fun h17 => ⟨rfl, rfl⟩) (fun h17 => ?_)
      refine qag (fun h18 => ⟨rfl, rfl⟩) (fun h18 => ?_)
      exact ⟨rfl, rfl⟩
     ·have h16_ := beq_f h16
      refine qag (fun h19 => ?_) (fun h19 => ?_)
      ·refine ⟨trivial, fun _ => ?_⟩
       refine fun _ => ?_
       refine qag (fun h20 => ⟨rfl, rfl⟩) (fun h20 => ?_)
       refine qag (fun h21 => ⟨rfl, rfl⟩) (fun h21 => ?_)
       exact ⟨rfl, rfl⟩
      ·have h19_ := beq_f h19
       refine qag (fun h22 => ?_) (fun h22 => ?_)
       ·refine ⟨trivial, fun _ => ?_⟩
        refine fun _ => ?_
        refine qag (fun h23 => ⟨rfl, rfl⟩) (fun h23 => ?_)
        refine qag (fun h24 => ⟨rfl, rfl⟩) (fun h24 => ?_)
        exact ⟨rfl, rfl⟩
       ·have h22_ := beq_f h22
        refine qag (fun h25 => ⟨trivial, fun _ => fun _ => ⟨rfl, rfl⟩⟩) (fun h25 => ?_)
        have h25_ := beq_f h25
        refine qag (fun h26 => ⟨trivial, fun _ => fun _ => ⟨rfl, rfl⟩⟩) (fun h26 => ?_)
        have h26_ := beq_f h26
        refine qag (fun h27 => ⟨trivial, fun _ => fun _ => ⟨rfl, rfl⟩⟩) (fun h27 => ?_)
        have h27_ := beq_f h27
        refine qag (fun h28 => ⟨trivial, fun _ => fun _ => ⟨rfl, rfl⟩⟩) (fun h28 => ?_)
        have h28_ := beq_f h28
        refine qag (fun h29 => ⟨trivial, fun _ => fun _ => ⟨rfl, rfl⟩⟩) (fun h29 => ?_)
        have h29_ := beq_f h29
        refine qag (fun h30 => ⟨rfl, rfl⟩) (fun h30 => ?_)
        have h30_ := beq_f h30
        refine qag (fun h31 => ⟨rfl, rfl⟩) (fun h31 => ?_)
        have h31_ := beq_f h31
        refine qag (fun h32 => ⟨rfl, rfl⟩) (fun h32 => ?_)
        have h32_ := beq_f h32
        refine qag (fun h33 => ⟨rfl, rfl⟩) (fun h33 => ?_)
        have h33_ := beq_f h33
        refine qag (fun h34 => ⟨rfl, rfl⟩) (fun h34 => ?_)
        have h34_ := beq_f h34
        refine qag (fun h35 => ?_) (fun h35 => ?_)
        ·refine qag (fun h36 => ⟨rfl, rfl⟩) (fun h36 => ?_)
         exact ⟨rfl, rfl⟩
        ·have h35_ := beq_f h35
         refine qag (fun h37 => ⟨trivial, fun _ => fun _ => ⟨rfl, rfl⟩⟩) (fun h37 => ?_)
         have h37_ := beq_f h37
         refine qag (fun h38 => ?_) (fun h38 => ?_)
         ·refine qag (fun h39 => ⟨rfl, rfl⟩) (fun h39 => ?_)
          refine qag (fun h40 => ⟨rfl, rfl⟩) (fun h40 => ?_)
          exact ⟨rfl, rfl⟩
         ·have h38_ := beq_f h38
          refine qag (fun h41 => ⟨rfl, rfl⟩) (fun h41 => ?_)
          have h41_ := beq_f h41
          refine qag (fun h42 => ⟨rfl, rfl⟩) (fun h42 => ?_)
          have h42_ := beq_f h42
          refine qag (fun h43 => ⟨rfl, rfl⟩) (fun h43 => ?_)
          have h43_ := beq_f h43
          refine qag (fun h44 => ⟨trivial, fun _ => fun _ => ⟨rfl, rfl⟩⟩) (fun h44 => ?_)
          have h44_ := beq_f h44
          refine qag (fun h45 => ⟨rfl, rfl⟩) (fun h45 => ?_)
          have h45_ := beq_f h45
          refine qag (fun h46 => ⟨rfl, rfl⟩) (fun h46 => ?_)
          have h46_ := beq_f h46
          refine qag (fun h47 => ?_) (fun h47 => ?_)
          ·have h47_ := beq_t h47
           refine ⟨by first | omega | exact (hp (by assumption)) | (have g_ := hp (by assumption); omega) | assumption | exact hp.1 | exact hp.2 | exact hp.2.1 | (simp_all; done) | (simp_all; omega), fun _ => ?_⟩
           exact ⟨rfl, rfl⟩
          ·refine qag (fun h48 => ?_) (fun h48 => ⟨rfl, rfl⟩)
           refine qag (fun h49 => ?_) (fun h49 => ?_)
           ·refine qag (fun h50 => ⟨rfl, rfl⟩) (fun h50 => ?_)
            have h51k : ((z in_.2.1) == (7 : Int)) = false := by rw [(beq_t h49)]; rfl
            refine qag (fun h51 => absurd (h51k.symm.trans h51) (by decide)) (fun _ => ?_)
            exact ⟨rfl, rfl⟩
           ·refine qag (fun h52 => ⟨rfl, rfl⟩) (fun h52 => ?_)
            exact ⟨rfl, rfl⟩)
theorem c_r12_result : qal E_V25 f_r12_result k_r12_result.spec := qam fun x hx hp => ⟨rfl, m_r12_result x.1 x.2.1 hx.1 hx.2.1 hp⟩
def opR (in_ : Den qac) (m : Den qad) (k : Int) (a : Int) (first : Int) : Bool := (cond ((z in_.1) == (16 : Int)) (cond (a == first) (cond (intP a) true (a == (5 : Int))) false) (cond ((z in_.1) == (17 : Int)) (cond (a == first) (cond (intP a) true (a == (5 : Int))) false) (cond ((z in_.1) == (18 : Int)) (cond (a == first) (wideP a) false) (cond ((z in_.1) == (19 : Int)) (cond (a == first) (wideP a) false) (cond ((z in_.1) == (20 : Int)) (cond (a == first) (wideP a) false) (cond ((z in_.1) == (21 : Int)) (cond (k == (0 : Int)) (cond (a == (1 : Int)) true (cond (decide (k > (0 : Int))) (a == (z in_.2.1)) false)) (cond (decide (k > (0 : Int))) (a == (z in_.2.1)) false)) (cond ((z in_.1) == (22 : Int)) (cond (a == (2 : Int)) (decide ((bitsZ a) < (bitsZ in_.2.1))) (cond (a == (3 : Int)) (decide ((bitsZ a) < (bitsZ in_.2.1))) false)) (cond ((z in_.1) == (23 : Int)) (cond (a == (1 : Int)) (decide ((bitsZ a) < (bitsZ in_.2.1))) (cond (a == (2 : Int)) (decide ((bitsZ a) < (bitsZ in_.2.1))) (cond (a == (3 : Int)) (decide ((bitsZ a) < (bitsZ in_.2.1))) false))) (cond ((z in_.1) == (24 : Int)) (cond (wideP a) (decide ((bitsZ a) > (bitsZ in_.2.1))) false) (cond ((z in_.1) == (27 : Int)) (cond (k == (0 : Int)) (cond (a == (5 : Int)) true (cond (k == (1 : Int)) (a == (4 : Int)) false)) (cond (k == (1 : Int)) (a == (4 : Int)) false)) (cond ((z in_.1) == (28 : Int)) (a == (5 : Int)) (cond ((z in_.1) == (29 : Int)) (cond (k == (0 : Int)) (cond (a == (5 : Int)) true (cond (k == (1 : Int)) (decide ((z ((accP a).2)) > (0 : Int))) false)) (cond (k == (1 : Int)) (decide ((z ((accP a).2)) > (0 : Int))) false)) (cond ((z in_.1) == (30 : Int)) (cond (decide ((z (gd I ((gd qab m.2.1 (((z in_.2.2.2.2.2.1)).toNat)).2.1) k.toNat)) ≥ (0 : Int))) (cond (decide ((z (gd I ((gd qab m.2.1 (((z in_.2.2.2.2.2.1)).toNat)).2.1) k.toNat)) < ((ln I ((gd qab m.2.1 (((z in_.2.2.2.2.2.1)).toNat)).2.2.2.1)) : Int))) (a == (z (gd I ((gd qab m.2.1 (((z in_.2.2.2.2.2.1)).toNat)).2.2.2.1) (((z (gd I ((gd qab m.2.1 (((z in_.2.2.2.2.2.1)).toNat)).2.1) k.toNat))).toNat)))) false) false) (cond ((z in_.1) == (31 : Int)) (typP a) (cond ((z in_.1) == (32 : Int)) (a == (3 : Int)) (cond ((z in_.1) == (33 : Int)) (cond (a == (6 : Int)) true (a == (7 : Int))) (a == (z in_.2.1))))))))))))))))))

def k_r12_operand : Con := con [.d qac, .d qad, .d I, .d I, .d I] .bool (fun x => z x.1.1 = 30 → (0 ≤ z x.1.2.2.2.2.2.1 ∧ z x.1.2.2.2.2.2.1 < (ln qab x.2.1.2.1 : Nat)) ∧ 0 ≤ z x.2.2.1 ∧ z x.2.2.1 < (ln I (gd qab x.2.1.2.1 (z x.1.2.2.2.2.2.1).toNat).2.1 : Nat)) fun x => opR x.1 x.2.1 x.2.2.1 x.2.2.2.1 x.2.2.2.2.1
theorem m_r12_operand (in_ : Den qac) (m : Den qad) (k : Int) (a : Int) (first : Int) (h_in_ : okD qac in_) (h_m : okD qad m) (h_k : okD I k) (h_a : okD I a) (h_first : okD I first) (hp : z in_.1 = 30 → (0 ≤ z in_.2.2.2.2.2.1 ∧ z in_.2.2.2.2.2.1 < (ln qab m.2.1 : Nat)) ∧ 0 ≤ z k ∧ z k < (ln I (gd qab m.2.1 (z in_.2.2.2.2.2.1).toNat).2.1 : Nat)) : Runs E_V25 (start E_V25 f_r12_operand [(.tv qac in_), (.tv qad m), (vi k), (vi a), (vi first)]) (fun r_ h_ => r_ = (vb (opR in_ m k a first)) ∧ h_ = []) := .tree E_V25_ok (r12_operand_t in_ m k a first) (by
 have hp_ := hp
 try simp only [z] at hp_
 show Tre.wp (Qv _ (fun x_ => (vb x_)) (opR in_ m k a first)) _
 unfold opR
 refine ⟨trivial, fun _ => ?_⟩
 refine ⟨trivial, fun _ => ?_⟩
 refine fun _ => ?_
 refine fun _ => ?_
 refine qag (fun h1 => ?_) (fun h1 => ?_)
 ·refine qag (fun h2 => ?_) (fun h2 => ⟨rfl, rfl⟩)
  refine ⟨trivial, fun _ => ?_⟩
  refine fun _ => ?_
  refine qag (fun h3 => ⟨rfl, rfl⟩) (fun h3 => ?_)
  exact ⟨rfl, rfl⟩
 ·have h1_ := beq_f h1
  refine qag (fun h4 => ?_) (fun h4 => ?_)
  ·refine qag (fun h5 => ?_) (fun h5 => ⟨rfl, rfl⟩)
   refine ⟨trivial, fun _ => ?_⟩
   refine fun _ => ?_
   refine qag (fun h6 => ⟨rfl, rfl⟩) (fun h6 => ?_)
   exact ⟨rfl, rfl⟩
  ·have h4_ := beq_f h4
   refine qag (fun h7 => ?_) (fun h7 => ?_)
   ·refine qag (fun h8 => ⟨trivial, fun _ => fun _ => ⟨rfl, rfl⟩⟩) (fun h8 => ?_)
    exact ⟨rfl, rfl⟩
   ·have h7_ := beq_f h7
    refine qag (fun h9 => ?_) (fun h9 => ?_)
    ·refine qag (fun h10 => ⟨trivial, fun _ => fun _ => ⟨rfl, rfl⟩⟩) (fun h10 => ?_)
     exact ⟨rfl, rfl⟩
    ·have h9_ := beq_f h9
     refine qag (fun h11 => ?_) (fun h11 => ?_)
     ·refine qag (fun h12 => ⟨trivial, fun _ => fun _ => ⟨rfl, rfl⟩⟩) (fun h12 => ?_)
      exact ⟨rfl, rfl⟩
     ·have h11_ := beq_f h11
      refine qag (fun h13 => ?_) (fun h13 => ?_)
      ·refine qag (fun h14 => ?_) (fun h14 => ?_)
       ·refine qag (fun h15 => ⟨rfl, rfl⟩) (fun h15 => ?_)
        refine qag (fun h16 => ⟨rfl, rfl⟩) (fun h16 => ?_)
        exact ⟨rfl, rfl⟩
       ·refine qag (fun h17 => ⟨rfl, rfl⟩) (fun h17 => ?_)
        exact ⟨rfl, rfl⟩
      ·have h13_ := beq_f h13
       refine qag (fun h18 => ?_) (fun h18 => ?_)
       ·refine qag (fun h19 => ⟨rfl, rfl⟩) (fun h19 => ?_)
        refine qag (fun h20 => ⟨rfl, rfl⟩) (fun h20 => ?_)
        exact ⟨rfl, rfl⟩
       ·have h18_ := beq_f h18
        refine qag (fun h21 => ?_) (fun h21 => ?_)
        ·refine qag (fun h22 => ⟨rfl, rfl⟩) (fun h22 => ?_)
         refine qag (fun h23 => ⟨rfl, rfl⟩) (fun h23 => ?_)
         refine qag (fun h24 => ⟨rfl, rfl⟩) (fun h24 => ?_)
         exact ⟨rfl, rfl⟩
        ·have h21_ := beq_f h21
         refine qag (fun h25 => ?_) (fun h25 => ?_)
         ·refine ⟨trivial, fun _ => ?_⟩
          refine fun _ => ?_
          refine qag (fun h26 => ⟨rfl, rfl⟩) (fun h26 => ?_)
          exact ⟨rfl, rfl⟩
         ·have h25_ := beq_f h25
          refine qag (fun h27 => ?_) (fun h27 => ?_)
          ·refine qag (fun h28 => ?_) (fun h28 => ?_)
           ·refine qag (fun h29 => ⟨rfl, rfl⟩) (fun h29 => ?_)
            refine qag (fun h30 => ⟨rfl, rfl⟩) (fun h30 => ?_)
            exact ⟨rfl, rfl⟩
           ·refine qag (fun h31 => ⟨rfl, rfl⟩) (fun h31 => ?_)
            exact ⟨rfl, rfl⟩
          ·have h27_ := beq_f h27
           refine qag (fun h32 => ⟨rfl, rfl⟩) (fun h32 => ?_)
           have h32_ := beq_f h32
           refine qag (fun h33 => ?_) (fun h33 => ?_)
           ·refine ⟨trivial, fun _ => ?_⟩
            refine fun _ => ?_
            refine qag (fun h34 => ?_) (fun h34 => ?_)
            ·refine qag (fun h35 => ⟨rfl, rfl⟩) (fun h35 => ?_)
             refine qag (fun h36 => ⟨rfl, rfl⟩) (fun h36 => ?_)
             exact ⟨rfl, rfl⟩
            ·refine qag (fun h37 => ⟨rfl, rfl⟩) (fun h37 => ?_)
             exact ⟨rfl, rfl⟩
           ·have h33_ := beq_f h33
            refine qag (fun h38 => ?_) (fun h38 => ?_)
            ·have h38_ := beq_t h38
             refine ⟨by first | omega | exact ((hp (by assumption)).1) | (have g_ := (hp (by assumption)).1; omega) | exact ((hp (by assumption)).2) | (have g_ := (hp (by assumption)).2; omega) | exact (⟨by assumption, by assumption⟩) | (have g_ := ⟨by assumption, by assumption⟩; omega) | assumption | exact hp.1 | exact hp.2 | exact hp.2.1 | (simp_all; done) | (simp_all; omega), fun _ => ?_⟩
             refine ⟨by first | omega | exact ((hp (by assumption)).1) | (have g_ := (hp (by assumption)).1; omega) | exact ((hp (by assumption)).2) | (have g_ := (hp (by assumption)).2; omega) | exact (⟨by assumption, by assumption⟩) | (have g_ := ⟨by assumption, by assumption⟩; omega) | assumption | exact hp.1 | exact hp.2 | exact hp.2.1 | (simp_all; done) | (simp_all; omega), fun _ => ?_⟩
             refine qag (fun h39 => ?_) (fun h39 => ⟨rfl, rfl⟩)
             have h39_ := of_decide_eq_true h39
             refine qag (fun h40 => ?_) (fun h40 => ⟨rfl, rfl⟩)
             have h40_ := of_decide_eq_true h40
             refine ⟨by first | omega | exact ((hp (by assumption)).1) | (have g_ := (hp (by assumption)).1; omega) | exact ((hp (by assumption)).2) | (have g_ := (hp (by assumption)).2; omega) | exact (⟨by assumption, by assumption⟩) | (have g_ := ⟨by assumption, by assumption⟩; omega) | assumption | exact hp.1 | exact hp.2 | exact hp.2.1 | (simp_all; done) | (simp_all; omega), fun _ => ?_⟩
             exact ⟨rfl, rfl⟩
            ·refine qag (fun h41 => ⟨trivial, fun _ => fun _ => ⟨rfl, rfl⟩⟩) (fun h41 => ?_)
             refine qag (fun h42 => ⟨rfl, rfl⟩) (fun h42 => ?_)
             refine qag (fun h43 => ?_) (fun h43 => ⟨rfl, rfl⟩)
             refine qag (fun h44 => ⟨rfl, rfl⟩) (fun h44 => ?_)
             exact ⟨rfl, rfl⟩)
theorem c_r12_operand : qal E_V25 f_r12_operand k_r12_operand.spec := qam fun x hx hp => ⟨rfl, m_r12_operand x.1 x.2.1 x.2.2.1 x.2.2.2.1 x.2.2.2.2.1 hx.1 hx.2.1 hx.2.2.1 hx.2.2.2.1 hx.2.2.2.2.1 hp⟩
def L_V25 : List (FuncId × FSpec) := [(f_r12_count, k_r12_count.spec), (f_r12_result, k_r12_result.spec), (f_r12_operand, k_r12_operand.spec)] ++ L_V24
theorem L_V25_ok : ∀ x ∈ L_V25, qal (ctx []) x.1 x.2 := by
 unfold L_V25
 simp only [List.cons_append, List.nil_append, List.forall_mem_cons]
 exact ⟨c_r12_count, c_r12_result, c_r12_operand, L_V24_ok⟩
end Burn.MTT

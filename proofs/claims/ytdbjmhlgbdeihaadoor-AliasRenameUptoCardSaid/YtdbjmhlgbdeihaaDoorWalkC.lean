/- What the functions that the law reaches compute, one contract each. No conditions beyond those written. -/
import Derived.Test.YtdbjmhlgbdeihaaDoorWalkB
namespace Burn.M27N
open Go Go.BE Go.Proofs
set_option maxRecDepth 100000
set_option linter.unusedVariables false
set_option linter.unusedSimpArgs false
open Burn.Cfg Burn.Intn Burn.Ref
noncomputable abbrev E_A12 : Ctx := ctx L_A11
theorem E_A12_ok : EOK E_A12 := ctx_ok L_A11_ok
def cuts_A12 : CutL := []
def rets_A12 : FuncId → List (Option Fx)
  | _ => []
def H_A12 : Hints := { cut := cutOf cuts_A12, ret := rets_A12 }
theorem law27_works_t : run E_A12 H_A12 f_law27_works 3000 (start E_A12 f_law27_works []) = (.chk ((0 : Nat) < (1 : Nat)) (.chk ((0 : Nat) < (1 : Nat)) (.chk (smallF (⟨#[102]⟩, ([] : List (Den I)), (0 : Int), ([(5 : Int), (4 : Int), (5 : Int), (5 : Int)] : List (Den I)), ([(([] : List (Den I)), ([((25 : Int), (5 : Int), (0 : Int), ([] : List (Den I)), (0 : Int), (0 : Int), (0 : Int), false, ()), ((1 : Int), (4 : Int), (1 : Int), ([] : List (Den I)), (2 : Int), (0 : Int), (0 : Int), false, ()), ((27 : Int), (5 : Int), (2 : Int), ([(0 : Int), (1 : Int)] : List (Den I)), (0 : Int), (0 : Int), (0 : Int), false, ()), ((25 : Int), (5 : Int), (3 : Int), ([] : List (Den I)), (0 : Int), (1 : Int), (0 : Int), false, ()), ((29 : Int), (0 : Int), (-1 : Int), ([(0 : Int), (1 : Int)] : List (Den I)), (0 : Int), (0 : Int), (0 : Int), false, ()), ((29 : Int), (0 : Int), (-1 : Int), ([(2 : Int), (1 : Int)] : List (Den I)), (0 : Int), (0 : Int), (0 : Int), false, ()), ((29 : Int), (0 : Int), (-1 : Int), ([(3 : Int), (1 : Int)] : List (Den I)), (0 : Int), (0 : Int), (0 : Int), false, ())] : List (Den s_api_Instr)), ((4 : Int), ([] : List (Den I)), ([] : List (Den I)), ([] : List (Den s_api_Edge)), (0 : Int), ()), ())] : List (Den s_api_Block)), ())) (.know (okD (.sl 32 s_alias_Base) (basesF (⟨#[102]⟩, ([] : List (Den I)), (0 : Int), ([(5 : Int), (4 : Int), (5 : Int), (5 : Int)] : List (Den I)), ([(([] : List (Den I)), ([((25 : Int), (5 : Int), (0 : Int), ([] : List (Den I)), (0 : Int), (0 : Int), (0 : Int), false, ()), ((1 : Int), (4 : Int), (1 : Int), ([] : List (Den I)), (2 : Int), (0 : Int), (0 : Int), false, ()), ((27 : Int), (5 : Int), (2 : Int), ([(0 : Int), (1 : Int)] : List (Den I)), (0 : Int), (0 : Int), (0 : Int), false, ()), ((25 : Int), (5 : Int), (3 : Int), ([] : List (Den I)), (0 : Int), (1 : Int), (0 : Int), false, ()), ((29 : Int), (0 : Int), (-1 : Int), ([(0 : Int), (1 : Int)] : List (Den I)), (0 : Int), (0 : Int), (0 : Int), false, ()), ((29 : Int), (0 : Int), (-1 : Int), ([(2 : Int), (1 : Int)] : List (Den I)), (0 : Int), (0 : Int), (0 : Int), false, ()), ((29 : Int), (0 : Int), (-1 : Int), ([(3 : Int), (1 : Int)] : List (Den I)), (0 : Int), (0 : Int), (0 : Int), false, ())] : List (Den s_api_Instr)), ((4 : Int), ([] : List (Den I)), ([] : List (Den I)), ([] : List (Den s_api_Edge)), (0 : Int), ()), ())] : List (Den s_api_Block)), ()))) (cond (((ln s_alias_Base (basesF (⟨#[102]⟩, ([] : List (Den I)), (0 : Int), ([(5 : Int), (4 : Int), (5 : Int), (5 : Int)] : List (Den I)), ([(([] : List (Den I)), ([((25 : Int), (5 : Int), (0 : Int), ([] : List (Den I)), (0 : Int), (0 : Int), (0 : Int), false, ()), ((1 : Int), (4 : Int), (1 : Int), ([] : List (Den I)), (2 : Int), (0 : Int), (0 : Int), false, ()), ((27 : Int), (5 : Int), (2 : Int), ([(0 : Int), (1 : Int)] : List (Den I)), (0 : Int), (0 : Int), (0 : Int), false, ()), ((25 : Int), (5 : Int), (3 : Int), ([] : List (Den I)), (0 : Int), (1 : Int), (0 : Int), false, ()), ((29 : Int), (0 : Int), (-1 : Int), ([(0 : Int), (1 : Int)] : List (Den I)), (0 : Int), (0 : Int), (0 : Int), false, ()), ((29 : Int), (0 : Int), (-1 : Int), ([(2 : Int), (1 : Int)] : List (Den I)), (0 : Int), (0 : Int), (0 : Int), false, ()), ((29 : Int), (0 : Int), (-1 : Int), ([(3 : Int), (1 : Int)] : List (Den I)), (0 : Int), (0 : Int), (0 : Int), false, ())] : List (Den s_api_Instr)), ((4 : Int), ([] : List (Den I)), ([] : List (Den I)), ([] : List (Den s_api_Edge)), (0 : Int), ()), ())] : List (Den s_api_Block)), ()))) : Int) != (4 : Int)) (rt (vb false) []) (.chk (0 ≤ (2 : Int) ∧ (2 : Int) < (ln s_alias_Base (basesF (⟨#[102]⟩, ([] : List (Den I)), (0 : Int), ([(5 : Int), (4 : Int), (5 : Int), (5 : Int)] : List (Den I)), ([(([] : List (Den I)), ([((25 : Int), (5 : Int), (0 : Int), ([] : List (Den I)), (0 : Int), (0 : Int), (0 : Int), false, ()), ((1 : Int), (4 : Int), (1 : Int), ([] : List (Den I)), (2 : Int), (0 : Int), (0 : Int), false, ()), ((27 : Int), (5 : Int), (2 : Int), ([(0 : Int), (1 : Int)] : List (Den I)), (0 : Int), (0 : Int), (0 : Int), false, ()), ((25 : Int), (5 : Int), (3 : Int), ([] : List (Den I)), (0 : Int), (1 : Int), (0 : Int), false, ()), ((29 : Int), (0 : Int), (-1 : Int), ([(0 : Int), (1 : Int)] : List (Den I)), (0 : Int), (0 : Int), (0 : Int), false, ()), ((29 : Int), (0 : Int), (-1 : Int), ([(2 : Int), (1 : Int)] : List (Den I)), (0 : Int), (0 : Int), (0 : Int), false, ()), ((29 : Int), (0 : Int), (-1 : Int), ([(3 : Int), (1 : Int)] : List (Den I)), (0 : Int), (0 : Int), (0 : Int), false, ())] : List (Den s_api_Instr)), ((4 : Int), ([] : List (Den I)), ([] : List (Den I)), ([] : List (Den s_api_Edge)), (0 : Int), ()), ())] : List (Den s_api_Block)), ())))) (cond (!(((z ((gd s_alias_Base (basesF (⟨#[102]⟩, ([] : List (Den I)), (0 : Int), ([(5 : Int), (4 : Int), (5 : Int), (5 : Int)] : List (Den I)), ([(([] : List (Den I)), ([((25 : Int), (5 : Int), (0 : Int), ([] : List (Den I)), (0 : Int), (0 : Int), (0 : Int), false, ()), ((1 : Int), (4 : Int), (1 : Int), ([] : List (Den I)), (2 : Int), (0 : Int), (0 : Int), false, ()), ((27 : Int), (5 : Int), (2 : Int), ([(0 : Int), (1 : Int)] : List (Den I)), (0 : Int), (0 : Int), (0 : Int), false, ()), ((25 : Int), (5 : Int), (3 : Int), ([] : List (Den I)), (0 : Int), (1 : Int), (0 : Int), false, ()), ((29 : Int), (0 : Int), (-1 : Int), ([(0 : Int), (1 : Int)] : List (Den I)), (0 : Int), (0 : Int), (0 : Int), false, ()), ((29 : Int), (0 : Int), (-1 : Int), ([(2 : Int), (1 : Int)] : List (Den I)), (0 : Int), (0 : Int), (0 : Int), false, ()), ((29 : Int), (0 : Int), (-1 : Int), ([(3 : Int), (1 : Int)] : List (Den I)), (0 : Int), (0 : Int), (0 : Int), false, ())] : List (Den s_api_Instr)), ((4 : Int), ([] : List (Den I)), ([] : List (Den I)), ([] : List (Den s_api_Edge)), (0 : Int), ()), ())] : List (Den s_api_Block)), ())) (2 : Nat)).1)) == (1 : Int)) && (((z (((gd s_alias_Base (basesF (⟨#[102]⟩, ([] : List (Den I)), (0 : Int), ([(5 : Int), (4 : Int), (5 : Int), (5 : Int)] : List (Den I)), ([(([] : List (Den I)), ([((25 : Int), (5 : Int), (0 : Int), ([] : List (Den I)), (0 : Int), (0 : Int), (0 : Int), false, ()), ((1 : Int), (4 : Int), (1 : Int), ([] : List (Den I)), (2 : Int), (0 : Int), (0 : Int), false, ()), ((27 : Int), (5 : Int), (2 : Int), ([(0 : Int), (1 : Int)] : List (Den I)), (0 : Int), (0 : Int), (0 : Int), false, ()), ((25 : Int), (5 : Int), (3 : Int), ([] : List (Den I)), (0 : Int), (1 : Int), (0 : Int), false, ()), ((29 : Int), (0 : Int), (-1 : Int), ([(0 : Int), (1 : Int)] : List (Den I)), (0 : Int), (0 : Int), (0 : Int), false, ()), ((29 : Int), (0 : Int), (-1 : Int), ([(2 : Int), (1 : Int)] : List (Den I)), (0 : Int), (0 : Int), (0 : Int), false, ()), ((29 : Int), (0 : Int), (-1 : Int), ([(3 : Int), (1 : Int)] : List (Den I)), (0 : Int), (0 : Int), (0 : Int), false, ())] : List (Den s_api_Instr)), ((4 : Int), ([] : List (Den I)), ([] : List (Den I)), ([] : List (Den s_api_Edge)), (0 : Int), ()), ())] : List (Den s_api_Block)), ())) (2 : Nat)).2).1)) == (0 : Int)) && (((z ((((gd s_alias_Base (basesF (⟨#[102]⟩, ([] : List (Den I)), (0 : Int), ([(5 : Int), (4 : Int), (5 : Int), (5 : Int)] : List (Den I)), ([(([] : List (Den I)), ([((25 : Int), (5 : Int), (0 : Int), ([] : List (Den I)), (0 : Int), (0 : Int), (0 : Int), false, ()), ((1 : Int), (4 : Int), (1 : Int), ([] : List (Den I)), (2 : Int), (0 : Int), (0 : Int), false, ()), ((27 : Int), (5 : Int), (2 : Int), ([(0 : Int), (1 : Int)] : List (Den I)), (0 : Int), (0 : Int), (0 : Int), false, ()), ((25 : Int), (5 : Int), (3 : Int), ([] : List (Den I)), (0 : Int), (1 : Int), (0 : Int), false, ()), ((29 : Int), (0 : Int), (-1 : Int), ([(0 : Int), (1 : Int)] : List (Den I)), (0 : Int), (0 : Int), (0 : Int), false, ()), ((29 : Int), (0 : Int), (-1 : Int), ([(2 : Int), (1 : Int)] : List (Den I)), (0 : Int), (0 : Int), (0 : Int), false, ()), ((29 : Int), (0 : Int), (-1 : Int), ([(3 : Int), (1 : Int)] : List (Den I)), (0 : Int), (0 : Int), (0 : Int), false, ())] : List (Den s_api_Instr)), ((4 : Int), ([] : List (Den I)), ([] : List (Den I)), ([] : List (Den s_api_Edge)), (0 : Int), ()), ())] : List (Den s_api_Block)), ())) (2 : Nat)).2).2).1)) == (2 : Int)) && (((bOf (((((gd s_alias_Base (basesF (⟨#[102]⟩, ([] : List (Den I)), (0 : Int), ([(5 : Int), (4 : Int), (5 : Int), (5 : Int)] : List (Den I)), ([(([] : List (Den I)), ([((25 : Int), (5 : Int), (0 : Int), ([] : List (Den I)), (0 : Int), (0 : Int), (0 : Int), false, ()), ((1 : Int), (4 : Int), (1 : Int), ([] : List (Den I)), (2 : Int), (0 : Int), (0 : Int), false, ()), ((27 : Int), (5 : Int), (2 : Int), ([(0 : Int), (1 : Int)] : List (Den I)), (0 : Int), (0 : Int), (0 : Int), false, ()), ((25 : Int), (5 : Int), (3 : Int), ([] : List (Den I)), (0 : Int), (1 : Int), (0 : Int), false, ()), ((29 : Int), (0 : Int), (-1 : Int), ([(0 : Int), (1 : Int)] : List (Den I)), (0 : Int), (0 : Int), (0 : Int), false, ()), ((29 : Int), (0 : Int), (-1 : Int), ([(2 : Int), (1 : Int)] : List (Den I)), (0 : Int), (0 : Int), (0 : Int), false, ()), ((29 : Int), (0 : Int), (-1 : Int), ([(3 : Int), (1 : Int)] : List (Den I)), (0 : Int), (0 : Int), (0 : Int), false, ())] : List (Den s_api_Instr)), ((4 : Int), ([] : List (Den I)), ([] : List (Den I)), ([] : List (Den s_api_Edge)), (0 : Int), ()), ())] : List (Den s_api_Block)), ())) (2 : Nat)).2).2).2).1)) == true) && true))))) (rt (vb false) []) (.chk ((0 : Nat) < (1 : Nat)) (.chk (0 ≤ (0 : Int) ∧ (0 : Int) < (ln s_alias_Base (basesF (⟨#[102]⟩, ([] : List (Den I)), (0 : Int), ([(5 : Int), (4 : Int), (5 : Int), (5 : Int)] : List (Den I)), ([(([] : List (Den I)), ([((25 : Int), (5 : Int), (0 : Int), ([] : List (Den I)), (0 : Int), (0 : Int), (0 : Int), false, ()), ((1 : Int), (4 : Int), (1 : Int), ([] : List (Den I)), (2 : Int), (0 : Int), (0 : Int), false, ()), ((27 : Int), (5 : Int), (2 : Int), ([(0 : Int), (1 : Int)] : List (Den I)), (0 : Int), (0 : Int), (0 : Int), false, ()), ((25 : Int), (5 : Int), (3 : Int), ([] : List (Den I)), (0 : Int), (1 : Int), (0 : Int), false, ()), ((29 : Int), (0 : Int), (-1 : Int), ([(0 : Int), (1 : Int)] : List (Den I)), (0 : Int), (0 : Int), (0 : Int), false, ()), ((29 : Int), (0 : Int), (-1 : Int), ([(2 : Int), (1 : Int)] : List (Den I)), (0 : Int), (0 : Int), (0 : Int), false, ()), ((29 : Int), (0 : Int), (-1 : Int), ([(3 : Int), (1 : Int)] : List (Den I)), (0 : Int), (0 : Int), (0 : Int), false, ())] : List (Den s_api_Instr)), ((4 : Int), ([] : List (Den I)), ([] : List (Den I)), ([] : List (Den s_api_Edge)), (0 : Int), ()), ())] : List (Den s_api_Block)), ())))) (.chk (0 ≤ (2 : Int) ∧ (2 : Int) < (ln s_alias_Base (basesF (⟨#[102]⟩, ([] : List (Den I)), (0 : Int), ([(5 : Int), (4 : Int), (5 : Int), (5 : Int)] : List (Den I)), ([(([] : List (Den I)), ([((25 : Int), (5 : Int), (0 : Int), ([] : List (Den I)), (0 : Int), (0 : Int), (0 : Int), false, ()), ((1 : Int), (4 : Int), (1 : Int), ([] : List (Den I)), (2 : Int), (0 : Int), (0 : Int), false, ()), ((27 : Int), (5 : Int), (2 : Int), ([(0 : Int), (1 : Int)] : List (Den I)), (0 : Int), (0 : Int), (0 : Int), false, ()), ((25 : Int), (5 : Int), (3 : Int), ([] : List (Den I)), (0 : Int), (1 : Int), (0 : Int), false, ()), ((29 : Int), (0 : Int), (-1 : Int), ([(0 : Int), (1 : Int)] : List (Den I)), (0 : Int), (0 : Int), (0 : Int), false, ()), ((29 : Int), (0 : Int), (-1 : Int), ([(2 : Int), (1 : Int)] : List (Den I)), (0 : Int), (0 : Int), (0 : Int), false, ()), ((29 : Int), (0 : Int), (-1 : Int), ([(3 : Int), (1 : Int)] : List (Den I)), (0 : Int), (0 : Int), (0 : Int), false, ())] : List (Den s_api_Instr)), ((4 : Int), ([] : List (Den I)), ([] : List (Den I)), ([] : List (Den s_api_Edge)), (0 : Int), ()), ())] : List (Den s_api_Block)), ())))) (.chk (preR (gd s_alias_Base (basesF (⟨#[102]⟩, ([] : List (Den I)), (0 : Int), ([(5 : Int), (4 : Int), (5 : Int), (5 : Int)] : List (Den I)), ([(([] : List (Den I)), ([((25 : Int), (5 : Int), (0 : Int), ([] : List (Den I)), (0 : Int), (0 : Int), (0 : Int), false, ()), ((1 : Int), (4 : Int), (1 : Int), ([] : List (Den I)), (2 : Int), (0 : Int), (0 : Int), false, ()), ((27 : Int), (5 : Int), (2 : Int), ([(0 : Int), (1 : Int)] : List (Den I)), (0 : Int), (0 : Int), (0 : Int), false, ()), ((25 : Int), (5 : Int), (3 : Int), ([] : List (Den I)), (0 : Int), (1 : Int), (0 : Int), false, ()), ((29 : Int), (0 : Int), (-1 : Int), ([(0 : Int), (1 : Int)] : List (Den I)), (0 : Int), (0 : Int), (0 : Int), false, ()), ((29 : Int), (0 : Int), (-1 : Int), ([(2 : Int), (1 : Int)] : List (Den I)), (0 : Int), (0 : Int), (0 : Int), false, ()), ((29 : Int), (0 : Int), (-1 : Int), ([(3 : Int), (1 : Int)] : List (Den I)), (0 : Int), (0 : Int), (0 : Int), false, ())] : List (Den s_api_Instr)), ((4 : Int), ([] : List (Den I)), ([] : List (Den I)), ([] : List (Den s_api_Edge)), (0 : Int), ()), ())] : List (Den s_api_Block)), ())) (0 : Nat)) (gd s_alias_Base (basesF (⟨#[102]⟩, ([] : List (Den I)), (0 : Int), ([(5 : Int), (4 : Int), (5 : Int), (5 : Int)] : List (Den I)), ([(([] : List (Den I)), ([((25 : Int), (5 : Int), (0 : Int), ([] : List (Den I)), (0 : Int), (0 : Int), (0 : Int), false, ()), ((1 : Int), (4 : Int), (1 : Int), ([] : List (Den I)), (2 : Int), (0 : Int), (0 : Int), false, ()), ((27 : Int), (5 : Int), (2 : Int), ([(0 : Int), (1 : Int)] : List (Den I)), (0 : Int), (0 : Int), (0 : Int), false, ()), ((25 : Int), (5 : Int), (3 : Int), ([] : List (Den I)), (0 : Int), (1 : Int), (0 : Int), false, ()), ((29 : Int), (0 : Int), (-1 : Int), ([(0 : Int), (1 : Int)] : List (Den I)), (0 : Int), (0 : Int), (0 : Int), false, ()), ((29 : Int), (0 : Int), (-1 : Int), ([(2 : Int), (1 : Int)] : List (Den I)), (0 : Int), (0 : Int), (0 : Int), false, ()), ((29 : Int), (0 : Int), (-1 : Int), ([(3 : Int), (1 : Int)] : List (Den I)), (0 : Int), (0 : Int), (0 : Int), false, ())] : List (Den s_api_Instr)), ((4 : Int), ([] : List (Den I)), ([] : List (Den I)), ([] : List (Den s_api_Edge)), (0 : Int), ()), ())] : List (Den s_api_Block)), ())) (2 : Nat))) (cond ((relP (⟨#[102]⟩, ([] : List (Den I)), (0 : Int), ([(5 : Int), (4 : Int), (5 : Int), (5 : Int)] : List (Den I)), ([(([] : List (Den I)), ([((25 : Int), (5 : Int), (0 : Int), ([] : List (Den I)), (0 : Int), (0 : Int), (0 : Int), false, ()), ((1 : Int), (4 : Int), (1 : Int), ([] : List (Den I)), (2 : Int), (0 : Int), (0 : Int), false, ()), ((27 : Int), (5 : Int), (2 : Int), ([(0 : Int), (1 : Int)] : List (Den I)), (0 : Int), (0 : Int), (0 : Int), false, ()), ((25 : Int), (5 : Int), (3 : Int), ([] : List (Den I)), (0 : Int), (1 : Int), (0 : Int), false, ()), ((29 : Int), (0 : Int), (-1 : Int), ([(0 : Int), (1 : Int)] : List (Den I)), (0 : Int), (0 : Int), (0 : Int), false, ()), ((29 : Int), (0 : Int), (-1 : Int), ([(2 : Int), (1 : Int)] : List (Den I)), (0 : Int), (0 : Int), (0 : Int), false, ()), ((29 : Int), (0 : Int), (-1 : Int), ([(3 : Int), (1 : Int)] : List (Den I)), (0 : Int), (0 : Int), (0 : Int), false, ())] : List (Den s_api_Instr)), ((4 : Int), ([] : List (Den I)), ([] : List (Den I)), ([] : List (Den s_api_Edge)), (0 : Int), ()), ())] : List (Den s_api_Block)), ()) (gd s_alias_Base (basesF (⟨#[102]⟩, ([] : List (Den I)), (0 : Int), ([(5 : Int), (4 : Int), (5 : Int), (5 : Int)] : List (Den I)), ([(([] : List (Den I)), ([((25 : Int), (5 : Int), (0 : Int), ([] : List (Den I)), (0 : Int), (0 : Int), (0 : Int), false, ()), ((1 : Int), (4 : Int), (1 : Int), ([] : List (Den I)), (2 : Int), (0 : Int), (0 : Int), false, ()), ((27 : Int), (5 : Int), (2 : Int), ([(0 : Int), (1 : Int)] : List (Den I)), (0 : Int), (0 : Int), (0 : Int), false, ()), ((25 : Int), (5 : Int), (3 : Int), ([] : List (Den I)), (0 : Int), (1 : Int), (0 : Int), false, ()), ((29 : Int), (0 : Int), (-1 : Int), ([(0 : Int), (1 : Int)] : List (Den I)), (0 : Int), (0 : Int), (0 : Int), false, ()), ((29 : Int), (0 : Int), (-1 : Int), ([(2 : Int), (1 : Int)] : List (Den I)), (0 : Int), (0 : Int), (0 : Int), false, ()), ((29 : Int), (0 : Int), (-1 : Int), ([(3 : Int), (1 : Int)] : List (Den I)), (0 : Int), (0 : Int), (0 : Int), false, ())] : List (Den s_api_Instr)), ((4 : Int), ([] : List (Den I)), ([] : List (Den I)), ([] : List (Den s_api_Edge)), (0 : Int), ()), ())] : List (Den s_api_Block)), ())) (0 : Nat)) (gd s_alias_Base (basesF (⟨#[102]⟩, ([] : List (Den I)), (0 : Int), ([(5 : Int), (4 : Int), (5 : Int), (5 : Int)] : List (Den I)), ([(([] : List (Den I)), ([((25 : Int), (5 : Int), (0 : Int), ([] : List (Den I)), (0 : Int), (0 : Int), (0 : Int), false, ()), ((1 : Int), (4 : Int), (1 : Int), ([] : List (Den I)), (2 : Int), (0 : Int), (0 : Int), false, ()), ((27 : Int), (5 : Int), (2 : Int), ([(0 : Int), (1 : Int)] : List (Den I)), (0 : Int), (0 : Int), (0 : Int), false, ()), ((25 : Int), (5 : Int), (3 : Int), ([] : List (Den I)), (0 : Int), (1 : Int), (0 : Int), false, ()), ((29 : Int), (0 : Int), (-1 : Int), ([(0 : Int), (1 : Int)] : List (Den I)), (0 : Int), (0 : Int), (0 : Int), false, ()), ((29 : Int), (0 : Int), (-1 : Int), ([(2 : Int), (1 : Int)] : List (Den I)), (0 : Int), (0 : Int), (0 : Int), false, ()), ((29 : Int), (0 : Int), (-1 : Int), ([(3 : Int), (1 : Int)] : List (Den I)), (0 : Int), (0 : Int), (0 : Int), false, ())] : List (Den s_api_Instr)), ((4 : Int), ([] : List (Den I)), ([] : List (Den I)), ([] : List (Den s_api_Edge)), (0 : Int), ()), ())] : List (Den s_api_Block)), ())) (2 : Nat)) (1 : Int) (1 : Int)) == (1 : Int)) (.chk ((0 : Nat) < (1 : Nat)) (.chk (0 ≤ (0 : Int) ∧ (0 : Int) < (ln s_alias_Base (basesF (⟨#[102]⟩, ([] : List (Den I)), (0 : Int), ([(5 : Int), (4 : Int), (5 : Int), (5 : Int)] : List (Den I)), ([(([] : List (Den I)), ([((25 : Int), (5 : Int), (0 : Int), ([] : List (Den I)), (0 : Int), (0 : Int), (0 : Int), false, ()), ((1 : Int), (4 : Int), (1 : Int), ([] : List (Den I)), (2 : Int), (0 : Int), (0 : Int), false, ()), ((27 : Int), (5 : Int), (2 : Int), ([(0 : Int), (1 : Int)] : List (Den I)), (0 : Int), (0 : Int), (0 : Int), false, ()), ((25 : Int), (5 : Int), (3 : Int), ([] : List (Den I)), (0 : Int), (1 : Int), (0 : Int), false, ()), ((29 : Int), (0 : Int), (-1 : Int), ([(0 : Int), (1 : Int)] : List (Den I)), (0 : Int), (0 : Int), (0 : Int), false, ()), ((29 : Int), (0 : Int), (-1 : Int), ([(2 : Int), (1 : Int)] : List (Den I)), (0 : Int), (0 : Int), (0 : Int), false, ()), ((29 : Int), (0 : Int), (-1 : Int), ([(3 : Int), (1 : Int)] : List (Den I)), (0 : Int), (0 : Int), (0 : Int), false, ())] : List (Den s_api_Instr)), ((4 : Int), ([] : List (Den I)), ([] : List (Den I)), ([] : List (Den s_api_Edge)), (0 : Int), ()), ())] : List (Den s_api_Block)), ())))) (.chk (0 ≤ (2 : Int) ∧ (2 : Int) < (ln s_alias_Base (basesF (⟨#[102]⟩, ([] : List (Den I)), (0 : Int), ([(5 : Int), (4 : Int), (5 : Int), (5 : Int)] : List (Den I)), ([(([] : List (Den I)), ([((25 : Int), (5 : Int), (0 : Int), ([] : List (Den I)), (0 : Int), (0 : Int), (0 : Int), false, ()), ((1 : Int), (4 : Int), (1 : Int), ([] : List (Den I)), (2 : Int), (0 : Int), (0 : Int), false, ()), ((27 : Int), (5 : Int), (2 : Int), ([(0 : Int), (1 : Int)] : List (Den I)), (0 : Int), (0 : Int), (0 : Int), false, ()), ((25 : Int), (5 : Int), (3 : Int), ([] : List (Den I)), (0 : Int), (1 : Int), (0 : Int), false, ()), ((29 : Int), (0 : Int), (-1 : Int), ([(0 : Int), (1 : Int)] : List (Den I)), (0 : Int), (0 : Int), (0 : Int), false, ()), ((29 : Int), (0 : Int), (-1 : Int), ([(2 : Int), (1 : Int)] : List (Den I)), (0 : Int), (0 : Int), (0 : Int), false, ()), ((29 : Int), (0 : Int), (-1 : Int), ([(3 : Int), (1 : Int)] : List (Den I)), (0 : Int), (0 : Int), (0 : Int), false, ())] : List (Den s_api_Instr)), ((4 : Int), ([] : List (Den I)), ([] : List (Den I)), ([] : List (Den s_api_Edge)), (0 : Int), ()), ())] : List (Den s_api_Block)), ())))) (.chk (preR (gd s_alias_Base (basesF (⟨#[102]⟩, ([] : List (Den I)), (0 : Int), ([(5 : Int), (4 : Int), (5 : Int), (5 : Int)] : List (Den I)), ([(([] : List (Den I)), ([((25 : Int), (5 : Int), (0 : Int), ([] : List (Den I)), (0 : Int), (0 : Int), (0 : Int), false, ()), ((1 : Int), (4 : Int), (1 : Int), ([] : List (Den I)), (2 : Int), (0 : Int), (0 : Int), false, ()), ((27 : Int), (5 : Int), (2 : Int), ([(0 : Int), (1 : Int)] : List (Den I)), (0 : Int), (0 : Int), (0 : Int), false, ()), ((25 : Int), (5 : Int), (3 : Int), ([] : List (Den I)), (0 : Int), (1 : Int), (0 : Int), false, ()), ((29 : Int), (0 : Int), (-1 : Int), ([(0 : Int), (1 : Int)] : List (Den I)), (0 : Int), (0 : Int), (0 : Int), false, ()), ((29 : Int), (0 : Int), (-1 : Int), ([(2 : Int), (1 : Int)] : List (Den I)), (0 : Int), (0 : Int), (0 : Int), false, ()), ((29 : Int), (0 : Int), (-1 : Int), ([(3 : Int), (1 : Int)] : List (Den I)), (0 : Int), (0 : Int), (0 : Int), false, ())] : List (Den s_api_Instr)), ((4 : Int), ([] : List (Den I)), ([] : List (Den I)), ([] : List (Den s_api_Edge)), (0 : Int), ()), ())] : List (Den s_api_Block)), ())) (0 : Nat)) (gd s_alias_Base (basesF (⟨#[102]⟩, ([] : List (Den I)), (0 : Int), ([(5 : Int), (4 : Int), (5 : Int), (5 : Int)] : List (Den I)), ([(([] : List (Den I)), ([((25 : Int), (5 : Int), (0 : Int), ([] : List (Den I)), (0 : Int), (0 : Int), (0 : Int), false, ()), ((1 : Int), (4 : Int), (1 : Int), ([] : List (Den I)), (2 : Int), (0 : Int), (0 : Int), false, ()), ((27 : Int), (5 : Int), (2 : Int), ([(0 : Int), (1 : Int)] : List (Den I)), (0 : Int), (0 : Int), (0 : Int), false, ()), ((25 : Int), (5 : Int), (3 : Int), ([] : List (Den I)), (0 : Int), (1 : Int), (0 : Int), false, ()), ((29 : Int), (0 : Int), (-1 : Int), ([(0 : Int), (1 : Int)] : List (Den I)), (0 : Int), (0 : Int), (0 : Int), false, ()), ((29 : Int), (0 : Int), (-1 : Int), ([(2 : Int), (1 : Int)] : List (Den I)), (0 : Int), (0 : Int), (0 : Int), false, ()), ((29 : Int), (0 : Int), (-1 : Int), ([(3 : Int), (1 : Int)] : List (Den I)), (0 : Int), (0 : Int), (0 : Int), false, ())] : List (Den s_api_Instr)), ((4 : Int), ([] : List (Den I)), ([] : List (Den I)), ([] : List (Den s_api_Edge)), (0 : Int), ()), ())] : List (Den s_api_Block)), ())) (2 : Nat))) (cond ((relP (⟨#[102]⟩, ([] : List (Den I)), (0 : Int), ([(5 : Int), (4 : Int), (5 : Int), (5 : Int)] : List (Den I)), ([(([] : List (Den I)), ([((25 : Int), (5 : Int), (0 : Int), ([] : List (Den I)), (0 : Int), (0 : Int), (0 : Int), false, ()), ((1 : Int), (4 : Int), (1 : Int), ([] : List (Den I)), (2 : Int), (0 : Int), (0 : Int), false, ()), ((27 : Int), (5 : Int), (2 : Int), ([(0 : Int), (1 : Int)] : List (Den I)), (0 : Int), (0 : Int), (0 : Int), false, ()), ((25 : Int), (5 : Int), (3 : Int), ([] : List (Den I)), (0 : Int), (1 : Int), (0 : Int), false, ()), ((29 : Int), (0 : Int), (-1 : Int), ([(0 : Int), (1 : Int)] : List (Den I)), (0 : Int), (0 : Int), (0 : Int), false, ()), ((29 : Int), (0 : Int), (-1 : Int), ([(2 : Int), (1 : Int)] : List (Den I)), (0 : Int), (0 : Int), (0 : Int), false, ()), ((29 : Int), (0 : Int), (-1 : Int), ([(3 : Int), (1 : Int)] : List (Den I)), (0 : Int), (0 : Int), (0 : Int), false, ())] : List (Den s_api_Instr)), ((4 : Int), ([] : List (Den I)), ([] : List (Den I)), ([] : List (Den s_api_Edge)), (0 : Int), ()), ())] : List (Den s_api_Block)), ()) (gd s_alias_Base (basesF (⟨#[102]⟩, ([] : List (Den I)), (0 : Int), ([(5 : Int), (4 : Int), (5 : Int), (5 : Int)] : List (Den I)), ([(([] : List (Den I)), ([((25 : Int), (5 : Int), (0 : Int), ([] : List (Den I)), (0 : Int), (0 : Int), (0 : Int), false, ()), ((1 : Int), (4 : Int), (1 : Int), ([] : List (Den I)), (2 : Int), (0 : Int), (0 : Int), false, ()), ((27 : Int), (5 : Int), (2 : Int), ([(0 : Int), (1 : Int)] : List (Den I)), (0 : Int), (0 : Int), (0 : Int), false, ()), ((25 : Int), (5 : Int), (3 : Int), ([] : List (Den I)), (0 : Int), (1 : Int), (0 : Int), false, ()), ((29 : Int), (0 : Int), (-1 : Int), ([(0 : Int), (1 : Int)] : List (Den I)), (0 : Int), (0 : Int), (0 : Int), false, ()), ((29 : Int), (0 : Int), (-1 : Int), ([(2 : Int), (1 : Int)] : List (Den I)), (0 : Int), (0 : Int), (0 : Int), false, ()), ((29 : Int), (0 : Int), (-1 : Int), ([(3 : Int), (1 : Int)] : List (Den I)), (0 : Int), (0 : Int), (0 : Int), false, ())] : List (Den s_api_Instr)), ((4 : Int), ([] : List (Den I)), ([] : List (Den I)), ([] : List (Den s_api_Edge)), (0 : Int), ()), ())] : List (Den s_api_Block)), ())) (0 : Nat)) (gd s_alias_Base (basesF (⟨#[102]⟩, ([] : List (Den I)), (0 : Int), ([(5 : Int), (4 : Int), (5 : Int), (5 : Int)] : List (Den I)), ([(([] : List (Den I)), ([((25 : Int), (5 : Int), (0 : Int), ([] : List (Den I)), (0 : Int), (0 : Int), (0 : Int), false, ()), ((1 : Int), (4 : Int), (1 : Int), ([] : List (Den I)), (2 : Int), (0 : Int), (0 : Int), false, ()), ((27 : Int), (5 : Int), (2 : Int), ([(0 : Int), (1 : Int)] : List (Den I)), (0 : Int), (0 : Int), (0 : Int), false, ()), ((25 : Int), (5 : Int), (3 : Int), ([] : List (Den I)), (0 : Int), (1 : Int), (0 : Int), false, ()), ((29 : Int), (0 : Int), (-1 : Int), ([(0 : Int), (1 : Int)] : List (Den I)), (0 : Int), (0 : Int), (0 : Int), false, ()), ((29 : Int), (0 : Int), (-1 : Int), ([(2 : Int), (1 : Int)] : List (Den I)), (0 : Int), (0 : Int), (0 : Int), false, ()), ((29 : Int), (0 : Int), (-1 : Int), ([(3 : Int), (1 : Int)] : List (Den I)), (0 : Int), (0 : Int), (0 : Int), false, ())] : List (Den s_api_Instr)), ((4 : Int), ([] : List (Den I)), ([] : List (Den I)), ([] : List (Den s_api_Edge)), (0 : Int), ()), ())] : List (Den s_api_Block)), ())) (2 : Nat)) (4 : Int) (1 : Int)) == (2 : Int)) (.chk ((0 : Nat) < (1 : Nat)) (.chk (preQ (⟨#[102]⟩, ([] : List (Den I)), (0 : Int), ([(5 : Int), (4 : Int), (5 : Int), (5 : Int)] : List (Den I)), ([(([] : List (Den I)), ([((25 : Int), (5 : Int), (0 : Int), ([] : List (Den I)), (0 : Int), (0 : Int), (0 : Int), false, ()), ((1 : Int), (4 : Int), (1 : Int), ([] : List (Den I)), (2 : Int), (0 : Int), (0 : Int), false, ()), ((27 : Int), (5 : Int), (2 : Int), ([(0 : Int), (1 : Int)] : List (Den I)), (0 : Int), (0 : Int), (0 : Int), false, ()), ((25 : Int), (5 : Int), (3 : Int), ([] : List (Den I)), (0 : Int), (1 : Int), (0 : Int), false, ()), ((29 : Int), (0 : Int), (-1 : Int), ([(0 : Int), (1 : Int)] : List (Den I)), (0 : Int), (0 : Int), (0 : Int), false, ()), ((29 : Int), (0 : Int), (-1 : Int), ([(2 : Int), (1 : Int)] : List (Den I)), (0 : Int), (0 : Int), (0 : Int), false, ()), ((29 : Int), (0 : Int), (-1 : Int), ([(3 : Int), (1 : Int)] : List (Den I)), (0 : Int), (0 : Int), (0 : Int), false, ())] : List (Den s_api_Instr)), ((4 : Int), ([] : List (Den I)), ([] : List (Den I)), ([] : List (Den s_api_Edge)), (0 : Int), ()), ())] : List (Den s_api_Block)), ()) ((0 : Int), (5 : Int), ()) ((0 : Int), (5 : Int), ())) (cond ((qryP (⟨#[102]⟩, ([] : List (Den I)), (0 : Int), ([(5 : Int), (4 : Int), (5 : Int), (5 : Int)] : List (Den I)), ([(([] : List (Den I)), ([((25 : Int), (5 : Int), (0 : Int), ([] : List (Den I)), (0 : Int), (0 : Int), (0 : Int), false, ()), ((1 : Int), (4 : Int), (1 : Int), ([] : List (Den I)), (2 : Int), (0 : Int), (0 : Int), false, ()), ((27 : Int), (5 : Int), (2 : Int), ([(0 : Int), (1 : Int)] : List (Den I)), (0 : Int), (0 : Int), (0 : Int), false, ()), ((25 : Int), (5 : Int), (3 : Int), ([] : List (Den I)), (0 : Int), (1 : Int), (0 : Int), false, ()), ((29 : Int), (0 : Int), (-1 : Int), ([(0 : Int), (1 : Int)] : List (Den I)), (0 : Int), (0 : Int), (0 : Int), false, ()), ((29 : Int), (0 : Int), (-1 : Int), ([(2 : Int), (1 : Int)] : List (Den I)), (0 : Int), (0 : Int), (0 : Int), false, ()), ((29 : Int), (0 : Int), (-1 : Int), ([(3 : Int), (1 : Int)] : List (Den I)), (0 : Int), (0 : Int), (0 : Int), false, ())] : List (Den s_api_Instr)), ((4 : Int), ([] : List (Den I)), ([] : List (Den I)), ([] : List (Den s_api_Edge)), (0 : Int), ()), ())] : List (Den s_api_Block)), ()) ((0 : Int), (5 : Int), ()) ((0 : Int), (5 : Int), ())) == (3 : Int)) (.chk ((0 : Nat) < (1 : Nat)) (.chk (preQ (⟨#[102]⟩, ([] : List (Den I)), (0 : Int), ([(5 : Int), (4 : Int), (5 : Int), (5 : Int)] : List (Den I)), ([(([] : List (Den I)), ([((25 : Int), (5 : Int), (0 : Int), ([] : List (Den I)), (0 : Int), (0 : Int), (0 : Int), false, ()), ((1 : Int), (4 : Int), (1 : Int), ([] : List (Den I)), (2 : Int), (0 : Int), (0 : Int), false, ()), ((27 : Int), (5 : Int), (2 : Int), ([(0 : Int), (1 : Int)] : List (Den I)), (0 : Int), (0 : Int), (0 : Int), false, ()), ((25 : Int), (5 : Int), (3 : Int), ([] : List (Den I)), (0 : Int), (1 : Int), (0 : Int), false, ()), ((29 : Int), (0 : Int), (-1 : Int), ([(0 : Int), (1 : Int)] : List (Den I)), (0 : Int), (0 : Int), (0 : Int), false, ()), ((29 : Int), (0 : Int), (-1 : Int), ([(2 : Int), (1 : Int)] : List (Den I)), (0 : Int), (0 : Int), (0 : Int), false, ()), ((29 : Int), (0 : Int), (-1 : Int), ([(3 : Int), (1 : Int)] : List (Den I)), (0 : Int), (0 : Int), (0 : Int), false, ())] : List (Den s_api_Instr)), ((4 : Int), ([] : List (Den I)), ([] : List (Den I)), ([] : List (Den s_api_Edge)), (0 : Int), ()), ())] : List (Den s_api_Block)), ()) ((0 : Int), (5 : Int), ()) ((0 : Int), (6 : Int), ())) (cond ((qryP (⟨#[102]⟩, ([] : List (Den I)), (0 : Int), ([(5 : Int), (4 : Int), (5 : Int), (5 : Int)] : List (Den I)), ([(([] : List (Den I)), ([((25 : Int), (5 : Int), (0 : Int), ([] : List (Den I)), (0 : Int), (0 : Int), (0 : Int), false, ()), ((1 : Int), (4 : Int), (1 : Int), ([] : List (Den I)), (2 : Int), (0 : Int), (0 : Int), false, ()), ((27 : Int), (5 : Int), (2 : Int), ([(0 : Int), (1 : Int)] : List (Den I)), (0 : Int), (0 : Int), (0 : Int), false, ()), ((25 : Int), (5 : Int), (3 : Int), ([] : List (Den I)), (0 : Int), (1 : Int), (0 : Int), false, ()), ((29 : Int), (0 : Int), (-1 : Int), ([(0 : Int), (1 : Int)] : List (Den I)), (0 : Int), (0 : Int), (0 : Int), false, ()), ((29 : Int), (0 : Int), (-1 : Int), ([(2 : Int), (1 : Int)] : List (Den I)), (0 : Int), (0 : Int), (0 : Int), false, ()), ((29 : Int), (0 : Int), (-1 : Int), ([(3 : Int), (1 : Int)] : List (Den I)), (0 : Int), (0 : Int), (0 : Int), false, ())] : List (Den s_api_Instr)), ((4 : Int), ([] : List (Den I)), ([] : List (Den I)), ([] : List (Den s_api_Edge)), (0 : Int), ()), ())] : List (Den s_api_Block)), ()) ((0 : Int), (5 : Int), ()) ((0 : Int), (6 : Int), ())) == (1 : Int)) (.chk ((0 : Nat) < (1 : Nat)) (.chk (preQ (⟨#[102]⟩, ([] : List (Den I)), (0 : Int), ([(5 : Int), (4 : Int), (5 : Int), (5 : Int)] : List (Den I)), ([(([] : List (Den I)), ([((25 : Int), (5 : Int), (0 : Int), ([] : List (Den I)), (0 : Int), (0 : Int), (0 : Int), false, ()), ((1 : Int), (4 : Int), (1 : Int), ([] : List (Den I)), (2 : Int), (0 : Int), (0 : Int), false, ()), ((27 : Int), (5 : Int), (2 : Int), ([(0 : Int), (1 : Int)] : List (Den I)), (0 : Int), (0 : Int), (0 : Int), false, ()), ((25 : Int), (5 : Int), (3 : Int), ([] : List (Den I)), (0 : Int), (1 : Int), (0 : Int), false, ()), ((29 : Int), (0 : Int), (-1 : Int), ([(0 : Int), (1 : Int)] : List (Den I)), (0 : Int), (0 : Int), (0 : Int), false, ()), ((29 : Int), (0 : Int), (-1 : Int), ([(2 : Int), (1 : Int)] : List (Den I)), (0 : Int), (0 : Int), (0 : Int), false, ()), ((29 : Int), (0 : Int), (-1 : Int), ([(3 : Int), (1 : Int)] : List (Den I)), (0 : Int), (0 : Int), (0 : Int), false, ())] : List (Den s_api_Instr)), ((4 : Int), ([] : List (Den I)), ([] : List (Den I)), ([] : List (Den s_api_Edge)), (0 : Int), ()), ())] : List (Den s_api_Block)), ()) ((0 : Int), (0 : Int), ()) ((0 : Int), (6 : Int), ())) (.know (okD (.int .i64) (relP (⟨#[102]⟩, ([] : List (Den I)), (0 : Int), ([(5 : Int), (4 : Int), (5 : Int), (5 : Int)] : List (Den I)), ([(([] : List (Den I)), ([((25 : Int), (5 : Int), (0 : Int), ([] : List (Den I)), (0 : Int), (0 : Int), (0 : Int), false, ()), ((1 : Int), (4 : Int), (1 : Int), ([] : List (Den I)), (2 : Int), (0 : Int), (0 : Int), false, ()), ((27 : Int), (5 : Int), (2 : Int), ([(0 : Int), (1 : Int)] : List (Den I)), (0 : Int), (0 : Int), (0 : Int), false, ()), ((25 : Int), (5 : Int), (3 : Int), ([] : List (Den I)), (0 : Int), (1 : Int), (0 : Int), false, ()), ((29 : Int), (0 : Int), (-1 : Int), ([(0 : Int), (1 : Int)] : List (Den I)), (0 : Int), (0 : Int), (0 : Int), false, ()), ((29 : Int), (0 : Int), (-1 : Int), ([(2 : Int), (1 : Int)] : List (Den I)), (0 : Int), (0 : Int), (0 : Int), false, ()), ((29 : Int), (0 : Int), (-1 : Int), ([(3 : Int), (1 : Int)] : List (Den I)), (0 : Int), (0 : Int), (0 : Int), false, ())] : List (Den s_api_Instr)), ((4 : Int), ([] : List (Den I)), ([] : List (Den I)), ([] : List (Den s_api_Edge)), (0 : Int), ()), ())] : List (Den s_api_Block)), ()) (gd s_alias_Base (basesF (⟨#[102]⟩, ([] : List (Den I)), (0 : Int), ([(5 : Int), (4 : Int), (5 : Int), (5 : Int)] : List (Den I)), ([(([] : List (Den I)), ([((25 : Int), (5 : Int), (0 : Int), ([] : List (Den I)), (0 : Int), (0 : Int), (0 : Int), false, ()), ((1 : Int), (4 : Int), (1 : Int), ([] : List (Den I)), (2 : Int), (0 : Int), (0 : Int), false, ()), ((27 : Int), (5 : Int), (2 : Int), ([(0 : Int), (1 : Int)] : List (Den I)), (0 : Int), (0 : Int), (0 : Int), false, ()), ((25 : Int), (5 : Int), (3 : Int), ([] : List (Den I)), (0 : Int), (1 : Int), (0 : Int), false, ()), ((29 : Int), (0 : Int), (-1 : Int), ([(0 : Int), (1 : Int)] : List (Den I)), (0 : Int), (0 : Int), (0 : Int), false, ()), ((29 : Int), (0 : Int), (-1 : Int), ([(2 : Int), (1 : Int)] : List (Den I)), (0 : Int), (0 : Int), (0 : Int), false, ()), ((29 : Int), (0 : Int), (-1 : Int), ([(3 : Int), (1 : Int)] : List (Den I)), (0 : Int), (0 : Int), (0 : Int), false, ())] : List (Den s_api_Instr)), ((4 : Int), ([] : List (Den I)), ([] : List (Den I)), ([] : List (Den s_api_Edge)), (0 : Int), ()), ())] : List (Den s_api_Block)), ())) (0 : Nat)) (gd s_alias_Base (basesF (⟨#[102]⟩, ([] : List (Den I)), (0 : Int), ([(5 : Int), (4 : Int), (5 : Int), (5 : Int)] : List (Den I)), ([(([] : List (Den I)), ([((25 : Int), (5 : Int), (0 : Int), ([] : List (Den I)), (0 : Int), (0 : Int), (0 : Int), false, ()), ((1 : Int), (4 : Int), (1 : Int), ([] : List (Den I)), (2 : Int), (0 : Int), (0 : Int), false, ()), ((27 : Int), (5 : Int), (2 : Int), ([(0 : Int), (1 : Int)] : List (Den I)), (0 : Int), (0 : Int), (0 : Int), false, ()), ((25 : Int), (5 : Int), (3 : Int), ([] : List (Den I)), (0 : Int), (1 : Int), (0 : Int), false, ()), ((29 : Int), (0 : Int), (-1 : Int), ([(0 : Int), (1 : Int)] : List (Den I)), (0 : Int), (0 : Int), (0 : Int), false, ()), ((29 : Int), (0 : Int), (-1 : Int), ([(2 : Int), (1 : Int)] : List (Den I)), (0 : Int), (0 : Int), (0 : Int), false, ()), ((29 : Int), (0 : Int), (-1 : Int), ([(3 : Int), (1 : Int)] : List (Den I)), (0 : Int), (0 : Int), (0 : Int), false, ())] : List (Den s_api_Instr)), ((4 : Int), ([] : List (Den I)), ([] : List (Den I)), ([] : List (Den s_api_Edge)), (0 : Int), ()), ())] : List (Den s_api_Block)), ())) (2 : Nat)) (1 : Int) (1 : Int))) (.know (okD (.int .i64) (relP (⟨#[102]⟩, ([] : List (Den I)), (0 : Int), ([(5 : Int), (4 : Int), (5 : Int), (5 : Int)] : List (Den I)), ([(([] : List (Den I)), ([((25 : Int), (5 : Int), (0 : Int), ([] : List (Den I)), (0 : Int), (0 : Int), (0 : Int), false, ()), ((1 : Int), (4 : Int), (1 : Int), ([] : List (Den I)), (2 : Int), (0 : Int), (0 : Int), false, ()), ((27 : Int), (5 : Int), (2 : Int), ([(0 : Int), (1 : Int)] : List (Den I)), (0 : Int), (0 : Int), (0 : Int), false, ()), ((25 : Int), (5 : Int), (3 : Int), ([] : List (Den I)), (0 : Int), (1 : Int), (0 : Int), false, ()), ((29 : Int), (0 : Int), (-1 : Int), ([(0 : Int), (1 : Int)] : List (Den I)), (0 : Int), (0 : Int), (0 : Int), false, ()), ((29 : Int), (0 : Int), (-1 : Int), ([(2 : Int), (1 : Int)] : List (Den I)), (0 : Int), (0 : Int), (0 : Int), false, ()), ((29 : Int), (0 : Int), (-1 : Int), ([(3 : Int), (1 : Int)] : List (Den I)), (0 : Int), (0 : Int), (0 : Int), false, ())] : List (Den s_api_Instr)), ((4 : Int), ([] : List (Den I)), ([] : List (Den I)), ([] : List (Den s_api_Edge)), (0 : Int), ()), ())] : List (Den s_api_Block)), ()) (gd s_alias_Base (basesF (⟨#[102]⟩, ([] : List (Den I)), (0 : Int), ([(5 : Int), (4 : Int), (5 : Int), (5 : Int)] : List (Den I)), ([(([] : List (Den I)), ([((25 : Int), (5 : Int), (0 : Int), ([] : List (Den I)), (0 : Int), (0 : Int), (0 : Int), false, ()), ((1 : Int), (4 : Int), (1 : Int), ([] : List (Den I)), (2 : Int), (0 : Int), (0 : Int), false, ()), ((27 : Int), (5 : Int), (2 : Int), ([(0 : Int), (1 : Int)] : List (Den I)), (0 : Int), (0 : Int), (0 : Int), false, ()), ((25 : Int), (5 : Int), (3 : Int), ([] : List (Den I)), (0 : Int), (1 : Int), (0 : Int), false, ()), ((29 : Int), (0 : Int), (-1 : Int), ([(0 : Int), (1 : Int)] : List (Den I)), (0 : Int), (0 : Int), (0 : Int), false, ()), ((29 : Int), (0 : Int), (-1 : Int), ([(2 : Int), (1 : Int)] : List (Den I)), (0 : Int), (0 : Int), (0 : Int), false, ()), ((29 : Int), (0 : Int), (-1 : Int), ([(3 : Int), (1 : Int)] : List (Den I)), (0 : Int), (0 : Int), (0 : Int), false, ())] : List (Den s_api_Instr)), ((4 : Int), ([] : List (Den I)), ([] : List (Den I)), ([] : List (Den s_api_Edge)), (0 : Int), ()), ())] : List (Den s_api_Block)), ())) (0 : Nat)) (gd s_alias_Base (basesF (⟨#[102]⟩, ([] : List (Den I)), (0 : Int), ([(5 : Int), (4 : Int), (5 : Int), (5 : Int)] : List (Den I)), ([(([] : List (Den I)), ([((25 : Int), (5 : Int), (0 : Int), ([] : List (Den I)), (0 : Int), (0 : Int), (0 : Int), false, ()), ((1 : Int), (4 : Int), (1 : Int), ([] : List (Den I)), (2 : Int), (0 : Int), (0 : Int), false, ()), ((27 : Int), (5 : Int), (2 : Int), ([(0 : Int), (1 : Int)] : List (Den I)), (0 : Int), (0 : Int), (0 : Int), false, ()), ((25 : Int), (5 : Int), (3 : Int), ([] : List (Den I)), (0 : Int), (1 : Int), (0 : Int), false, ()), ((29 : Int), (0 : Int), (-1 : Int), ([(0 : Int), (1 : Int)] : List (Den I)), (0 : Int), (0 : Int), (0 : Int), false, ()), ((29 : Int), (0 : Int), (-1 : Int), ([(2 : Int), (1 : Int)] : List (Den I)), (0 : Int), (0 : Int), (0 : Int), false, ()), ((29 : Int), (0 : Int), (-1 : Int), ([(3 : Int), (1 : Int)] : List (Den I)), (0 : Int), (0 : Int), (0 : Int), false, ())] : List (Den s_api_Instr)), ((4 : Int), ([] : List (Den I)), ([] : List (Den I)), ([] : List (Den s_api_Edge)), (0 : Int), ()), ())] : List (Den s_api_Block)), ())) (2 : Nat)) (4 : Int) (1 : Int))) (.know (okD (.int .i64) (qryP (⟨#[102]⟩, ([] : List (Den I)), (0 : Int), ([(5 : Int), (4 : Int), (5 : Int), (5 : Int)] : List (Den I)), ([(([] : List (Den I)), ([((25 : Int), (5 : Int), (0 : Int), ([] : List (Den I)), (0 : Int), (0 : Int), (0 : Int), false, ()), ((1 : Int), (4 : Int), (1 : Int), ([] : List (Den I)), (2 : Int), (0 : Int), (0 : Int), false, ()), ((27 : Int), (5 : Int), (2 : Int), ([(0 : Int), (1 : Int)] : List (Den I)), (0 : Int), (0 : Int), (0 : Int), false, ()), ((25 : Int), (5 : Int), (3 : Int), ([] : List (Den I)), (0 : Int), (1 : Int), (0 : Int), false, ()), ((29 : Int), (0 : Int), (-1 : Int), ([(0 : Int), (1 : Int)] : List (Den I)), (0 : Int), (0 : Int), (0 : Int), false, ()), ((29 : Int), (0 : Int), (-1 : Int), ([(2 : Int), (1 : Int)] : List (Den I)), (0 : Int), (0 : Int), (0 : Int), false, ()), ((29 : Int), (0 : Int), (-1 : Int), ([(3 : Int), (1 : Int)] : List (Den I)), (0 : Int), (0 : Int), (0 : Int), false, ())] : List (Den s_api_Instr)), ((4 : Int), ([] : List (Den I)), ([] : List (Den I)), ([] : List (Den s_api_Edge)), (0 : Int), ()), ())] : List (Den s_api_Block)), ()) ((0 : Int), (5 : Int), ()) ((0 : Int), (5 : Int), ()))) (.know (okD (.int .i64) (qryP (⟨#[102]⟩, ([] : List (Den I)), (0 : Int), ([(5 : Int), (4 : Int), (5 : Int), (5 : Int)] : List (Den I)), ([(([] : List (Den I)), ([((25 : Int), (5 : Int), (0 : Int), ([] : List (Den I)), (0 : Int), (0 : Int), (0 : Int), false, ()), ((1 : Int), (4 : Int), (1 : Int), ([] : List (Den I)), (2 : Int), (0 : Int), (0 : Int), false, ()), ((27 : Int), (5 : Int), (2 : Int), ([(0 : Int), (1 : Int)] : List (Den I)), (0 : Int), (0 : Int), (0 : Int), false, ()), ((25 : Int), (5 : Int), (3 : Int), ([] : List (Den I)), (0 : Int), (1 : Int), (0 : Int), false, ()), ((29 : Int), (0 : Int), (-1 : Int), ([(0 : Int), (1 : Int)] : List (Den I)), (0 : Int), (0 : Int), (0 : Int), false, ()), ((29 : Int), (0 : Int), (-1 : Int), ([(2 : Int), (1 : Int)] : List (Den I)), (0 : Int), (0 : Int), (0 : Int), false, ()), ((29 : Int), (0 : Int), (-1 : Int), ([(3 : Int), (1 : Int)] : List (Den I)), (0 : Int), (0 : Int), (0 : Int), false, ())] : List (Den s_api_Instr)), ((4 : Int), ([] : List (Den I)), ([] : List (Den I)), ([] : List (Den s_api_Edge)), (0 : Int), ()), ())] : List (Den s_api_Block)), ()) ((0 : Int), (5 : Int), ()) ((0 : Int), (6 : Int), ()))) (.know (okD (.int .i64) (qryP (⟨#[102]⟩, ([] : List (Den I)), (0 : Int), ([(5 : Int), (4 : Int), (5 : Int), (5 : Int)] : List (Den I)), ([(([] : List (Den I)), ([((25 : Int), (5 : Int), (0 : Int), ([] : List (Den I)), (0 : Int), (0 : Int), (0 : Int), false, ()), ((1 : Int), (4 : Int), (1 : Int), ([] : List (Den I)), (2 : Int), (0 : Int), (0 : Int), false, ()), ((27 : Int), (5 : Int), (2 : Int), ([(0 : Int), (1 : Int)] : List (Den I)), (0 : Int), (0 : Int), (0 : Int), false, ()), ((25 : Int), (5 : Int), (3 : Int), ([] : List (Den I)), (0 : Int), (1 : Int), (0 : Int), false, ()), ((29 : Int), (0 : Int), (-1 : Int), ([(0 : Int), (1 : Int)] : List (Den I)), (0 : Int), (0 : Int), (0 : Int), false, ()), ((29 : Int), (0 : Int), (-1 : Int), ([(2 : Int), (1 : Int)] : List (Den I)), (0 : Int), (0 : Int), (0 : Int), false, ()), ((29 : Int), (0 : Int), (-1 : Int), ([(3 : Int), (1 : Int)] : List (Den I)), (0 : Int), (0 : Int), (0 : Int), false, ())] : List (Den s_api_Instr)), ((4 : Int), ([] : List (Den I)), ([] : List (Den I)), ([] : List (Den s_api_Edge)), (0 : Int), ()), ())] : List (Den s_api_Block)), ()) ((0 : Int), (0 : Int), ()) ((0 : Int), (6 : Int), ()))) (rt (vb ((qryP (⟨#[102]⟩, ([] : List (Den I)), (0 : Int), ([(5 : Int), (4 : Int), (5 : Int), (5 : Int)] : List (Den I)), ([(([] : List (Den I)), ([((25 : Int), (5 : Int), (0 : Int), ([] : List (Den I)), (0 : Int), (0 : Int), (0 : Int), false, ()), ((1 : Int), (4 : Int), (1 : Int), ([] : List (Den I)), (2 : Int), (0 : Int), (0 : Int), false, ()), ((27 : Int), (5 : Int), (2 : Int), ([(0 : Int), (1 : Int)] : List (Den I)), (0 : Int), (0 : Int), (0 : Int), false, ()), ((25 : Int), (5 : Int), (3 : Int), ([] : List (Den I)), (0 : Int), (1 : Int), (0 : Int), false, ()), ((29 : Int), (0 : Int), (-1 : Int), ([(0 : Int), (1 : Int)] : List (Den I)), (0 : Int), (0 : Int), (0 : Int), false, ()), ((29 : Int), (0 : Int), (-1 : Int), ([(2 : Int), (1 : Int)] : List (Den I)), (0 : Int), (0 : Int), (0 : Int), false, ()), ((29 : Int), (0 : Int), (-1 : Int), ([(3 : Int), (1 : Int)] : List (Den I)), (0 : Int), (0 : Int), (0 : Int), false, ())] : List (Den s_api_Instr)), ((4 : Int), ([] : List (Den I)), ([] : List (Den I)), ([] : List (Den s_api_Edge)), (0 : Int), ()), ())] : List (Den s_api_Block)), ()) ((0 : Int), (0 : Int), ()) ((0 : Int), (6 : Int), ())) == (0 : Int))) [])))))))) (.know (okD (.int .i64) (relP (⟨#[102]⟩, ([] : List (Den I)), (0 : Int), ([(5 : Int), (4 : Int), (5 : Int), (5 : Int)] : List (Den I)), ([(([] : List (Den I)), ([((25 : Int), (5 : Int), (0 : Int), ([] : List (Den I)), (0 : Int), (0 : Int), (0 : Int), false, ()), ((1 : Int), (4 : Int), (1 : Int), ([] : List (Den I)), (2 : Int), (0 : Int), (0 : Int), false, ()), ((27 : Int), (5 : Int), (2 : Int), ([(0 : Int), (1 : Int)] : List (Den I)), (0 : Int), (0 : Int), (0 : Int), false, ()), ((25 : Int), (5 : Int), (3 : Int), ([] : List (Den I)), (0 : Int), (1 : Int), (0 : Int), false, ()), ((29 : Int), (0 : Int), (-1 : Int), ([(0 : Int), (1 : Int)] : List (Den I)), (0 : Int), (0 : Int), (0 : Int), false, ()), ((29 : Int), (0 : Int), (-1 : Int), ([(2 : Int), (1 : Int)] : List (Den I)), (0 : Int), (0 : Int), (0 : Int), false, ()), ((29 : Int), (0 : Int), (-1 : Int), ([(3 : Int), (1 : Int)] : List (Den I)), (0 : Int), (0 : Int), (0 : Int), false, ())] : List (Den s_api_Instr)), ((4 : Int), ([] : List (Den I)), ([] : List (Den I)), ([] : List (Den s_api_Edge)), (0 : Int), ()), ())] : List (Den s_api_Block)), ()) (gd s_alias_Base (basesF (⟨#[102]⟩, ([] : List (Den I)), (0 : Int), ([(5 : Int), (4 : Int), (5 : Int), (5 : Int)] : List (Den I)), ([(([] : List (Den I)), ([((25 : Int), (5 : Int), (0 : Int), ([] : List (Den I)), (0 : Int), (0 : Int), (0 : Int), false, ()), ((1 : Int), (4 : Int), (1 : Int), ([] : List (Den I)), (2 : Int), (0 : Int), (0 : Int), false, ()), ((27 : Int), (5 : Int), (2 : Int), ([(0 : Int), (1 : Int)] : List (Den I)), (0 : Int), (0 : Int), (0 : Int), false, ()), ((25 : Int), (5 : Int), (3 : Int), ([] : List (Den I)), (0 : Int), (1 : Int), (0 : Int), false, ()), ((29 : Int), (0 : Int), (-1 : Int), ([(0 : Int), (1 : Int)] : List (Den I)), (0 : Int), (0 : Int), (0 : Int), false, ()), ((29 : Int), (0 : Int), (-1 : Int), ([(2 : Int), (1 : Int)] : List (Den I)), (0 : Int), (0 : Int), (0 : Int), false, ()), ((29 : Int), (0 : Int), (-1 : Int), ([(3 : Int), (1 : Int)] : List (Den I)), (0 : Int), (0 : Int), (0 : Int), false, ())] : List (Den s_api_Instr)), ((4 : Int), ([] : List (Den I)), ([] : List (Den I)), ([] : List (Den s_api_Edge)), (0 : Int), ()), ())] : List (Den s_api_Block)), ())) (0 : Nat)) (gd s_alias_Base (basesF (⟨#[102]⟩, ([] : List (Den I)), (0 : Int), ([(5 : Int), (4 : Int), (5 : Int), (5 : Int)] : List (Den I)), ([(([] : List (Den I)), ([((25 : Int), (5 : Int), (0 : Int), ([] : List (Den I)), (0 : Int), (0 : Int), (0 : Int), false, ()), ((1 : Int), (4 : Int), (1 : Int), ([] : List (Den I)), (2 : Int), (0 : Int), (0 : Int), false, ()), ((27 : Int), (5 : Int), (2 : Int), ([(0 : Int), (1 : Int)] : List (Den I)), (0 : Int), (0 : Int), (0 : Int), false, ()), ((25 : Int), (5 : Int), (3 : Int), ([] : List (Den I)), (0 : Int), (1 : Int), (0 : Int), false, ()), ((29 : Int), (0 : Int), (-1 : Int), ([(0 : Int), (1 : Int)] : List (Den I)), (0 : Int), (0 : Int), (0 : Int), false, ()), ((29 : Int), (0 : Int), (-1 : Int), ([(2 : Int), (1 : Int)] : List (Den I)), (0 : Int), (0 : Int), (0 : Int), false, ()), ((29 : Int), (0 : Int), (-1 : Int), ([(3 : Int), (1 : Int)] : List (Den I)), (0 : Int), (0 : Int), (0 : Int), false, ())] : List (Den s_api_Instr)), ((4 : Int), ([] : List (Den I)), ([] : List (Den I)), ([] : List (Den s_api_Edge)), (0 : Int), ()), ())] : List (Den s_api_Block)), ())) (2 : Nat)) (1 : Int) (1 : Int))) (.know (okD (.int .i64) (relP (⟨#[102]⟩, ([] : List (Den I)), (0 : Int), ([(5 : Int), (4 : Int), (5 : Int), (5 : Int)] : List (Den I)), ([(([] : List (Den I)), ([((25 : Int), (5 : Int), (0 : Int), ([] : List (Den I)), (0 : Int), (0 : Int), (0 : Int), false, ()), ((1 : Int), (4 : Int), (1 : Int), ([] : List (Den I)), (2 : Int), (0 : Int), (0 : Int), false, ()), ((27 : Int), (5 : Int), (2 : Int), ([(0 : Int), (1 : Int)] : List (Den I)), (0 : Int), (0 : Int), (0 : Int), false, ()), ((25 : Int), (5 : Int), (3 : Int), ([] : List (Den I)), (0 : Int), (1 : Int), (0 : Int), false, ()), ((29 : Int), (0 : Int), (-1 : Int), ([(0 : Int), (1 : Int)] : List (Den I)), (0 : Int), (0 : Int), (0 : Int), false, ()), ((29 : Int), (0 : Int), (-1 : Int), ([(2 : Int), (1 : Int)] : List (Den I)), (0 : Int), (0 : Int), (0 : Int), false, ()), ((29 : Int), (0 : Int), (-1 : Int), ([(3 : Int), (1 : Int)] : List (Den I)), (0 : Int), (0 : Int), (0 : Int), false, ())] : List (Den s_api_Instr)), ((4 : Int), ([] : List (Den I)), ([] : List (Den I)), ([] : List (Den s_api_Edge)), (0 : Int), ()), ())] : List (Den s_api_Block)), ()) (gd s_alias_Base (basesF (⟨#[102]⟩, ([] : List (Den I)), (0 : Int), ([(5 : Int), (4 : Int), (5 : Int), (5 : Int)] : List (Den I)), ([(([] : List (Den I)), ([((25 : Int), (5 : Int), (0 : Int), ([] : List (Den I)), (0 : Int), (0 : Int), (0 : Int), false, ()), ((1 : Int), (4 : Int), (1 : Int), ([] : List (Den I)), (2 : Int), (0 : Int), (0 : Int), false, ()), ((27 : Int), (5 : Int), (2 : Int), ([(0 : Int), (1 : Int)] : List (Den I)), (0 : Int), (0 : Int), (0 : Int), false, ()), ((25 : Int), (5 : Int), (3 : Int), ([] : List (Den I)), (0 : Int), (1 : Int), (0 : Int), false, ()), ((29 : Int), (0 : Int), (-1 : Int), ([(0 : Int), (1 : Int)] : List (Den I)), (0 : Int), (0 : Int), (0 : Int), false, ()), ((29 : Int), (0 : Int), (-1 : Int), ([(2 : Int), (1 : Int)] : List (Den I)), (0 : Int), (0 : Int), (0 : Int), false, ()), ((29 : Int), (0 : Int), (-1 : Int), ([(3 : Int), (1 : Int)] : List (Den I)), (0 : Int), (0 : Int), (0 : Int), false, ())] : List (Den s_api_Instr)), ((4 : Int), ([] : List (Den I)), ([] : List (Den I)), ([] : List (Den s_api_Edge)), (0 : Int), ()), ())] : List (Den s_api_Block)), ())) (0 : Nat)) (gd s_alias_Base (basesF (⟨#[102]⟩, ([] : List (Den I)), (0 : Int), ([(5 : Int), (4 : Int), (5 : Int), (5 : Int)] : List (Den I)), ([(([] : List (Den I)), ([((25 : Int), (5 : Int), (0 : Int), ([] : List (Den I)), (0 : Int), (0 : Int), (0 : Int), false, ()), ((1 : Int), (4 : Int), (1 : Int), ([] : List (Den I)), (2 : Int), (0 : Int), (0 : Int), false, ()), ((27 : Int), (5 : Int), (2 : Int), ([(0 : Int), (1 : Int)] : List (Den I)), (0 : Int), (0 : Int), (0 : Int), false, ()), ((25 : Int), (5 : Int), (3 : Int), ([] : List (Den I)), (0 : Int), (1 : Int), (0 : Int), false, ()), ((29 : Int), (0 : Int), (-1 : Int), ([(0 : Int), (1 : Int)] : List (Den I)), (0 : Int), (0 : Int), (0 : Int), false, ()), ((29 : Int), (0 : Int), (-1 : Int), ([(2 : Int), (1 : Int)] : List (Den I)), (0 : Int), (0 : Int), (0 : Int), false, ()), ((29 : Int), (0 : Int), (-1 : Int), ([(3 : Int), (1 : Int)] : List (Den I)), (0 : Int), (0 : Int), (0 : Int), false, ())] : List (Den s_api_Instr)), ((4 : Int), ([] : List (Den I)), ([] : List (Den I)), ([] : List (Den s_api_Edge)), (0 : Int), ()), ())] : List (Den s_api_Block)), ())) (2 : Nat)) (4 : Int) (1 : Int))) (.know (okD (.int .i64) (qryP (⟨#[102]⟩, ([] : List (Den I)), (0 : Int), ([(5 : Int), (4 : Int), (5 : Int), (5 : Int)] : List (Den I)), ([(([] : List (Den I)), ([((25 : Int), (5 : Int), (0 : Int), ([] : List (Den I)), (0 : Int), (0 : Int), (0 : Int), false, ()), ((1 : Int), (4 : Int), (1 : Int), ([] : List (Den I)), (2 : Int), (0 : Int), (0 : Int), false, ()), ((27 : Int), (5 : Int), (2 : Int), ([(0 : Int), (1 : Int)] : List (Den I)), (0 : Int), (0 : Int), (0 : Int), false, ()), ((25 : Int), (5 : Int), (3 : Int), ([] : List (Den I)), (0 : Int), (1 : Int), (0 : Int), false, ()), ((29 : Int), (0 : Int), (-1 : Int), ([(0 : Int), (1 : Int)] : List (Den I)), (0 : Int), (0 : Int), (0 : Int), false, ()), ((29 : Int), (0 : Int), (-1 : Int), ([(2 : Int), (1 : Int)] : List (Den I)), (0 : Int), (0 : Int), (0 : Int), false, ()), ((29 : Int), (0 : Int), (-1 : Int), ([(3 : Int), (1 : Int)] : List (Den I)), (0 : Int), (0 : Int), (0 : Int), false, ())] : List (Den s_api_Instr)), ((4 : Int), ([] : List (Den I)), ([] : List (Den I)), ([] : List (Den s_api_Edge)), (0 : Int), ()), ())] : List (Den s_api_Block)), ()) ((0 : Int), (5 : Int), ()) ((0 : Int), (5 : Int), ()))) (.know (okD (.int .i64) (qryP (⟨#[102]⟩, ([] : List (Den I)), (0 : Int), ([(5 : Int), (4 : Int), (5 : Int), (5 : Int)] : List (Den I)), ([(([] : List (Den I)), ([((25 : Int), (5 : Int), (0 : Int), ([] : List (Den I)), (0 : Int), (0 : Int), (0 : Int), false, ()), ((1 : Int), (4 : Int), (1 : Int), ([] : List (Den I)), (2 : Int), (0 : Int), (0 : Int), false, ()), ((27 : Int), (5 : Int), (2 : Int), ([(0 : Int), (1 : Int)] : List (Den I)), (0 : Int), (0 : Int), (0 : Int), false, ()), ((25 : Int), (5 : Int), (3 : Int), ([] : List (Den I)), (0 : Int), (1 : Int), (0 : Int), false, ()), ((29 : Int), (0 : Int), (-1 : Int), ([(0 : Int), (1 : Int)] : List (Den I)), (0 : Int), (0 : Int), (0 : Int), false, ()), ((29 : Int), (0 : Int), (-1 : Int), ([(2 : Int), (1 : Int)] : List (Den I)), (0 : Int), (0 : Int), (0 : Int), false, ()), ((29 : Int), (0 : Int), (-1 : Int), ([(3 : Int), (1 : Int)] : List (Den I)), (0 : Int), (0 : Int), (0 : Int), false, ())] : List (Den s_api_Instr)), ((4 : Int), ([] : List (Den I)), ([] : List (Den I)), ([] : List (Den s_api_Edge)), (0 : Int), ()), ())] : List (Den s_api_Block)), ()) ((0 : Int), (5 : Int), ()) ((0 : Int), (6 : Int), ()))) (rt (vb false) [])))))))) (.know (okD (.int .i64) (relP (⟨#[102]⟩, ([] : List (Den I)), (0 : Int), ([(5 : Int), (4 : Int), (5 : Int), (5 : Int)] : List (Den I)), ([(([] : List (Den I)), ([((25 : Int), (5 : Int), (0 : Int), ([] : List (Den I)), (0 : Int), (0 : Int), (0 : Int), false, ()), ((1 : Int), (4 : Int), (1 : Int), ([] : List (Den I)), (2 : Int), (0 : Int), (0 : Int), false, ()), ((27 : Int), (5 : Int), (2 : Int), ([(0 : Int), (1 : Int)] : List (Den I)), (0 : Int), (0 : Int), (0 : Int), false, ()), ((25 : Int), (5 : Int), (3 : Int), ([] : List (Den I)), (0 : Int), (1 : Int), (0 : Int), false, ()), ((29 : Int), (0 : Int), (-1 : Int), ([(0 : Int), (1 : Int)] : List (Den I)), (0 : Int), (0 : Int), (0 : Int), false, ()), ((29 : Int), (0 : Int), (-1 : Int), ([(2 : Int), (1 : Int)] : List (Den I)), (0 : Int), (0 : Int), (0 : Int), false, ()), ((29 : Int), (0 : Int), (-1 : Int), ([(3 : Int), (1 : Int)] : List (Den I)), (0 : Int), (0 : Int), (0 : Int), false, ())] : List (Den s_api_Instr)), ((4 : Int), ([] : List (Den I)), ([] : List (Den I)), ([] : List (Den s_api_Edge)), (0 : Int), ()), ())] : List (Den s_api_Block)), ()) (gd s_alias_Base (basesF (⟨#[102]⟩, ([] : List (Den I)), (0 : Int), ([(5 : Int), (4 : Int), (5 : Int), (5 : Int)] : List (Den I)), ([(([] : List (Den I)), ([((25 : Int), (5 : Int), (0 : Int), ([] : List (Den I)), (0 : Int), (0 : Int), (0 : Int), false, ()), ((1 : Int), (4 : Int), (1 : Int), ([] : List (Den I)), (2 : Int), (0 : Int), (0 : Int), false, ()), ((27 : Int), (5 : Int), (2 : Int), ([(0 : Int), (1 : Int)] : List (Den I)), (0 : Int), (0 : Int), (0 : Int), false, ()), ((25 : Int), (5 : Int), (3 : Int), ([] : List (Den I)), (0 : Int), (1 : Int), (0 : Int), false, ()), ((29 : Int), (0 : Int), (-1 : Int), ([(0 : Int), (1 : Int)] : List (Den I)), (0 : Int), (0 : Int), (0 : Int), false, ()), ((29 : Int), (0 : Int), (-1 : Int), ([(2 : Int), (1 : Int)] : List (Den I)), (0 : Int), (0 : Int), (0 : Int), false, ()), ((29 : Int), (0 : Int), (-1 : Int), ([(3 : Int), (1 : Int)] : List (Den I)), (0 : Int), (0 : Int), (0 : Int), false, ())] : List (Den s_api_Instr)), ((4 : Int), ([] : List (Den I)), ([] : List (Den I)), ([] : List (Den s_api_Edge)), (0 : Int), ()), ())] : List (Den s_api_Block)), ())) (0 : Nat)) (gd s_alias_Base (basesF (⟨#[102]⟩, ([] : List (Den I)), (0 : Int), ([(5 : Int), (4 : Int), (5 : Int), (5 : Int)] : List (Den I)), ([(([] : List (Den I)), ([((25 : Int), (5 : Int), (0 : Int), ([] : List (Den I)), (0 : Int), (0 : Int), (0 : Int), false, ()), ((1 : Int), (4 : Int), (1 : Int), ([] : List (Den I)), (2 : Int), (0 : Int), (0 : Int), false, ()), ((27 : Int), (5 : Int), (2 : Int), ([(0 : Int), (1 : Int)] : List (Den I)), (0 : Int), (0 : Int), (0 : Int), false, ()), ((25 : Int), (5 : Int), (3 : Int), ([] : List (Den I)), (0 : Int), (1 : Int), (0 : Int), false, ()), ((29 : Int), (0 : Int), (-1 : Int), ([(0 : Int), (1 : Int)] : List (Den I)), (0 : Int), (0 : Int), (0 : Int), false, ()), ((29 : Int), (0 : Int), (-1 : Int), ([(2 : Int), (1 : Int)] : List (Den I)), (0 : Int), (0 : Int), (0 : Int), false, ()), ((29 : Int), (0 : Int), (-1 : Int), ([(3 : Int), (1 : Int)] : List (Den I)), (0 : Int), (0 : Int), (0 : Int), false, ())] : List (Den s_api_Instr)), ((4 : Int), ([] : List (Den I)), ([] : List (Den I)), ([] : List (Den s_api_Edge)), (0 : Int), ()), ())] : List (Den s_api_Block)), ())) (2 : Nat)) (1 : Int) (1 : Int))) (.know (okD (.int .i64) (relP (⟨#[102]⟩, ([] : List (Den I)), (0 : Int), ([(5 : Int), (4 : Int), (5 : Int), (5 : Int)] : List (Den I)), ([(([] : List (Den I)), ([((25 : Int), (5 : Int), (0 : Int), ([] : List (Den I)), (0 : Int), (0 : Int), (0 : Int), false, ()), ((1 : Int), (4 : Int), (1 : Int), ([] : List (Den I)), (2 : Int), (0 : Int), (0 : Int), false, ()), ((27 : Int), (5 : Int), (2 : Int), ([(0 : Int), (1 : Int)] : List (Den I)), (0 : Int), (0 : Int), (0 : Int), false, ()), ((25 : Int), (5 : Int), (3 : Int), ([] : List (Den I)), (0 : Int), (1 : Int), (0 : Int), false, ()), ((29 : Int), (0 : Int), (-1 : Int), ([(0 : Int), (1 : Int)] : List (Den I)), (0 : Int), (0 : Int), (0 : Int), false, ()), ((29 : Int), (0 : Int), (-1 : Int), ([(2 : Int), (1 : Int)] : List (Den I)), (0 : Int), (0 : Int), (0 : Int), false, ()), ((29 : Int), (0 : Int), (-1 : Int), ([(3 : Int), (1 : Int)] : List (Den I)), (0 : Int), (0 : Int), (0 : Int), false, ())] : List (Den s_api_Instr)), ((4 : Int), ([] : List (Den I)), ([] : List (Den I)), ([] : List (Den s_api_Edge)), (0 : Int), ()), ())] : List (Den s_api_Block)), ()) (gd s_alias_Base (basesF (⟨#[102]⟩, ([] : List (Den I)), (0 : Int), ([(5 : Int), (4 : Int), (5 : Int), (5 : Int)] : List (Den I)), ([(([] : List (Den I)), ([((25 : Int), (5 : Int), (0 : Int), ([] : List (Den I)), (0 : Int), (0 : Int), (0 : Int), false, ()), ((1 : Int), (4 : Int), (1 : Int), ([] : List (Den I)), (2 : Int), (0 : Int), (0 : Int), false, ()), ((27 : Int), (5 : Int), (2 : Int), ([(0 : Int), (1 : Int)] : List (Den I)), (0 : Int), (0 : Int), (0 : Int), false, ()), ((25 : Int), (5 : Int), (3 : Int), ([] : List (Den I)), (0 : Int), (1 : Int), (0 : Int), false, ()), ((29 : Int), (0 : Int), (-1 : Int), ([(0 : Int), (1 : Int)] : List (Den I)), (0 : Int), (0 : Int), (0 : Int), false, ()), ((29 : Int), (0 : Int), (-1 : Int), ([(2 : Int), (1 : Int)] : List (Den I)), (0 : Int), (0 : Int), (0 : Int), false, ()), ((29 : Int), (0 : Int), (-1 : Int), ([(3 : Int), (1 : Int)] : List (Den I)), (0 : Int), (0 : Int), (0 : Int), false, ())] : List (Den s_api_Instr)), ((4 : Int), ([] : List (Den I)), ([] : List (Den I)), ([] : List (Den s_api_Edge)), (0 : Int), ()), ())] : List (Den s_api_Block)), ())) (0 : Nat)) (gd s_alias_Base (basesF (⟨#[102]⟩, ([] : List (Den I)), (0 : Int), ([(5 : Int), (4 : Int), (5 : Int), (5 : Int)] : List (Den I)), ([(([] : List (Den I)), ([((25 : Int), (5 : Int), (0 : Int), ([] : List (Den I)), (0 : Int), (0 : Int), (0 : Int), false, ()), ((1 : Int), (4 : Int), (1 : Int), ([] : List (Den I)), (2 : Int), (0 : Int), (0 : Int), false, ()), ((27 : Int), (5 : Int), (2 : Int), ([(0 : Int), (1 : Int)] : List (Den I)), (0 : Int), (0 : Int), (0 : Int), false, ()), ((25 : Int), (5 : Int), (3 : Int), ([] : List (Den I)), (0 : Int), (1 : Int), (0 : Int), false, ()), ((29 : Int), (0 : Int), (-1 : Int), ([(0 : Int), (1 : Int)] : List (Den I)), (0 : Int), (0 : Int), (0 : Int), false, ()), ((29 : Int), (0 : Int), (-1 : Int), ([(2 : Int), (1 : Int)] : List (Den I)), (0 : Int), (0 : Int), (0 : Int), false, ()), ((29 : Int), (0 : Int), (-1 : Int), ([(3 : Int), (1 : Int)] : List (Den I)), (0 : Int), (0 : Int), (0 : Int), false, ())] : List (Den s_api_Instr)), ((4 : Int), ([] : List (Den I)), ([] : List (Den I)), ([] : List (Den s_api_Edge)), (0 : Int), ()), ())] : List (Den s_api_Block)), ())) (2 : Nat)) (4 : Int) (1 : Int))) (.know (okD (.int .i64) (qryP (⟨#[102]⟩, ([] : List (Den I)), (0 : Int), ([(5 : Int), (4 : Int), (5 : Int), (5 : Int)] : List (Den I)), ([(([] : List (Den I)), ([((25 : Int), (5 : Int), (0 : Int), ([] : List (Den I)), (0 : Int), (0 : Int), (0 : Int), false, ()), ((1 : Int), (4 : Int), (1 : Int), ([] : List (Den I)), (2 : Int), (0 : Int), (0 : Int), false, ()), ((27 : Int), (5 : Int), (2 : Int), ([(0 : Int), (1 : Int)] : List (Den I)), (0 : Int), (0 : Int), (0 : Int), false, ()), ((25 : Int), (5 : Int), (3 : Int), ([] : List (Den I)), (0 : Int), (1 : Int), (0 : Int), false, ()), ((29 : Int), (0 : Int), (-1 : Int), ([(0 : Int), (1 : Int)] : List (Den I)), (0 : Int), (0 : Int), (0 : Int), false, ()), ((29 : Int), (0 : Int), (-1 : Int), ([(2 : Int), (1 : Int)] : List (Den I)), (0 : Int), (0 : Int), (0 : Int), false, ()), ((29 : Int), (0 : Int), (-1 : Int), ([(3 : Int), (1 : Int)] : List (Den I)), (0 : Int), (0 : Int), (0 : Int), false, ())] : List (Den s_api_Instr)), ((4 : Int), ([] : List (Den I)), ([] : List (Den I)), ([] : List (Den s_api_Edge)), (0 : Int), ()), ())] : List (Den s_api_Block)), ()) ((0 : Int), (5 : Int), ()) ((0 : Int), (5 : Int), ()))) (rt (vb false) []))))))) (.know (okD (.int .i64) (relP (⟨#[102]⟩, ([] : List (Den I)), (0 : Int), ([(5 : Int), (4 : Int), (5 : Int), (5 : Int)] : List (Den I)), ([(([] : List (Den I)), ([((25 : Int), (5 : Int), (0 : Int), ([] : List (Den I)), (0 : Int), (0 : Int), (0 : Int), false, ()), ((1 : Int), (4 : Int), (1 : Int), ([] : List (Den I)), (2 : Int), (0 : Int), (0 : Int), false, ()), ((27 : Int), (5 : Int), (2 : Int), ([(0 : Int), (1 : Int)] : List (Den I)), (0 : Int), (0 : Int), (0 : Int), false, ()), ((25 : Int), (5 : Int), (3 : Int), ([] : List (Den I)), (0 : Int), (1 : Int), (0 : Int), false, ()), ((29 : Int), (0 : Int), (-1 : Int), ([(0 : Int), (1 : Int)] : List (Den I)), (0 : Int), (0 : Int), (0 : Int), false, ()), ((29 : Int), (0 : Int), (-1 : Int), ([(2 : Int), (1 : Int)] : List (Den I)), (0 : Int), (0 : Int), (0 : Int), false, ()), ((29 : Int), (0 : Int), (-1 : Int), ([(3 : Int), (1 : Int)] : List (Den I)), (0 : Int), (0 : Int), (0 : Int), false, ())] : List (Den s_api_Instr)), ((4 : Int), ([] : List (Den I)), ([] : List (Den I)), ([] : List (Den s_api_Edge)), (0 : Int), ()), ())] : List (Den s_api_Block)), ()) (gd s_alias_Base (basesF (⟨#[102]⟩, ([] : List (Den I)), (0 : Int), ([(5 : Int), (4 : Int), (5 : Int), (5 : Int)] : List (Den I)), ([(([] : List (Den I)), ([((25 : Int), (5 : Int), (0 : Int), ([] : List (Den I)), (0 : Int), (0 : Int), (0 : Int), false, ()), ((1 : Int), (4 : Int), (1 : Int), ([] : List (Den I)), (2 : Int), (0 : Int), (0 : Int), false, ()), ((27 : Int), (5 : Int), (2 : Int), ([(0 : Int), (1 : Int)] : List (Den I)), (0 : Int), (0 : Int), (0 : Int), false, ()), ((25 : Int), (5 : Int), (3 : Int), ([] : List (Den I)), (0 : Int), (1 : Int), (0 : Int), false, ()), ((29 : Int), (0 : Int), (-1 : Int), ([(0 : Int), (1 : Int)] : List (Den I)), (0 : Int), (0 : Int), (0 : Int), false, ()), ((29 : Int), (0 : Int), (-1 : Int), ([(2 : Int), (1 : Int)] : List (Den I)), (0 : Int), (0 : Int), (0 : Int), false, ()), ((29 : Int), (0 : Int), (-1 : Int), ([(3 : Int), (1 : Int)] : List (Den I)), (0 : Int), (0 : Int), (0 : Int), false, ())] : List (Den s_api_Instr)), ((4 : Int), ([] : List (Den I)), ([] : List (Den I)), ([] : List (Den s_api_Edge)), (0 : Int), ()), ())] : List (Den s_api_Block)), ())) (0 : Nat)) (gd s_alias_Base (basesF (⟨#[102]⟩, ([] : List (Den I)), (0 : Int), ([(5 : Int), (4 : Int), (5 : Int), (5 : Int)] : List (Den I)), ([(([] : List (Den I)), ([((25 : Int), (5 : Int), (0 : Int), ([] : List (Den I)), (0 : Int), (0 : Int), (0 : Int), false, ()), ((1 : Int), (4 : Int), (1 : Int), ([] : List (Den I)), (2 : Int), (0 : Int), (0 : Int), false, ()), ((27 : Int), (5 : Int), (2 : Int), ([(0 : Int), (1 : Int)] : List (Den I)), (0 : Int), (0 : Int), (0 : Int), false, ()), ((25 : Int), (5 : Int), (3 : Int), ([] : List (Den I)), (0 : Int), (1 : Int), (0 : Int), false, ()), ((29 : Int), (0 : Int), (-1 : Int), ([(0 : Int), (1 : Int)] : List (Den I)), (0 : Int), (0 : Int), (0 : Int), false, ()), ((29 : Int), (0 : Int), (-1 : Int), ([(2 : Int), (1 : Int)] : List (Den I)), (0 : Int), (0 : Int), (0 : Int), false, ()), ((29 : Int), (0 : Int), (-1 : Int), ([(3 : Int), (1 : Int)] : List (Den I)), (0 : Int), (0 : Int), (0 : Int), false, ())] : List (Den s_api_Instr)), ((4 : Int), ([] : List (Den I)), ([] : List (Den I)), ([] : List (Den s_api_Edge)), (0 : Int), ()), ())] : List (Den s_api_Block)), ())) (2 : Nat)) (1 : Int) (1 : Int))) (.know (okD (.int .i64) (relP (⟨#[102]⟩, ([] : List (Den I)), (0 : Int), ([(5 : Int), (4 : Int), (5 : Int), (5 : Int)] : List (Den I)), ([(([] : List (Den I)), ([((25 : Int), (5 : Int), (0 : Int), ([] : List (Den I)), (0 : Int), (0 : Int), (0 : Int), false, ()), ((1 : Int), (4 : Int), (1 : Int), ([] : List (Den I)), (2 : Int), (0 : Int), (0 : Int), false, ()), ((27 : Int), (5 : Int), (2 : Int), ([(0 : Int), (1 : Int)] : List (Den I)), (0 : Int), (0 : Int), (0 : Int), false, ()), ((25 : Int), (5 : Int), (3 : Int), ([] : List (Den I)), (0 : Int), (1 : Int), (0 : Int), false, ()), ((29 : Int), (0 : Int), (-1 : Int), ([(0 : Int), (1 : Int)] : List (Den I)), (0 : Int), (0 : Int), (0 : Int), false, ()), ((29 : Int), (0 : Int), (-1 : Int), ([(2 : Int), (1 : Int)] : List (Den I)), (0 : Int), (0 : Int), (0 : Int), false, ()), ((29 : Int), (0 : Int), (-1 : Int), ([(3 : Int), (1 : Int)] : List (Den I)), (0 : Int), (0 : Int), (0 : Int), false, ())] : List (Den s_api_Instr)), ((4 : Int), ([] : List (Den I)), ([] : List (Den I)), ([] : List (Den s_api_Edge)), (0 : Int), ()), ())] : List (Den s_api_Block)), ()) (gd s_alias_Base (basesF (⟨#[102]⟩, ([] : List (Den I)), (0 : Int), ([(5 : Int), (4 : Int), (5 : Int), (5 : Int)] : List (Den I)), ([(([] : List (Den I)), ([((25 : Int), (5 : Int), (0 : Int), ([] : List (Den I)), (0 : Int), (0 : Int), (0 : Int), false, ()), ((1 : Int), (4 : Int), (1 : Int), ([] : List (Den I)), (2 : Int), (0 : Int), (0 : Int), false, ()), ((27 : Int), (5 : Int), (2 : Int), ([(0 : Int), (1 : Int)] : List (Den I)), (0 : Int), (0 : Int), (0 : Int), false, ()), ((25 : Int), (5 : Int), (3 : Int), ([] : List (Den I)), (0 : Int), (1 : Int), (0 : Int), false, ()), ((29 : Int), (0 : Int), (-1 : Int), ([(0 : Int), (1 : Int)] : List (Den I)), (0 : Int), (0 : Int), (0 : Int), false, ()), ((29 : Int), (0 : Int), (-1 : Int), ([(2 : Int), (1 : Int)] : List (Den I)), (0 : Int), (0 : Int), (0 : Int), false, ()), ((29 : Int), (0 : Int), (-1 : Int), ([(3 : Int), (1 : Int)] : List (Den I)), (0 : Int), (0 : Int), (0 : Int), false, ())] : List (Den s_api_Instr)), ((4 : Int), ([] : List (Den I)), ([] : List (Den I)), ([] : List (Den s_api_Edge)), (0 : Int), ()), ())] : List (Den s_api_Block)), ())) (0 : Nat)) (gd s_alias_Base (basesF (⟨#[102]⟩, ([] : List (Den I)), (0 : Int), ([(5 : Int), (4 : Int), (5 : Int), (5 : Int)] : List (Den I)), ([(([] : List (Den I)), ([((25 : Int), (5 : Int), (0 : Int), ([] : List (Den I)), (0 : Int), (0 : Int), (0 : Int), false, ()), ((1 : Int), (4 : Int), (1 : Int), ([] : List (Den I)), (2 : Int), (0 : Int), (0 : Int), false, ()), ((27 : Int), (5 : Int), (2 : Int), ([(0 : Int), (1 : Int)] : List (Den I)), (0 : Int), (0 : Int), (0 : Int), false, ()), ((25 : Int), (5 : Int), (3 : Int), ([] : List (Den I)), (0 : Int), (1 : Int), (0 : Int), false, ()), ((29 : Int), (0 : Int), (-1 : Int), ([(0 : Int), (1 : Int)] : List (Den I)), (0 : Int), (0 : Int), (0 : Int), false, ()), ((29 : Int), (0 : Int), (-1 : Int), ([(2 : Int), (1 : Int)] : List (Den I)), (0 : Int), (0 : Int), (0 : Int), false, ()), ((29 : Int), (0 : Int), (-1 : Int), ([(3 : Int), (1 : Int)] : List (Den I)), (0 : Int), (0 : Int), (0 : Int), false, ())] : List (Den s_api_Instr)), ((4 : Int), ([] : List (Den I)), ([] : List (Den I)), ([] : List (Den s_api_Edge)), (0 : Int), ()), ())] : List (Den s_api_Block)), ())) (2 : Nat)) (4 : Int) (1 : Int))) (rt (vb false) [])))))))) (.know (okD (.int .i64) (relP (⟨#[102]⟩, ([] : List (Den I)), (0 : Int), ([(5 : Int), (4 : Int), (5 : Int), (5 : Int)] : List (Den I)), ([(([] : List (Den I)), ([((25 : Int), (5 : Int), (0 : Int), ([] : List (Den I)), (0 : Int), (0 : Int), (0 : Int), false, ()), ((1 : Int), (4 : Int), (1 : Int), ([] : List (Den I)), (2 : Int), (0 : Int), (0 : Int), false, ()), ((27 : Int), (5 : Int), (2 : Int), ([(0 : Int), (1 : Int)] : List (Den I)), (0 : Int), (0 : Int), (0 : Int), false, ()), ((25 : Int), (5 : Int), (3 : Int), ([] : List (Den I)), (0 : Int), (1 : Int), (0 : Int), false, ()), ((29 : Int), (0 : Int), (-1 : Int), ([(0 : Int), (1 : Int)] : List (Den I)), (0 : Int), (0 : Int), (0 : Int), false, ()), ((29 : Int), (0 : Int), (-1 : Int), ([(2 : Int), (1 : Int)] : List (Den I)), (0 : Int), (0 : Int), (0 : Int), false, ()), ((29 : Int), (0 : Int), (-1 : Int), ([(3 : Int), (1 : Int)] : List (Den I)), (0 : Int), (0 : Int), (0 : Int), false, ())] : List (Den s_api_Instr)), ((4 : Int), ([] : List (Den I)), ([] : List (Den I)), ([] : List (Den s_api_Edge)), (0 : Int), ()), ())] : List (Den s_api_Block)), ()) (gd s_alias_Base (basesF (⟨#[102]⟩, ([] : List (Den I)), (0 : Int), ([(5 : Int), (4 : Int), (5 : Int), (5 : Int)] : List (Den I)), ([(([] : List (Den I)), ([((25 : Int), (5 : Int), (0 : Int), ([] : List (Den I)), (0 : Int), (0 : Int), (0 : Int), false, ()), ((1 : Int), (4 : Int), (1 : Int), ([] : List (Den I)), (2 : Int), (0 : Int), (0 : Int), false, ()), ((27 : Int), (5 : Int), (2 : Int), ([(0 : Int), (1 : Int)] : List (Den I)), (0 : Int), (0 : Int), (0 : Int), false, ()), ((25 : Int), (5 : Int), (3 : Int), ([] : List (Den I)), (0 : Int), (1 : Int), (0 : Int), false, ()), ((29 : Int), (0 : Int), (-1 : Int), ([(0 : Int), (1 : Int)] : List (Den I)), (0 : Int), (0 : Int), (0 : Int), false, ()), ((29 : Int), (0 : Int), (-1 : Int), ([(2 : Int), (1 : Int)] : List (Den I)), (0 : Int), (0 : Int), (0 : Int), false, ()), ((29 : Int), (0 : Int), (-1 : Int), ([(3 : Int), (1 : Int)] : List (Den I)), (0 : Int), (0 : Int), (0 : Int), false, ())] : List (Den s_api_Instr)), ((4 : Int), ([] : List (Den I)), ([] : List (Den I)), ([] : List (Den s_api_Edge)), (0 : Int), ()), ())] : List (Den s_api_Block)), ())) (0 : Nat)) (gd s_alias_Base (basesF (⟨#[102]⟩, ([] : List (Den I)), (0 : Int), ([(5 : Int), (4 : Int), (5 : Int), (5 : Int)] : List (Den I)), ([(([] : List (Den I)), ([((25 : Int), (5 : Int), (0 : Int), ([] : List (Den I)), (0 : Int), (0 : Int), (0 : Int), false, ()), ((1 : Int), (4 : Int), (1 : Int), ([] : List (Den I)), (2 : Int), (0 : Int), (0 : Int), false, ()), ((27 : Int), (5 : Int), (2 : Int), ([(0 : Int), (1 : Int)] : List (Den I)), (0 : Int), (0 : Int), (0 : Int), false, ()), ((25 : Int), (5 : Int), (3 : Int), ([] : List (Den I)), (0 : Int), (1 : Int), (0 : Int), false, ()), ((29 : Int), (0 : Int), (-1 : Int), ([(0 : Int), (1 : Int)] : List (Den I)), (0 : Int), (0 : Int), (0 : Int), false, ()), ((29 : Int), (0 : Int), (-1 : Int), ([(2 : Int), (1 : Int)] : List (Den I)), (0 : Int), (0 : Int), (0 : Int), false, ()), ((29 : Int), (0 : Int), (-1 : Int), ([(3 : Int), (1 : Int)] : List (Den I)), (0 : Int), (0 : Int), (0 : Int), false, ())] : List (Den s_api_Instr)), ((4 : Int), ([] : List (Den I)), ([] : List (Den I)), ([] : List (Den s_api_Edge)), (0 : Int), ()), ())] : List (Den s_api_Block)), ())) (2 : Nat)) (1 : Int) (1 : Int))) (rt (vb false) [])))))))))))))) := by kernel_rfl
def worksR : Bool := true

def k_law27_works : Con := con [] .bool (fun x => True) fun x => worksR
theorem m_law27_works (hp : True) : Runs E_A12 (start E_A12 f_law27_works []) (fun r_ h_ => r_ = (vb (worksR)) ∧ h_ = []) := .tree E_A12_ok (law27_works_t) (by
  simp only [wp_iff, chk_iff, know_iff, any_iff, rt_iff, hd_iff, true_imp_iff, true_and, and_true, and_self, lt01,  worksR]
  repeat' (first | intro _ | rfl | refine c_true (by decide +kernel) ?_ | refine c_false (by decide +kernel) ?_ | decide +kernel | refine And.intro ?_ ?_))
theorem c_law27_works : SpecOK E_A12 f_law27_works k_law27_works.spec := spec_of fun x hx hp => ⟨rfl, m_law27_works hp⟩
def L_A12 : List (FuncId × FSpec) := [(f_law27_works, k_law27_works.spec)] ++ L_A11
theorem L_A12_ok : ∀ x ∈ L_A12, SpecOK (ctx []) x.1 x.2 := by
  unfold L_A12
  simp only [List.cons_append, List.nil_append, List.forall_mem_cons]
  exact ⟨c_law27_works, L_A11_ok⟩
end Burn.M27N
namespace Burn.M27N
open Go Go.BE Go.Proofs
set_option maxRecDepth 100000
set_option linter.unusedVariables false
set_option linter.unusedSimpArgs false
open Burn.Cfg Burn.Intn Burn.Ref
def L_A13 : List (FuncId × FSpec) := [] ++ L_A12
theorem L_A13_ok : ∀ x ∈ L_A13, SpecOK (ctx []) x.1 x.2 := L_A12_ok
end Burn.M27N
namespace Burn.M27N
open Go Go.BE Go.Proofs
set_option maxRecDepth 100000
set_option linter.unusedVariables false
set_option linter.unusedSimpArgs false
open Burn.Cfg Burn.Intn Burn.Ref
noncomputable abbrev E_A14 : Ctx := ctx L_A13
theorem E_A14_ok : EOK E_A14 := ctx_ok L_A13_ok
def cuts_A14 : CutL := []
def rets_A14 : FuncId → List (Option Fx)
  | 62 => [some (.dat s_alias_Base)]
  | _ => []
def H_A14 : Hints := { cut := cutOf cuts_A14, ret := rets_A14 }
theorem r27_operand_t (f : Den s_api_Func) (old : List (Den s_alias_Base)) (in_ : Den s_api_Instr) (r : Int) (i : Int) : run E_A14 H_A14 f_r27_operand 3000 (start E_A14 f_r27_operand [(.tv s_api_Func f), (.tv (.sl 32 s_alias_Base) old), (.tv s_api_Instr in_), (vi r), (vi i)]) = (cond (decide (i ≥ ((ln I in_.2.2.2.1) : Int))) (.chk (True) (.know (okD s_alias_Base (ownR r)) (.chk ((0 : Nat) < (1 : Nat)) (.chk ((0 : Nat) < (1 : Nat)) (rt (.tv s_alias_Base (ownR r)) []))))) (.chk (0 ≤ i ∧ i < (ln I in_.2.2.2.1)) (.chk (True) (.know True (cond (!(ptrR f (gd I in_.2.2.2.1 ((i).toNat)))) (.chk (True) (.know (okD s_alias_Base (ownR r)) (.chk ((0 : Nat) < (1 : Nat)) (.chk ((0 : Nat) < (1 : Nat)) (rt (.tv s_alias_Base (ownR r)) []))))) (.chk (0 ≤ i ∧ i < (ln I in_.2.2.2.1)) (.chk (0 ≤ (z (gd I in_.2.2.2.1 ((i).toNat))) ∧ (z (gd I in_.2.2.2.1 ((i).toNat))) < (ln s_alias_Base old)) (.chk ((0 : Nat) < (1 : Nat)) (.chk ((0 : Nat) < (1 : Nat)) (rt (.tv s_alias_Base (gd s_alias_Base old (((z (gd I in_.2.2.2.1 ((i).toNat)))).toNat))) [])))))))))) := by kernel_rfl
theorem r27_points_t (f : Den s_api_Func) (bases : List (Den s_alias_Base)) (x : Int) (r : Int) : run E_A14 H_A14 f_r27_points 3000 (start E_A14 f_r27_points [(.tv s_api_Func f), (.tv (.sl 32 s_alias_Base) bases), (vi x), (vi r)]) = (cond (decide (x ≥ (0 : Int))) (cond (decide (x < ((ln I f.2.2.2.1) : Int))) (.chk (0 ≤ x ∧ x < (ln s_alias_Base bases)) (cond ((z ((gd s_alias_Base bases ((x).toNat)).1)) == (2 : Int)) (.chk (0 ≤ x ∧ x < (ln s_alias_Base bases)) (rt (vb ((z (((gd s_alias_Base bases ((x).toNat)).2).1)) == r)) [])) (rt (vb false) []))) (rt (vb false) [])) (rt (vb false) [])) := by kernel_rfl
def operR (f : Den s_api_Func) (old : List (Den s_alias_Base)) (in_ : Den s_api_Instr) (r : Int) (i : Int) : Den s_alias_Base := (cond (decide (i ≥ ((ln I in_.2.2.2.1) : Int))) (ownR r) (cond (!(ptrR f (gd I in_.2.2.2.1 ((i).toNat)))) (ownR r) (gd s_alias_Base old (((z (gd I in_.2.2.2.1 ((i).toNat)))).toNat))))

def k_r27_operand : Con := con [.d s_api_Func, .d (.sl 32 s_alias_Base), .d s_api_Instr, .d I, .d I] s_alias_Base (fun x => okNow x.1 x.2.1 ∧ 0 ≤ z x.2.2.2.2.1) fun x => operR x.1 x.2.1 x.2.2.1 x.2.2.2.1 x.2.2.2.2.1
theorem m_r27_operand (f : Den s_api_Func) (old : List (Den s_alias_Base)) (in_ : Den s_api_Instr) (r : Int) (i : Int) (h_f : okD s_api_Func f) (h_old : okD (.sl 32 s_alias_Base) old) (h_in_ : okD s_api_Instr in_) (h_r : okD I r) (h_i : okD I i) (hp : okNow f old ∧ 0 ≤ z i) : Runs E_A14 (start E_A14 f_r27_operand [(.tv s_api_Func f), (.tv (.sl 32 s_alias_Base) old), (.tv s_api_Instr in_), (vi r), (vi i)]) (fun r_ h_ => r_ = (.tv s_alias_Base (operR f old in_ r i)) ∧ h_ = []) := .tree E_A14_ok (r27_operand_t f old in_ r i) (by
  have hp_ := hp
  try simp only [z] at hp_
  refine wp_cond (fun h1 => ?_) (fun h1 => ?_)
  · have h1_ := of_decide_eq_true h1
    refine ⟨trivial, fun _ => ?_⟩
    refine fun _ => ?_
    refine ⟨Nat.zero_lt_one, fun _ => ?_⟩
    refine ⟨Nat.zero_lt_one, fun _ => ?_⟩
    exact ⟨by simp only [operR, h1, cond_true, cond_false], rfl⟩
  · have h1_ := of_decide_eq_false h1
    refine ⟨by first | omega | exact (hp_.2) | (have g_ := hp_.2; omega) | exact (ptr_raw2 (f := f) (by assumption) hp.1) | (have g_ := ptr_raw2 (f := f) (by assumption) hp.1; omega) | assumption | exact hp.1 | exact hp.2 | exact hp.2.1 | (simp_all; done) | (simp_all; omega), fun _ => ?_⟩
    refine ⟨trivial, fun _ => ?_⟩
    refine fun _ => ?_
    refine wp_cond (fun h2 => ?_) (fun h2 => ?_)
    · refine ⟨trivial, fun _ => ?_⟩
      refine fun _ => ?_
      refine ⟨Nat.zero_lt_one, fun _ => ?_⟩
      refine ⟨Nat.zero_lt_one, fun _ => ?_⟩
      exact ⟨by simp only [operR, h1, h2, cond_true, cond_false], rfl⟩
    · refine ⟨by first | omega | exact (hp_.2) | (have g_ := hp_.2; omega) | exact (ptr_raw2 (f := f) (by assumption) hp.1) | (have g_ := ptr_raw2 (f := f) (by assumption) hp.1; omega) | assumption | exact hp.1 | exact hp.2 | exact hp.2.1 | (simp_all; done) | (simp_all; omega), fun _ => ?_⟩
      refine ⟨by first | omega | exact (hp_.2) | (have g_ := hp_.2; omega) | exact (ptr_raw2 (f := f) (by assumption) hp.1) | (have g_ := ptr_raw2 (f := f) (by assumption) hp.1; omega) | assumption | exact hp.1 | exact hp.2 | exact hp.2.1 | (simp_all; done) | (simp_all; omega), fun _ => ?_⟩
      refine ⟨Nat.zero_lt_one, fun _ => ?_⟩
      refine ⟨Nat.zero_lt_one, fun _ => ?_⟩
      exact ⟨by simp only [operR, h1, h2, cond_true, cond_false], rfl⟩)
theorem c_r27_operand : SpecOK E_A14 f_r27_operand k_r27_operand.spec := spec_of fun x hx hp => ⟨rfl, m_r27_operand x.1 x.2.1 x.2.2.1 x.2.2.2.1 x.2.2.2.2.1 hx.1 hx.2.1 hx.2.2.1 hx.2.2.2.1 hx.2.2.2.2.1 hp⟩
def pntF (f : Den s_api_Func) (bases : List (Den s_alias_Base)) (x : Int) (r : Int) : Bool := (cond (decide (x ≥ (0 : Int))) (cond (decide (x < ((ln I f.2.2.2.1) : Int))) (cond ((z ((gd s_alias_Base bases ((x).toNat)).1)) == (2 : Int)) ((z (((gd s_alias_Base bases ((x).toNat)).2).1)) == r) false) false) false)

def k_r27_points : Con := con [.d s_api_Func, .d (.sl 32 s_alias_Base), .d I, .d I] .bool (fun x => ln s_alias_Base x.2.1 = ln I x.1.2.2.2.1) fun x => pntF x.1 x.2.1 x.2.2.1 x.2.2.2.1
theorem m_r27_points (f : Den s_api_Func) (bases : List (Den s_alias_Base)) (x : Int) (r : Int) (h_f : okD s_api_Func f) (h_bases : okD (.sl 32 s_alias_Base) bases) (h_x : okD I x) (h_r : okD I r) (hp : ln s_alias_Base bases = ln I f.2.2.2.1) : Runs E_A14 (start E_A14 f_r27_points [(.tv s_api_Func f), (.tv (.sl 32 s_alias_Base) bases), (vi x), (vi r)]) (fun r_ h_ => r_ = (vb (pntF f bases x r)) ∧ h_ = []) := .tree E_A14_ok (r27_points_t f bases x r) (by
  have hp_ := hp
  try simp only [z] at hp_
  refine wp_cond (fun h1 => ?_) (fun h1 => ?_)
  · have h1_ := of_decide_eq_true h1
    refine wp_cond (fun h2 => ?_) (fun h2 => ?_)
    · have h2_ := of_decide_eq_true h2
      refine ⟨by first | omega | assumption | exact hp.1 | exact hp.2 | exact hp.2.1 | (simp_all; done) | (simp_all; omega), fun _ => ?_⟩
      refine wp_cond (fun h3 => ?_) (fun h3 => ?_)
      · have h3_ := beq_t h3
        refine ⟨by first | omega | assumption | exact hp.1 | exact hp.2 | exact hp.2.1 | (simp_all; done) | (simp_all; omega), fun _ => ?_⟩
        exact ⟨by simp only [pntF, h1, h2, h3, cond_true, cond_false], rfl⟩
      · have h3_ := beq_f h3
        exact ⟨by simp only [pntF, h1, h2, h3, cond_true, cond_false], rfl⟩
    · have h2_ := of_decide_eq_false h2
      exact ⟨by simp only [pntF, h1, h2, cond_true, cond_false], rfl⟩
  · have h1_ := of_decide_eq_false h1
    exact ⟨by simp only [pntF, h1, cond_true, cond_false], rfl⟩)
theorem c_r27_points : SpecOK E_A14 f_r27_points k_r27_points.spec := spec_of fun x hx hp => ⟨rfl, m_r27_points x.1 x.2.1 x.2.2.1 x.2.2.2.1 hx.1 hx.2.1 hx.2.2.1 hx.2.2.2.1 hp⟩
def L_A14 : List (FuncId × FSpec) := [(f_r27_operand, k_r27_operand.spec), (f_r27_points, k_r27_points.spec)] ++ L_A13
theorem L_A14_ok : ∀ x ∈ L_A14, SpecOK (ctx []) x.1 x.2 := by
  unfold L_A14
  simp only [List.cons_append, List.nil_append, List.forall_mem_cons]
  exact ⟨c_r27_operand, c_r27_points, L_A13_ok⟩
end Burn.M27N
namespace Burn.M27N
open Go Go.BE Go.Proofs
set_option maxRecDepth 100000
set_option linter.unusedVariables false
set_option linter.unusedSimpArgs false
open Burn.Cfg Burn.Intn Burn.Ref
noncomputable abbrev E_A15 : Ctx := ctx L_A14
theorem E_A15_ok : EOK E_A15 := ctx_ok L_A14_ok
def cuts_A15 : CutL := []
def rets_A15 : FuncId → List (Option Fx)
  | _ => []
def H_A15 : Hints := { cut := cutOf cuts_A15, ret := rets_A15 }
theorem r27_allocated_t (f : Den s_api_Func) (defs : List (Den (.sl 16 s_api_Pos))) (r : Int) : run E_A15 H_A15 f_r27_allocated 3000 (start E_A15 f_r27_allocated [(.tv s_api_Func f), (.tv (.sl 24 (.sl 16 s_api_Pos)) defs), (vi r)]) = (.chk (goodD f defs) (.know (okAVs [(.tv s_api_Instr ((defR f defs r).1)), (vb (bOf ((defR f defs r).2)))]) (cond (bOf ((defR f defs r).2)) (rt (vb ((z (((defR f defs r).1).1)) == (26 : Int))) []) (rt (vb false) [])))) := by kernel_rfl
def alcR (f : Den s_api_Func) (defs : List (Den (.sl 16 s_api_Pos))) (r : Int) : Bool := (cond (bOf ((defR f defs r).2)) ((z (((defR f defs r).1).1)) == (26 : Int)) false)

def k_r27_allocated : Con := con [.d s_api_Func, .d (.sl 24 (.sl 16 s_api_Pos)), .d I] .bool (fun x => goodD x.1 x.2.1) fun x => alcR x.1 x.2.1 x.2.2.1
theorem m_r27_allocated (f : Den s_api_Func) (defs : List (Den (.sl 16 s_api_Pos))) (r : Int) (h_f : okD s_api_Func f) (h_defs : okD (.sl 24 (.sl 16 s_api_Pos)) defs) (h_r : okD I r) (hp : goodD f defs) : Runs E_A15 (start E_A15 f_r27_allocated [(.tv s_api_Func f), (.tv (.sl 24 (.sl 16 s_api_Pos)) defs), (vi r)]) (fun r_ h_ => r_ = (vb (alcR f defs r)) ∧ h_ = []) := .tree E_A15_ok (r27_allocated_t f defs r) (by
  have hp_ := hp
  try simp only [z] at hp_
  refine ⟨by first | omega | assumption | exact hp.1 | exact hp.2 | exact hp.2.1 | (simp_all; done) | (simp_all; omega), fun _ => ?_⟩
  refine fun _ => ?_
  refine wp_cond (fun h1 => ?_) (fun h1 => ?_)
  · exact ⟨by simp only [alcR, h1, cond_true, cond_false], rfl⟩
  · exact ⟨by simp only [alcR, h1, cond_true, cond_false], rfl⟩)
theorem c_r27_allocated : SpecOK E_A15 f_r27_allocated k_r27_allocated.spec := spec_of fun x hx hp => ⟨rfl, m_r27_allocated x.1 x.2.1 x.2.2.1 hx.1 hx.2.1 hx.2.2.1 hp⟩
def L_A15 : List (FuncId × FSpec) := [(f_r27_allocated, k_r27_allocated.spec)] ++ L_A14
theorem L_A15_ok : ∀ x ∈ L_A15, SpecOK (ctx []) x.1 x.2 := by
  unfold L_A15
  simp only [List.cons_append, List.nil_append, List.forall_mem_cons]
  exact ⟨c_r27_allocated, L_A14_ok⟩
end Burn.M27N
namespace Burn.M27N
open Go Go.BE Go.Proofs
set_option maxRecDepth 100000
set_option linter.unusedVariables false
set_option linter.unusedSimpArgs false
open Burn.Cfg Burn.Intn Burn.Ref
theorem add_1 (a b : Int) : (addR 4 a b).1 = wrapZ 4 (IntKind.wrap .i64 (wrapZ 4 a + wrapZ 4 b)) := by
  have hb : (bitsZ 4 == (0 : Int)) = false := rfl
  unfold addR
  simp only [hb, cond_false]
  simp only [Bool.cond_eq_ite, apply_ite Prod.fst, ite_self]
theorem oper_eq (f : Fn) (defs : DL) (old : List Bs) (r : Int) (x : Den s_api_Instr) (i : Int) : operF (f, defs, old, ()) r x i = operR f old x r i := by
  unfold operF operR argP
  cases h : decide (i ≥ (ln I x.2.2.2.1 : Int)) with
  | true => rfl
  | false => rfl
def offN (f : Fn) (defs : DL) (x : Den s_api_Instr) (b : Bs) : Bs :=
  cond (z b.1 == 0) b (cond (bOf b.2.2.2.1) (cond (decide ((ln I x.2.2.2.1 : Int) > 1)) (cond (bOf (defR f defs (gd I x.2.2.2.1 1)).2) (cond (z (defR f defs (gd I x.2.2.2.1 1)).1.1 == 1) (b.1, b.2.1, (addR 4 b.2.2.1 (defR f defs (gd I x.2.2.2.1 1)).1.2.2.2.2.1).1, b.2.2.2) (b.1, b.2.1, (0 : Int), false, ())) (b.1, b.2.1, (0 : Int), false, ())) (b.1, b.2.1, (0 : Int), false, ())) (b.1, b.2.1, (0 : Int), false, ()))
def insN (f : Fn) (defs : DL) (old : List Bs) (r : Int) (x : Den s_api_Instr) : Bs :=
  cond (z x.1 == 25) ((1 : Int), x.2.2.2.2.2.1, (0 : Int), true, ()) (cond (z x.1 == 26) ((2 : Int), r, (0 : Int), true, ()) (cond (z x.1 == 4) (operR f old x r 0) (cond (z x.1 == 27) (offN f defs x (operR f old x r 0)) (cond (z x.1 == 21) (meetR r (operR f old x r 1) (operR f old x r 2)) (ownR r)))))
theorem def_neg (s : Sv) : bOf (defA s (-1)).2 = false := rfl
theorem mov_eq (f : Fn) (defs : DL) (old : List Bs) (x : Den s_api_Instr) (b : Bs) (hb : z b.1 ≠ 0) : movF (f, defs, old, ()) b (argP x 1) = offN f defs x b := by
  unfold offN
  rw [show (z b.1 == 0) = false by simpa using hb]
  have hbz : (bitsZ 4 == (0 : Int)) = false := rfl
  unfold movF argP
  simp only [hbz, cond_false, add_1]
  by_cases h : (ln I x.2.2.2.1 : Int) > 1
  · rw [show decide ((1 : Int) ≥ (ln I x.2.2.2.1 : Int)) = false from decide_eq_false (by omega), show decide ((ln I x.2.2.2.1 : Int) > 1) = true from decide_eq_true h]
    simp only [cond_false, cond_true]
    have e : ∀ a, defA (f, defs, old, ()) a = defR f defs a := fun _ => rfl
    have e2 : z (gd I x.2.2.2.1 ((1 : Int).toNat)) = gd I x.2.2.2.1 1 := rfl
    simp only [e, e2]
    generalize defR f defs (gd I x.2.2.2.1 1) = q
    simp only [Bool.cond_eq_ite, Bool.not_eq_true', bne_iff_ne, beq_iff_eq]
    cases hq : bOf q.2 <;> cases hk : bOf b.2.2.2.1 <;> by_cases h1 : z q.1.1 = 1 <;> simp_all
  · rw [show decide ((1 : Int) ≥ (ln I x.2.2.2.1 : Int)) = true from decide_eq_true (by omega), show decide ((ln I x.2.2.2.1 : Int) > 1) = false from decide_eq_false h]
    simp only [cond_false, cond_true, def_neg]
    cases bOf b.2.2.2.1 <;> rfl
theorem ins_eq {f : Fn} {defs : DL} {old : List Bs} (r : Int) (x : Den s_api_Instr) (hn : okNow f old) : insF (f, defs, old, ()) r x = insN f defs old r x := by
  have o0 := oper_eq f defs old r x 0
  have o1 := oper_eq f defs old r x 1
  have o2 := oper_eq f defs old r x 2
  unfold insF insN
  rw [o0, o1, o2]
  have h0 : okZ (operR f old x r 0) := by rw [← o0]; exact okZ_oper hn
  have h1 : okZ (operR f old x r 1) := by rw [← o1]; exact okZ_oper hn
  have h2 : okZ (operR f old x r 2) := by rw [← o2]; exact okZ_oper hn
  have ej : joinF r [operR f old x r 1, operR f old x r 2] = meetR r (operR f old x r 1) (operR f old x r 2) := by
    unfold joinF
    rw [(joinM_ok okZ_z fun b hb => ?_).1]
    · rw [List.foldl_cons, List.foldl_cons, List.foldl_nil, meetR_eq (a := zB), if_pos (by rfl)]
    · rcases List.mem_cons.1 hb with rfl | hb
      · exact h1
      · rcases List.mem_cons.1 hb with rfl | hb
        · exact h2
        · cases hb
  rw [ej]
  have eo : (cond (eqBs (operR f old x r 0) zB) zB (movF (f, defs, old, ()) (operR f old x r 0) (argP x 1))) = offN f defs x (operR f old x r 0) := by
    cases hq : eqBs (operR f old x r 0) zB with
    | true =>
      rw [eqBs_iff.1 hq]
      rfl
    | false => exact mov_eq f defs old x _ fun e => eqBs_ne hq (h0 e)
  have eo' := eo
  unfold eqBs at eo'
  cases z x.1 == 25 <;> cases z x.1 == 26 <;> cases z x.1 == 4 <;> cases z x.1 == 27 <;> first | rfl | exact eo'
def L_A16 : List (FuncId × FSpec) := [] ++ L_A15
theorem L_A16_ok : ∀ x ∈ L_A16, SpecOK (ctx []) x.1 x.2 := L_A15_ok
end Burn.M27N
namespace Burn.M27N
open Go Go.BE Go.Proofs
set_option maxRecDepth 100000
set_option linter.unusedVariables false
set_option linter.unusedSimpArgs false
open Burn.Cfg Burn.Intn Burn.Ref
noncomputable abbrev E_A17 : Ctx := ctx L_A16
theorem E_A17_ok : EOK E_A17 := ctx_ok L_A16_ok
def cuts_A17 : CutL := [([], 37, 0, [1, 3, 11, 12, 13], [], [])]
def rets_A17 : FuncId → List (Option Fx)
  | 37 => [some (.dat (.sl 1 .bool))]
  | _ => []
def H_A17 : Hints := { cut := cutOf cuts_A17, ret := rets_A17 }
noncomputable def alias_allocas_L0 (f : Den s_api_Func) (t11 : List (Den (.sl 16 s_api_Pos))) (t12 : Int) (t13 : Int) (out : List (Den .bool)) : Cfg := hcfg E_A17 f_alias_allocas 0 [(1, (.rtp s_api_Func f)), (3, (.osl 0 0 [] none)), (11, (.tv (.sl 24 (.sl 16 s_api_Pos)) t11)), (12, (vi t12)), (13, (vi t13))] [(0, ⟨(.arr 0 1 .bool out), 0, [], false, none⟩)] 1
theorem alias_allocas_t (f : Den s_api_Func) : run E_A17 H_A17 f_alias_allocas 3000 (start E_A17 f_alias_allocas [(.tv s_api_Func f)]) = (.chk (((ln I f.2.2.2.1) : Int) = ((ln I f.2.2.2.1) : Int)) (.chk (0 ≤ ((ln I f.2.2.2.1) : Int)) (.chk ((ln I f.2.2.2.1) * 1 ≤ roomB) (.chk (smallF f) (.know (okD (.sl 24 (.sl 16 s_api_Pos)) (defsF f)) (hd (alias_allocas_L0 f (defsF f) ((ln (.sl 16 s_api_Pos) (defsF f)) : Int) (0 : Int) (List.replicate (ln I f.2.2.2.1) (dz .bool))))))))) := by kernel_rfl
theorem alias_allocas_L0_t (f : Den s_api_Func) (t11 : List (Den (.sl 16 s_api_Pos))) (t12 : Int) (t13 : Int) (out : List (Den .bool)) : run E_A17 H_A17 f_alias_allocas 3000 (alias_allocas_L0 f t11 t12 t13 out) = (cond (decide (t13 < t12)) (.chk (0 ≤ t13 ∧ t13 < (ln (.sl 16 s_api_Pos) t11)) (cond (((ln s_api_Pos (gd (.sl 16 s_api_Pos) t11 ((t13).toNat))) : Int) == (1 : Int)) (.chk (0 ≤ (0 : Int) ∧ (0 : Int) < (ln s_api_Pos (gd (.sl 16 s_api_Pos) t11 ((t13).toNat)))) (cond (decide ((z (((gd s_api_Pos (gd (.sl 16 s_api_Pos) t11 ((t13).toNat)) (0 : Nat)).2).1)) ≥ (0 : Int))) (.chk (0 ≤ (0 : Int) ∧ (0 : Int) < (ln s_api_Pos (gd (.sl 16 s_api_Pos) t11 ((t13).toNat)))) (.chk (0 ≤ (z ((gd s_api_Pos (gd (.sl 16 s_api_Pos) t11 ((t13).toNat)) (0 : Nat)).1)) ∧ (z ((gd s_api_Pos (gd (.sl 16 s_api_Pos) t11 ((t13).toNat)) (0 : Nat)).1)) < (ln s_api_Block f.2.2.2.2.1)) (.chk (0 ≤ (0 : Int) ∧ (0 : Int) < (ln s_api_Pos (gd (.sl 16 s_api_Pos) t11 ((t13).toNat)))) (.chk (0 ≤ (z (((gd s_api_Pos (gd (.sl 16 s_api_Pos) t11 ((t13).toNat)) (0 : Nat)).2).1)) ∧ (z (((gd s_api_Pos (gd (.sl 16 s_api_Pos) t11 ((t13).toNat)) (0 : Nat)).2).1)) < (ln s_api_Instr (((gd s_api_Block f.2.2.2.2.1 (((z ((gd s_api_Pos (gd (.sl 16 s_api_Pos) t11 ((t13).toNat)) (0 : Nat)).1))).toNat)).2).1))) (.chk (0 ≤ t13 ∧ t13 < (ln .bool out)) (.chk ((t13).toNat < (ln .bool out)) (hd (alias_allocas_L0 f t11 t12 (IntKind.wrap .i64 (t13 + (1 : Int))) (st .bool out ((t13).toNat) ((z ((gd s_api_Instr (((gd s_api_Block f.2.2.2.2.1 (((z ((gd s_api_Pos (gd (.sl 16 s_api_Pos) t11 ((t13).toNat)) (0 : Nat)).1))).toNat)).2).1) (((z (((gd s_api_Pos (gd (.sl 16 s_api_Pos) t11 ((t13).toNat)) (0 : Nat)).2).1))).toNat)).1)) == (26 : Int))))))))))) (.chk (0 ≤ t13 ∧ t13 < (ln .bool out)) (.chk ((t13).toNat < (ln .bool out)) (hd (alias_allocas_L0 f t11 t12 (IntKind.wrap .i64 (t13 + (1 : Int))) (st .bool out ((t13).toNat) false))))))) (.chk (0 ≤ t13 ∧ t13 < (ln .bool out)) (.chk ((t13).toNat < (ln .bool out)) (hd (alias_allocas_L0 f t11 t12 (IntKind.wrap .i64 (t13 + (1 : Int))) (st .bool out ((t13).toNat) false))))))) (rt (.tv (.sl 1 .bool) out) [])) := by kernel_rfl
def fillT (S : Sh) (n : Nat) (g : Nat → Den S) (z0 : Den S) (i : Nat) : List (Den S) := tab S n fun j => if j < i then g j else z0
theorem fill_ln {S : Sh} {n : Nat} {g : Nat → Den S} {z0 : Den S} {i : Nat} : ln S (fillT S n g z0 i) = n := tab_ln
theorem fill_st {S : Sh} {n : Nat} {g : Nat → Den S} {z0 x : Den S} {i : Nat} (h : g i = x) : st S (fillT S n g z0 i) i x = fillT S n g z0 (i + 1) := by
  unfold fillT
  rw [tab_st]
  refine tab_ext fun j _ => ?_
  by_cases h1 : j = i
  · rw [if_pos h1, if_pos (by omega), h1, h]
  · rw [if_neg h1]
    by_cases h2 : j < i
    · rw [if_pos h2, if_pos (by omega)]
    · rw [if_neg h2, if_neg (by omega)]
theorem fill_0 {S : Sh} {n : Nat} {g : Nat → Den S} {z0 : Den S} : List.replicate n z0 = fillT S n g z0 0 := by
  rw [tab_rep (S := S)]
  exact tab_ext fun j _ => by rw [if_neg (by omega)]
theorem fill_n {S : Sh} {n : Nat} {g : Nat → Den S} {z0 : Den S} : fillT S n g z0 n = tab S n g := tab_ext fun j hj => by rw [if_pos hj]
def okP (f : Fn) (now : List Bs) : Prop := ∀ j, j < nR f → ptrR f (j : Int) = false → gd s_alias_Base now j = zB
def alcL (f : Fn) (j : Nat) : Bool := alcR f (defsF f) (j : Int)
def allocsF (f : Fn) : Den (.sl 1 .bool) := tab .bool (nR f) (alcL f)
theorem alc_at {f : Fn} {i : Nat} (hi : i < nR f) : alcL f i = if (ln s_api_Pos (gd (.sl 16 s_api_Pos) (defsF f) i) : Int) = 1 ∧ z (gd s_api_Pos (gd (.sl 16 s_api_Pos) (defsF f) i) 0).2.1 ≥ 0 then (z (gd s_api_Instr (gd s_api_Block f.2.2.2.2.1 (z (gd s_api_Pos (gd (.sl 16 s_api_Pos) (defsF f) i) 0).1).toNat).2.1 (z (gd s_api_Pos (gd (.sl 16 s_api_Pos) (defsF f) i) 0).2.1).toNat).1 == 26) else false := by
  have hln : ln (.sl 16 s_api_Pos) (defsF f) = nR f := (good_defs f).1
  unfold alcL alcR defR
  rw [show decide ((i : Int) < 0) = false from decide_eq_false (by omega), show decide ((i : Int) ≥ (ln (.sl 16 s_api_Pos) (defsF f) : Int)) = false from decide_eq_false (by omega)]
  simp only [cond_false, Int.toNat_natCast]
  by_cases h1 : (ln s_api_Pos (gd (.sl 16 s_api_Pos) (defsF f) i) : Int) = 1
  · rw [show ((ln s_api_Pos (gd (.sl 16 s_api_Pos) (defsF f) i) : Int) != 1) = false by simp [h1]]
    by_cases h2 : z (gd s_api_Pos (gd (.sl 16 s_api_Pos) (defsF f) i) 0).2.1 ≥ 0
    · rw [if_pos ⟨h1, h2⟩, show decide (z (gd s_api_Pos (gd (.sl 16 s_api_Pos) (defsF f) i) 0).2.1 < 0) = false from decide_eq_false (by omega)]
      rfl
    · rw [if_neg (fun h => h2 h.2), show decide (z (gd s_api_Pos (gd (.sl 16 s_api_Pos) (defsF f) i) 0).2.1 < 0) = true from decide_eq_true (by omega)]
      rfl
  · rw [if_neg (fun h => h1 h.1), show ((ln s_api_Pos (gd (.sl 16 s_api_Pos) (defsF f) i) : Int) != 1) = true by simp [h1]]
    rfl
theorem alc_l (f : Fn) (hl : nR f < 9223372036854775807) : ∀ i, i ≤ nR f → Runs E_A17 (alias_allocas_L0 f (defsF f) (nR f : Nat) i (fillT .bool (nR f) (alcL f) false i)) (fun x h => x = .tv (.sl 1 .bool) (allocsF f) ∧ h = []) :=
  up_ind (.tree E_A17_ok (alias_allocas_L0_t _ _ _ _ _) (by
    rw [fill_n]
    simp only [wp_iff, chk_iff, know_iff, any_iff, rt_iff, hd_iff, true_imp_iff, true_and, and_true, and_self, lt01, Int.ofNat_lt, Int.ofNat_le, Int.natCast_nonneg, Int.toNat_natCast, decide_true, decide_false, Bool.true_eq_false, Bool.false_eq_true, false_imp_iff, Nat.lt_irrefl, imp_self, implies_true,  true_and]
    rfl))
    fun i hi ih => .tree E_A17_ok (alias_allocas_L0_t _ _ _ _ _) (by
      have hln : i < ln (.sl 16 s_api_Pos) (defsF f) := by rw [(good_defs f).1]; exact hi
      have ha := alc_at hi
      have hg := fun h0 => good_raw (good_defs f) hln h0
      simp only [wp_iff, chk_iff, know_iff, any_iff, rt_iff, hd_iff, true_imp_iff, true_and, and_true, and_self, lt01, Int.ofNat_lt, Int.ofNat_le, Int.natCast_nonneg, Int.toNat_natCast, decide_true, decide_false, Bool.true_eq_false, Bool.false_eq_true, false_imp_iff, Nat.lt_irrefl, imp_self, implies_true,  hi, hln, fill_ln, wrapS hi hl]
      refine ⟨fun h1 => ?_, fun h1 => ?_⟩
      · have e1 := beq_t h1
        have hpos : 0 < ln s_api_Pos (gd (.sl 16 s_api_Pos) (defsF f) i) := by omega
        have g := hg hpos
        have q0 : (0 : Int) ≤ 0 ∧ (0 : Int) < (ln s_api_Pos (gd (.sl 16 s_api_Pos) (defsF f) i) : Int) := ⟨Int.le_refl _, by omega⟩
        refine ⟨q0, fun _ => ⟨fun h2 => ?_, fun h2 => ?_⟩⟩
        · have e2 := of_decide_eq_true h2
          rw [if_pos ⟨e1, e2⟩] at ha
          rw [← fill_st ha] at ih
          exact ⟨q0, fun _ => ⟨g.1, fun _ => ⟨q0, fun _ => ⟨⟨e2, g.2⟩, fun _ => ih⟩⟩⟩⟩
        · have e2 := of_decide_eq_false h2
          rw [if_neg (fun h => e2 h.2)] at ha
          rw [← fill_st ha] at ih
          exact ih
      · have e1 := beq_f h1
        rw [if_neg (fun h => e1 h.1)] at ha
        rw [← fill_st ha] at ih
        exact ih)
def k_alias_allocas : Con := con [.d s_api_Func] (.sl 1 .bool) (fun x => smallF x.1) fun x => allocsF x.1
theorem m_alias_allocas (f : Den s_api_Func) (h_f : okD s_api_Func f) (hp : smallF f) : Runs E_A17 (start E_A17 f_alias_allocas [(.tv s_api_Func f)]) (fun r_ h_ => r_ = (.tv (.sl 1 .bool) (allocsF f)) ∧ h_ = []) := .tree E_A17_ok (alias_allocas_t f) (by
  have h1 := sz_func f
  have h2 := sz_I f.2.2.2.1
  have e2 : ln I f.2.2.2.1 = nR f := rfl
  have hl : nR f ≤ 1048576 := by
    unfold smallF at hp
    omega
  have := alc_l f (by omega) 0 (Nat.zero_le _)
  rw [← fill_0] at this
  have e3 : ln (.sl 16 s_api_Pos) (defsF f) = nR f := (good_defs f).1
  refine ⟨rfl, fun _ => ⟨by omega, fun _ => ⟨by unfold roomB; omega, fun _ => ⟨hp, fun _ _ => ?_⟩⟩⟩⟩
  rw [e3]
  exact this)
theorem c_alias_allocas : SpecOK E_A17 f_alias_allocas k_alias_allocas.spec := spec_of fun x hx hp => ⟨rfl, m_alias_allocas x.1 hx.1 hp⟩
def L_A17 : List (FuncId × FSpec) := [(f_alias_allocas, k_alias_allocas.spec)] ++ L_A16
theorem L_A17_ok : ∀ x ∈ L_A17, SpecOK (ctx []) x.1 x.2 := by
  unfold L_A17
  simp only [List.cons_append, List.nil_append, List.forall_mem_cons]
  exact ⟨c_alias_allocas, L_A16_ok⟩
end Burn.M27N
namespace Burn.M27N
open Go Go.BE Go.Proofs
set_option maxRecDepth 100000
set_option linter.unusedVariables false
set_option linter.unusedSimpArgs false
open Burn.Cfg Burn.Intn Burn.Ref
noncomputable abbrev E_A18 : Ctx := ctx L_A17
theorem E_A18_ok : EOK E_A18 := ctx_ok L_A17_ok
def cuts_A18 : CutL := [([], 38, 0, [1, 3, 24, 25, 26], [], []),
  ([], 38, 2, [1, 3, 5, 24, 25, 26, 31, 32, 33], [], []),
  ([], 38, 4, [1, 3, 5, 24, 25, 26, 53, 54, 55], [], []),
  ([], 38, 6, [1, 3, 24, 25, 26, 65, 66, 67], [], []),
  ([], 38, 8, [3, 12, 82, 83], [], []),
  ([(38, 2370)], 53, 0, [0, 3, 7, 8, 9], [], [[1, 3, 5, 24, 25, 26, 31, 32, 33]]),
  ([(38, 4546)], 55, 0, [0, 3, 29, 30, 31], [], [[1, 3, 24, 25, 26, 65, 66, 67]])]
def rets_A18 : FuncId → List (Option Fx)
  | 38 => [some (.dat (.sl 1 .bool))]
  | _ => []
def H_A18 : Hints := { cut := cutOf cuts_A18, ret := rets_A18 }
noncomputable def alias_Escapes_L0 (f : Den s_api_Func) (t24 : List (Den s_api_Block)) (t25 : Int) (t26 : Int) (x_0 : ByteArray) (x_1 : List (Den I)) (x_2 : Int) (x_3 : List (Den I)) (x_4 : List (Den s_api_Block)) (x_5 : List (Den s_alias_Base)) (x_6 : List (Den .bool)) : Cfg := hcfg E_A18 f_alias_Escapes 0 [(1, (.rtp s_api_Func f)), (3, (.ref 0 0)), (24, (.tv (.sl 136 s_api_Block) t24)), (25, (vi t25)), (26, (vi t26))] [(0, ⟨(.cells [(vs x_0), (.tv (.sl 8 I) x_1), (vi x_2), (.tv (.sl 8 I) x_3), (.tv (.sl 136 s_api_Block) x_4), (.tv (.sl 32 s_alias_Base) x_5), (.osl 1 1 [] none)]), 0, [], false, none⟩), (1, ⟨(.arr 0 1 .bool x_6), 1, [], false, none⟩)] 2
noncomputable def alias_Escapes_L2 (f : Den s_api_Func) (t24 : List (Den s_api_Block)) (t25 : Int) (t26 : Int) (t31 : List (Den s_api_Instr)) (t32 : Int) (t33 : Int) (x_0 : ByteArray) (x_1 : List (Den I)) (x_2 : Int) (x_3 : List (Den I)) (x_4 : List (Den s_api_Block)) (x_5 : List (Den s_alias_Base)) (b_0 : List (Den I)) (b_1 : List (Den s_api_Instr)) (b_2 : Int) (b_3 : List (Den I)) (b_4 : List (Den I)) (b_5 : List (Den s_api_Edge)) (b_6 : Int) (x_6 : List (Den .bool)) : Cfg := hcfg E_A18 f_alias_Escapes 2 [(1, (.rtp s_api_Func f)), (3, (.ref 0 0)), (5, (.ref 1 0)), (24, (.tv (.sl 136 s_api_Block) t24)), (25, (vi t25)), (26, (vi t26)), (31, (.tv (.sl 80 s_api_Instr) t31)), (32, (vi t32)), (33, (vi t33))] [(0, ⟨(.cells [(vs x_0), (.tv (.sl 8 I) x_1), (vi x_2), (.tv (.sl 8 I) x_3), (.tv (.sl 136 s_api_Block) x_4), (.tv (.sl 32 s_alias_Base) x_5), (.osl 2 2 [] none)]), 0, [], false, none⟩), (1, ⟨(.cells [(.tv (.sl 8 I) b_0), (.tv (.sl 80 s_api_Instr) b_1), (vi b_2), (.tv (.sl 8 I) b_3), (.tv (.sl 8 I) b_4), (.tv (.sl 32 s_api_Edge) b_5), (vi b_6)]), 1, [], false, none⟩), (2, ⟨(.arr 0 1 .bool x_6), 2, [], false, none⟩)] 3
noncomputable def alias_Escapes_L8 (allocated : List (Den .bool)) (t82 : Int) (t83 : Int) (x_0 : ByteArray) (x_1 : List (Den I)) (x_2 : Int) (x_3 : List (Den I)) (x_4 : List (Den s_api_Block)) (x_5 : List (Den s_alias_Base)) (x_6 : List (Den .bool)) : Cfg := hcfg E_A18 f_alias_Escapes 8 [(3, (.ref 0 0)), (12, (.tv (.sl 1 .bool) allocated)), (82, (vi t82)), (83, (vi t83))] [(0, ⟨(.cells [(vs x_0), (.tv (.sl 8 I) x_1), (vi x_2), (.tv (.sl 8 I) x_3), (.tv (.sl 136 s_api_Block) x_4), (.tv (.sl 32 s_alias_Base) x_5), (.osl 1 1 [] none)]), 0, [], false, none⟩), (1, ⟨(.arr 0 1 .bool x_6), 1, [], false, none⟩)] 2
noncomputable def alias_Escapes_instr_L0 (in_0 : Int) (in_1 : Int) (in_2 : Int) (in_3 : List (Den I)) (in_4 : Int) (in_5 : Int) (in_6 : Int) (in_7 : Bool) (t7 : List (Den I)) (t8 : Int) (t9 : Int) (f : Den s_api_Func) (t24 : List (Den s_api_Block)) (t25 : Int) (t26 : Int) (t31 : List (Den s_api_Instr)) (t32 : Int) (t33 : Int) (x_0 : ByteArray) (x_1 : List (Den I)) (x_2 : Int) (x_3 : List (Den I)) (x_4 : List (Den s_api_Block)) (x_5 : List (Den s_alias_Base)) (b_0 : List (Den I)) (b_1 : List (Den s_api_Instr)) (b_2 : Int) (b_3 : List (Den I)) (b_4 : List (Den I)) (b_5 : List (Den s_api_Edge)) (b_6 : Int) (x_6 : List (Den .bool)) : Cfg := hcfgx E_A18 f_alias_escapes_instr 0 [(0, (.ref 0 0)), (3, (.rop [(vi in_0), (vi in_1), (vi in_2), (.tv (.sl 8 I) in_3), (vi in_4), (vi in_5), (vi in_6), (vb in_7)] 0)), (7, (.tv (.sl 8 I) t7)), (8, (vi t8)), (9, (vi t9))] [(0, ⟨(.cells [(vs x_0), (.tv (.sl 8 I) x_1), (vi x_2), (.tv (.sl 8 I) x_3), (.tv (.sl 136 s_api_Block) x_4), (.tv (.sl 32 s_alias_Base) x_5), (.osl 2 2 [] none)]), 0, [], false, none⟩), (1, ⟨(.cells [(.tv (.sl 8 I) b_0), (.tv (.sl 80 s_api_Instr) b_1), (vi b_2), (.tv (.sl 8 I) b_3), (.tv (.sl 8 I) b_4), (.tv (.sl 32 s_api_Edge) b_5), (vi b_6)]), 1, [], false, none⟩), (2, ⟨(.arr 0 1 .bool x_6), 2, [], false, none⟩)] 3 [cfr E_A18 f_alias_Escapes 2 [(1, (.rtp s_api_Func f)), (3, (.ref 0 0)), (5, (.ref 1 0)), (24, (.tv (.sl 136 s_api_Block) t24)), (25, (vi t25)), (26, (vi t26)), (31, (.tv (.sl 80 s_api_Instr) t31)), (32, (vi t32)), (33, (vi t33))]]
noncomputable def alias_Escapes_L4 (f : Den s_api_Func) (t24 : List (Den s_api_Block)) (t25 : Int) (t26 : Int) (t53 : List (Den I)) (t54 : Int) (t55 : Int) (x_0 : ByteArray) (x_1 : List (Den I)) (x_2 : Int) (x_3 : List (Den I)) (x_4 : List (Den s_api_Block)) (x_5 : List (Den s_alias_Base)) (b_0 : List (Den I)) (b_1 : List (Den s_api_Instr)) (b_2 : Int) (b_3 : List (Den I)) (b_4 : List (Den I)) (b_5 : List (Den s_api_Edge)) (b_6 : Int) (x_6 : List (Den .bool)) : Cfg := hcfg E_A18 f_alias_Escapes 4 [(1, (.rtp s_api_Func f)), (3, (.ref 0 0)), (5, (.ref 1 0)), (24, (.tv (.sl 136 s_api_Block) t24)), (25, (vi t25)), (26, (vi t26)), (53, (.tv (.sl 8 I) t53)), (54, (vi t54)), (55, (vi t55))] [(0, ⟨(.cells [(vs x_0), (.tv (.sl 8 I) x_1), (vi x_2), (.tv (.sl 8 I) x_3), (.tv (.sl 136 s_api_Block) x_4), (.tv (.sl 32 s_alias_Base) x_5), (.osl 2 2 [] none)]), 0, [], false, none⟩), (1, ⟨(.cells [(.tv (.sl 8 I) b_0), (.tv (.sl 80 s_api_Instr) b_1), (vi b_2), (.tv (.sl 8 I) b_3), (.tv (.sl 8 I) b_4), (.tv (.sl 32 s_api_Edge) b_5), (vi b_6)]), 1, [], false, none⟩), (2, ⟨(.arr 0 1 .bool x_6), 2, [], false, none⟩)] 3
noncomputable def alias_Escapes_L6 (f : Den s_api_Func) (t24 : List (Den s_api_Block)) (t25 : Int) (t26 : Int) (t65 : List (Den s_api_Edge)) (t66 : Int) (t67 : Int) (x_0 : ByteArray) (x_1 : List (Den I)) (x_2 : Int) (x_3 : List (Den I)) (x_4 : List (Den s_api_Block)) (x_5 : List (Den s_alias_Base)) (x_6 : List (Den .bool)) : Cfg := hcfg E_A18 f_alias_Escapes 6 [(1, (.rtp s_api_Func f)), (3, (.ref 0 0)), (24, (.tv (.sl 136 s_api_Block) t24)), (25, (vi t25)), (26, (vi t26)), (65, (.tv (.sl 32 s_api_Edge) t65)), (66, (vi t66)), (67, (vi t67))] [(0, ⟨(.cells [(vs x_0), (.tv (.sl 8 I) x_1), (vi x_2), (.tv (.sl 8 I) x_3), (.tv (.sl 136 s_api_Block) x_4), (.tv (.sl 32 s_alias_Base) x_5), (.osl 1 1 [] none)]), 0, [], false, none⟩), (1, ⟨(.arr 0 1 .bool x_6), 1, [], false, none⟩)] 2
noncomputable def alias_Escapes_edge_L0 (e_0 : Int) (e_1 : List (Den I)) (t29 : List (Den I)) (t30 : Int) (t31 : Int) (f : Den s_api_Func) (t24 : List (Den s_api_Block)) (t25 : Int) (t26 : Int) (t65 : List (Den s_api_Edge)) (t66 : Int) (t67 : Int) (x_0 : ByteArray) (x_1 : List (Den I)) (x_2 : Int) (x_3 : List (Den I)) (x_4 : List (Den s_api_Block)) (x_5 : List (Den s_alias_Base)) (x_6 : List (Den .bool)) : Cfg := hcfgx E_A18 f_alias_escapes_edge 0 [(0, (.ref 0 0)), (3, (.rop [(vi e_0), (.tv (.sl 8 I) e_1)] 0)), (29, (.tv (.sl 8 I) t29)), (30, (vi t30)), (31, (vi t31))] [(0, ⟨(.cells [(vs x_0), (.tv (.sl 8 I) x_1), (vi x_2), (.tv (.sl 8 I) x_3), (.tv (.sl 136 s_api_Block) x_4), (.tv (.sl 32 s_alias_Base) x_5), (.osl 1 1 [] none)]), 0, [], false, none⟩), (1, ⟨(.arr 0 1 .bool x_6), 1, [], false, none⟩)] 2 [cfr E_A18 f_alias_Escapes 6 [(1, (.rtp s_api_Func f)), (3, (.ref 0 0)), (24, (.tv (.sl 136 s_api_Block) t24)), (25, (vi t25)), (26, (vi t26)), (65, (.tv (.sl 32 s_api_Edge) t65)), (66, (vi t66)), (67, (vi t67))]]
theorem alias_Escapes_t (f : Den s_api_Func) : run E_A18 H_A18 f_alias_Escapes 3000 (start E_A18 f_alias_Escapes [(.tv s_api_Func f)]) = (.chk (smallF f) (.chk (((ln I f.2.2.2.1) : Int) = ((ln I f.2.2.2.1) : Int)) (.chk (0 ≤ ((ln I f.2.2.2.1) : Int)) (.chk ((ln I f.2.2.2.1) * 1 ≤ roomB) (.know (okD (.sl 32 s_alias_Base) (basesF f)) (hd (alias_Escapes_L0 f f.2.2.2.2.1 ((ln s_api_Block f.2.2.2.2.1) : Int) (0 : Int) (tOf f.1) f.2.1 (z f.2.2.1) f.2.2.2.1 f.2.2.2.2.1 (basesF f) (List.replicate (ln I f.2.2.2.1) (dz .bool))))))))) := by kernel_rfl
theorem alias_Escapes_L0_t (f : Den s_api_Func) (t24 : List (Den s_api_Block)) (t25 : Int) (t26 : Int) (x_0 : ByteArray) (x_1 : List (Den I)) (x_2 : Int) (x_3 : List (Den I)) (x_4 : List (Den s_api_Block)) (x_5 : List (Den s_alias_Base)) (x_6 : List (Den .bool)) : run E_A18 H_A18 f_alias_Escapes 3000 (alias_Escapes_L0 f t24 t25 t26 x_0 x_1 x_2 x_3 x_4 x_5 x_6) = (cond (decide (t26 < t25)) (.chk (0 ≤ t26 ∧ t26 < (ln s_api_Block t24)) (hd (alias_Escapes_L2 f t24 t25 t26 (((gd s_api_Block t24 ((t26).toNat)).2).1) ((ln s_api_Instr (((gd s_api_Block t24 ((t26).toNat)).2).1)) : Int) (0 : Int) x_0 x_1 x_2 x_3 x_4 x_5 ((gd s_api_Block t24 ((t26).toNat)).1) (((gd s_api_Block t24 ((t26).toNat)).2).1) (z (((((gd s_api_Block t24 ((t26).toNat)).2).2).1).1)) ((((((gd s_api_Block t24 ((t26).toNat)).2).2).1).2).1) (((((((gd s_api_Block t24 ((t26).toNat)).2).2).1).2).2).1) ((((((((gd s_api_Block t24 ((t26).toNat)).2).2).1).2).2).2).1) (z (((((((((gd s_api_Block t24 ((t26).toNat)).2).2).1).2).2).2).2).1)) x_6))) (.chk (smallF f) (.know (okD (.sl 1 .bool) (allocsF f)) (hd (alias_Escapes_L8 (allocsF f) ((ln .bool x_6) : Int) (0 : Int) x_0 x_1 x_2 x_3 x_4 x_5 x_6))))) := by kernel_rfl
theorem alias_Escapes_L2_t (f : Den s_api_Func) (t24 : List (Den s_api_Block)) (t25 : Int) (t26 : Int) (t31 : List (Den s_api_Instr)) (t32 : Int) (t33 : Int) (x_0 : ByteArray) (x_1 : List (Den I)) (x_2 : Int) (x_3 : List (Den I)) (x_4 : List (Den s_api_Block)) (x_5 : List (Den s_alias_Base)) (b_0 : List (Den I)) (b_1 : List (Den s_api_Instr)) (b_2 : Int) (b_3 : List (Den I)) (b_4 : List (Den I)) (b_5 : List (Den s_api_Edge)) (b_6 : Int) (x_6 : List (Den .bool)) : run E_A18 H_A18 f_alias_Escapes 3000 (alias_Escapes_L2 f t24 t25 t26 t31 t32 t33 x_0 x_1 x_2 x_3 x_4 x_5 b_0 b_1 b_2 b_3 b_4 b_5 b_6 x_6) = (cond (decide (t33 < t32)) (.chk (0 ≤ t33 ∧ t33 < (ln s_api_Instr t31)) (hd (alias_Escapes_instr_L0 (z ((gd s_api_Instr t31 ((t33).toNat)).1)) (z (((gd s_api_Instr t31 ((t33).toNat)).2).1)) (z ((((gd s_api_Instr t31 ((t33).toNat)).2).2).1)) (((((gd s_api_Instr t31 ((t33).toNat)).2).2).2).1) (z ((((((gd s_api_Instr t31 ((t33).toNat)).2).2).2).2).1)) (z (((((((gd s_api_Instr t31 ((t33).toNat)).2).2).2).2).2).1)) (z ((((((((gd s_api_Instr t31 ((t33).toNat)).2).2).2).2).2).2).1)) (bOf (((((((((gd s_api_Instr t31 ((t33).toNat)).2).2).2).2).2).2).2).1)) (((((gd s_api_Instr t31 ((t33).toNat)).2).2).2).1) ((ln I (((((gd s_api_Instr t31 ((t33).toNat)).2).2).2).1)) : Int) (0 : Int) f t24 t25 t26 t31 t32 t33 x_0 x_1 x_2 x_3 x_4 x_5 b_0 b_1 b_2 b_3 b_4 b_5 b_6 x_6))) (cond (b_2 == (4 : Int)) (hd (alias_Escapes_L4 f t24 t25 t26 b_3 ((ln I b_3) : Int) (0 : Int) x_0 x_1 x_2 x_3 x_4 x_5 b_0 b_1 b_2 b_3 b_4 b_5 b_6 x_6)) (cond (b_2 == (6 : Int)) (hd (alias_Escapes_L4 f t24 t25 t26 b_3 ((ln I b_3) : Int) (0 : Int) x_0 x_1 x_2 x_3 x_4 x_5 b_0 b_1 b_2 b_3 b_4 b_5 b_6 x_6)) (hd (alias_Escapes_L6 f t24 t25 t26 b_5 ((ln s_api_Edge b_5) : Int) (0 : Int) x_0 x_1 x_2 x_3 x_4 x_5 x_6))))) := by kernel_rfl
theorem alias_Escapes_L8_t (allocated : List (Den .bool)) (t82 : Int) (t83 : Int) (x_0 : ByteArray) (x_1 : List (Den I)) (x_2 : Int) (x_3 : List (Den I)) (x_4 : List (Den s_api_Block)) (x_5 : List (Den s_alias_Base)) (x_6 : List (Den .bool)) : run E_A18 H_A18 f_alias_Escapes 3000 (alias_Escapes_L8 allocated t82 t83 x_0 x_1 x_2 x_3 x_4 x_5 x_6) = (cond (decide (t83 < t82)) (.chk (0 ≤ t83 ∧ t83 < (ln .bool x_6)) (.chk ((t83).toNat < (ln .bool x_6)) (cond (bOf (gd .bool x_6 ((t83).toNat))) (.chk (0 ≤ t83 ∧ t83 < (ln .bool allocated)) (.chk (0 ≤ t83 ∧ t83 < (ln .bool x_6)) (.chk ((t83).toNat < (ln .bool x_6)) (hd (alias_Escapes_L8 allocated t82 (IntKind.wrap .i64 (t83 + (1 : Int))) x_0 x_1 x_2 x_3 x_4 x_5 (st .bool x_6 ((t83).toNat) (gd .bool allocated ((t83).toNat)))))))) (.chk (0 ≤ t83 ∧ t83 < (ln .bool x_6)) (.chk ((t83).toNat < (ln .bool x_6)) (hd (alias_Escapes_L8 allocated t82 (IntKind.wrap .i64 (t83 + (1 : Int))) x_0 x_1 x_2 x_3 x_4 x_5 (st .bool x_6 ((t83).toNat) false)))))))) (rt (.tv (.sl 1 .bool) x_6) [])) := by kernel_rfl
theorem alias_Escapes_instr_L0_t (in_0 : Int) (in_1 : Int) (in_2 : Int) (in_3 : List (Den I)) (in_4 : Int) (in_5 : Int) (in_6 : Int) (in_7 : Bool) (t7 : List (Den I)) (t8 : Int) (t9 : Int) (f : Den s_api_Func) (t24 : List (Den s_api_Block)) (t25 : Int) (t26 : Int) (t31 : List (Den s_api_Instr)) (t32 : Int) (t33 : Int) (x_0 : ByteArray) (x_1 : List (Den I)) (x_2 : Int) (x_3 : List (Den I)) (x_4 : List (Den s_api_Block)) (x_5 : List (Den s_alias_Base)) (b_0 : List (Den I)) (b_1 : List (Den s_api_Instr)) (b_2 : Int) (b_3 : List (Den I)) (b_4 : List (Den I)) (b_5 : List (Den s_api_Edge)) (b_6 : Int) (x_6 : List (Den .bool)) : run E_A18 H_A18 f_alias_Escapes 3000 (alias_Escapes_instr_L0 in_0 in_1 in_2 in_3 in_4 in_5 in_6 in_7 t7 t8 t9 f t24 t25 t26 t31 t32 t33 x_0 x_1 x_2 x_3 x_4 x_5 b_0 b_1 b_2 b_3 b_4 b_5 b_6 x_6) = (cond (decide (t9 < t8)) (.chk (0 ≤ t9 ∧ t9 < (ln I t7)) (cond (in_0 == (29 : Int)) (cond (t9 == (1 : Int)) (cond (decide ((z (gd I t7 ((t9).toNat))) < (0 : Int))) (hd (alias_Escapes_instr_L0 in_0 in_1 in_2 in_3 in_4 in_5 in_6 in_7 t7 t8 (IntKind.wrap .i64 (t9 + (1 : Int))) f t24 t25 t26 t31 t32 t33 x_0 x_1 x_2 x_3 x_4 x_5 b_0 b_1 b_2 b_3 b_4 b_5 b_6 x_6)) (cond (decide ((z (gd I t7 ((t9).toNat))) ≥ ((ln s_alias_Base x_5) : Int))) (hd (alias_Escapes_instr_L0 in_0 in_1 in_2 in_3 in_4 in_5 in_6 in_7 t7 t8 (IntKind.wrap .i64 (t9 + (1 : Int))) f t24 t25 t26 t31 t32 t33 x_0 x_1 x_2 x_3 x_4 x_5 b_0 b_1 b_2 b_3 b_4 b_5 b_6 x_6)) (.chk (0 ≤ (z (gd I t7 ((t9).toNat))) ∧ (z (gd I t7 ((t9).toNat))) < (ln s_alias_Base x_5)) (cond ((z ((gd s_alias_Base x_5 (((z (gd I t7 ((t9).toNat)))).toNat)).1)) != (2 : Int)) (hd (alias_Escapes_instr_L0 in_0 in_1 in_2 in_3 in_4 in_5 in_6 in_7 t7 t8 (IntKind.wrap .i64 (t9 + (1 : Int))) f t24 t25 t26 t31 t32 t33 x_0 x_1 x_2 x_3 x_4 x_5 b_0 b_1 b_2 b_3 b_4 b_5 b_6 x_6)) (.chk (0 ≤ (z (gd I t7 ((t9).toNat))) ∧ (z (gd I t7 ((t9).toNat))) < (ln s_alias_Base x_5)) (.chk (0 ≤ (z (((gd s_alias_Base x_5 (((z (gd I t7 ((t9).toNat)))).toNat)).2).1)) ∧ (z (((gd s_alias_Base x_5 (((z (gd I t7 ((t9).toNat)))).toNat)).2).1)) < (ln .bool x_6)) (.chk (((z (((gd s_alias_Base x_5 (((z (gd I t7 ((t9).toNat)))).toNat)).2).1))).toNat < (ln .bool x_6)) (hd (alias_Escapes_instr_L0 in_0 in_1 in_2 in_3 in_4 in_5 in_6 in_7 t7 t8 (IntKind.wrap .i64 (t9 + (1 : Int))) f t24 t25 t26 t31 t32 t33 x_0 x_1 x_2 x_3 x_4 x_5 b_0 b_1 b_2 b_3 b_4 b_5 b_6 (st .bool x_6 (((z (((gd s_alias_Base x_5 (((z (gd I t7 ((t9).toNat)))).toNat)).2).1))).toNat) true)))))))))) (hd (alias_Escapes_instr_L0 in_0 in_1 in_2 in_3 in_4 in_5 in_6 in_7 t7 t8 (IntKind.wrap .i64 (t9 + (1 : Int))) f t24 t25 t26 t31 t32 t33 x_0 x_1 x_2 x_3 x_4 x_5 b_0 b_1 b_2 b_3 b_4 b_5 b_6 x_6))) (cond (in_0 == (30 : Int)) (cond (decide ((z (gd I t7 ((t9).toNat))) < (0 : Int))) (hd (alias_Escapes_instr_L0 in_0 in_1 in_2 in_3 in_4 in_5 in_6 in_7 t7 t8 (IntKind.wrap .i64 (t9 + (1 : Int))) f t24 t25 t26 t31 t32 t33 x_0 x_1 x_2 x_3 x_4 x_5 b_0 b_1 b_2 b_3 b_4 b_5 b_6 x_6)) (cond (decide ((z (gd I t7 ((t9).toNat))) ≥ ((ln s_alias_Base x_5) : Int))) (hd (alias_Escapes_instr_L0 in_0 in_1 in_2 in_3 in_4 in_5 in_6 in_7 t7 t8 (IntKind.wrap .i64 (t9 + (1 : Int))) f t24 t25 t26 t31 t32 t33 x_0 x_1 x_2 x_3 x_4 x_5 b_0 b_1 b_2 b_3 b_4 b_5 b_6 x_6)) (.chk (0 ≤ (z (gd I t7 ((t9).toNat))) ∧ (z (gd I t7 ((t9).toNat))) < (ln s_alias_Base x_5)) (cond ((z ((gd s_alias_Base x_5 (((z (gd I t7 ((t9).toNat)))).toNat)).1)) != (2 : Int)) (hd (alias_Escapes_instr_L0 in_0 in_1 in_2 in_3 in_4 in_5 in_6 in_7 t7 t8 (IntKind.wrap .i64 (t9 + (1 : Int))) f t24 t25 t26 t31 t32 t33 x_0 x_1 x_2 x_3 x_4 x_5 b_0 b_1 b_2 b_3 b_4 b_5 b_6 x_6)) (.chk (0 ≤ (z (gd I t7 ((t9).toNat))) ∧ (z (gd I t7 ((t9).toNat))) < (ln s_alias_Base x_5)) (.chk (0 ≤ (z (((gd s_alias_Base x_5 (((z (gd I t7 ((t9).toNat)))).toNat)).2).1)) ∧ (z (((gd s_alias_Base x_5 (((z (gd I t7 ((t9).toNat)))).toNat)).2).1)) < (ln .bool x_6)) (.chk (((z (((gd s_alias_Base x_5 (((z (gd I t7 ((t9).toNat)))).toNat)).2).1))).toNat < (ln .bool x_6)) (hd (alias_Escapes_instr_L0 in_0 in_1 in_2 in_3 in_4 in_5 in_6 in_7 t7 t8 (IntKind.wrap .i64 (t9 + (1 : Int))) f t24 t25 t26 t31 t32 t33 x_0 x_1 x_2 x_3 x_4 x_5 b_0 b_1 b_2 b_3 b_4 b_5 b_6 (st .bool x_6 (((z (((gd s_alias_Base x_5 (((z (gd I t7 ((t9).toNat)))).toNat)).2).1))).toNat) true)))))))))) (cond (in_0 == (31 : Int)) (cond (decide ((z (gd I t7 ((t9).toNat))) < (0 : Int))) (hd (alias_Escapes_instr_L0 in_0 in_1 in_2 in_3 in_4 in_5 in_6 in_7 t7 t8 (IntKind.wrap .i64 (t9 + (1 : Int))) f t24 t25 t26 t31 t32 t33 x_0 x_1 x_2 x_3 x_4 x_5 b_0 b_1 b_2 b_3 b_4 b_5 b_6 x_6)) (cond (decide ((z (gd I t7 ((t9).toNat))) ≥ ((ln s_alias_Base x_5) : Int))) (hd (alias_Escapes_instr_L0 in_0 in_1 in_2 in_3 in_4 in_5 in_6 in_7 t7 t8 (IntKind.wrap .i64 (t9 + (1 : Int))) f t24 t25 t26 t31 t32 t33 x_0 x_1 x_2 x_3 x_4 x_5 b_0 b_1 b_2 b_3 b_4 b_5 b_6 x_6)) (.chk (0 ≤ (z (gd I t7 ((t9).toNat))) ∧ (z (gd I t7 ((t9).toNat))) < (ln s_alias_Base x_5)) (cond ((z ((gd s_alias_Base x_5 (((z (gd I t7 ((t9).toNat)))).toNat)).1)) != (2 : Int)) (hd (alias_Escapes_instr_L0 in_0 in_1 in_2 in_3 in_4 in_5 in_6 in_7 t7 t8 (IntKind.wrap .i64 (t9 + (1 : Int))) f t24 t25 t26 t31 t32 t33 x_0 x_1 x_2 x_3 x_4 x_5 b_0 b_1 b_2 b_3 b_4 b_5 b_6 x_6)) (.chk (0 ≤ (z (gd I t7 ((t9).toNat))) ∧ (z (gd I t7 ((t9).toNat))) < (ln s_alias_Base x_5)) (.chk (0 ≤ (z (((gd s_alias_Base x_5 (((z (gd I t7 ((t9).toNat)))).toNat)).2).1)) ∧ (z (((gd s_alias_Base x_5 (((z (gd I t7 ((t9).toNat)))).toNat)).2).1)) < (ln .bool x_6)) (.chk (((z (((gd s_alias_Base x_5 (((z (gd I t7 ((t9).toNat)))).toNat)).2).1))).toNat < (ln .bool x_6)) (hd (alias_Escapes_instr_L0 in_0 in_1 in_2 in_3 in_4 in_5 in_6 in_7 t7 t8 (IntKind.wrap .i64 (t9 + (1 : Int))) f t24 t25 t26 t31 t32 t33 x_0 x_1 x_2 x_3 x_4 x_5 b_0 b_1 b_2 b_3 b_4 b_5 b_6 (st .bool x_6 (((z (((gd s_alias_Base x_5 (((z (gd I t7 ((t9).toNat)))).toNat)).2).1))).toNat) true)))))))))) (cond (in_0 == (21 : Int)) (cond (t9 == (1 : Int)) (cond (decide ((z (gd I t7 ((t9).toNat))) < (0 : Int))) (hd (alias_Escapes_instr_L0 in_0 in_1 in_2 in_3 in_4 in_5 in_6 in_7 t7 t8 (IntKind.wrap .i64 (t9 + (1 : Int))) f t24 t25 t26 t31 t32 t33 x_0 x_1 x_2 x_3 x_4 x_5 b_0 b_1 b_2 b_3 b_4 b_5 b_6 x_6)) (cond (decide ((z (gd I t7 ((t9).toNat))) ≥ ((ln s_alias_Base x_5) : Int))) (hd (alias_Escapes_instr_L0 in_0 in_1 in_2 in_3 in_4 in_5 in_6 in_7 t7 t8 (IntKind.wrap .i64 (t9 + (1 : Int))) f t24 t25 t26 t31 t32 t33 x_0 x_1 x_2 x_3 x_4 x_5 b_0 b_1 b_2 b_3 b_4 b_5 b_6 x_6)) (.chk (0 ≤ (z (gd I t7 ((t9).toNat))) ∧ (z (gd I t7 ((t9).toNat))) < (ln s_alias_Base x_5)) (cond ((z ((gd s_alias_Base x_5 (((z (gd I t7 ((t9).toNat)))).toNat)).1)) != (2 : Int)) (hd (alias_Escapes_instr_L0 in_0 in_1 in_2 in_3 in_4 in_5 in_6 in_7 t7 t8 (IntKind.wrap .i64 (t9 + (1 : Int))) f t24 t25 t26 t31 t32 t33 x_0 x_1 x_2 x_3 x_4 x_5 b_0 b_1 b_2 b_3 b_4 b_5 b_6 x_6)) (.chk (0 ≤ (z (gd I t7 ((t9).toNat))) ∧ (z (gd I t7 ((t9).toNat))) < (ln s_alias_Base x_5)) (cond (decide (in_2 ≥ (0 : Int))) (cond (decide (in_2 < ((ln s_alias_Base x_5) : Int))) (.chk (0 ≤ in_2 ∧ in_2 < (ln s_alias_Base x_5)) (cond ((z ((gd s_alias_Base x_5 ((in_2).toNat)).1)) == (2 : Int)) (.chk (0 ≤ in_2 ∧ in_2 < (ln s_alias_Base x_5)) (cond ((z (((gd s_alias_Base x_5 ((in_2).toNat)).2).1)) == (z (((gd s_alias_Base x_5 (((z (gd I t7 ((t9).toNat)))).toNat)).2).1))) (hd (alias_Escapes_instr_L0 in_0 in_1 in_2 in_3 in_4 in_5 in_6 in_7 t7 t8 (IntKind.wrap .i64 (t9 + (1 : Int))) f t24 t25 t26 t31 t32 t33 x_0 x_1 x_2 x_3 x_4 x_5 b_0 b_1 b_2 b_3 b_4 b_5 b_6 x_6)) (.chk (0 ≤ (z (((gd s_alias_Base x_5 (((z (gd I t7 ((t9).toNat)))).toNat)).2).1)) ∧ (z (((gd s_alias_Base x_5 (((z (gd I t7 ((t9).toNat)))).toNat)).2).1)) < (ln .bool x_6)) (.chk (((z (((gd s_alias_Base x_5 (((z (gd I t7 ((t9).toNat)))).toNat)).2).1))).toNat < (ln .bool x_6)) (hd (alias_Escapes_instr_L0 in_0 in_1 in_2 in_3 in_4 in_5 in_6 in_7 t7 t8 (IntKind.wrap .i64 (t9 + (1 : Int))) f t24 t25 t26 t31 t32 t33 x_0 x_1 x_2 x_3 x_4 x_5 b_0 b_1 b_2 b_3 b_4 b_5 b_6 (st .bool x_6 (((z (((gd s_alias_Base x_5 (((z (gd I t7 ((t9).toNat)))).toNat)).2).1))).toNat) true))))))) (.chk (0 ≤ (z (((gd s_alias_Base x_5 (((z (gd I t7 ((t9).toNat)))).toNat)).2).1)) ∧ (z (((gd s_alias_Base x_5 (((z (gd I t7 ((t9).toNat)))).toNat)).2).1)) < (ln .bool x_6)) (.chk (((z (((gd s_alias_Base x_5 (((z (gd I t7 ((t9).toNat)))).toNat)).2).1))).toNat < (ln .bool x_6)) (hd (alias_Escapes_instr_L0 in_0 in_1 in_2 in_3 in_4 in_5 in_6 in_7 t7 t8 (IntKind.wrap .i64 (t9 + (1 : Int))) f t24 t25 t26 t31 t32 t33 x_0 x_1 x_2 x_3 x_4 x_5 b_0 b_1 b_2 b_3 b_4 b_5 b_6 (st .bool x_6 (((z (((gd s_alias_Base x_5 (((z (gd I t7 ((t9).toNat)))).toNat)).2).1))).toNat) true))))))) (.chk (0 ≤ (z (((gd s_alias_Base x_5 (((z (gd I t7 ((t9).toNat)))).toNat)).2).1)) ∧ (z (((gd s_alias_Base x_5 (((z (gd I t7 ((t9).toNat)))).toNat)).2).1)) < (ln .bool x_6)) (.chk (((z (((gd s_alias_Base x_5 (((z (gd I t7 ((t9).toNat)))).toNat)).2).1))).toNat < (ln .bool x_6)) (hd (alias_Escapes_instr_L0 in_0 in_1 in_2 in_3 in_4 in_5 in_6 in_7 t7 t8 (IntKind.wrap .i64 (t9 + (1 : Int))) f t24 t25 t26 t31 t32 t33 x_0 x_1 x_2 x_3 x_4 x_5 b_0 b_1 b_2 b_3 b_4 b_5 b_6 (st .bool x_6 (((z (((gd s_alias_Base x_5 (((z (gd I t7 ((t9).toNat)))).toNat)).2).1))).toNat) true)))))) (.chk (0 ≤ (z (((gd s_alias_Base x_5 (((z (gd I t7 ((t9).toNat)))).toNat)).2).1)) ∧ (z (((gd s_alias_Base x_5 (((z (gd I t7 ((t9).toNat)))).toNat)).2).1)) < (ln .bool x_6)) (.chk (((z (((gd s_alias_Base x_5 (((z (gd I t7 ((t9).toNat)))).toNat)).2).1))).toNat < (ln .bool x_6)) (hd (alias_Escapes_instr_L0 in_0 in_1 in_2 in_3 in_4 in_5 in_6 in_7 t7 t8 (IntKind.wrap .i64 (t9 + (1 : Int))) f t24 t25 t26 t31 t32 t33 x_0 x_1 x_2 x_3 x_4 x_5 b_0 b_1 b_2 b_3 b_4 b_5 b_6 (st .bool x_6 (((z (((gd s_alias_Base x_5 (((z (gd I t7 ((t9).toNat)))).toNat)).2).1))).toNat) true))))))))))) (cond (t9 == (2 : Int)) (cond (decide ((z (gd I t7 ((t9).toNat))) < (0 : Int))) (hd (alias_Escapes_instr_L0 in_0 in_1 in_2 in_3 in_4 in_5 in_6 in_7 t7 t8 (IntKind.wrap .i64 (t9 + (1 : Int))) f t24 t25 t26 t31 t32 t33 x_0 x_1 x_2 x_3 x_4 x_5 b_0 b_1 b_2 b_3 b_4 b_5 b_6 x_6)) (cond (decide ((z (gd I t7 ((t9).toNat))) ≥ ((ln s_alias_Base x_5) : Int))) (hd (alias_Escapes_instr_L0 in_0 in_1 in_2 in_3 in_4 in_5 in_6 in_7 t7 t8 (IntKind.wrap .i64 (t9 + (1 : Int))) f t24 t25 t26 t31 t32 t33 x_0 x_1 x_2 x_3 x_4 x_5 b_0 b_1 b_2 b_3 b_4 b_5 b_6 x_6)) (.chk (0 ≤ (z (gd I t7 ((t9).toNat))) ∧ (z (gd I t7 ((t9).toNat))) < (ln s_alias_Base x_5)) (cond ((z ((gd s_alias_Base x_5 (((z (gd I t7 ((t9).toNat)))).toNat)).1)) != (2 : Int)) (hd (alias_Escapes_instr_L0 in_0 in_1 in_2 in_3 in_4 in_5 in_6 in_7 t7 t8 (IntKind.wrap .i64 (t9 + (1 : Int))) f t24 t25 t26 t31 t32 t33 x_0 x_1 x_2 x_3 x_4 x_5 b_0 b_1 b_2 b_3 b_4 b_5 b_6 x_6)) (.chk (0 ≤ (z (gd I t7 ((t9).toNat))) ∧ (z (gd I t7 ((t9).toNat))) < (ln s_alias_Base x_5)) (cond (decide (in_2 ≥ (0 : Int))) (cond (decide (in_2 < ((ln s_alias_Base x_5) : Int))) (.chk (0 ≤ in_2 ∧ in_2 < (ln s_alias_Base x_5)) (cond ((z ((gd s_alias_Base x_5 ((in_2).toNat)).1)) == (2 : Int)) (.chk (0 ≤ in_2 ∧ in_2 < (ln s_alias_Base x_5)) (cond ((z (((gd s_alias_Base x_5 ((in_2).toNat)).2).1)) == (z (((gd s_alias_Base x_5 (((z (gd I t7 ((t9).toNat)))).toNat)).2).1))) (hd (alias_Escapes_instr_L0 in_0 in_1 in_2 in_3 in_4 in_5 in_6 in_7 t7 t8 (IntKind.wrap .i64 (t9 + (1 : Int))) f t24 t25 t26 t31 t32 t33 x_0 x_1 x_2 x_3 x_4 x_5 b_0 b_1 b_2 b_3 b_4 b_5 b_6 x_6)) (.chk (0 ≤ (z (((gd s_alias_Base x_5 (((z (gd I t7 ((t9).toNat)))).toNat)).2).1)) ∧ (z (((gd s_alias_Base x_5 (((z (gd I t7 ((t9).toNat)))).toNat)).2).1)) < (ln .bool x_6)) (.chk (((z (((gd s_alias_Base x_5 (((z (gd I t7 ((t9).toNat)))).toNat)).2).1))).toNat < (ln .bool x_6)) (hd (alias_Escapes_instr_L0 in_0 in_1 in_2 in_3 in_4 in_5 in_6 in_7 t7 t8 (IntKind.wrap .i64 (t9 + (1 : Int))) f t24 t25 t26 t31 t32 t33 x_0 x_1 x_2 x_3 x_4 x_5 b_0 b_1 b_2 b_3 b_4 b_5 b_6 (st .bool x_6 (((z (((gd s_alias_Base x_5 (((z (gd I t7 ((t9).toNat)))).toNat)).2).1))).toNat) true))))))) (.chk (0 ≤ (z (((gd s_alias_Base x_5 (((z (gd I t7 ((t9).toNat)))).toNat)).2).1)) ∧ (z (((gd s_alias_Base x_5 (((z (gd I t7 ((t9).toNat)))).toNat)).2).1)) < (ln .bool x_6)) (.chk (((z (((gd s_alias_Base x_5 (((z (gd I t7 ((t9).toNat)))).toNat)).2).1))).toNat < (ln .bool x_6)) (hd (alias_Escapes_instr_L0 in_0 in_1 in_2 in_3 in_4 in_5 in_6 in_7 t7 t8 (IntKind.wrap .i64 (t9 + (1 : Int))) f t24 t25 t26 t31 t32 t33 x_0 x_1 x_2 x_3 x_4 x_5 b_0 b_1 b_2 b_3 b_4 b_5 b_6 (st .bool x_6 (((z (((gd s_alias_Base x_5 (((z (gd I t7 ((t9).toNat)))).toNat)).2).1))).toNat) true))))))) (.chk (0 ≤ (z (((gd s_alias_Base x_5 (((z (gd I t7 ((t9).toNat)))).toNat)).2).1)) ∧ (z (((gd s_alias_Base x_5 (((z (gd I t7 ((t9).toNat)))).toNat)).2).1)) < (ln .bool x_6)) (.chk (((z (((gd s_alias_Base x_5 (((z (gd I t7 ((t9).toNat)))).toNat)).2).1))).toNat < (ln .bool x_6)) (hd (alias_Escapes_instr_L0 in_0 in_1 in_2 in_3 in_4 in_5 in_6 in_7 t7 t8 (IntKind.wrap .i64 (t9 + (1 : Int))) f t24 t25 t26 t31 t32 t33 x_0 x_1 x_2 x_3 x_4 x_5 b_0 b_1 b_2 b_3 b_4 b_5 b_6 (st .bool x_6 (((z (((gd s_alias_Base x_5 (((z (gd I t7 ((t9).toNat)))).toNat)).2).1))).toNat) true)))))) (.chk (0 ≤ (z (((gd s_alias_Base x_5 (((z (gd I t7 ((t9).toNat)))).toNat)).2).1)) ∧ (z (((gd s_alias_Base x_5 (((z (gd I t7 ((t9).toNat)))).toNat)).2).1)) < (ln .bool x_6)) (.chk (((z (((gd s_alias_Base x_5 (((z (gd I t7 ((t9).toNat)))).toNat)).2).1))).toNat < (ln .bool x_6)) (hd (alias_Escapes_instr_L0 in_0 in_1 in_2 in_3 in_4 in_5 in_6 in_7 t7 t8 (IntKind.wrap .i64 (t9 + (1 : Int))) f t24 t25 t26 t31 t32 t33 x_0 x_1 x_2 x_3 x_4 x_5 b_0 b_1 b_2 b_3 b_4 b_5 b_6 (st .bool x_6 (((z (((gd s_alias_Base x_5 (((z (gd I t7 ((t9).toNat)))).toNat)).2).1))).toNat) true))))))))))) (hd (alias_Escapes_instr_L0 in_0 in_1 in_2 in_3 in_4 in_5 in_6 in_7 t7 t8 (IntKind.wrap .i64 (t9 + (1 : Int))) f t24 t25 t26 t31 t32 t33 x_0 x_1 x_2 x_3 x_4 x_5 b_0 b_1 b_2 b_3 b_4 b_5 b_6 x_6)))) (hd (alias_Escapes_instr_L0 in_0 in_1 in_2 in_3 in_4 in_5 in_6 in_7 t7 t8 (IntKind.wrap .i64 (t9 + (1 : Int))) f t24 t25 t26 t31 t32 t33 x_0 x_1 x_2 x_3 x_4 x_5 b_0 b_1 b_2 b_3 b_4 b_5 b_6 x_6))))))) (hd (alias_Escapes_L2 f t24 t25 t26 t31 t32 (IntKind.wrap .i64 (t33 + (1 : Int))) x_0 x_1 x_2 x_3 x_4 x_5 b_0 b_1 b_2 b_3 b_4 b_5 b_6 x_6))) := by kernel_rfl
theorem alias_Escapes_L4_t (f : Den s_api_Func) (t24 : List (Den s_api_Block)) (t25 : Int) (t26 : Int) (t53 : List (Den I)) (t54 : Int) (t55 : Int) (x_0 : ByteArray) (x_1 : List (Den I)) (x_2 : Int) (x_3 : List (Den I)) (x_4 : List (Den s_api_Block)) (x_5 : List (Den s_alias_Base)) (b_0 : List (Den I)) (b_1 : List (Den s_api_Instr)) (b_2 : Int) (b_3 : List (Den I)) (b_4 : List (Den I)) (b_5 : List (Den s_api_Edge)) (b_6 : Int) (x_6 : List (Den .bool)) : run E_A18 H_A18 f_alias_Escapes 3000 (alias_Escapes_L4 f t24 t25 t26 t53 t54 t55 x_0 x_1 x_2 x_3 x_4 x_5 b_0 b_1 b_2 b_3 b_4 b_5 b_6 x_6) = (cond (decide (t55 < t54)) (.chk (0 ≤ t55 ∧ t55 < (ln I t53)) (cond (decide ((z (gd I t53 ((t55).toNat))) < (0 : Int))) (hd (alias_Escapes_L4 f t24 t25 t26 t53 t54 (IntKind.wrap .i64 (t55 + (1 : Int))) x_0 x_1 x_2 x_3 x_4 x_5 b_0 b_1 b_2 b_3 b_4 b_5 b_6 x_6)) (cond (decide ((z (gd I t53 ((t55).toNat))) ≥ ((ln s_alias_Base x_5) : Int))) (hd (alias_Escapes_L4 f t24 t25 t26 t53 t54 (IntKind.wrap .i64 (t55 + (1 : Int))) x_0 x_1 x_2 x_3 x_4 x_5 b_0 b_1 b_2 b_3 b_4 b_5 b_6 x_6)) (.chk (0 ≤ (z (gd I t53 ((t55).toNat))) ∧ (z (gd I t53 ((t55).toNat))) < (ln s_alias_Base x_5)) (cond ((z ((gd s_alias_Base x_5 (((z (gd I t53 ((t55).toNat)))).toNat)).1)) != (2 : Int)) (hd (alias_Escapes_L4 f t24 t25 t26 t53 t54 (IntKind.wrap .i64 (t55 + (1 : Int))) x_0 x_1 x_2 x_3 x_4 x_5 b_0 b_1 b_2 b_3 b_4 b_5 b_6 x_6)) (.chk (0 ≤ (z (gd I t53 ((t55).toNat))) ∧ (z (gd I t53 ((t55).toNat))) < (ln s_alias_Base x_5)) (.chk (0 ≤ (z (((gd s_alias_Base x_5 (((z (gd I t53 ((t55).toNat)))).toNat)).2).1)) ∧ (z (((gd s_alias_Base x_5 (((z (gd I t53 ((t55).toNat)))).toNat)).2).1)) < (ln .bool x_6)) (.chk (((z (((gd s_alias_Base x_5 (((z (gd I t53 ((t55).toNat)))).toNat)).2).1))).toNat < (ln .bool x_6)) (hd (alias_Escapes_L4 f t24 t25 t26 t53 t54 (IntKind.wrap .i64 (t55 + (1 : Int))) x_0 x_1 x_2 x_3 x_4 x_5 b_0 b_1 b_2 b_3 b_4 b_5 b_6 (st .bool x_6 (((z (((gd s_alias_Base x_5 (((z (gd I t53 ((t55).toNat)))).toNat)).2).1))).toNat) true))))))))))) (hd (alias_Escapes_L6 f t24 t25 t26 b_5 ((ln s_api_Edge b_5) : Int) (0 : Int) x_0 x_1 x_2 x_3 x_4 x_5 x_6))) := by kernel_rfl
theorem alias_Escapes_L6_t (f : Den s_api_Func) (t24 : List (Den s_api_Block)) (t25 : Int) (t26 : Int) (t65 : List (Den s_api_Edge)) (t66 : Int) (t67 : Int) (x_0 : ByteArray) (x_1 : List (Den I)) (x_2 : Int) (x_3 : List (Den I)) (x_4 : List (Den s_api_Block)) (x_5 : List (Den s_alias_Base)) (x_6 : List (Den .bool)) : run E_A18 H_A18 f_alias_Escapes 3000 (alias_Escapes_L6 f t24 t25 t26 t65 t66 t67 x_0 x_1 x_2 x_3 x_4 x_5 x_6) = (cond (decide (t67 < t66)) (.chk (0 ≤ t67 ∧ t67 < (ln s_api_Edge t65)) (cond (decide ((z ((gd s_api_Edge t65 ((t67).toNat)).1)) < (0 : Int))) (hd (alias_Escapes_L6 f t24 t25 t26 t65 t66 (IntKind.wrap .i64 (t67 + (1 : Int))) x_0 x_1 x_2 x_3 x_4 x_5 x_6)) (cond (decide ((z ((gd s_api_Edge t65 ((t67).toNat)).1)) ≥ ((ln s_api_Block x_4) : Int))) (hd (alias_Escapes_L6 f t24 t25 t26 t65 t66 (IntKind.wrap .i64 (t67 + (1 : Int))) x_0 x_1 x_2 x_3 x_4 x_5 x_6)) (.chk (0 ≤ (z ((gd s_api_Edge t65 ((t67).toNat)).1)) ∧ (z ((gd s_api_Edge t65 ((t67).toNat)).1)) < (ln s_api_Block x_4)) (hd (alias_Escapes_edge_L0 (z ((gd s_api_Edge t65 ((t67).toNat)).1)) (((gd s_api_Edge t65 ((t67).toNat)).2).1) ((gd s_api_Block x_4 (((z ((gd s_api_Edge t65 ((t67).toNat)).1))).toNat)).1) ((ln I ((gd s_api_Block x_4 (((z ((gd s_api_Edge t65 ((t67).toNat)).1))).toNat)).1)) : Int) (0 : Int) f t24 t25 t26 t65 t66 t67 x_0 x_1 x_2 x_3 x_4 x_5 x_6)))))) (hd (alias_Escapes_L0 f t24 t25 (IntKind.wrap .i64 (t26 + (1 : Int))) x_0 x_1 x_2 x_3 x_4 x_5 x_6))) := by kernel_rfl
theorem alias_Escapes_edge_L0_t (e_0 : Int) (e_1 : List (Den I)) (t29 : List (Den I)) (t30 : Int) (t31 : Int) (f : Den s_api_Func) (t24 : List (Den s_api_Block)) (t25 : Int) (t26 : Int) (t65 : List (Den s_api_Edge)) (t66 : Int) (t67 : Int) (x_0 : ByteArray) (x_1 : List (Den I)) (x_2 : Int) (x_3 : List (Den I)) (x_4 : List (Den s_api_Block)) (x_5 : List (Den s_alias_Base)) (x_6 : List (Den .bool)) : run E_A18 H_A18 f_alias_Escapes 3000 (alias_Escapes_edge_L0 e_0 e_1 t29 t30 t31 f t24 t25 t26 t65 t66 t67 x_0 x_1 x_2 x_3 x_4 x_5 x_6) = (cond (decide (t31 < t30)) (.chk (0 ≤ t31 ∧ t31 < (ln I t29)) (cond (decide (t31 < ((ln I e_1) : Int))) (.chk (0 ≤ t31 ∧ t31 < (ln I e_1)) (cond (decide ((z (gd I e_1 ((t31).toNat))) < (0 : Int))) (hd (alias_Escapes_edge_L0 e_0 e_1 t29 t30 (IntKind.wrap .i64 (t31 + (1 : Int))) f t24 t25 t26 t65 t66 t67 x_0 x_1 x_2 x_3 x_4 x_5 x_6)) (cond (decide ((z (gd I e_1 ((t31).toNat))) ≥ ((ln s_alias_Base x_5) : Int))) (hd (alias_Escapes_edge_L0 e_0 e_1 t29 t30 (IntKind.wrap .i64 (t31 + (1 : Int))) f t24 t25 t26 t65 t66 t67 x_0 x_1 x_2 x_3 x_4 x_5 x_6)) (.chk (0 ≤ (z (gd I e_1 ((t31).toNat))) ∧ (z (gd I e_1 ((t31).toNat))) < (ln s_alias_Base x_5)) (cond ((z ((gd s_alias_Base x_5 (((z (gd I e_1 ((t31).toNat)))).toNat)).1)) != (2 : Int)) (hd (alias_Escapes_edge_L0 e_0 e_1 t29 t30 (IntKind.wrap .i64 (t31 + (1 : Int))) f t24 t25 t26 t65 t66 t67 x_0 x_1 x_2 x_3 x_4 x_5 x_6)) (.chk (0 ≤ (z (gd I e_1 ((t31).toNat))) ∧ (z (gd I e_1 ((t31).toNat))) < (ln s_alias_Base x_5)) (cond (decide ((z (gd I t29 ((t31).toNat))) ≥ (0 : Int))) (cond (decide ((z (gd I t29 ((t31).toNat))) < ((ln s_alias_Base x_5) : Int))) (.chk (0 ≤ (z (gd I t29 ((t31).toNat))) ∧ (z (gd I t29 ((t31).toNat))) < (ln s_alias_Base x_5)) (cond ((z ((gd s_alias_Base x_5 (((z (gd I t29 ((t31).toNat)))).toNat)).1)) == (2 : Int)) (.chk (0 ≤ (z (gd I t29 ((t31).toNat))) ∧ (z (gd I t29 ((t31).toNat))) < (ln s_alias_Base x_5)) (cond ((z (((gd s_alias_Base x_5 (((z (gd I t29 ((t31).toNat)))).toNat)).2).1)) == (z (((gd s_alias_Base x_5 (((z (gd I e_1 ((t31).toNat)))).toNat)).2).1))) (hd (alias_Escapes_edge_L0 e_0 e_1 t29 t30 (IntKind.wrap .i64 (t31 + (1 : Int))) f t24 t25 t26 t65 t66 t67 x_0 x_1 x_2 x_3 x_4 x_5 x_6)) (.chk (0 ≤ (z (((gd s_alias_Base x_5 (((z (gd I e_1 ((t31).toNat)))).toNat)).2).1)) ∧ (z (((gd s_alias_Base x_5 (((z (gd I e_1 ((t31).toNat)))).toNat)).2).1)) < (ln .bool x_6)) (.chk (((z (((gd s_alias_Base x_5 (((z (gd I e_1 ((t31).toNat)))).toNat)).2).1))).toNat < (ln .bool x_6)) (hd (alias_Escapes_edge_L0 e_0 e_1 t29 t30 (IntKind.wrap .i64 (t31 + (1 : Int))) f t24 t25 t26 t65 t66 t67 x_0 x_1 x_2 x_3 x_4 x_5 (st .bool x_6 (((z (((gd s_alias_Base x_5 (((z (gd I e_1 ((t31).toNat)))).toNat)).2).1))).toNat) true))))))) (.chk (0 ≤ (z (((gd s_alias_Base x_5 (((z (gd I e_1 ((t31).toNat)))).toNat)).2).1)) ∧ (z (((gd s_alias_Base x_5 (((z (gd I e_1 ((t31).toNat)))).toNat)).2).1)) < (ln .bool x_6)) (.chk (((z (((gd s_alias_Base x_5 (((z (gd I e_1 ((t31).toNat)))).toNat)).2).1))).toNat < (ln .bool x_6)) (hd (alias_Escapes_edge_L0 e_0 e_1 t29 t30 (IntKind.wrap .i64 (t31 + (1 : Int))) f t24 t25 t26 t65 t66 t67 x_0 x_1 x_2 x_3 x_4 x_5 (st .bool x_6 (((z (((gd s_alias_Base x_5 (((z (gd I e_1 ((t31).toNat)))).toNat)).2).1))).toNat) true))))))) (.chk (0 ≤ (z (((gd s_alias_Base x_5 (((z (gd I e_1 ((t31).toNat)))).toNat)).2).1)) ∧ (z (((gd s_alias_Base x_5 (((z (gd I e_1 ((t31).toNat)))).toNat)).2).1)) < (ln .bool x_6)) (.chk (((z (((gd s_alias_Base x_5 (((z (gd I e_1 ((t31).toNat)))).toNat)).2).1))).toNat < (ln .bool x_6)) (hd (alias_Escapes_edge_L0 e_0 e_1 t29 t30 (IntKind.wrap .i64 (t31 + (1 : Int))) f t24 t25 t26 t65 t66 t67 x_0 x_1 x_2 x_3 x_4 x_5 (st .bool x_6 (((z (((gd s_alias_Base x_5 (((z (gd I e_1 ((t31).toNat)))).toNat)).2).1))).toNat) true)))))) (.chk (0 ≤ (z (((gd s_alias_Base x_5 (((z (gd I e_1 ((t31).toNat)))).toNat)).2).1)) ∧ (z (((gd s_alias_Base x_5 (((z (gd I e_1 ((t31).toNat)))).toNat)).2).1)) < (ln .bool x_6)) (.chk (((z (((gd s_alias_Base x_5 (((z (gd I e_1 ((t31).toNat)))).toNat)).2).1))).toNat < (ln .bool x_6)) (hd (alias_Escapes_edge_L0 e_0 e_1 t29 t30 (IntKind.wrap .i64 (t31 + (1 : Int))) f t24 t25 t26 t65 t66 t67 x_0 x_1 x_2 x_3 x_4 x_5 (st .bool x_6 (((z (((gd s_alias_Base x_5 (((z (gd I e_1 ((t31).toNat)))).toNat)).2).1))).toNat) true)))))))))))) (hd (alias_Escapes_edge_L0 e_0 e_1 t29 t30 (IntKind.wrap .i64 (t31 + (1 : Int))) f t24 t25 t26 t65 t66 t67 x_0 x_1 x_2 x_3 x_4 x_5 x_6)))) (hd (alias_Escapes_L6 f t24 t25 t26 t65 t66 (IntKind.wrap .i64 (t67 + (1 : Int))) x_0 x_1 x_2 x_3 x_4 x_5 x_6))) := by kernel_rfl
def okI (n : Nat) (b : Bs) : Prop := z b.1 = 2 → 0 ≤ z b.2.1 ∧ z b.2.1 < (n : Int)
theorem okI_own {n : Nat} (r : Int) : okI n (ownP r) := fun h => absurd h (by decide : (3 : Int) ≠ 2)
theorem okI_z {n : Nat} : okI n zB := fun h => absurd h (by decide : (0 : Int) ≠ 2)
theorem okI_meetP {n : Nat} {r : Int} {a b : Bs} (h : okI n a) : okI n (meetP r a b) := by
  unfold meetP
  simp only [Bool.cond_eq_ite]
  repeat' split
  all_goals first | exact h | exact fun h => absurd h (by decide : (3 : Int) ≠ 2)
theorem okI_meet {n : Nat} {r : Int} {a b : Bs} (ha : okI n a) (hb : okI n b) : okI n (meetR r a b) := by
  rw [meetR_eq]
  split
  · exact hb
  · split
    · exact ha
    · exact okI_meetP ha
theorem okI_fold {n : Nat} {r : Int} : ∀ {l : List Bs} {o : Bs}, okI n o → (∀ b ∈ l, okI n b) → okI n (l.foldl (meetR r) o)
  | [], o, ho, _ => ho
  | b :: l, o, ho, hl => okI_fold (l := l) (okI_meet ho (hl b List.mem_cons_self)) fun x hx => hl x (List.mem_cons_of_mem _ hx)
def allI (f : Fn) (now : List Bs) : Prop := ∀ j, j < nR f → okI (nR f) (gd s_alias_Base now j)
theorem okI_at {f : Fn} {now : List Bs} (h : allI f now) {x : Int} (hx : ptrR f x = true) : okI (nR f) (gd s_alias_Base now x.toNat) := by
  have := ptrR_in hx
  exact h _ (by show x.toNat < ln I f.2.2.2.1; omega)
theorem exE_okI {f : Fn} {now : List Bs} {r bk k : Int} {e : Den s_api_Edge} {b : Bs} (hn : allI f now) (h : exE f now r bk k e = some b) : okI (nR f) b := by
  unfold exE at h
  split at h
  · cases h
  · split at h
    · injection h with h; subst h; exact okI_own r
    · split at h
      · cases h
      · split at h
        · injection h with h; subst h; exact okI_own r
        · rename_i hp
          injection h with h
          subst h
          exact okI_at hn (by cases hq : ptrR f (z (gd I e.2.1 k.toNat)) with | true => rfl | false => exact absurd hq hp)
theorem exS_okI {f : Fn} {now : List Bs} {r bk k : Int} (hn : allI f now) : ∀ {l : List (Den s_api_Edge)}, ∀ b ∈ exS f now r bk k l, okI (nR f) b
  | [], b, hb => absurd hb (by simp [exS])
  | e :: l, b, hb => by
    unfold exS at hb
    split at hb
    · exact exS_okI hn b hb
    · rename_i c hc
      rcases List.mem_cons.1 hb with rfl | hb
      · exact exE_okI hn hc
      · exact exS_okI hn b hb
theorem exB_okI {f : Fn} {now : List Bs} {r bk k : Int} (hn : allI f now) : ∀ {l : List Blk}, ∀ b ∈ exB f now r bk k l, okI (nR f) b
  | [], b, hb => absurd hb (by simp [exB])
  | e :: l, b, hb => by
    unfold exB at hb
    rcases List.mem_append.1 hb with hb | hb
    · exact exS_okI hn b hb
    · exact exB_okI hn b hb
theorem okI_oper {f : Fn} {now : List Bs} {r i : Int} {x : Den s_api_Instr} (h : allI f now) : okI (nR f) (operR f now x r i) := by
  unfold operR
  simp only [Bool.cond_eq_ite]
  repeat' split
  all_goals first | exact okI_own r | (exact okI_at h (by simp_all))
theorem okI_ins {f : Fn} {defs : DL} {now : List Bs} {r : Int} {x : Den s_api_Instr} (h : allI f now) (hr : ptrR f r = true) : okI (nR f) (insN f defs now r x) := by
  have hrg := ptrR_in hr
  have hb := okI_oper (r := r) (i := 0) (x := x) h
  unfold insN offN
  simp only [Bool.cond_eq_ite]
  repeat' split
  all_goals first | exact hb | exact okI_own r | exact okI_meet (okI_oper h) (okI_oper h) | exact fun h => absurd h (by decide : (1 : Int) ≠ 2) | exact fun _ => hrg
theorem okI_next {f : Fn} {now : List Bs} (hn : okNow f now) (h : allI f now) {r : Int} (hr : ptrR f r = true) : okI (nR f) (nextF (mkS f now) r) := by
  have hrg := ptrR_in hr
  unfold nextF
  simp only [Bool.cond_eq_ite]
  repeat' split
  all_goals first | exact okI_own r | (show okI (nR f) (insF (f, defsF f, now, ()) r _); rw [ins_eq r _ hn]; exact okI_ins h hr) | (show okI (nR f) (parG f now r _ _); exact okI_fold (h _ (by show r.toNat < ln I f.2.2.2.1; omega)) (exB_okI h))
theorem allI_rnd {f : Fn} {now : List Bs} (hn : okNow f now) (h : allI f now) : allI f (rndF f now) := fun j hj => by
  unfold rndF
  rw [tab_gd hj]
  unfold outB
  split
  · rename_i hp
    exact okI_next hn h hp
  · exact okI_z
theorem allI_go {f : Fn} : ∀ {k : Nat} {now : List Bs}, okNow f now → allI f now → allI f (basesGo f k now).2
  | 0, now, _, h => h
  | k + 1, now, hn, h => by
    unfold basesGo
    split
    · exact allI_go (okNow_rnd hn) (allI_rnd hn h)
    · exact allI_rnd hn h
theorem allI_bases (f : Fn) : allI f (basesF f) := fun j hj => by
  unfold basesF
  rw [tab_gd hj]
  unfold finB
  split
  · exact okI_own _
  · exact allI_go (okNow_zeros f) (fun j hj => by unfold zeros; rw [tab_rep (S := s_alias_Base), tab_gd hj]; exact okI_z) j hj
theorem ln_bases (f : Fn) : ln s_alias_Base (basesF f) = nR f := tab_ln
def pt (f : Fn) (x j : Int) : Bool := pntF f (basesF f) x j
theorem pt_iff {f : Fn} {x j : Int} : pt f x j = true ↔ (0 ≤ x ∧ x < (nR f : Int)) ∧ z (gd s_alias_Base (basesF f) x.toNat).1 = 2 ∧ z (gd s_alias_Base (basesF f) x.toNat).2.1 = j := by
  unfold pt pntF
  simp only [Bool.cond_eq_ite, decide_eq_true_eq, beq_iff_eq]
  have e2 : ln I f.2.2.2.1 = nR f := rfl
  rw [e2]
  by_cases h1 : x ≥ 0
  · by_cases h2 : x < (nR f : Int)
    · by_cases h3 : z (gd s_alias_Base (basesF f) x.toNat).1 = 2
      · simp [h1, h2, h3]
      · simp [h1, h2, h3]
    · simp [h1, h2]
  · simp [h1]
def hit (f : Fn) (j : Int) (q : Int × Int) : Bool := pt f q.1 j && !(pt f q.2 j)
def mk (f : Fn) (ps : List (Int × Int)) : List (Den .bool) := tab .bool (nR f) fun j => ps.any (hit f (j : Int))
theorem mk_ln {f : Fn} {ps : List (Int × Int)} : ln .bool (mk f ps) = nR f := tab_ln
theorem mk_same {f : Fn} {ps : List (Int × Int)} {q : Int × Int} (h : ∀ j : Int, hit f j q = false) : mk f (ps ++ [q]) = mk f ps := tab_ext fun j _ => by
  rw [List.any_append, List.any_cons, List.any_nil, h, Bool.or_false, Bool.or_false]
theorem mk_set {f : Fn} {ps : List (Int × Int)} {q : Int × Int} {i : Nat} (h : ∀ j : Int, hit f j q = decide (j = (i : Int))) : st .bool (mk f ps) i true = mk f (ps ++ [q]) := by
  unfold mk
  rw [tab_st]
  refine tab_ext fun j _ => ?_
  rw [List.any_append, List.any_cons, List.any_nil, h, Bool.or_false]
  by_cases e : j = i
  · rw [if_pos e, e, decide_eq_true rfl, Bool.or_true]
  · rw [if_neg e, decide_eq_false (by omega), Bool.or_false]
theorem hit_no {f : Fn} {p r : Int} (h : ¬ ((0 ≤ p ∧ p < (nR f : Int)) ∧ z (gd s_alias_Base (basesF f) p.toNat).1 = 2)) (j : Int) : hit f j (p, r) = false := by
  unfold hit
  cases hp : pt f p j with
  | false => rfl
  | true => exact absurd ⟨(pt_iff.1 hp).1, (pt_iff.1 hp).2.1⟩ h
theorem hit_own {f : Fn} {p r : Int} (h : (0 ≤ r ∧ r < (nR f : Int)) ∧ z (gd s_alias_Base (basesF f) r.toNat).1 = 2 ∧ z (gd s_alias_Base (basesF f) r.toNat).2.1 = z (gd s_alias_Base (basesF f) p.toNat).2.1) (j : Int) : hit f j (p, r) = false := by
  unfold hit
  cases hp : pt f p j with
  | false => rfl
  | true =>
    have : pt f r j = true := pt_iff.2 ⟨h.1, h.2.1, h.2.2.trans (pt_iff.1 hp).2.2⟩
    simp only [this]
    rfl
theorem hit_yes {f : Fn} {p r : Int} (h : (0 ≤ p ∧ p < (nR f : Int)) ∧ z (gd s_alias_Base (basesF f) p.toNat).1 = 2) (h2 : ¬ ((0 ≤ r ∧ r < (nR f : Int)) ∧ z (gd s_alias_Base (basesF f) r.toNat).1 = 2 ∧ z (gd s_alias_Base (basesF f) r.toNat).2.1 = z (gd s_alias_Base (basesF f) p.toNat).2.1)) (j : Int) :
    hit f j (p, r) = decide (j = (((z (gd s_alias_Base (basesF f) p.toNat).2.1).toNat : Nat) : Int)) := by
  have hi := allI_bases f p.toNat (by omega) h.2
  have e : (((z (gd s_alias_Base (basesF f) p.toNat).2.1).toNat : Nat) : Int) = z (gd s_alias_Base (basesF f) p.toNat).2.1 := by omega
  rw [e]
  unfold hit
  by_cases hj : j = z (gd s_alias_Base (basesF f) p.toNat).2.1
  · rw [decide_eq_true hj, show pt f p j = true from pt_iff.2 ⟨h.1, h.2, hj.symm⟩]
    cases hr : pt f r j with
    | false => rfl
    | true => exact absurd ⟨(pt_iff.1 hr).1, (pt_iff.1 hr).2.1, (pt_iff.1 hr).2.2.trans hj⟩ h2
  · rw [decide_eq_false hj]
    cases hp : pt f p j with
    | false => rfl
    | true => exact absurd (pt_iff.1 hp).2.2.symm hj
theorem leak1 {E : Ctx} {Q : AV → Heap → Prop} (f : Fn) (ps : List (Int × Int)) (N : List (Den .bool) → Cfg) (p r : Int) (hr : r < 0) (h : Runs E (N (mk f (ps ++ [(p, r)]))) Q) :
    (cond (decide (p < 0)) (hd (N (mk f ps))) (cond (decide (p ≥ (ln s_alias_Base (basesF f) : Int))) (hd (N (mk f ps))) (.chk (0 ≤ p ∧ p < (ln s_alias_Base (basesF f) : Int)) (cond (z (gd s_alias_Base (basesF f) p.toNat).1 != 2) (hd (N (mk f ps))) (.chk (0 ≤ p ∧ p < (ln s_alias_Base (basesF f) : Int)) (.chk (0 ≤ z (gd s_alias_Base (basesF f) p.toNat).2.1 ∧ z (gd s_alias_Base (basesF f) p.toNat).2.1 < (ln .bool (mk f ps) : Int)) (.chk ((z (gd s_alias_Base (basesF f) p.toNat).2.1).toNat < ln .bool (mk f ps)) (hd (N (st .bool (mk f ps) (z (gd s_alias_Base (basesF f) p.toNat).2.1).toNat true)))))))))).wp (contL E Q) := by
  rw [ln_bases, mk_ln]
  have no : ¬ ((0 ≤ p ∧ p < (nR f : Int)) ∧ z (gd s_alias_Base (basesF f) p.toNat).1 = 2) → Runs E (N (mk f ps)) Q := fun hc => by
    rw [mk_same (hit_no hc)] at h
    exact h
  refine wp_cond (fun c => no (by have := of_decide_eq_true c; omega)) fun c1 => wp_cond (fun c => no (by have := of_decide_eq_true c; omega)) fun c2 => ?_
  have a1 := of_decide_eq_false c1
  have a2 := of_decide_eq_false c2
  refine ⟨by omega, fun hp => wp_cond (fun c => no fun hc => bne_t c hc.2) fun c3 => ⟨hp, fun _ => ?_⟩⟩
  have hi := allI_bases f p.toNat (by omega) (bne_f c3)
  refine ⟨hi, fun _ => ⟨by omega, fun _ => ?_⟩⟩
  rw [mk_set (hit_yes (p := p) (r := r) ⟨hp, bne_f c3⟩ fun hc => by have := hc.1.1; omega)]
  exact h
theorem leak2 {E : Ctx} {Q : AV → Heap → Prop} (f : Fn) (ps : List (Int × Int)) (N : List (Den .bool) → Cfg) (p r : Int) (h : Runs E (N (mk f (ps ++ [(p, r)]))) Q) :
    (cond (decide (p < 0)) (hd (N (mk f ps))) (cond (decide (p ≥ (ln s_alias_Base (basesF f) : Int))) (hd (N (mk f ps))) (.chk (0 ≤ p ∧ p < (ln s_alias_Base (basesF f) : Int)) (cond (z (gd s_alias_Base (basesF f) p.toNat).1 != 2) (hd (N (mk f ps))) (.chk (0 ≤ p ∧ p < (ln s_alias_Base (basesF f) : Int))
      (cond (decide (r ≥ 0)) (cond (decide (r < (ln s_alias_Base (basesF f) : Int))) (.chk (0 ≤ r ∧ r < (ln s_alias_Base (basesF f) : Int)) (cond (z (gd s_alias_Base (basesF f) r.toNat).1 == 2) (.chk (0 ≤ r ∧ r < (ln s_alias_Base (basesF f) : Int)) (cond (z (gd s_alias_Base (basesF f) r.toNat).2.1 == z (gd s_alias_Base (basesF f) p.toNat).2.1) (hd (N (mk f ps)))
        (.chk (0 ≤ z (gd s_alias_Base (basesF f) p.toNat).2.1 ∧ z (gd s_alias_Base (basesF f) p.toNat).2.1 < (ln .bool (mk f ps) : Int)) (.chk ((z (gd s_alias_Base (basesF f) p.toNat).2.1).toNat < ln .bool (mk f ps)) (hd (N (st .bool (mk f ps) (z (gd s_alias_Base (basesF f) p.toNat).2.1).toNat true)))))))
        (.chk (0 ≤ z (gd s_alias_Base (basesF f) p.toNat).2.1 ∧ z (gd s_alias_Base (basesF f) p.toNat).2.1 < (ln .bool (mk f ps) : Int)) (.chk ((z (gd s_alias_Base (basesF f) p.toNat).2.1).toNat < ln .bool (mk f ps)) (hd (N (st .bool (mk f ps) (z (gd s_alias_Base (basesF f) p.toNat).2.1).toNat true)))))))
        (.chk (0 ≤ z (gd s_alias_Base (basesF f) p.toNat).2.1 ∧ z (gd s_alias_Base (basesF f) p.toNat).2.1 < (ln .bool (mk f ps) : Int)) (.chk ((z (gd s_alias_Base (basesF f) p.toNat).2.1).toNat < ln .bool (mk f ps)) (hd (N (st .bool (mk f ps) (z (gd s_alias_Base (basesF f) p.toNat).2.1).toNat true))))))
        (.chk (0 ≤ z (gd s_alias_Base (basesF f) p.toNat).2.1 ∧ z (gd s_alias_Base (basesF f) p.toNat).2.1 < (ln .bool (mk f ps) : Int)) (.chk ((z (gd s_alias_Base (basesF f) p.toNat).2.1).toNat < ln .bool (mk f ps)) (hd (N (st .bool (mk f ps) (z (gd s_alias_Base (basesF f) p.toNat).2.1).toNat true))))))))))).wp (contL E Q) := by
  rw [ln_bases, mk_ln]
  have no : ¬ ((0 ≤ p ∧ p < (nR f : Int)) ∧ z (gd s_alias_Base (basesF f) p.toNat).1 = 2) → Runs E (N (mk f ps)) Q := fun hc => by
    rw [mk_same (hit_no hc)] at h
    exact h
  refine wp_cond (fun c => no (by have := of_decide_eq_true c; omega)) fun c1 => wp_cond (fun c => no (by have := of_decide_eq_true c; omega)) fun c2 => ?_
  have a1 := of_decide_eq_false c1
  have a2 := of_decide_eq_false c2
  refine ⟨by omega, fun hp => wp_cond (fun c => no fun hc => bne_t c hc.2) fun c3 => ⟨hp, fun _ => ?_⟩⟩
  have hi := allI_bases f p.toNat (by omega) (bne_f c3)
  have yes : ¬ ((0 ≤ r ∧ r < (nR f : Int)) ∧ z (gd s_alias_Base (basesF f) r.toNat).1 = 2 ∧ z (gd s_alias_Base (basesF f) r.toNat).2.1 = z (gd s_alias_Base (basesF f) p.toNat).2.1) → (Tre.chk (0 ≤ z (gd s_alias_Base (basesF f) p.toNat).2.1 ∧ z (gd s_alias_Base (basesF f) p.toNat).2.1 < (nR f : Int)) (.chk ((z (gd s_alias_Base (basesF f) p.toNat).2.1).toNat < nR f) (hd (N (st .bool (mk f ps) (z (gd s_alias_Base (basesF f) p.toNat).2.1).toNat true))))).wp (contL E Q) := fun hc => by
    refine ⟨hi, fun _ => ⟨by omega, fun _ => ?_⟩⟩
    rw [mk_set (hit_yes ⟨hp, bne_f c3⟩ hc)]
    exact h
  refine wp_cond (fun c4 => wp_cond (fun c5 => ⟨⟨of_decide_eq_true c4, of_decide_eq_true c5⟩, fun hr => wp_cond (fun c6 => ⟨hr, fun _ => wp_cond (fun c7 => ?_) fun c7 => yes fun hc => beq_f c7 hc.2.2⟩) fun c6 => yes fun hc => beq_f c6 hc.2.1⟩) fun c5 => yes fun hc => of_decide_eq_false c5 hc.1.2) fun c4 => yes fun hc => of_decide_eq_false c4 hc.1.1
  rw [mk_same (hit_own ⟨hr, beq_t c6, beq_t c7⟩)] at h
  exact h
def insQ (x : Den s_api_Instr) (i : Nat) : Option Int :=
  if z x.1 = 29 then (if i = 1 then some (-1) else none) else if z x.1 = 30 ∨ z x.1 = 31 then some (-1) else if z x.1 = 21 then (if i = 1 ∨ i = 2 then some (z x.2.2.1) else none) else none
def insG (x : Den s_api_Instr) : List (Den I) → Nat → List (Int × Int)
  | [], _ => []
  | p :: l, i => (match insQ x i with | some r => [(z p, r)] | none => []) ++ insG x l (i + 1)
def insB : List (Den s_api_Instr) → List (Int × Int)
  | [] => []
  | x :: l => insG x x.2.2.2.1 0 ++ insB l
def argG : List (Den I) → List (Int × Int)
  | [] => []
  | p :: l => (z p, -1) :: argG l
def edgG (a : List (Den I)) : List (Den I) → Nat → List (Int × Int)
  | [], _ => []
  | q :: l, i => (if i < ln I a then [(z (gd I a i), z q)] else []) ++ edgG a l (i + 1)
def edgP (f : Fn) (e : Den s_api_Edge) : List (Int × Int) := if z e.1 < 0 ∨ z e.1 ≥ (ln s_api_Block (blocks f) : Int) then [] else edgG e.2.1 (bPar (blk f (z e.1))) 0
def edgB (f : Fn) : List (Den s_api_Edge) → List (Int × Int)
  | [] => []
  | e :: l => edgP f e ++ edgB f l
def trmP (b : Blk) : List (Int × Int) := if z b.2.2.1.1 = 4 ∨ z b.2.2.1.1 = 6 then argG (tArgs b) else []
def blkP (f : Fn) : List Blk → List (Int × Int)
  | [] => []
  | b :: l => insB (bIns b) ++ (trmP b ++ (edgB f (tSuc b) ++ blkP f l))
def leaks (f : Fn) : List (Int × Int) := blkP f (blocks f)
def escB (f : Fn) (j : Nat) : Bool := (leaks f).any (hit f (j : Int)) && alcL f j
def escF (f : Fn) : Den (.sl 1 .bool) := tab .bool (nR f) (escB f)
noncomputable abbrev H0 (f : Fn) (bl : List Blk) (n i : Int) (o : List (Den .bool)) : Cfg := alias_Escapes_L0 f bl n i (tOf f.1) f.2.1 (z f.2.2.1) f.2.2.2.1 f.2.2.2.2.1 (basesF f) o
noncomputable abbrev H2 (f : Fn) (bl : List Blk) (n i : Int) (b : Blk) (l : List (Den s_api_Instr)) (m k : Int) (o : List (Den .bool)) : Cfg := alias_Escapes_L2 f bl n i l m k (tOf f.1) f.2.1 (z f.2.2.1) f.2.2.2.1 f.2.2.2.2.1 (basesF f) b.1 b.2.1 (z b.2.2.1.1) b.2.2.1.2.1 b.2.2.1.2.2.1 b.2.2.1.2.2.2.1 (z b.2.2.1.2.2.2.2.1) o
noncomputable abbrev HI (f : Fn) (bl : List Blk) (n i : Int) (b : Blk) (l : List (Den s_api_Instr)) (m k : Int) (x : Den s_api_Instr) (a : List (Den I)) (c j : Int) (o : List (Den .bool)) : Cfg := alias_Escapes_instr_L0 (z x.1) (z x.2.1) (z x.2.2.1) x.2.2.2.1 (z x.2.2.2.2.1) (z x.2.2.2.2.2.1) (z x.2.2.2.2.2.2.1) (bOf x.2.2.2.2.2.2.2.1) a c j f bl n i l m k (tOf f.1) f.2.1 (z f.2.2.1) f.2.2.2.1 f.2.2.2.2.1 (basesF f) b.1 b.2.1 (z b.2.2.1.1) b.2.2.1.2.1 b.2.2.1.2.2.1 b.2.2.1.2.2.2.1 (z b.2.2.1.2.2.2.2.1) o
noncomputable abbrev H4 (f : Fn) (bl : List Blk) (n i : Int) (b : Blk) (l : List (Den I)) (m k : Int) (o : List (Den .bool)) : Cfg := alias_Escapes_L4 f bl n i l m k (tOf f.1) f.2.1 (z f.2.2.1) f.2.2.2.1 f.2.2.2.2.1 (basesF f) b.1 b.2.1 (z b.2.2.1.1) b.2.2.1.2.1 b.2.2.1.2.2.1 b.2.2.1.2.2.2.1 (z b.2.2.1.2.2.2.2.1) o
noncomputable abbrev H6 (f : Fn) (bl : List Blk) (n i : Int) (l : List (Den s_api_Edge)) (m k : Int) (o : List (Den .bool)) : Cfg := alias_Escapes_L6 f bl n i l m k (tOf f.1) f.2.1 (z f.2.2.1) f.2.2.2.1 f.2.2.2.2.1 (basesF f) o
noncomputable abbrev HE (f : Fn) (bl : List Blk) (n i : Int) (l : List (Den s_api_Edge)) (m k : Int) (e0 : Int) (a q : List (Den I)) (c j : Int) (o : List (Den .bool)) : Cfg := alias_Escapes_edge_L0 e0 a q c j f bl n i l m k (tOf f.1) f.2.1 (z f.2.2.1) f.2.2.2.1 f.2.2.2.2.1 (basesF f) o
section
variable {f : Fn} {bl : List Blk} {n i : Int} {Q : AV → Heap → Prop}
theorem es_i (b : Blk) (l : List (Den s_api_Instr)) (m k : Int) (x : Den s_api_Instr) (a : List (Den I)) (ha : ln I a < 9223372036854775807) : ∀ j, j ≤ ln I a → ∀ ps, Runs E_A18 (H2 f bl n i b l m (IntKind.wrap .i64 (k + 1)) (mk f (ps ++ insG x (a.drop j) j))) Q → Runs E_A18 (HI f bl n i b l m k x a (ln I a : Nat) (j : Nat) (mk f ps)) Q :=
  up_ind (fun ps h => .tree E_A18_ok (alias_Escapes_instr_L0_t _ _ _ _ _ _ _ _ _ _ _ _ _ _ _ _ _ _ _ _ _ _ _ _ _ _ _ _ _ _ _ _) (by
    rw [drop_ln, insG, List.append_nil] at h
    exact wp_cond (fun c => absurd (of_decide_eq_true c) (by omega)) fun _ => h))
    fun j hj ih ps h => .tree E_A18_ok (alias_Escapes_instr_L0_t _ _ _ _ _ _ _ _ _ _ _ _ _ _ _ _ _ _ _ _ _ _ _ _ _ _ _ _ _ _ _ _) (by
      rw [drop_gd hj, insG, ← List.append_assoc] at h
      refine wp_cond (fun _ => ⟨⟨by omega, by omega⟩, fun _ => ?_⟩) fun c => absurd (of_decide_eq_false c) (by omega)
      rw [wrapS hj ha]
      have no : insQ x j = none → Runs E_A18 (HI f bl n i b l m k x a (ln I a : Nat) ((j + 1 : Nat) : Int) (mk f ps)) Q := fun e => by
        rw [e, List.append_nil] at h
        exact ih ps h
      have go : ∀ r, insQ x j = some r → Runs E_A18 (HI f bl n i b l m k x a (ln I a : Nat) ((j + 1 : Nat) : Int) (mk f (ps ++ [(z (gd I a j), r)]))) Q := fun r e => by
        rw [e] at h
        exact ih _ h
      have l1 : insQ x j = some (-1) → _ := fun e => leak1 f ps (fun o => HI f bl n i b l m k x a (ln I a : Nat) ((j + 1 : Nat) : Int) o) (z (gd I a j)) (-1) (by decide) (go _ e)
      have l2 : insQ x j = some (z x.2.2.1) → _ := fun e => leak2 f ps (fun o => HI f bl n i b l m k x a (ln I a : Nat) ((j + 1 : Nat) : Int) o) (z (gd I a j)) (z x.2.2.1) (go _ e)
      unfold insQ at l1 l2 no
      clear go h
      refine wp_cond (fun c => ?_) fun c => ?_
      · rw [if_pos (beq_t c)] at l1 no
        refine wp_cond (fun d => ?_) fun d => ?_
        · exact l1 (if_pos (by have := beq_t d; omega))
        · exact no (if_neg (by have := beq_f d; omega))
      · rw [if_neg (beq_f c)] at l1 l2 no
        refine wp_cond (fun d => l1 (if_pos (.inl (beq_t d)))) fun d => ?_
        refine wp_cond (fun e => l1 (if_pos (.inr (beq_t e)))) fun e => ?_
        rw [if_neg (fun h => h.elim (beq_f d) (beq_f e))] at l2 no
        refine wp_cond (fun g => ?_) fun g => ?_
        · rw [if_pos (beq_t g)] at l2 no
          refine wp_cond (fun u => l2 (if_pos (.inl (by have := beq_t u; omega)))) fun u => ?_
          refine wp_cond (fun v => l2 (if_pos (.inr (by have := beq_t v; omega)))) fun v => ?_
          exact no (if_neg (by have := beq_f u; have := beq_f v; omega))
        · exact no (if_neg (beq_f g)))
theorem es_4 (b : Blk) (l : List (Den I)) (hl : ln I l < 9223372036854775807) : ∀ j, j ≤ ln I l → ∀ ps, Runs E_A18 (H6 f bl n i (tSuc b) (ln s_api_Edge (tSuc b) : Nat) 0 (mk f (ps ++ argG (l.drop j)))) Q → Runs E_A18 (H4 f bl n i b l (ln I l : Nat) (j : Nat) (mk f ps)) Q :=
  up_ind (fun ps h => .tree E_A18_ok (alias_Escapes_L4_t _ _ _ _ _ _ _ _ _ _ _ _ _ _ _ _ _ _ _ _ _) (by
    rw [drop_ln, argG, List.append_nil] at h
    exact wp_cond (fun c => absurd (of_decide_eq_true c) (by omega)) fun _ => h))
    fun j hj ih ps h => .tree E_A18_ok (alias_Escapes_L4_t _ _ _ _ _ _ _ _ _ _ _ _ _ _ _ _ _ _ _ _ _) (by
      rw [drop_gd hj, argG, ← List.singleton_append, ← List.append_assoc] at h
      refine wp_cond (fun _ => ⟨⟨by omega, by omega⟩, fun _ => ?_⟩) fun c => absurd (of_decide_eq_false c) (by omega)
      rw [wrapS hj hl]
      exact leak1 f ps (fun o => H4 f bl n i b l (ln I l : Nat) ((j + 1 : Nat) : Int) o) (z (gd I l j)) (-1) (by decide) (ih _ h))
theorem es_e (l : List (Den s_api_Edge)) (m k : Int) (e0 : Int) (a q : List (Den I)) (hq : ln I q < 9223372036854775807) : ∀ j, j ≤ ln I q → ∀ ps, Runs E_A18 (H6 f bl n i l m (IntKind.wrap .i64 (k + 1)) (mk f (ps ++ edgG a (q.drop j) j))) Q → Runs E_A18 (HE f bl n i l m k e0 a q (ln I q : Nat) (j : Nat) (mk f ps)) Q :=
  up_ind (fun ps h => .tree E_A18_ok (alias_Escapes_edge_L0_t _ _ _ _ _ _ _ _ _ _ _ _ _ _ _ _ _ _ _) (by
    rw [drop_ln, edgG, List.append_nil] at h
    exact wp_cond (fun c => absurd (of_decide_eq_true c) (by omega)) fun _ => h))
    fun j hj ih ps h => .tree E_A18_ok (alias_Escapes_edge_L0_t _ _ _ _ _ _ _ _ _ _ _ _ _ _ _ _ _ _ _) (by
      rw [drop_gd hj, edgG, ← List.append_assoc] at h
      refine wp_cond (fun _ => ⟨⟨by omega, by omega⟩, fun _ => ?_⟩) fun c => absurd (of_decide_eq_false c) (by omega)
      rw [wrapS hj hq]
      refine wp_cond (fun c => ?_) fun c => ?_
      · have c' := of_decide_eq_true c
        rw [if_pos (by omega)] at h
        exact ⟨⟨by omega, c'⟩, fun _ => leak2 f ps (fun o => HE f bl n i l m k e0 a q (ln I q : Nat) ((j + 1 : Nat) : Int) o) (z (gd I a j)) (z (gd I q j)) (ih _ h)⟩
      · have c' := of_decide_eq_false c
        rw [if_neg (by omega), List.append_nil] at h
        exact ih ps h)
theorem es_6 (hf : okB (blocks f)) (l : List (Den s_api_Edge)) (hl : ln s_api_Edge l < 9223372036854775807) : ∀ j, j ≤ ln s_api_Edge l → ∀ ps, Runs E_A18 (H0 f bl n (IntKind.wrap .i64 (i + 1)) (mk f (ps ++ edgB f (l.drop j)))) Q → Runs E_A18 (H6 f bl n i l (ln s_api_Edge l : Nat) (j : Nat) (mk f ps)) Q :=
  up_ind (fun ps h => .tree E_A18_ok (alias_Escapes_L6_t _ _ _ _ _ _ _ _ _ _ _ _ _ _) (by
    rw [drop_ln, edgB, List.append_nil] at h
    exact wp_cond (fun c => absurd (of_decide_eq_true c) (by omega)) fun _ => h))
    fun j hj ih ps h => .tree E_A18_ok (alias_Escapes_L6_t _ _ _ _ _ _ _ _ _ _ _ _ _ _) (by
      rw [drop_gd hj, edgB, ← List.append_assoc] at h
      have hw := wrapS hj hl
      refine wp_cond (fun _ => ⟨⟨by omega, by omega⟩, fun _ => ?_⟩) fun c => absurd (of_decide_eq_false c) (by omega)
      unfold edgP at h
      refine wp_cond (fun c => ?_) fun c => wp_cond (fun d => ?_) fun d => ?_
      · rw [hw]
        rw [if_pos (.inl (of_decide_eq_true c)), List.append_nil] at h
        exact ih ps h
      · rw [hw]
        rw [if_pos (.inr (of_decide_eq_true d)), List.append_nil] at h
        exact ih ps h
      · have c' : ¬ z (gd s_api_Edge l j).1 < 0 := of_decide_eq_false c
        have d' : ¬ z (gd s_api_Edge l j).1 ≥ (ln s_api_Block f.2.2.2.2.1 : Int) := of_decide_eq_false d
        rw [if_neg (fun h => h.elim c' d')] at h
        have hbn : (z (gd s_api_Edge l j).1).toNat < ln s_api_Block f.2.2.2.2.1 := by omega
        refine ⟨⟨Int.not_lt.1 c', Int.not_le.1 d'⟩, fun _ => ?_⟩
        refine es_e l (ln s_api_Edge l : Nat) (j : Nat) _ (gd s_api_Edge l j).2.1 (bPar (blk f (z (gd s_api_Edge l j).1))) (room_lt (hf.2 _ hbn).1.1) 0 (Nat.zero_le _) ps ?_
        rw [hw]
        exact ih _ h)
theorem es_2 (hf : okB (blocks f)) (b : Blk) (hb : okD s_api_Block b) (l : List (Den s_api_Instr)) (hl : okD (.sl 80 s_api_Instr) l) : ∀ j, j ≤ ln s_api_Instr l → ∀ ps, Runs E_A18 (H0 f bl n (IntKind.wrap .i64 (i + 1)) (mk f (ps ++ (insB (l.drop j) ++ (trmP b ++ edgB f (tSuc b)))))) Q → Runs E_A18 (H2 f bl n i b l (ln s_api_Instr l : Nat) (j : Nat) (mk f ps)) Q :=
  up_ind (fun ps h => .tree E_A18_ok (alias_Escapes_L2_t _ _ _ _ _ _ _ _ _ _ _ _ _ _ _ _ _ _ _ _ _) (by
    rw [drop_ln, insB, List.nil_append] at h
    refine wp_cond (fun c => absurd (of_decide_eq_true c) (by omega)) fun _ => ?_
    have fin : ∀ ps', Runs E_A18 (H0 f bl n (IntKind.wrap .i64 (i + 1)) (mk f (ps' ++ edgB f (tSuc b)))) Q → Runs E_A18 (H6 f bl n i (tSuc b) (ln s_api_Edge (tSuc b) : Nat) 0 (mk f ps')) Q := fun ps' h' => es_6 hf (tSuc b) (room_lt hb.2.2.1.2.2.2.1.1) 0 (Nat.zero_le _) ps' h'
    have yes : (z b.2.2.1.1 = 4 ∨ z b.2.2.1.1 = 6) → Runs E_A18 (H4 f bl n i b (tArgs b) (ln I (tArgs b) : Nat) 0 (mk f ps)) Q := fun e => by
      unfold trmP at h
      rw [if_pos e, ← List.append_assoc] at h
      exact es_4 b (tArgs b) (room_lt hb.2.2.1.2.1.1) 0 (Nat.zero_le _) ps (fin _ h)
    refine wp_cond (fun c => yes (.inl (beq_t c))) fun c => wp_cond (fun d => yes (.inr (beq_t d))) fun d => ?_
    unfold trmP at h
    rw [if_neg (fun h => h.elim (beq_f c) (beq_f d)), List.nil_append] at h
    exact fin _ h))
    fun j hj ih ps h => .tree E_A18_ok (alias_Escapes_L2_t _ _ _ _ _ _ _ _ _ _ _ _ _ _ _ _ _ _ _ _ _) (by
      rw [drop_gd hj, insB, List.append_assoc, ← List.append_assoc ps] at h
      refine wp_cond (fun _ => ⟨⟨by omega, by omega⟩, fun _ => ?_⟩) fun c => absurd (of_decide_eq_false c) (by omega)
      refine es_i b l (ln s_api_Instr l : Nat) (j : Nat) (gd s_api_Instr l j) (gd s_api_Instr l j).2.2.2.1 (room_lt (ok_gd hl hj).2.2.2.1.1) 0 (Nat.zero_le _) ps ?_
      rw [wrapS hj (room_lt hl.1)]
      exact ih _ h)
end
theorem es_8 (f : Fn) (hl : nR f < 9223372036854775807) (B : List Bs) (m : Nat → Bool) : ∀ i, i ≤ nR f → Runs E_A18 (alias_Escapes_L8 (allocsF f) (nR f : Nat) i (tOf f.1) f.2.1 (z f.2.2.1) f.2.2.2.1 f.2.2.2.2.1 B (tab .bool (nR f) fun j => if j < i then m j && alcL f j else m j)) (fun x h => x = .tv (.sl 1 .bool) (tab .bool (nR f) fun j => m j && alcL f j) ∧ h = []) :=
  up_ind (.tree E_A18_ok (alias_Escapes_L8_t _ _ _ _ _ _ _ _ _ _) (by
    have e : tab .bool (nR f) (fun j => if j < nR f then m j && alcL f j else m j) = tab .bool (nR f) fun j => m j && alcL f j := tab_ext fun j hj => if_pos hj
    rw [e]
    simp only [wp_iff, chk_iff, know_iff, any_iff, rt_iff, hd_iff, true_imp_iff, true_and, and_true, and_self, lt01, Int.ofNat_lt, Int.ofNat_le, Int.natCast_nonneg, Int.toNat_natCast, decide_true, decide_false, Bool.true_eq_false, Bool.false_eq_true, false_imp_iff, Nat.lt_irrefl, imp_self, implies_true,  true_and]))
    fun i hi ih => .tree E_A18_ok (alias_Escapes_L8_t _ _ _ _ _ _ _ _ _ _) (by
      have ha : i < ln .bool (allocsF f) := by unfold allocsF; rw [tab_ln]; exact hi
      have hg : gd .bool (allocsF f) i = alcL f i := by unfold allocsF; exact tab_gd hi
      have hm : gd .bool (tab .bool (nR f) fun j => if j < i then m j && alcL f j else m j) i = m i := by rw [tab_gd hi, if_neg (by omega)]
      have hst : ∀ v, v = (m i && alcL f i) → st .bool (tab .bool (nR f) fun j => if j < i then m j && alcL f j else m j) i v = tab .bool (nR f) fun j => if j < i + 1 then m j && alcL f j else m j := fun v hv => by
        rw [tab_st]
        refine tab_ext fun j _ => ?_
        by_cases h1 : j = i
        · rw [if_pos h1, if_pos (by omega), h1, hv]
        · rw [if_neg h1]
          by_cases h2 : j < i
          · rw [if_pos h2, if_pos (by omega)]
          · rw [if_neg h2, if_neg (by omega)]
      simp only [wp_iff, chk_iff, know_iff, any_iff, rt_iff, hd_iff, true_imp_iff, true_and, and_true, and_self, lt01, Int.ofNat_lt, Int.ofNat_le, Int.natCast_nonneg, Int.toNat_natCast, decide_true, decide_false, Bool.true_eq_false, Bool.false_eq_true, false_imp_iff, Nat.lt_irrefl, imp_self, implies_true,  hi, tab_ln, ha, hg, hm, wrapS hi hl]
      refine ⟨fun h => ?_, fun h => ?_⟩
      · rw [hst _ (by rw [show m i = true from h, Bool.true_and])]
        exact ih
      · rw [hst _ (by rw [show m i = false from h, Bool.false_and])]
        exact ih)
theorem es_0 (f : Fn) (hs : smallF f) (hl : nR f < 9223372036854775807) (bl : List Blk) (hf : okB (blocks f)) (ho : okB bl) : ∀ i, i ≤ ln s_api_Block bl → ∀ ps, Runs E_A18 (H0 f bl (ln s_api_Block bl : Nat) (i : Nat) (mk f ps)) (fun x h => x = .tv (.sl 1 .bool) (tab .bool (nR f) fun j => (ps ++ blkP f (bl.drop i)).any (hit f (j : Int)) && alcL f j) ∧ h = []) :=
  up_ind (fun ps => .tree E_A18_ok (alias_Escapes_L0_t _ _ _ _ _ _ _ _ _ _ _) (by
    rw [drop_ln, blkP, List.append_nil]
    have h8 := es_8 f hl (basesF f) (fun j => ps.any (hit f (j : Int))) 0 (Nat.zero_le _)
    have e : tab .bool (nR f) (fun j => if j < 0 then ps.any (hit f (j : Int)) && alcL f j else ps.any (hit f (j : Int))) = mk f ps := tab_ext fun j hj => if_neg (by omega)
    rw [e] at h8
    refine wp_cond (fun c => absurd (of_decide_eq_true c) (by omega)) fun _ => ⟨hs, fun _ _ => ?_⟩
    rw [mk_ln]
    exact h8))
    fun i hi ih ps => .tree E_A18_ok (alias_Escapes_L0_t _ _ _ _ _ _ _ _ _ _ _) (by
      rw [drop_gd hi, blkP]
      refine wp_cond (fun _ => ⟨⟨by omega, by omega⟩, fun _ => ?_⟩) fun c => absurd (of_decide_eq_false c) (by omega)
      have hb := ho.2 i hi
      refine es_2 hf (gd s_api_Block bl i) hb (bIns (gd s_api_Block bl i)) hb.2.1 0 (Nat.zero_le _) ps ?_
      rw [wrapS hi (room_lt ho.1)]
      have := ih (ps ++ (insB (bIns (gd s_api_Block bl i)) ++ (trmP (gd s_api_Block bl i) ++ edgB f (tSuc (gd s_api_Block bl i)))))
      rw [List.append_assoc, List.append_assoc, List.append_assoc] at this
      exact this)
def k_alias_Escapes : Con := con [.d s_api_Func] (.sl 1 .bool) (fun x => smallF x.1) fun x => escF x.1
theorem m_alias_Escapes (f : Den s_api_Func) (h_f : okD s_api_Func f) (hp : smallF f) : Runs E_A18 (start E_A18 f_alias_Escapes [(.tv s_api_Func f)]) (fun r_ h_ => r_ = (.tv (.sl 1 .bool) (escF f)) ∧ h_ = []) := .tree E_A18_ok (alias_Escapes_t f) (by
  have h1 := sz_func f
  have h2 := sz_I f.2.2.2.1
  have e2 : ln I f.2.2.2.1 = nR f := rfl
  have hl : nR f ≤ 1048576 := by
    unfold smallF at hp
    omega
  have h0 := es_0 f hp (by omega) (blocks f) (okB_of h_f) (okB_of h_f) 0 (Nat.zero_le _) []
  have e : List.replicate (ln I f.2.2.2.1) (dz .bool) = mk f [] := by
    rw [e2, tab_rep (S := .bool)]
    rfl
  refine ⟨hp, fun _ => ⟨rfl, fun _ => ⟨by omega, fun _ => ⟨by unfold roomB; omega, fun _ _ => ?_⟩⟩⟩⟩
  rw [e]
  exact h0)
theorem c_alias_Escapes : SpecOK E_A18 f_alias_Escapes k_alias_Escapes.spec := spec_of fun x hx hp => ⟨rfl, m_alias_Escapes x.1 hx.1 hp⟩
def L_A18 : List (FuncId × FSpec) := [(f_alias_Escapes, k_alias_Escapes.spec)] ++ L_A17
theorem L_A18_ok : ∀ x ∈ L_A18, SpecOK (ctx []) x.1 x.2 := by
  unfold L_A18
  simp only [List.cons_append, List.nil_append, List.forall_mem_cons]
  exact ⟨c_alias_Escapes, L_A17_ok⟩
end Burn.M27N
namespace Burn.M27N
open Go Go.BE Go.Proofs
set_option maxRecDepth 100000
set_option linter.unusedVariables false
set_option linter.unusedSimpArgs false
open Burn.Cfg Burn.Intn Burn.Ref
def L_A19 : List (FuncId × FSpec) := [] ++ L_A18
theorem L_A19_ok : ∀ x ∈ L_A19, SpecOK (ctx []) x.1 x.2 := L_A18_ok
end Burn.M27N
namespace Burn.M27N
open Go Go.BE Go.Proofs
set_option maxRecDepth 100000
set_option linter.unusedVariables false
set_option linter.unusedSimpArgs false
open Burn.Cfg Burn.Intn Burn.Ref
noncomputable abbrev E_A20 : Ctx := ctx L_A19
theorem E_A20_ok : EOK E_A20 := ctx_ok L_A19_ok
def cuts_A20 : CutL := []
def rets_A20 : FuncId → List (Option Fx)
  | _ => []
def H_A20 : Hints := { cut := cutOf cuts_A20, ret := rets_A20 }
theorem local2_t (f : Den s_api_Func) (object : Den s_alias_Base) (other : Den s_alias_Base) : run E_A20 H_A20 f_alias_local 3000 (start E_A20 f_alias_local [(.tv s_api_Func f), (.tv s_alias_Base object), (.tv s_alias_Base other)]) = (.chk (True) (.know (okD (.int .i64) (idxF f.2.1 other.2.1)) (cond (decide ((idxF f.2.1 other.2.1) ≥ (0 : Int))) (rt (vb true) []) (cond (decide ((z object.2.1) ≥ (0 : Int))) (cond (decide ((z object.2.1) < ((ln I f.2.2.2.1) : Int))) (.chk (smallF f) (.chk (0 ≤ (z object.2.1) ∧ (z object.2.1) < (ln .bool (allocsF f))) (cond (bOf (gd .bool (allocsF f) (((z object.2.1)).toNat))) (.chk (smallF f) (.chk (0 ≤ (z object.2.1) ∧ (z object.2.1) < (ln .bool (escF f))) (.know (okD (.sl 1 .bool) (allocsF f)) (.know (okD (.sl 1 .bool) (escF f)) (rt (vb (!(bOf (gd .bool (escF f) (((z object.2.1)).toNat))))) []))))) (.know (okD (.sl 1 .bool) (allocsF f)) (rt (vb false) []))))) (rt (vb false) [])) (rt (vb false) []))))) := by kernel_rfl
theorem ln_allocs (f : Fn) : ln .bool (allocsF f) = ln I f.2.2.2.1 := tab_ln
theorem ln_esc (f : Fn) : ln .bool (escF f) = ln I f.2.2.2.1 := tab_ln
def locF (f : Den s_api_Func) (object : Den s_alias_Base) (other : Den s_alias_Base) : Bool := (cond (decide ((idxF f.2.1 other.2.1) ≥ (0 : Int))) true (cond (decide ((z object.2.1) ≥ (0 : Int))) (cond (decide ((z object.2.1) < ((ln I f.2.2.2.1) : Int))) (cond (bOf (gd .bool (allocsF f) (((z object.2.1)).toNat))) (!(bOf (gd .bool (escF f) (((z object.2.1)).toNat)))) false) false) false))

def k_local2 : Con := con [.d s_api_Func, .d s_alias_Base, .d s_alias_Base] .bool (fun x => smallF x.1) fun x => locF x.1 x.2.1 x.2.2.1
theorem m_local2 (f : Den s_api_Func) (object : Den s_alias_Base) (other : Den s_alias_Base) (h_f : okD s_api_Func f) (h_object : okD s_alias_Base object) (h_other : okD s_alias_Base other) (hp : smallF f) : Runs E_A20 (start E_A20 f_alias_local [(.tv s_api_Func f), (.tv s_alias_Base object), (.tv s_alias_Base other)]) (fun r_ h_ => r_ = (vb (locF f object other)) ∧ h_ = []) := .tree E_A20_ok (local2_t f object other) (by
  have hp_ := hp
  try simp only [z] at hp_
  refine ⟨trivial, fun _ => ?_⟩
  refine fun _ => ?_
  refine wp_cond (fun h1 => ?_) (fun h1 => ?_)
  · have h1_ := of_decide_eq_true h1
    exact ⟨by simp only [locF, h1, cond_true, cond_false], rfl⟩
  · have h1_ := of_decide_eq_false h1
    refine wp_cond (fun h2 => ?_) (fun h2 => ?_)
    · have h2_ := of_decide_eq_true h2
      refine wp_cond (fun h3 => ?_) (fun h3 => ?_)
      · have h3_ := of_decide_eq_true h3
        refine ⟨by first | omega | exact (ln_allocs f) | (have g_ := ln_allocs f; omega) | exact (ln_esc f) | (have g_ := ln_esc f; omega) | assumption | exact hp.1 | exact hp.2 | exact hp.2.1 | (simp_all; done) | (simp_all; omega), fun _ => ?_⟩
        refine ⟨by first | omega | exact (ln_allocs f) | (have g_ := ln_allocs f; omega) | exact (ln_esc f) | (have g_ := ln_esc f; omega) | assumption | exact hp.1 | exact hp.2 | exact hp.2.1 | (simp_all; done) | (simp_all; omega), fun _ => ?_⟩
        refine wp_cond (fun h4 => ?_) (fun h4 => ?_)
        · refine ⟨by first | omega | exact (ln_allocs f) | (have g_ := ln_allocs f; omega) | exact (ln_esc f) | (have g_ := ln_esc f; omega) | assumption | exact hp.1 | exact hp.2 | exact hp.2.1 | (simp_all; done) | (simp_all; omega), fun _ => ?_⟩
          refine ⟨by first | omega | exact (ln_allocs f) | (have g_ := ln_allocs f; omega) | exact (ln_esc f) | (have g_ := ln_esc f; omega) | assumption | exact hp.1 | exact hp.2 | exact hp.2.1 | (simp_all; done) | (simp_all; omega), fun _ => ?_⟩
          refine fun _ => ?_
          refine fun _ => ?_
          exact ⟨by simp only [locF, h1, h2, h3, h4, cond_true, cond_false], rfl⟩
        · refine fun _ => ?_
          exact ⟨by simp only [locF, h1, h2, h3, h4, cond_true, cond_false], rfl⟩
      · have h3_ := of_decide_eq_false h3
        exact ⟨by simp only [locF, h1, h2, h3, cond_true, cond_false], rfl⟩
    · have h2_ := of_decide_eq_false h2
      exact ⟨by simp only [locF, h1, h2, cond_true, cond_false], rfl⟩)
theorem c_local2 : SpecOK E_A20 f_alias_local k_local2.spec := spec_of fun x hx hp => ⟨rfl, m_local2 x.1 x.2.1 x.2.2.1 hx.1 hx.2.1 hx.2.2.1 hp⟩
def L_A20 : List (FuncId × FSpec) := [(f_alias_local, k_local2.spec)] ++ L_A19
theorem L_A20_ok : ∀ x ∈ L_A20, SpecOK (ctx []) x.1 x.2 := by
  unfold L_A20
  simp only [List.cons_append, List.nil_append, List.forall_mem_cons]
  exact ⟨c_local2, L_A19_ok⟩
end Burn.M27N
namespace Burn.M27N
open Go Go.BE Go.Proofs
set_option maxRecDepth 100000
set_option linter.unusedVariables false
set_option linter.unusedSimpArgs false
open Burn.Cfg Burn.Intn Burn.Ref
noncomputable abbrev E_A21 : Ctx := ctx L_A20
theorem E_A21_ok : EOK E_A21 := ctx_ok L_A20_ok
def cuts_A21 : CutL := []
def rets_A21 : FuncId → List (Option Fx)
  | _ => []
def H_A21 : Hints := { cut := cutOf cuts_A21, ret := rets_A21 }
theorem relate2_t (f : Den s_api_Func) (a : Den s_alias_Base) (b : Den s_alias_Base) (cellsA : Int) (cellsB : Int) : run E_A21 H_A21 f_alias_Relate 3000 (start E_A21 f_alias_Relate [(.tv s_api_Func f), (.tv s_alias_Base a), (.tv s_alias_Base b), (vi cellsA), (vi cellsB)]) = (cond (decide (cellsA < (1 : Int))) (rt (vi (1 : Int)) []) (cond (decide (cellsB < (1 : Int))) (rt (vi (1 : Int)) []) (.chk ((0 : Nat) < (1 : Nat)) (cond (decide ((z a.1) ≥ (1 : Int))) (cond (!(decide ((z a.1) ≤ (3 : Int)))) (rt (vi (2 : Int)) []) (.chk ((0 : Nat) < (1 : Nat)) (cond (decide ((z b.1) ≥ (1 : Int))) (cond (!(decide ((z b.1) ≤ (3 : Int)))) (rt (vi (2 : Int)) []) (.chk ((0 : Nat) < (1 : Nat)) (.chk ((0 : Nat) < (1 : Nat)) (cond ((z a.1) == (z b.1)) (.chk ((0 : Nat) < (1 : Nat)) (.chk ((0 : Nat) < (1 : Nat)) (cond ((z a.2.1) == (z b.2.1)) (.chk ((0 : Nat) < (1 : Nat)) (cond (bOf a.2.2.2.1) (.chk ((0 : Nat) < (1 : Nat)) (cond (bOf b.2.2.2.1) (.chk ((0 : Nat) < (1 : Nat)) (.chk ((0 : Nat) < (1 : Nat)) (cond ((z a.2.2.1) == (z b.2.2.1)) (cond (cellsA == cellsB) (rt (vi (3 : Int)) []) (.chk ((0 : Nat) < (1 : Nat)) (.chk ((0 : Nat) < (1 : Nat)) (.chk (True) (.know True (cond (!(overP a.2.2.1 b.2.2.1 cellsA cellsB)) (rt (vi (1 : Int)) []) (rt (vi (2 : Int)) []))))))) (.chk ((0 : Nat) < (1 : Nat)) (.chk ((0 : Nat) < (1 : Nat)) (.chk (True) (.know True (cond (!(overP a.2.2.1 b.2.2.1 cellsA cellsB)) (rt (vi (1 : Int)) []) (rt (vi (2 : Int)) []))))))))) (.chk ((0 : Nat) < (1 : Nat)) (.chk ((0 : Nat) < (1 : Nat)) (cond ((z a.1) == (z b.1)) (.chk ((0 : Nat) < (1 : Nat)) (.chk ((0 : Nat) < (1 : Nat)) (cond ((z a.2.1) == (z b.2.1)) (rt (vi (2 : Int)) []) (.chk ((0 : Nat) < (1 : Nat)) (.chk ((0 : Nat) < (1 : Nat)) (.chk ((1 ≤ z a.1 ∧ z a.1 ≤ 3) ∧ 1 ≤ z b.1 ∧ z b.1 ≤ 3) (.know (okD (.int .i64) (kindsP a.1 b.1)) (cond ((kindsP a.1 b.1) != (0 : Int)) (rt (vi (kindsP a.1 b.1)) []) (.chk ((0 : Nat) < (1 : Nat)) (cond ((z a.1) == (3 : Int)) (.chk ((0 : Nat) < (1 : Nat)) (.chk ((0 : Nat) < (1 : Nat)) (.chk ((0 : Nat) < (1 : Nat)) (.chk ((0 : Nat) < (1 : Nat)) (.chk ((0 : Nat) < (1 : Nat)) (.chk ((0 : Nat) < (1 : Nat)) (.chk (smallF f) (.know True (cond (locF f b a) (rt (vi (1 : Int)) []) (rt (vi (2 : Int)) [])))))))))) (.chk ((0 : Nat) < (1 : Nat)) (.chk ((0 : Nat) < (1 : Nat)) (.chk (smallF f) (.know True (cond (locF f a b) (rt (vi (1 : Int)) []) (rt (vi (2 : Int)) [])))))))))))))))) (.chk ((0 : Nat) < (1 : Nat)) (.chk ((0 : Nat) < (1 : Nat)) (.chk ((1 ≤ z a.1 ∧ z a.1 ≤ 3) ∧ 1 ≤ z b.1 ∧ z b.1 ≤ 3) (.know (okD (.int .i64) (kindsP a.1 b.1)) (cond ((kindsP a.1 b.1) != (0 : Int)) (rt (vi (kindsP a.1 b.1)) []) (.chk ((0 : Nat) < (1 : Nat)) (cond ((z a.1) == (3 : Int)) (.chk ((0 : Nat) < (1 : Nat)) (.chk ((0 : Nat) < (1 : Nat)) (.chk ((0 : Nat) < (1 : Nat)) (.chk ((0 : Nat) < (1 : Nat)) (.chk ((0 : Nat) < (1 : Nat)) (.chk ((0 : Nat) < (1 : Nat)) (.chk (smallF f) (.know True (cond (locF f b a) (rt (vi (1 : Int)) []) (rt (vi (2 : Int)) [])))))))))) (.chk ((0 : Nat) < (1 : Nat)) (.chk ((0 : Nat) < (1 : Nat)) (.chk (smallF f) (.know True (cond (locF f a b) (rt (vi (1 : Int)) []) (rt (vi (2 : Int)) [])))))))))))))))))) (.chk ((0 : Nat) < (1 : Nat)) (.chk ((0 : Nat) < (1 : Nat)) (cond ((z a.1) == (z b.1)) (.chk ((0 : Nat) < (1 : Nat)) (.chk ((0 : Nat) < (1 : Nat)) (cond ((z a.2.1) == (z b.2.1)) (rt (vi (2 : Int)) []) (.chk ((0 : Nat) < (1 : Nat)) (.chk ((0 : Nat) < (1 : Nat)) (.chk ((1 ≤ z a.1 ∧ z a.1 ≤ 3) ∧ 1 ≤ z b.1 ∧ z b.1 ≤ 3) (.know (okD (.int .i64) (kindsP a.1 b.1)) (cond ((kindsP a.1 b.1) != (0 : Int)) (rt (vi (kindsP a.1 b.1)) []) (.chk ((0 : Nat) < (1 : Nat)) (cond ((z a.1) == (3 : Int)) (.chk ((0 : Nat) < (1 : Nat)) (.chk ((0 : Nat) < (1 : Nat)) (.chk ((0 : Nat) < (1 : Nat)) (.chk ((0 : Nat) < (1 : Nat)) (.chk ((0 : Nat) < (1 : Nat)) (.chk ((0 : Nat) < (1 : Nat)) (.chk (smallF f) (.know True (cond (locF f b a) (rt (vi (1 : Int)) []) (rt (vi (2 : Int)) [])))))))))) (.chk ((0 : Nat) < (1 : Nat)) (.chk ((0 : Nat) < (1 : Nat)) (.chk (smallF f) (.know True (cond (locF f a b) (rt (vi (1 : Int)) []) (rt (vi (2 : Int)) [])))))))))))))))) (.chk ((0 : Nat) < (1 : Nat)) (.chk ((0 : Nat) < (1 : Nat)) (.chk ((1 ≤ z a.1 ∧ z a.1 ≤ 3) ∧ 1 ≤ z b.1 ∧ z b.1 ≤ 3) (.know (okD (.int .i64) (kindsP a.1 b.1)) (cond ((kindsP a.1 b.1) != (0 : Int)) (rt (vi (kindsP a.1 b.1)) []) (.chk ((0 : Nat) < (1 : Nat)) (cond ((z a.1) == (3 : Int)) (.chk ((0 : Nat) < (1 : Nat)) (.chk ((0 : Nat) < (1 : Nat)) (.chk ((0 : Nat) < (1 : Nat)) (.chk ((0 : Nat) < (1 : Nat)) (.chk ((0 : Nat) < (1 : Nat)) (.chk ((0 : Nat) < (1 : Nat)) (.chk (smallF f) (.know True (cond (locF f b a) (rt (vi (1 : Int)) []) (rt (vi (2 : Int)) [])))))))))) (.chk ((0 : Nat) < (1 : Nat)) (.chk ((0 : Nat) < (1 : Nat)) (.chk (smallF f) (.know True (cond (locF f a b) (rt (vi (1 : Int)) []) (rt (vi (2 : Int)) [])))))))))))))))))) (.chk ((0 : Nat) < (1 : Nat)) (.chk ((0 : Nat) < (1 : Nat)) (cond ((z a.1) == (z b.1)) (.chk ((0 : Nat) < (1 : Nat)) (.chk ((0 : Nat) < (1 : Nat)) (cond ((z a.2.1) == (z b.2.1)) (rt (vi (2 : Int)) []) (.chk ((0 : Nat) < (1 : Nat)) (.chk ((0 : Nat) < (1 : Nat)) (.chk ((1 ≤ z a.1 ∧ z a.1 ≤ 3) ∧ 1 ≤ z b.1 ∧ z b.1 ≤ 3) (.know (okD (.int .i64) (kindsP a.1 b.1)) (cond ((kindsP a.1 b.1) != (0 : Int)) (rt (vi (kindsP a.1 b.1)) []) (.chk ((0 : Nat) < (1 : Nat)) (cond ((z a.1) == (3 : Int)) (.chk ((0 : Nat) < (1 : Nat)) (.chk ((0 : Nat) < (1 : Nat)) (.chk ((0 : Nat) < (1 : Nat)) (.chk ((0 : Nat) < (1 : Nat)) (.chk ((0 : Nat) < (1 : Nat)) (.chk ((0 : Nat) < (1 : Nat)) (.chk (smallF f) (.know True (cond (locF f b a) (rt (vi (1 : Int)) []) (rt (vi (2 : Int)) [])))))))))) (.chk ((0 : Nat) < (1 : Nat)) (.chk ((0 : Nat) < (1 : Nat)) (.chk (smallF f) (.know True (cond (locF f a b) (rt (vi (1 : Int)) []) (rt (vi (2 : Int)) [])))))))))))))))) (.chk ((0 : Nat) < (1 : Nat)) (.chk ((0 : Nat) < (1 : Nat)) (.chk ((1 ≤ z a.1 ∧ z a.1 ≤ 3) ∧ 1 ≤ z b.1 ∧ z b.1 ≤ 3) (.know (okD (.int .i64) (kindsP a.1 b.1)) (cond ((kindsP a.1 b.1) != (0 : Int)) (rt (vi (kindsP a.1 b.1)) []) (.chk ((0 : Nat) < (1 : Nat)) (cond ((z a.1) == (3 : Int)) (.chk ((0 : Nat) < (1 : Nat)) (.chk ((0 : Nat) < (1 : Nat)) (.chk ((0 : Nat) < (1 : Nat)) (.chk ((0 : Nat) < (1 : Nat)) (.chk ((0 : Nat) < (1 : Nat)) (.chk ((0 : Nat) < (1 : Nat)) (.chk (smallF f) (.know True (cond (locF f b a) (rt (vi (1 : Int)) []) (rt (vi (2 : Int)) [])))))))))) (.chk ((0 : Nat) < (1 : Nat)) (.chk ((0 : Nat) < (1 : Nat)) (.chk (smallF f) (.know True (cond (locF f a b) (rt (vi (1 : Int)) []) (rt (vi (2 : Int)) []))))))))))))))))))) (.chk ((0 : Nat) < (1 : Nat)) (.chk ((0 : Nat) < (1 : Nat)) (cond ((z a.1) == (z b.1)) (.chk ((0 : Nat) < (1 : Nat)) (.chk ((0 : Nat) < (1 : Nat)) (cond ((z a.2.1) == (z b.2.1)) (rt (vi (2 : Int)) []) (.chk ((0 : Nat) < (1 : Nat)) (.chk ((0 : Nat) < (1 : Nat)) (.chk ((1 ≤ z a.1 ∧ z a.1 ≤ 3) ∧ 1 ≤ z b.1 ∧ z b.1 ≤ 3) (.know (okD (.int .i64) (kindsP a.1 b.1)) (cond ((kindsP a.1 b.1) != (0 : Int)) (rt (vi (kindsP a.1 b.1)) []) (.chk ((0 : Nat) < (1 : Nat)) (cond ((z a.1) == (3 : Int)) (.chk ((0 : Nat) < (1 : Nat)) (.chk ((0 : Nat) < (1 : Nat)) (.chk ((0 : Nat) < (1 : Nat)) (.chk ((0 : Nat) < (1 : Nat)) (.chk ((0 : Nat) < (1 : Nat)) (.chk ((0 : Nat) < (1 : Nat)) (.chk (smallF f) (.know True (cond (locF f b a) (rt (vi (1 : Int)) []) (rt (vi (2 : Int)) [])))))))))) (.chk ((0 : Nat) < (1 : Nat)) (.chk ((0 : Nat) < (1 : Nat)) (.chk (smallF f) (.know True (cond (locF f a b) (rt (vi (1 : Int)) []) (rt (vi (2 : Int)) [])))))))))))))))) (.chk ((0 : Nat) < (1 : Nat)) (.chk ((0 : Nat) < (1 : Nat)) (.chk ((1 ≤ z a.1 ∧ z a.1 ≤ 3) ∧ 1 ≤ z b.1 ∧ z b.1 ≤ 3) (.know (okD (.int .i64) (kindsP a.1 b.1)) (cond ((kindsP a.1 b.1) != (0 : Int)) (rt (vi (kindsP a.1 b.1)) []) (.chk ((0 : Nat) < (1 : Nat)) (cond ((z a.1) == (3 : Int)) (.chk ((0 : Nat) < (1 : Nat)) (.chk ((0 : Nat) < (1 : Nat)) (.chk ((0 : Nat) < (1 : Nat)) (.chk ((0 : Nat) < (1 : Nat)) (.chk ((0 : Nat) < (1 : Nat)) (.chk ((0 : Nat) < (1 : Nat)) (.chk (smallF f) (.know True (cond (locF f b a) (rt (vi (1 : Int)) []) (rt (vi (2 : Int)) [])))))))))) (.chk ((0 : Nat) < (1 : Nat)) (.chk ((0 : Nat) < (1 : Nat)) (.chk (smallF f) (.know True (cond (locF f a b) (rt (vi (1 : Int)) []) (rt (vi (2 : Int)) [])))))))))))))))))))) (rt (vi (2 : Int)) [])))) (rt (vi (2 : Int)) []))))) := by kernel_rfl
def relF (f : Den s_api_Func) (a : Den s_alias_Base) (b : Den s_alias_Base) (cellsA : Int) (cellsB : Int) : Int := (cond (decide (cellsA < (1 : Int))) (1 : Int) (cond (decide (cellsB < (1 : Int))) (1 : Int) (cond (decide ((z a.1) ≥ (1 : Int))) (cond (!(decide ((z a.1) ≤ (3 : Int)))) (2 : Int) (cond (decide ((z b.1) ≥ (1 : Int))) (cond (!(decide ((z b.1) ≤ (3 : Int)))) (2 : Int) (cond ((z a.1) == (z b.1)) (cond ((z a.2.1) == (z b.2.1)) (cond (bOf a.2.2.2.1) (cond (bOf b.2.2.2.1) (cond ((z a.2.2.1) == (z b.2.2.1)) (cond (cellsA == cellsB) (3 : Int) (cond (!(overP a.2.2.1 b.2.2.1 cellsA cellsB)) (1 : Int) (2 : Int))) (cond (!(overP a.2.2.1 b.2.2.1 cellsA cellsB)) (1 : Int) (2 : Int))) (cond ((z a.1) == (z b.1)) (cond ((z a.2.1) == (z b.2.1)) (2 : Int) (cond ((kindsP a.1 b.1) != (0 : Int)) (kindsP a.1 b.1) (cond ((z a.1) == (3 : Int)) (cond (locF f b a) (1 : Int) (2 : Int)) (cond (locF f a b) (1 : Int) (2 : Int))))) (cond ((kindsP a.1 b.1) != (0 : Int)) (kindsP a.1 b.1) (cond ((z a.1) == (3 : Int)) (cond (locF f b a) (1 : Int) (2 : Int)) (cond (locF f a b) (1 : Int) (2 : Int)))))) (cond ((z a.1) == (z b.1)) (cond ((z a.2.1) == (z b.2.1)) (2 : Int) (cond ((kindsP a.1 b.1) != (0 : Int)) (kindsP a.1 b.1) (cond ((z a.1) == (3 : Int)) (cond (locF f b a) (1 : Int) (2 : Int)) (cond (locF f a b) (1 : Int) (2 : Int))))) (cond ((kindsP a.1 b.1) != (0 : Int)) (kindsP a.1 b.1) (cond ((z a.1) == (3 : Int)) (cond (locF f b a) (1 : Int) (2 : Int)) (cond (locF f a b) (1 : Int) (2 : Int)))))) (cond ((z a.1) == (z b.1)) (cond ((z a.2.1) == (z b.2.1)) (2 : Int) (cond ((kindsP a.1 b.1) != (0 : Int)) (kindsP a.1 b.1) (cond ((z a.1) == (3 : Int)) (cond (locF f b a) (1 : Int) (2 : Int)) (cond (locF f a b) (1 : Int) (2 : Int))))) (cond ((kindsP a.1 b.1) != (0 : Int)) (kindsP a.1 b.1) (cond ((z a.1) == (3 : Int)) (cond (locF f b a) (1 : Int) (2 : Int)) (cond (locF f a b) (1 : Int) (2 : Int)))))) (cond ((z a.1) == (z b.1)) (cond ((z a.2.1) == (z b.2.1)) (2 : Int) (cond ((kindsP a.1 b.1) != (0 : Int)) (kindsP a.1 b.1) (cond ((z a.1) == (3 : Int)) (cond (locF f b a) (1 : Int) (2 : Int)) (cond (locF f a b) (1 : Int) (2 : Int))))) (cond ((kindsP a.1 b.1) != (0 : Int)) (kindsP a.1 b.1) (cond ((z a.1) == (3 : Int)) (cond (locF f b a) (1 : Int) (2 : Int)) (cond (locF f a b) (1 : Int) (2 : Int))))))) (2 : Int))) (2 : Int))))

def k_relate2 : Con := con [.d s_api_Func, .d s_alias_Base, .d s_alias_Base, .d I, .d I] I (fun x => smallF x.1) fun x => relF x.1 x.2.1 x.2.2.1 x.2.2.2.1 x.2.2.2.2.1
theorem m_relate2 (f : Den s_api_Func) (a : Den s_alias_Base) (b : Den s_alias_Base) (cellsA : Int) (cellsB : Int) (h_f : okD s_api_Func f) (h_a : okD s_alias_Base a) (h_b : okD s_alias_Base b) (h_cellsA : okD I cellsA) (h_cellsB : okD I cellsB) (hp : smallF f) : Runs E_A21 (start E_A21 f_alias_Relate [(.tv s_api_Func f), (.tv s_alias_Base a), (.tv s_alias_Base b), (vi cellsA), (vi cellsB)]) (fun r_ h_ => r_ = (vi (relF f a b cellsA cellsB)) ∧ h_ = []) := .tree E_A21_ok (relate2_t f a b cellsA cellsB) (by
  have hp_ := hp
  try simp only [z] at hp_
  refine wp_cond (fun h1 => ?_) (fun h1 => ?_)
  · have h1_ := of_decide_eq_true h1
    exact ⟨by simp only [relF, h1, cond_true, cond_false], rfl⟩
  · have h1_ := of_decide_eq_false h1
    refine wp_cond (fun h2 => ?_) (fun h2 => ?_)
    · have h2_ := of_decide_eq_true h2
      exact ⟨by simp only [relF, h1, h2, cond_true, cond_false], rfl⟩
    · have h2_ := of_decide_eq_false h2
      refine ⟨Nat.zero_lt_one, fun _ => ?_⟩
      refine wp_cond (fun h3 => ?_) (fun h3 => ?_)
      · have h3_ := of_decide_eq_true h3
        refine wp_cond (fun h4 => ?_) (fun h4 => ?_)
        · have h4_ := of_decide_eq_false (by simpa only [Bool.not_eq_true', Bool.not_eq_false'] using h4)
          exact ⟨by simp only [relF, h1, h2, h3, h4, cond_true, cond_false], rfl⟩
        · have h4_ := of_decide_eq_true (by simpa only [Bool.not_eq_true', Bool.not_eq_false'] using h4)
          refine ⟨Nat.zero_lt_one, fun _ => ?_⟩
          refine wp_cond (fun h5 => ?_) (fun h5 => ?_)
          · have h5_ := of_decide_eq_true h5
            refine wp_cond (fun h6 => ?_) (fun h6 => ?_)
            · have h6_ := of_decide_eq_false (by simpa only [Bool.not_eq_true', Bool.not_eq_false'] using h6)
              exact ⟨by simp only [relF, h1, h2, h3, h4, h5, h6, cond_true, cond_false], rfl⟩
            · have h6_ := of_decide_eq_true (by simpa only [Bool.not_eq_true', Bool.not_eq_false'] using h6)
              refine ⟨Nat.zero_lt_one, fun _ => ?_⟩
              refine ⟨Nat.zero_lt_one, fun _ => ?_⟩
              refine wp_cond (fun h7 => ?_) (fun h7 => ?_)
              · have h7_ := beq_t h7
                refine ⟨Nat.zero_lt_one, fun _ => ?_⟩
                refine ⟨Nat.zero_lt_one, fun _ => ?_⟩
                refine wp_cond (fun h8 => ?_) (fun h8 => ?_)
                · have h8_ := beq_t h8
                  refine ⟨Nat.zero_lt_one, fun _ => ?_⟩
                  refine wp_cond (fun h9 => ?_) (fun h9 => ?_)
                  · refine ⟨Nat.zero_lt_one, fun _ => ?_⟩
                    refine wp_cond (fun h10 => ?_) (fun h10 => ?_)
                    · refine ⟨Nat.zero_lt_one, fun _ => ?_⟩
                      refine ⟨Nat.zero_lt_one, fun _ => ?_⟩
                      refine wp_cond (fun h11 => ?_) (fun h11 => ?_)
                      · have h11_ := beq_t h11
                        refine wp_cond (fun h12 => ?_) (fun h12 => ?_)
                        · have h12_ := beq_t h12
                          exact ⟨by simp only [relF, h1, h2, h3, h4, h5, h6, h7, h8, h9, h10, h11, h12, cond_true, cond_false], rfl⟩
                        · have h12_ := beq_f h12
                          refine ⟨Nat.zero_lt_one, fun _ => ?_⟩
                          refine ⟨Nat.zero_lt_one, fun _ => ?_⟩
                          refine ⟨trivial, fun _ => ?_⟩
                          refine fun _ => ?_
                          refine wp_cond (fun h13 => ?_) (fun h13 => ?_)
                          · exact ⟨by simp only [relF, h1, h2, h3, h4, h5, h6, h7, h8, h9, h10, h11, h12, h13, cond_true, cond_false], rfl⟩
                          · exact ⟨by simp only [relF, h1, h2, h3, h4, h5, h6, h7, h8, h9, h10, h11, h12, h13, cond_true, cond_false], rfl⟩
                      · have h11_ := beq_f h11
                        refine ⟨Nat.zero_lt_one, fun _ => ?_⟩
                        refine ⟨Nat.zero_lt_one, fun _ => ?_⟩
                        refine ⟨trivial, fun _ => ?_⟩
                        refine fun _ => ?_
                        refine wp_cond (fun h14 => ?_) (fun h14 => ?_)
                        · exact ⟨by simp only [relF, h1, h2, h3, h4, h5, h6, h7, h8, h9, h10, h11, h14, cond_true, cond_false], rfl⟩
                        · exact ⟨by simp only [relF, h1, h2, h3, h4, h5, h6, h7, h8, h9, h10, h11, h14, cond_true, cond_false], rfl⟩
                    · refine ⟨Nat.zero_lt_one, fun _ => ?_⟩
                      refine ⟨Nat.zero_lt_one, fun _ => ?_⟩
                      refine wp_cond (fun _ => ?_) (fun h15 => absurd (h7.symm.trans h15) (by decide))
                      refine ⟨Nat.zero_lt_one, fun _ => ?_⟩
                      refine ⟨Nat.zero_lt_one, fun _ => ?_⟩
                      refine wp_cond (fun _ => ?_) (fun h16 => absurd (h8.symm.trans h16) (by decide))
                      exact ⟨by simp only [relF, h1, h2, h3, h4, h5, h6, h7, h8, h9, h10, cond_true, cond_false], rfl⟩
                  · refine ⟨Nat.zero_lt_one, fun _ => ?_⟩
                    refine ⟨Nat.zero_lt_one, fun _ => ?_⟩
                    refine wp_cond (fun _ => ?_) (fun h17 => absurd (h7.symm.trans h17) (by decide))
                    refine ⟨Nat.zero_lt_one, fun _ => ?_⟩
                    refine ⟨Nat.zero_lt_one, fun _ => ?_⟩
                    refine wp_cond (fun _ => ?_) (fun h18 => absurd (h8.symm.trans h18) (by decide))
                    exact ⟨by simp only [relF, h1, h2, h3, h4, h5, h6, h7, h8, h9, cond_true, cond_false], rfl⟩
                · have h8_ := beq_f h8
                  refine ⟨Nat.zero_lt_one, fun _ => ?_⟩
                  refine ⟨Nat.zero_lt_one, fun _ => ?_⟩
                  refine wp_cond (fun _ => ?_) (fun h19 => absurd (h7.symm.trans h19) (by decide))
                  refine ⟨Nat.zero_lt_one, fun _ => ?_⟩
                  refine ⟨Nat.zero_lt_one, fun _ => ?_⟩
                  refine wp_cond (fun h20 => absurd (h8.symm.trans h20) (by decide)) (fun _ => ?_)
                  refine ⟨Nat.zero_lt_one, fun _ => ?_⟩
                  refine ⟨Nat.zero_lt_one, fun _ => ?_⟩
                  refine ⟨by first | omega | exact (hp) | (have g_ := hp; omega) | assumption | exact hp.1 | exact hp.2 | exact hp.2.1 | (simp_all; done) | (simp_all; omega), fun _ => ?_⟩
                  refine fun _ => ?_
                  refine wp_cond (fun h21 => ?_) (fun h21 => ?_)
                  · have h21_ := bne_t h21
                    exact ⟨by simp only [relF, h1, h2, h3, h4, h5, h6, h7, h8, h21, cond_true, cond_false], rfl⟩
                  · have h21_ := bne_f h21
                    refine ⟨Nat.zero_lt_one, fun _ => ?_⟩
                    refine wp_cond (fun h22 => ?_) (fun h22 => ?_)
                    · have h22_ := beq_t h22
                      refine ⟨Nat.zero_lt_one, fun _ => ?_⟩
                      refine ⟨Nat.zero_lt_one, fun _ => ?_⟩
                      refine ⟨Nat.zero_lt_one, fun _ => ?_⟩
                      refine ⟨Nat.zero_lt_one, fun _ => ?_⟩
                      refine ⟨Nat.zero_lt_one, fun _ => ?_⟩
                      refine ⟨Nat.zero_lt_one, fun _ => ?_⟩
                      refine ⟨by first | omega | exact (hp) | (have g_ := hp; omega) | assumption | exact hp.1 | exact hp.2 | exact hp.2.1 | (simp_all; done) | (simp_all; omega), fun _ => ?_⟩
                      refine fun _ => ?_
                      refine wp_cond (fun h23 => ?_) (fun h23 => ?_)
                      · exact ⟨by simp only [relF, h1, h2, h3, h4, h5, h6, h7, h8, h21, h22, h23, cond_true, cond_false], rfl⟩
                      · exact ⟨by simp only [relF, h1, h2, h3, h4, h5, h6, h7, h8, h21, h22, h23, cond_true, cond_false], rfl⟩
                    · have h22_ := beq_f h22
                      refine ⟨Nat.zero_lt_one, fun _ => ?_⟩
                      refine ⟨Nat.zero_lt_one, fun _ => ?_⟩
                      refine ⟨by first | omega | exact (hp) | (have g_ := hp; omega) | assumption | exact hp.1 | exact hp.2 | exact hp.2.1 | (simp_all; done) | (simp_all; omega), fun _ => ?_⟩
                      refine fun _ => ?_
                      refine wp_cond (fun h24 => ?_) (fun h24 => ?_)
                      · exact ⟨by simp only [relF, h1, h2, h3, h4, h5, h6, h7, h8, h21, h22, h24, cond_true, cond_false], rfl⟩
                      · exact ⟨by simp only [relF, h1, h2, h3, h4, h5, h6, h7, h8, h21, h22, h24, cond_true, cond_false], rfl⟩
              · have h7_ := beq_f h7
                refine ⟨Nat.zero_lt_one, fun _ => ?_⟩
                refine ⟨Nat.zero_lt_one, fun _ => ?_⟩
                refine wp_cond (fun h25 => absurd (h7.symm.trans h25) (by decide)) (fun _ => ?_)
                refine ⟨Nat.zero_lt_one, fun _ => ?_⟩
                refine ⟨Nat.zero_lt_one, fun _ => ?_⟩
                refine ⟨by first | omega | exact (hp) | (have g_ := hp; omega) | assumption | exact hp.1 | exact hp.2 | exact hp.2.1 | (simp_all; done) | (simp_all; omega), fun _ => ?_⟩
                refine fun _ => ?_
                refine wp_cond (fun h26 => ?_) (fun h26 => ?_)
                · have h26_ := bne_t h26
                  exact ⟨by simp only [relF, h1, h2, h3, h4, h5, h6, h7, h26, cond_true, cond_false], rfl⟩
                · have h26_ := bne_f h26
                  refine ⟨Nat.zero_lt_one, fun _ => ?_⟩
                  refine wp_cond (fun h27 => ?_) (fun h27 => ?_)
                  · have h27_ := beq_t h27
                    refine ⟨Nat.zero_lt_one, fun _ => ?_⟩
                    refine ⟨Nat.zero_lt_one, fun _ => ?_⟩
                    refine ⟨Nat.zero_lt_one, fun _ => ?_⟩
                    refine ⟨Nat.zero_lt_one, fun _ => ?_⟩
                    refine ⟨Nat.zero_lt_one, fun _ => ?_⟩
                    refine ⟨Nat.zero_lt_one, fun _ => ?_⟩
                    refine ⟨by first | omega | exact (hp) | (have g_ := hp; omega) | assumption | exact hp.1 | exact hp.2 | exact hp.2.1 | (simp_all; done) | (simp_all; omega), fun _ => ?_⟩
                    refine fun _ => ?_
                    refine wp_cond (fun h28 => ?_) (fun h28 => ?_)
                    · exact ⟨by simp only [relF, h1, h2, h3, h4, h5, h6, h7, h26, h27, h28, cond_true, cond_false], rfl⟩
                    · exact ⟨by simp only [relF, h1, h2, h3, h4, h5, h6, h7, h26, h27, h28, cond_true, cond_false], rfl⟩
                  · have h27_ := beq_f h27
                    refine ⟨Nat.zero_lt_one, fun _ => ?_⟩
                    refine ⟨Nat.zero_lt_one, fun _ => ?_⟩
                    refine ⟨by first | omega | exact (hp) | (have g_ := hp; omega) | assumption | exact hp.1 | exact hp.2 | exact hp.2.1 | (simp_all; done) | (simp_all; omega), fun _ => ?_⟩
                    refine fun _ => ?_
                    refine wp_cond (fun h29 => ?_) (fun h29 => ?_)
                    · exact ⟨by simp only [relF, h1, h2, h3, h4, h5, h6, h7, h26, h27, h29, cond_true, cond_false], rfl⟩
                    · exact ⟨by simp only [relF, h1, h2, h3, h4, h5, h6, h7, h26, h27, h29, cond_true, cond_false], rfl⟩
          · have h5_ := of_decide_eq_false h5
            exact ⟨by simp only [relF, h1, h2, h3, h4, h5, cond_true, cond_false], rfl⟩
      · have h3_ := of_decide_eq_false h3
        exact ⟨by simp only [relF, h1, h2, h3, cond_true, cond_false], rfl⟩)
theorem c_relate2 : SpecOK E_A21 f_alias_Relate k_relate2.spec := spec_of fun x hx hp => ⟨rfl, m_relate2 x.1 x.2.1 x.2.2.1 x.2.2.2.1 x.2.2.2.2.1 hx.1 hx.2.1 hx.2.2.1 hx.2.2.2.1 hx.2.2.2.2.1 hp⟩
def L_A21 : List (FuncId × FSpec) := [(f_alias_Relate, k_relate2.spec)] ++ L_A20
theorem L_A21_ok : ∀ x ∈ L_A21, SpecOK (ctx []) x.1 x.2 := by
  unfold L_A21
  simp only [List.cons_append, List.nil_append, List.forall_mem_cons]
  exact ⟨c_relate2, L_A20_ok⟩
end Burn.M27N
namespace Burn.M27N
open Go Go.BE Go.Proofs
set_option maxRecDepth 100000
set_option linter.unusedVariables false
set_option linter.unusedSimpArgs false
open Burn.Cfg Burn.Intn Burn.Ref
noncomputable abbrev E_A22 : Ctx := ctx L_A21
theorem E_A22_ok : EOK E_A22 := ctx_ok L_A21_ok
def cuts_A22 : CutL := []
def rets_A22 : FuncId → List (Option Fx)
  | _ => []
def H_A22 : Hints := { cut := cutOf cuts_A22, ret := rets_A22 }
theorem r27_accessed_t (f : Den s_api_Func) (at_ : Den s_api_Pos) : run E_A22 H_A22 f_r27_accessed 3000 (start E_A22 f_r27_accessed [(.tv s_api_Func f), (.tv s_api_Pos at_)]) = (.chk (True) (cond (!(insideF f at_)) (.know True (rt (.tup [(vi (0 : Int)), (vi (0 : Int)), (vi (0 : Int))]) [])) (cond (decide ((z at_.2.1) < (0 : Int))) (.know True (rt (.tup [(vi (0 : Int)), (vi (0 : Int)), (vi (0 : Int))]) [])) (.chk (0 ≤ (z at_.1) ∧ (z at_.1) < (ln s_api_Block f.2.2.2.2.1)) (.know True (cond (decide ((z at_.2.1) ≥ ((ln s_api_Instr (((gd s_api_Block f.2.2.2.2.1 (((z at_.1)).toNat)).2).1)) : Int))) (rt (.tup [(vi (0 : Int)), (vi (0 : Int)), (vi (0 : Int))]) []) (.chk (0 ≤ (z at_.1) ∧ (z at_.1) < (ln s_api_Block f.2.2.2.2.1)) (.chk (0 ≤ (z at_.2.1) ∧ (z at_.2.1) < (ln s_api_Instr (((gd s_api_Block f.2.2.2.2.1 (((z at_.1)).toNat)).2).1))) (cond ((z ((gd s_api_Instr (((gd s_api_Block f.2.2.2.2.1 (((z at_.1)).toNat)).2).1) (((z at_.2.1)).toNat)).1)) != (28 : Int)) (cond ((z ((gd s_api_Instr (((gd s_api_Block f.2.2.2.2.1 (((z at_.1)).toNat)).2).1) (((z at_.2.1)).toNat)).1)) != (29 : Int)) (rt (.tup [(vi (0 : Int)), (vi (0 : Int)), (vi (0 : Int))]) []) (cond (((ln I (((((gd s_api_Instr (((gd s_api_Block f.2.2.2.2.1 (((z at_.1)).toNat)).2).1) (((z at_.2.1)).toNat)).2).2).2).1)) : Int) == (0 : Int)) (rt (.tup [(vi (0 : Int)), (vi (0 : Int)), (vi (0 : Int))]) []) (.chk (0 ≤ (0 : Int) ∧ (0 : Int) < (ln I (((((gd s_api_Instr (((gd s_api_Block f.2.2.2.2.1 (((z at_.1)).toNat)).2).1) (((z at_.2.1)).toNat)).2).2).2).1))) (.chk (True) (.know True (cond (!(ptrR f (gd I (((((gd s_api_Instr (((gd s_api_Block f.2.2.2.2.1 (((z at_.1)).toNat)).2).1) (((z at_.2.1)).toNat)).2).2).2).1) (0 : Nat)))) (rt (.tup [(vi (0 : Int)), (vi (0 : Int)), (vi (0 : Int))]) []) (cond ((z ((gd s_api_Instr (((gd s_api_Block f.2.2.2.2.1 (((z at_.1)).toNat)).2).1) (((z at_.2.1)).toNat)).1)) == (29 : Int)) (cond (decide (((ln I (((((gd s_api_Instr (((gd s_api_Block f.2.2.2.2.1 (((z at_.1)).toNat)).2).1) (((z at_.2.1)).toNat)).2).2).2).1)) : Int) < (2 : Int))) (rt (.tup [(vi (0 : Int)), (vi (0 : Int)), (vi (0 : Int))]) []) (.chk (0 ≤ (1 : Int) ∧ (1 : Int) < (ln I (((((gd s_api_Instr (((gd s_api_Block f.2.2.2.2.1 (((z at_.1)).toNat)).2).1) (((z at_.2.1)).toNat)).2).2).2).1))) (cond (decide ((z (gd I (((((gd s_api_Instr (((gd s_api_Block f.2.2.2.2.1 (((z at_.1)).toNat)).2).1) (((z at_.2.1)).toNat)).2).2).2).1) (1 : Nat))) < (0 : Int))) (rt (.tup [(vi (0 : Int)), (vi (0 : Int)), (vi (0 : Int))]) []) (.chk (0 ≤ (1 : Int) ∧ (1 : Int) < (ln I (((((gd s_api_Instr (((gd s_api_Block f.2.2.2.2.1 (((z at_.1)).toNat)).2).1) (((z at_.2.1)).toNat)).2).2).2).1))) (cond (decide ((z (gd I (((((gd s_api_Instr (((gd s_api_Block f.2.2.2.2.1 (((z at_.1)).toNat)).2).1) (((z at_.2.1)).toNat)).2).2).2).1) (1 : Nat))) ≥ ((ln I f.2.2.2.1) : Int))) (rt (.tup [(vi (0 : Int)), (vi (0 : Int)), (vi (0 : Int))]) []) (.chk (0 ≤ (1 : Int) ∧ (1 : Int) < (ln I (((((gd s_api_Instr (((gd s_api_Block f.2.2.2.2.1 (((z at_.1)).toNat)).2).1) (((z at_.2.1)).toNat)).2).2).2).1))) (.chk (0 ≤ (z (gd I (((((gd s_api_Instr (((gd s_api_Block f.2.2.2.2.1 (((z at_.1)).toNat)).2).1) (((z at_.2.1)).toNat)).2).2).2).1) (1 : Nat))) ∧ (z (gd I (((((gd s_api_Instr (((gd s_api_Block f.2.2.2.2.1 (((z at_.1)).toNat)).2).1) (((z at_.2.1)).toNat)).2).2).2).1) (1 : Nat))) < (ln I f.2.2.2.1)) (.chk (True) (.know (okAVs [(vi (z ((accR (gd I f.2.2.2.1 (((z (gd I (((((gd s_api_Instr (((gd s_api_Block f.2.2.2.2.1 (((z at_.1)).toNat)).2).1) (((z at_.2.1)).toNat)).2).2).2).1) (1 : Nat)))).toNat))).1))), (vi (z ((accR (gd I f.2.2.2.1 (((z (gd I (((((gd s_api_Instr (((gd s_api_Block f.2.2.2.2.1 (((z at_.1)).toNat)).2).1) (((z at_.2.1)).toNat)).2).2).2).1) (1 : Nat)))).toNat))).2)))]) (.chk (0 ≤ (0 : Int) ∧ (0 : Int) < (ln I (((((gd s_api_Instr (((gd s_api_Block f.2.2.2.2.1 (((z at_.1)).toNat)).2).1) (((z at_.2.1)).toNat)).2).2).2).1))) (rt (.tup [(vi (z (gd I (((((gd s_api_Instr (((gd s_api_Block f.2.2.2.2.1 (((z at_.1)).toNat)).2).1) (((z at_.2.1)).toNat)).2).2).2).1) (0 : Nat)))), (vi (z ((accR (gd I f.2.2.2.1 (((z (gd I (((((gd s_api_Instr (((gd s_api_Block f.2.2.2.2.1 (((z at_.1)).toNat)).2).1) (((z at_.2.1)).toNat)).2).2).2).1) (1 : Nat)))).toNat))).1))), (vi (z ((accR (gd I f.2.2.2.1 (((z (gd I (((((gd s_api_Instr (((gd s_api_Block f.2.2.2.2.1 (((z at_.1)).toNat)).2).1) (((z at_.2.1)).toNat)).2).2).2).1) (1 : Nat)))).toNat))).2)))]) []))))))))))) (.chk (True) (.know (okAVs [(vi (z ((accR ((gd s_api_Instr (((gd s_api_Block f.2.2.2.2.1 (((z at_.1)).toNat)).2).1) (((z at_.2.1)).toNat)).2).1).1))), (vi (z ((accR ((gd s_api_Instr (((gd s_api_Block f.2.2.2.2.1 (((z at_.1)).toNat)).2).1) (((z at_.2.1)).toNat)).2).1).2)))]) (.chk (0 ≤ (0 : Int) ∧ (0 : Int) < (ln I (((((gd s_api_Instr (((gd s_api_Block f.2.2.2.2.1 (((z at_.1)).toNat)).2).1) (((z at_.2.1)).toNat)).2).2).2).1))) (rt (.tup [(vi (z (gd I (((((gd s_api_Instr (((gd s_api_Block f.2.2.2.2.1 (((z at_.1)).toNat)).2).1) (((z at_.2.1)).toNat)).2).2).2).1) (0 : Nat)))), (vi (z ((accR ((gd s_api_Instr (((gd s_api_Block f.2.2.2.2.1 (((z at_.1)).toNat)).2).1) (((z at_.2.1)).toNat)).2).1).1))), (vi (z ((accR ((gd s_api_Instr (((gd s_api_Block f.2.2.2.2.1 (((z at_.1)).toNat)).2).1) (((z at_.2.1)).toNat)).2).1).2)))]) []))))))))))) (cond (((ln I (((((gd s_api_Instr (((gd s_api_Block f.2.2.2.2.1 (((z at_.1)).toNat)).2).1) (((z at_.2.1)).toNat)).2).2).2).1)) : Int) == (0 : Int)) (rt (.tup [(vi (0 : Int)), (vi (0 : Int)), (vi (0 : Int))]) []) (.chk (0 ≤ (0 : Int) ∧ (0 : Int) < (ln I (((((gd s_api_Instr (((gd s_api_Block f.2.2.2.2.1 (((z at_.1)).toNat)).2).1) (((z at_.2.1)).toNat)).2).2).2).1))) (.chk (True) (.know True (cond (!(ptrR f (gd I (((((gd s_api_Instr (((gd s_api_Block f.2.2.2.2.1 (((z at_.1)).toNat)).2).1) (((z at_.2.1)).toNat)).2).2).2).1) (0 : Nat)))) (rt (.tup [(vi (0 : Int)), (vi (0 : Int)), (vi (0 : Int))]) []) (cond ((z ((gd s_api_Instr (((gd s_api_Block f.2.2.2.2.1 (((z at_.1)).toNat)).2).1) (((z at_.2.1)).toNat)).1)) == (29 : Int)) (cond (decide (((ln I (((((gd s_api_Instr (((gd s_api_Block f.2.2.2.2.1 (((z at_.1)).toNat)).2).1) (((z at_.2.1)).toNat)).2).2).2).1)) : Int) < (2 : Int))) (rt (.tup [(vi (0 : Int)), (vi (0 : Int)), (vi (0 : Int))]) []) (.chk (0 ≤ (1 : Int) ∧ (1 : Int) < (ln I (((((gd s_api_Instr (((gd s_api_Block f.2.2.2.2.1 (((z at_.1)).toNat)).2).1) (((z at_.2.1)).toNat)).2).2).2).1))) (cond (decide ((z (gd I (((((gd s_api_Instr (((gd s_api_Block f.2.2.2.2.1 (((z at_.1)).toNat)).2).1) (((z at_.2.1)).toNat)).2).2).2).1) (1 : Nat))) < (0 : Int))) (rt (.tup [(vi (0 : Int)), (vi (0 : Int)), (vi (0 : Int))]) []) (.chk (0 ≤ (1 : Int) ∧ (1 : Int) < (ln I (((((gd s_api_Instr (((gd s_api_Block f.2.2.2.2.1 (((z at_.1)).toNat)).2).1) (((z at_.2.1)).toNat)).2).2).2).1))) (cond (decide ((z (gd I (((((gd s_api_Instr (((gd s_api_Block f.2.2.2.2.1 (((z at_.1)).toNat)).2).1) (((z at_.2.1)).toNat)).2).2).2).1) (1 : Nat))) ≥ ((ln I f.2.2.2.1) : Int))) (rt (.tup [(vi (0 : Int)), (vi (0 : Int)), (vi (0 : Int))]) []) (.chk (0 ≤ (1 : Int) ∧ (1 : Int) < (ln I (((((gd s_api_Instr (((gd s_api_Block f.2.2.2.2.1 (((z at_.1)).toNat)).2).1) (((z at_.2.1)).toNat)).2).2).2).1))) (.chk (0 ≤ (z (gd I (((((gd s_api_Instr (((gd s_api_Block f.2.2.2.2.1 (((z at_.1)).toNat)).2).1) (((z at_.2.1)).toNat)).2).2).2).1) (1 : Nat))) ∧ (z (gd I (((((gd s_api_Instr (((gd s_api_Block f.2.2.2.2.1 (((z at_.1)).toNat)).2).1) (((z at_.2.1)).toNat)).2).2).2).1) (1 : Nat))) < (ln I f.2.2.2.1)) (.chk (True) (.know (okAVs [(vi (z ((accR (gd I f.2.2.2.1 (((z (gd I (((((gd s_api_Instr (((gd s_api_Block f.2.2.2.2.1 (((z at_.1)).toNat)).2).1) (((z at_.2.1)).toNat)).2).2).2).1) (1 : Nat)))).toNat))).1))), (vi (z ((accR (gd I f.2.2.2.1 (((z (gd I (((((gd s_api_Instr (((gd s_api_Block f.2.2.2.2.1 (((z at_.1)).toNat)).2).1) (((z at_.2.1)).toNat)).2).2).2).1) (1 : Nat)))).toNat))).2)))]) (.chk (0 ≤ (0 : Int) ∧ (0 : Int) < (ln I (((((gd s_api_Instr (((gd s_api_Block f.2.2.2.2.1 (((z at_.1)).toNat)).2).1) (((z at_.2.1)).toNat)).2).2).2).1))) (rt (.tup [(vi (z (gd I (((((gd s_api_Instr (((gd s_api_Block f.2.2.2.2.1 (((z at_.1)).toNat)).2).1) (((z at_.2.1)).toNat)).2).2).2).1) (0 : Nat)))), (vi (z ((accR (gd I f.2.2.2.1 (((z (gd I (((((gd s_api_Instr (((gd s_api_Block f.2.2.2.2.1 (((z at_.1)).toNat)).2).1) (((z at_.2.1)).toNat)).2).2).2).1) (1 : Nat)))).toNat))).1))), (vi (z ((accR (gd I f.2.2.2.1 (((z (gd I (((((gd s_api_Instr (((gd s_api_Block f.2.2.2.2.1 (((z at_.1)).toNat)).2).1) (((z at_.2.1)).toNat)).2).2).2).1) (1 : Nat)))).toNat))).2)))]) []))))))))))) (.chk (True) (.know (okAVs [(vi (z ((accR ((gd s_api_Instr (((gd s_api_Block f.2.2.2.2.1 (((z at_.1)).toNat)).2).1) (((z at_.2.1)).toNat)).2).1).1))), (vi (z ((accR ((gd s_api_Instr (((gd s_api_Block f.2.2.2.2.1 (((z at_.1)).toNat)).2).1) (((z at_.2.1)).toNat)).2).1).2)))]) (.chk (0 ≤ (0 : Int) ∧ (0 : Int) < (ln I (((((gd s_api_Instr (((gd s_api_Block f.2.2.2.2.1 (((z at_.1)).toNat)).2).1) (((z at_.2.1)).toNat)).2).2).2).1))) (rt (.tup [(vi (z (gd I (((((gd s_api_Instr (((gd s_api_Block f.2.2.2.2.1 (((z at_.1)).toNat)).2).1) (((z at_.2.1)).toNat)).2).2).2).1) (0 : Nat)))), (vi (z ((accR ((gd s_api_Instr (((gd s_api_Block f.2.2.2.2.1 (((z at_.1)).toNat)).2).1) (((z at_.2.1)).toNat)).2).1).1))), (vi (z ((accR ((gd s_api_Instr (((gd s_api_Block f.2.2.2.2.1 (((z at_.1)).toNat)).2).1) (((z at_.2.1)).toNat)).2).1).2)))]) []))))))))))))))))))) := by kernel_rfl
theorem ins_in {f : Fn} {p : Den s_api_Pos} (h : (!(insideF f p)) = false) : 0 ≤ z p.1 ∧ z p.1 < (ln s_api_Block f.2.2.2.2.1 : Int) := by
  have h : insideF f p = true := by simpa using h
  unfold insideF at h
  simp only [Bool.and_eq_true, decide_eq_true_eq] at h
  exact ⟨h.1, h.2.1⟩
theorem ptr_in' {f : Fn} {x : Int} (h : (!(ptrR f x)) = false) : 0 ≤ x ∧ x < (ln I f.2.2.2.1 : Int) := ptrR_in (by simpa using h)
def acsR (f : Den s_api_Func) (at_ : Den s_api_Pos) : Den I × Den I × Den I := (cond (!(insideF f at_)) ((0 : Int), (0 : Int), (0 : Int)) (cond (decide ((z at_.2.1) < (0 : Int))) ((0 : Int), (0 : Int), (0 : Int)) (cond (decide ((z at_.2.1) ≥ ((ln s_api_Instr (((gd s_api_Block f.2.2.2.2.1 (((z at_.1)).toNat)).2).1)) : Int))) ((0 : Int), (0 : Int), (0 : Int)) (cond ((z ((gd s_api_Instr (((gd s_api_Block f.2.2.2.2.1 (((z at_.1)).toNat)).2).1) (((z at_.2.1)).toNat)).1)) != (28 : Int)) (cond ((z ((gd s_api_Instr (((gd s_api_Block f.2.2.2.2.1 (((z at_.1)).toNat)).2).1) (((z at_.2.1)).toNat)).1)) != (29 : Int)) ((0 : Int), (0 : Int), (0 : Int)) (cond (((ln I (((((gd s_api_Instr (((gd s_api_Block f.2.2.2.2.1 (((z at_.1)).toNat)).2).1) (((z at_.2.1)).toNat)).2).2).2).1)) : Int) == (0 : Int)) ((0 : Int), (0 : Int), (0 : Int)) (cond (!(ptrR f (gd I (((((gd s_api_Instr (((gd s_api_Block f.2.2.2.2.1 (((z at_.1)).toNat)).2).1) (((z at_.2.1)).toNat)).2).2).2).1) (0 : Nat)))) ((0 : Int), (0 : Int), (0 : Int)) (cond ((z ((gd s_api_Instr (((gd s_api_Block f.2.2.2.2.1 (((z at_.1)).toNat)).2).1) (((z at_.2.1)).toNat)).1)) == (29 : Int)) (cond (decide (((ln I (((((gd s_api_Instr (((gd s_api_Block f.2.2.2.2.1 (((z at_.1)).toNat)).2).1) (((z at_.2.1)).toNat)).2).2).2).1)) : Int) < (2 : Int))) ((0 : Int), (0 : Int), (0 : Int)) (cond (decide ((z (gd I (((((gd s_api_Instr (((gd s_api_Block f.2.2.2.2.1 (((z at_.1)).toNat)).2).1) (((z at_.2.1)).toNat)).2).2).2).1) (1 : Nat))) < (0 : Int))) ((0 : Int), (0 : Int), (0 : Int)) (cond (decide ((z (gd I (((((gd s_api_Instr (((gd s_api_Block f.2.2.2.2.1 (((z at_.1)).toNat)).2).1) (((z at_.2.1)).toNat)).2).2).2).1) (1 : Nat))) ≥ ((ln I f.2.2.2.1) : Int))) ((0 : Int), (0 : Int), (0 : Int)) ((z (gd I (((((gd s_api_Instr (((gd s_api_Block f.2.2.2.2.1 (((z at_.1)).toNat)).2).1) (((z at_.2.1)).toNat)).2).2).2).1) (0 : Nat))), (z ((accR (gd I f.2.2.2.1 (((z (gd I (((((gd s_api_Instr (((gd s_api_Block f.2.2.2.2.1 (((z at_.1)).toNat)).2).1) (((z at_.2.1)).toNat)).2).2).2).1) (1 : Nat)))).toNat))).1)), (z ((accR (gd I f.2.2.2.1 (((z (gd I (((((gd s_api_Instr (((gd s_api_Block f.2.2.2.2.1 (((z at_.1)).toNat)).2).1) (((z at_.2.1)).toNat)).2).2).2).1) (1 : Nat)))).toNat))).2)))))) ((z (gd I (((((gd s_api_Instr (((gd s_api_Block f.2.2.2.2.1 (((z at_.1)).toNat)).2).1) (((z at_.2.1)).toNat)).2).2).2).1) (0 : Nat))), (z ((accR ((gd s_api_Instr (((gd s_api_Block f.2.2.2.2.1 (((z at_.1)).toNat)).2).1) (((z at_.2.1)).toNat)).2).1).1)), (z ((accR ((gd s_api_Instr (((gd s_api_Block f.2.2.2.2.1 (((z at_.1)).toNat)).2).1) (((z at_.2.1)).toNat)).2).1).2))))))) (cond (((ln I (((((gd s_api_Instr (((gd s_api_Block f.2.2.2.2.1 (((z at_.1)).toNat)).2).1) (((z at_.2.1)).toNat)).2).2).2).1)) : Int) == (0 : Int)) ((0 : Int), (0 : Int), (0 : Int)) (cond (!(ptrR f (gd I (((((gd s_api_Instr (((gd s_api_Block f.2.2.2.2.1 (((z at_.1)).toNat)).2).1) (((z at_.2.1)).toNat)).2).2).2).1) (0 : Nat)))) ((0 : Int), (0 : Int), (0 : Int)) (cond ((z ((gd s_api_Instr (((gd s_api_Block f.2.2.2.2.1 (((z at_.1)).toNat)).2).1) (((z at_.2.1)).toNat)).1)) == (29 : Int)) (cond (decide (((ln I (((((gd s_api_Instr (((gd s_api_Block f.2.2.2.2.1 (((z at_.1)).toNat)).2).1) (((z at_.2.1)).toNat)).2).2).2).1)) : Int) < (2 : Int))) ((0 : Int), (0 : Int), (0 : Int)) (cond (decide ((z (gd I (((((gd s_api_Instr (((gd s_api_Block f.2.2.2.2.1 (((z at_.1)).toNat)).2).1) (((z at_.2.1)).toNat)).2).2).2).1) (1 : Nat))) < (0 : Int))) ((0 : Int), (0 : Int), (0 : Int)) (cond (decide ((z (gd I (((((gd s_api_Instr (((gd s_api_Block f.2.2.2.2.1 (((z at_.1)).toNat)).2).1) (((z at_.2.1)).toNat)).2).2).2).1) (1 : Nat))) ≥ ((ln I f.2.2.2.1) : Int))) ((0 : Int), (0 : Int), (0 : Int)) ((z (gd I (((((gd s_api_Instr (((gd s_api_Block f.2.2.2.2.1 (((z at_.1)).toNat)).2).1) (((z at_.2.1)).toNat)).2).2).2).1) (0 : Nat))), (z ((accR (gd I f.2.2.2.1 (((z (gd I (((((gd s_api_Instr (((gd s_api_Block f.2.2.2.2.1 (((z at_.1)).toNat)).2).1) (((z at_.2.1)).toNat)).2).2).2).1) (1 : Nat)))).toNat))).1)), (z ((accR (gd I f.2.2.2.1 (((z (gd I (((((gd s_api_Instr (((gd s_api_Block f.2.2.2.2.1 (((z at_.1)).toNat)).2).1) (((z at_.2.1)).toNat)).2).2).2).1) (1 : Nat)))).toNat))).2)))))) ((z (gd I (((((gd s_api_Instr (((gd s_api_Block f.2.2.2.2.1 (((z at_.1)).toNat)).2).1) (((z at_.2.1)).toNat)).2).2).2).1) (0 : Nat))), (z ((accR ((gd s_api_Instr (((gd s_api_Block f.2.2.2.2.1 (((z at_.1)).toNat)).2).1) (((z at_.2.1)).toNat)).2).1).1)), (z ((accR ((gd s_api_Instr (((gd s_api_Block f.2.2.2.2.1 (((z at_.1)).toNat)).2).1) (((z at_.2.1)).toNat)).2).1).2))))))))))

def k_r27_accessed : Con := conT3 [.d s_api_Func, .d s_api_Pos] I I I (fun x => True) fun x => acsR x.1 x.2.1
theorem m_r27_accessed (f : Den s_api_Func) (at_ : Den s_api_Pos) (h_f : okD s_api_Func f) (h_at_ : okD s_api_Pos at_) (hp : True) : Runs E_A22 (start E_A22 f_r27_accessed [(.tv s_api_Func f), (.tv s_api_Pos at_)]) (fun r_ h_ => r_ = (.tup [(vi (z ((acsR f at_).1))), (vi (z (((acsR f at_).2).1))), (vi (z (((acsR f at_).2).2)))]) ∧ h_ = []) := .tree E_A22_ok (r27_accessed_t f at_) (by
  refine ⟨trivial, fun _ => ?_⟩
  refine wp_cond (fun h1 => ?_) (fun h1 => ?_)
  · refine fun _ => ?_
    exact ⟨by simp only [acsR, h1, cond_true, cond_false], rfl⟩
  · refine wp_cond (fun h2 => ?_) (fun h2 => ?_)
    · have h2_ := of_decide_eq_true h2
      refine fun _ => ?_
      exact ⟨by simp only [acsR, h1, h2, cond_true, cond_false], rfl⟩
    · have h2_ := of_decide_eq_false h2
      refine ⟨by first | omega | exact (ins_in (by assumption)) | (have g_ := ins_in (by assumption); omega) | exact (ptr_in' (by assumption)) | (have g_ := ptr_in' (by assumption); omega) | assumption | exact hp.1 | exact hp.2 | exact hp.2.1 | (simp_all; done) | (simp_all; omega), fun _ => ?_⟩
      refine fun _ => ?_
      refine wp_cond (fun h3 => ?_) (fun h3 => ?_)
      · have h3_ := of_decide_eq_true h3
        exact ⟨by simp only [acsR, h1, h2, h3, cond_true, cond_false], rfl⟩
      · have h3_ := of_decide_eq_false h3
        refine ⟨by first | omega | exact (ins_in (by assumption)) | (have g_ := ins_in (by assumption); omega) | exact (ptr_in' (by assumption)) | (have g_ := ptr_in' (by assumption); omega) | assumption | exact hp.1 | exact hp.2 | exact hp.2.1 | (simp_all; done) | (simp_all; omega), fun _ => ?_⟩
        refine ⟨by first | omega | exact (ins_in (by assumption)) | (have g_ := ins_in (by assumption); omega) | exact (ptr_in' (by assumption)) | (have g_ := ptr_in' (by assumption); omega) | assumption | exact hp.1 | exact hp.2 | exact hp.2.1 | (simp_all; done) | (simp_all; omega), fun _ => ?_⟩
        refine wp_cond (fun h4 => ?_) (fun h4 => ?_)
        · have h4_ := bne_t h4
          refine wp_cond (fun h5 => ?_) (fun h5 => ?_)
          · have h5_ := bne_t h5
            exact ⟨by simp only [acsR, h1, h2, h3, h4, h5, cond_true, cond_false], rfl⟩
          · have h5_ := bne_f h5
            refine wp_cond (fun h6 => ?_) (fun h6 => ?_)
            · have h6_ := beq_t h6
              exact ⟨by simp only [acsR, h1, h2, h3, h4, h5, h6, cond_true, cond_false], rfl⟩
            · have h6_ := beq_f h6
              refine ⟨by first | omega | exact (ins_in (by assumption)) | (have g_ := ins_in (by assumption); omega) | exact (ptr_in' (by assumption)) | (have g_ := ptr_in' (by assumption); omega) | assumption | exact hp.1 | exact hp.2 | exact hp.2.1 | (simp_all; done) | (simp_all; omega), fun _ => ?_⟩
              refine ⟨trivial, fun _ => ?_⟩
              refine fun _ => ?_
              refine wp_cond (fun h7 => ?_) (fun h7 => ?_)
              · exact ⟨by simp only [acsR, h1, h2, h3, h4, h5, h6, h7, cond_true, cond_false], rfl⟩
              · refine wp_cond (fun h8 => ?_) (fun h8 => ?_)
                · have h8_ := beq_t h8
                  refine wp_cond (fun h9 => ?_) (fun h9 => ?_)
                  · have h9_ := of_decide_eq_true h9
                    exact ⟨by simp only [acsR, h1, h2, h3, h4, h5, h6, h7, h8, h9, cond_true, cond_false], rfl⟩
                  · have h9_ := of_decide_eq_false h9
                    refine ⟨by first | omega | exact (ins_in (by assumption)) | (have g_ := ins_in (by assumption); omega) | exact (ptr_in' (by assumption)) | (have g_ := ptr_in' (by assumption); omega) | assumption | exact hp.1 | exact hp.2 | exact hp.2.1 | (simp_all; done) | (simp_all; omega), fun _ => ?_⟩
                    refine wp_cond (fun h10 => ?_) (fun h10 => ?_)
                    · have h10_ := of_decide_eq_true h10
                      exact ⟨by simp only [acsR, h1, h2, h3, h4, h5, h6, h7, h8, h9, h10, cond_true, cond_false], rfl⟩
                    · have h10_ := of_decide_eq_false h10
                      refine ⟨by first | omega | exact (ins_in (by assumption)) | (have g_ := ins_in (by assumption); omega) | exact (ptr_in' (by assumption)) | (have g_ := ptr_in' (by assumption); omega) | assumption | exact hp.1 | exact hp.2 | exact hp.2.1 | (simp_all; done) | (simp_all; omega), fun _ => ?_⟩
                      refine wp_cond (fun h11 => ?_) (fun h11 => ?_)
                      · have h11_ := of_decide_eq_true h11
                        exact ⟨by simp only [acsR, h1, h2, h3, h4, h5, h6, h7, h8, h9, h10, h11, cond_true, cond_false], rfl⟩
                      · have h11_ := of_decide_eq_false h11
                        refine ⟨by first | omega | exact (ins_in (by assumption)) | (have g_ := ins_in (by assumption); omega) | exact (ptr_in' (by assumption)) | (have g_ := ptr_in' (by assumption); omega) | assumption | exact hp.1 | exact hp.2 | exact hp.2.1 | (simp_all; done) | (simp_all; omega), fun _ => ?_⟩
                        refine ⟨by first | omega | exact (ins_in (by assumption)) | (have g_ := ins_in (by assumption); omega) | exact (ptr_in' (by assumption)) | (have g_ := ptr_in' (by assumption); omega) | assumption | exact hp.1 | exact hp.2 | exact hp.2.1 | (simp_all; done) | (simp_all; omega), fun _ => ?_⟩
                        refine ⟨trivial, fun _ => ?_⟩
                        refine fun _ => ?_
                        refine ⟨by first | omega | exact (ins_in (by assumption)) | (have g_ := ins_in (by assumption); omega) | exact (ptr_in' (by assumption)) | (have g_ := ptr_in' (by assumption); omega) | assumption | exact hp.1 | exact hp.2 | exact hp.2.1 | (simp_all; done) | (simp_all; omega), fun _ => ?_⟩
                        exact ⟨by simp only [acsR, h1, h2, h3, h4, h5, h6, h7, h8, h9, h10, h11, cond_true, cond_false], rfl⟩
                · have h8_ := beq_f h8
                  refine ⟨trivial, fun _ => ?_⟩
                  refine fun _ => ?_
                  refine ⟨by first | omega | exact (ins_in (by assumption)) | (have g_ := ins_in (by assumption); omega) | exact (ptr_in' (by assumption)) | (have g_ := ptr_in' (by assumption); omega) | assumption | exact hp.1 | exact hp.2 | exact hp.2.1 | (simp_all; done) | (simp_all; omega), fun _ => ?_⟩
                  exact ⟨by simp only [acsR, h1, h2, h3, h4, h5, h6, h7, h8, cond_true, cond_false], rfl⟩
        · have h4_ := bne_f h4
          refine wp_cond (fun h12 => ?_) (fun h12 => ?_)
          · have h12_ := beq_t h12
            exact ⟨by simp only [acsR, h1, h2, h3, h4, h12, cond_true, cond_false], rfl⟩
          · have h12_ := beq_f h12
            refine ⟨by first | omega | exact (ins_in (by assumption)) | (have g_ := ins_in (by assumption); omega) | exact (ptr_in' (by assumption)) | (have g_ := ptr_in' (by assumption); omega) | assumption | exact hp.1 | exact hp.2 | exact hp.2.1 | (simp_all; done) | (simp_all; omega), fun _ => ?_⟩
            refine ⟨trivial, fun _ => ?_⟩
            refine fun _ => ?_
            refine wp_cond (fun h13 => ?_) (fun h13 => ?_)
            · exact ⟨by simp only [acsR, h1, h2, h3, h4, h12, h13, cond_true, cond_false], rfl⟩
            · refine wp_cond (fun h14 => ?_) (fun h14 => ?_)
              · have h14_ := beq_t h14
                refine wp_cond (fun h15 => ?_) (fun h15 => ?_)
                · have h15_ := of_decide_eq_true h15
                  exact ⟨by simp only [acsR, h1, h2, h3, h4, h12, h13, h14, h15, cond_true, cond_false], rfl⟩
                · have h15_ := of_decide_eq_false h15
                  refine ⟨by first | omega | exact (ins_in (by assumption)) | (have g_ := ins_in (by assumption); omega) | exact (ptr_in' (by assumption)) | (have g_ := ptr_in' (by assumption); omega) | assumption | exact hp.1 | exact hp.2 | exact hp.2.1 | (simp_all; done) | (simp_all; omega), fun _ => ?_⟩
                  refine wp_cond (fun h16 => ?_) (fun h16 => ?_)
                  · have h16_ := of_decide_eq_true h16
                    exact ⟨by simp only [acsR, h1, h2, h3, h4, h12, h13, h14, h15, h16, cond_true, cond_false], rfl⟩
                  · have h16_ := of_decide_eq_false h16
                    refine ⟨by first | omega | exact (ins_in (by assumption)) | (have g_ := ins_in (by assumption); omega) | exact (ptr_in' (by assumption)) | (have g_ := ptr_in' (by assumption); omega) | assumption | exact hp.1 | exact hp.2 | exact hp.2.1 | (simp_all; done) | (simp_all; omega), fun _ => ?_⟩
                    refine wp_cond (fun h17 => ?_) (fun h17 => ?_)
                    · have h17_ := of_decide_eq_true h17
                      exact ⟨by simp only [acsR, h1, h2, h3, h4, h12, h13, h14, h15, h16, h17, cond_true, cond_false], rfl⟩
                    · have h17_ := of_decide_eq_false h17
                      refine ⟨by first | omega | exact (ins_in (by assumption)) | (have g_ := ins_in (by assumption); omega) | exact (ptr_in' (by assumption)) | (have g_ := ptr_in' (by assumption); omega) | assumption | exact hp.1 | exact hp.2 | exact hp.2.1 | (simp_all; done) | (simp_all; omega), fun _ => ?_⟩
                      refine ⟨by first | omega | exact (ins_in (by assumption)) | (have g_ := ins_in (by assumption); omega) | exact (ptr_in' (by assumption)) | (have g_ := ptr_in' (by assumption); omega) | assumption | exact hp.1 | exact hp.2 | exact hp.2.1 | (simp_all; done) | (simp_all; omega), fun _ => ?_⟩
                      refine ⟨trivial, fun _ => ?_⟩
                      refine fun _ => ?_
                      refine ⟨by first | omega | exact (ins_in (by assumption)) | (have g_ := ins_in (by assumption); omega) | exact (ptr_in' (by assumption)) | (have g_ := ptr_in' (by assumption); omega) | assumption | exact hp.1 | exact hp.2 | exact hp.2.1 | (simp_all; done) | (simp_all; omega), fun _ => ?_⟩
                      exact ⟨by simp only [acsR, h1, h2, h3, h4, h12, h13, h14, h15, h16, h17, cond_true, cond_false], rfl⟩
              · have h14_ := beq_f h14
                refine ⟨trivial, fun _ => ?_⟩
                refine fun _ => ?_
                refine ⟨by first | omega | exact (ins_in (by assumption)) | (have g_ := ins_in (by assumption); omega) | exact (ptr_in' (by assumption)) | (have g_ := ptr_in' (by assumption); omega) | assumption | exact hp.1 | exact hp.2 | exact hp.2.1 | (simp_all; done) | (simp_all; omega), fun _ => ?_⟩
                exact ⟨by simp only [acsR, h1, h2, h3, h4, h12, h13, h14, cond_true, cond_false], rfl⟩)
theorem c_r27_accessed : SpecOK E_A22 f_r27_accessed k_r27_accessed.spec := spec_of fun x hx hp => ⟨rfl, m_r27_accessed x.1 x.2.1 hx.1 hx.2.1 hp⟩
def L_A22 : List (FuncId × FSpec) := [(f_r27_accessed, k_r27_accessed.spec)] ++ L_A21
theorem L_A22_ok : ∀ x ∈ L_A22, SpecOK (ctx []) x.1 x.2 := by
  unfold L_A22
  simp only [List.cons_append, List.nil_append, List.forall_mem_cons]
  exact ⟨c_r27_accessed, L_A21_ok⟩
end Burn.M27N
namespace Burn.M27N
open Go Go.BE Go.Proofs
set_option maxRecDepth 100000
set_option linter.unusedVariables false
set_option linter.unusedSimpArgs false
open Burn.Cfg Burn.Intn Burn.Ref
def L_A23 : List (FuncId × FSpec) := [] ++ L_A22
theorem L_A23_ok : ∀ x ∈ L_A23, SpecOK (ctx []) x.1 x.2 := L_A22_ok
end Burn.M27N
namespace Burn.M27N
open Go Go.BE Go.Proofs
set_option maxRecDepth 100000
set_option linter.unusedVariables false
set_option linter.unusedSimpArgs false
open Burn.Cfg Burn.Intn Burn.Ref
noncomputable abbrev E_A24 : Ctx := ctx L_A23
theorem E_A24_ok : EOK E_A24 := ctx_ok L_A23_ok
def cuts_A24 : CutL := []
def rets_A24 : FuncId → List (Option Fx)
  | _ => []
def H_A24 : Hints := { cut := cutOf cuts_A24, ret := rets_A24 }
theorem query2_t (f : Den s_api_Func) (a : Den s_api_Pos) (b : Den s_api_Pos) : run E_A24 H_A24 f_alias_Query 3000 (start E_A24 f_alias_Query [(.tv s_api_Func f), (.tv s_api_Pos a), (.tv s_api_Pos b)]) = (.chk (True) (.know (okAVs [(vi (z ((acsP f a).1))), (vi (z (((acsP f a).2).1))), (vb (bOf (((acsP f a).2).2)))]) (.chk (True) (.know (okAVs [(vi (z ((acsP f b).1))), (vi (z (((acsP f b).2).1))), (vb (bOf (((acsP f b).2).2)))]) (cond (!(bOf (((acsP f a).2).2))) (rt (vi (0 : Int)) []) (cond (!(bOf (((acsP f b).2).2))) (rt (vi (0 : Int)) []) (.chk (True) (.know (okAVs [(vi (z ((accP ((acsP f a).2).1).1))), (vi (z ((accP ((acsP f a).2).1).2)))]) (.chk (True) (.know (okAVs [(vi (z ((accP ((acsP f b).2).1).1))), (vi (z ((accP ((acsP f b).2).1).2)))]) (cond ((z ((accP ((acsP f a).2).1).1)) != (z ((accP ((acsP f b).2).1).1))) (rt (vi (1 : Int)) []) (.chk (smallF f) (.know (okD (.sl 32 s_alias_Base) (basesF f)) (.chk (0 ≤ (z ((acsP f a).1)) ∧ (z ((acsP f a).1)) < (ln s_alias_Base (basesF f))) (.chk (0 ≤ (z ((acsP f b).1)) ∧ (z ((acsP f b).1)) < (ln s_alias_Base (basesF f))) (.chk (smallF f) (.know (okD (.int .i64) (relF f (gd s_alias_Base (basesF f) (((z ((acsP f a).1))).toNat)) (gd s_alias_Base (basesF f) (((z ((acsP f b).1))).toNat)) (accP ((acsP f a).2).1).2 (accP ((acsP f b).2).1).2)) (rt (vi (relF f (gd s_alias_Base (basesF f) (((z ((acsP f a).1))).toNat)) (gd s_alias_Base (basesF f) (((z ((acsP f b).1))).toNat)) (accP ((acsP f a).2).1).2 (accP ((acsP f b).2).1).2)) [])))))))))))))))))) := by kernel_rfl
theorem acc_eq (t : Int) : accP t = accR t := rfl
theorem acc_nn (t : Int) : 0 ≤ z (accR t).2 := by
  unfold accR
  simp only [Bool.cond_eq_ite]
  repeat' split
  all_goals first | decide | exact Int.zero_le_ofNat 1
theorem arg_no {x : Den s_api_Instr} {k : Nat} (h : ln I x.2.2.2.1 ≤ k) : argP x (k : Int) = -1 := by
  unfold argP
  rw [decide_eq_true (show (k : Int) ≥ (ln I x.2.2.2.1 : Int) by omega)]; rfl
theorem arg_at {x : Den s_api_Instr} {k : Nat} (h : k < ln I x.2.2.2.1) : argP x (k : Int) = z (gd I x.2.2.2.1 k) := by
  unfold argP
  rw [decide_eq_false (show ¬ (k : Int) ≥ (ln I x.2.2.2.1 : Int) by omega)]; rfl
abbrev AP := Den I × Den I × Den .bool
def accV (f : Fn) (p t : Int) : AP := cond (decide (z (accP t).2 > 0)) (cond (decide (p ≥ 0)) (cond (decide (p < (ln I f.2.2.2.1 : Int))) (p, t, z (gd I f.2.2.2.1 p.toNat) == 5) (p, t, false)) (p, t, false)) (p, t, false)
def agree (f : Fn) (u : AP) (v : Den I × Den I × Den I) : Prop := (u.2.2 = true ∧ v = (u.1, accR u.2.1) ∧ z (accR u.2.1).2 > 0 ∧ 0 ≤ z u.1 ∧ z u.1 < (ln I f.2.2.2.1 : Int)) ∨ (u.2.2 = false ∧ z v.2.2 = 0)
theorem accV_no {f : Fn} {p t : Int} (h : ptrR f p = false) (v : Den I × Den I × Den I) (hv : z v.2.2 = 0) : agree f (accV f p t) v := by
  refine .inr ⟨?_, hv⟩
  unfold accV
  unfold ptrR at h
  revert h
  cases decide (z (accP t).2 > 0) <;> cases decide (p ≥ 0) <;> cases decide (p < (ln I f.2.2.2.1 : Int)) <;> intro h <;> first | rfl | exact h
theorem accV_yes {f : Fn} {p t : Int} (h : ptrR f p = true) : agree f (accV f p t) (p, accR t) := by
  have hr := ptrR_in h
  have e : accV f p t = cond (decide (z (accP t).2 > 0)) (p, t, true) (p, t, false) := by
    unfold accV
    unfold ptrR at h
    revert h
    rw [decide_eq_true (show p ≥ 0 from hr.1), decide_eq_true hr.2]
    intro h
    rw [show (z (gd I f.2.2.2.1 p.toNat) == 5) = true from h]
    rfl
  rw [e, acc_eq]
  by_cases hn : z (accR t).2 > 0
  · rw [decide_eq_true hn]
    exact .inl ⟨rfl, rfl, hn, hr⟩
  · rw [decide_eq_false hn]
    have := acc_nn t
    exact .inr ⟨rfl, by show z (accR t).2 = 0; omega⟩
theorem agree_0 {f : Fn} : agree f ((0 : Int), (0 : Int), false) ((0 : Int), (0 : Int), (0 : Int)) := .inr ⟨rfl, rfl⟩
theorem ptr_neg {f : Fn} : ptrR f (-1) = false := rfl
theorem acs_rel (f : Fn) (p : Den s_api_Pos) : agree f (acsP f p) (acsR f p) := by
  unfold acsP acsR
  by_cases h1 : z p.1 < 0
  · rw [decide_eq_true h1, show insideF f p = false by unfold insideF; rw [decide_eq_false (show ¬ z p.1 ≥ 0 by omega)]; rfl]
    exact agree_0
  by_cases h2 : z p.1 ≥ (ln s_api_Block f.2.2.2.2.1 : Int)
  · rw [decide_eq_false h1, decide_eq_true h2, show insideF f p = false by unfold insideF; rw [decide_eq_false (show ¬ z p.1 < (ln s_api_Block (blocks f) : Int) by show ¬ z p.1 < (ln s_api_Block f.2.2.2.2.1 : Int); omega), Bool.false_and, Bool.and_false]]
    exact agree_0
  rw [decide_eq_false h1, decide_eq_false h2, cond_false, cond_false]
  by_cases h3 : z p.2.1 < 0
  · rw [decide_eq_true h3]
    cases insideF f p <;> exact agree_0
  by_cases h4 : z p.2.1 ≥ (ln s_api_Instr (gd s_api_Block f.2.2.2.2.1 (z p.1).toNat).2.1 : Int)
  · rw [decide_eq_false h3, decide_eq_true h4]
    cases insideF f p <;> exact agree_0
  have hi : insideF f p = true := by
    unfold insideF
    rw [decide_eq_true (show z p.1 ≥ 0 by omega), decide_eq_true (show z p.1 < (ln s_api_Block (blocks f) : Int) by show z p.1 < (ln s_api_Block f.2.2.2.2.1 : Int); omega), decide_eq_true (show z p.2.1 ≥ -1 by omega), decide_eq_true (show z p.2.1 ≤ (ln s_api_Instr (bIns (blk f (z p.1))) : Int) by show z p.2.1 ≤ (ln s_api_Instr (gd s_api_Block f.2.2.2.2.1 (z p.1).toNat).2.1 : Int); omega)]
    rfl
  rw [hi, decide_eq_false h3, decide_eq_false h4]
  generalize gd s_api_Instr (gd s_api_Block f.2.2.2.2.1 (z p.1).toNat).2.1 (z p.2.1).toNat = x
  simp only [Bool.not_true, cond_false]
  by_cases e28 : z x.1 = 28
  · rw [show (z x.1 == 28) = true by simp [e28], show (z x.1 != 28) = false by simp [e28], show (z x.1 == 29) = false by rw [e28]; rfl]
    simp only [cond_true, cond_false]
    by_cases l0 : (ln I x.2.2.2.1 : Int) = 0
    · rw [show ((ln I x.2.2.2.1 : Int) == 0) = true by simp [l0], show argP x 0 = -1 from arg_no (k := 0) (by omega)]
      exact accV_no ptr_neg _ rfl
    · rw [show ((ln I x.2.2.2.1 : Int) == 0) = false from beq_eq_false_iff_ne.2 l0, show argP x 0 = z (gd I x.2.2.2.1 0) from arg_at (k := 0) (by omega)]
      cases hp : ptrR f (gd I x.2.2.2.1 0) with
      | false => exact accV_no hp _ rfl
      | true => exact accV_yes hp
  · rw [show (z x.1 == 28) = false by simp [e28], show (z x.1 != 28) = true by simp [e28]]
    simp only [cond_true, cond_false]
    by_cases e29 : z x.1 = 29
    · rw [show (z x.1 == 29) = true by simp [e29], show (z x.1 != 29) = false by simp [e29]]
      simp only [cond_true, cond_false]
      by_cases l1 : (ln I x.2.2.2.1 : Int) < 2
      · rw [decide_eq_true l1, show argP x 1 = -1 from arg_no (k := 1) (by omega)]
        cases ((ln I x.2.2.2.1 : Int) == 0) <;> cases ptrR f (gd I x.2.2.2.1 0) <;> exact agree_0
      · rw [decide_eq_false l1, show ((ln I x.2.2.2.1 : Int) == 0) = false by rw [beq_eq_false_iff_ne]; omega, show argP x 0 = z (gd I x.2.2.2.1 0) from arg_at (k := 0) (by omega), show argP x 1 = z (gd I x.2.2.2.1 1) from arg_at (k := 1) (by omega)]
        simp only [cond_true, cond_false]
        by_cases q1 : z (gd I x.2.2.2.1 1) < 0
        · rw [decide_eq_true q1]
          cases ptrR f (gd I x.2.2.2.1 0) <;> exact agree_0
        by_cases q2 : z (gd I x.2.2.2.1 1) ≥ (ln I f.2.2.2.1 : Int)
        · rw [decide_eq_false q1, decide_eq_true q2]
          cases ptrR f (gd I x.2.2.2.1 0) <;> exact agree_0
        rw [decide_eq_false q1, decide_eq_false q2]
        cases hp : ptrR f (gd I x.2.2.2.1 0) with
        | false => exact accV_no hp _ rfl
        | true => exact accV_yes hp
    · rw [show (z x.1 == 29) = false by simp [e29], show (z x.1 != 29) = true by simp [e29]]
      exact agree_0
theorem acs_in {f : Fn} {p : Den s_api_Pos} (h : (!(bOf (acsP f p).2.2)) = false) : 0 ≤ z (acsP f p).1 ∧ z (acsP f p).1 < (ln s_alias_Base (basesF f) : Int) := by
  rw [ln_bases]
  rcases acs_rel f p with h2 | h2
  · exact ⟨h2.2.2.2.1, h2.2.2.2.2⟩
  · rw [show bOf (acsP f p).2.2 = false from h2.1] at h; cases h
def qryF (f : Den s_api_Func) (a : Den s_api_Pos) (b : Den s_api_Pos) : Int := (cond (!(bOf (((acsP f a).2).2))) (0 : Int) (cond (!(bOf (((acsP f b).2).2))) (0 : Int) (cond ((z ((accP ((acsP f a).2).1).1)) != (z ((accP ((acsP f b).2).1).1))) (1 : Int) (relF f (gd s_alias_Base (basesF f) (((z ((acsP f a).1))).toNat)) (gd s_alias_Base (basesF f) (((z ((acsP f b).1))).toNat)) (accP ((acsP f a).2).1).2 (accP ((acsP f b).2).1).2))))

def k_query2 : Con := con [.d s_api_Func, .d s_api_Pos, .d s_api_Pos] I (fun x => smallF x.1) fun x => qryF x.1 x.2.1 x.2.2.1
theorem m_query2 (f : Den s_api_Func) (a : Den s_api_Pos) (b : Den s_api_Pos) (h_f : okD s_api_Func f) (h_a : okD s_api_Pos a) (h_b : okD s_api_Pos b) (hp : smallF f) : Runs E_A24 (start E_A24 f_alias_Query [(.tv s_api_Func f), (.tv s_api_Pos a), (.tv s_api_Pos b)]) (fun r_ h_ => r_ = (vi (qryF f a b)) ∧ h_ = []) := .tree E_A24_ok (query2_t f a b) (by
  have hp_ := hp
  try simp only [z] at hp_
  refine ⟨trivial, fun _ => ?_⟩
  refine fun _ => ?_
  refine ⟨trivial, fun _ => ?_⟩
  refine fun _ => ?_
  refine wp_cond (fun h1 => ?_) (fun h1 => ?_)
  · exact ⟨by simp only [qryF, h1, cond_true, cond_false], rfl⟩
  · refine wp_cond (fun h2 => ?_) (fun h2 => ?_)
    · exact ⟨by simp only [qryF, h1, h2, cond_true, cond_false], rfl⟩
    · refine ⟨trivial, fun _ => ?_⟩
      refine fun _ => ?_
      refine ⟨trivial, fun _ => ?_⟩
      refine fun _ => ?_
      refine wp_cond (fun h3 => ?_) (fun h3 => ?_)
      · have h3_ := bne_t h3
        exact ⟨by simp only [qryF, h1, h2, h3, cond_true, cond_false], rfl⟩
      · have h3_ := bne_f h3
        refine ⟨by first | omega | exact (hp) | (have g_ := hp; omega) | exact (acs_in (by assumption)) | (have g_ := acs_in (by assumption); omega) | assumption | exact hp.1 | exact hp.2 | exact hp.2.1 | (simp_all; done) | (simp_all; omega), fun _ => ?_⟩
        refine fun _ => ?_
        refine ⟨by first | omega | exact (hp) | (have g_ := hp; omega) | exact (acs_in (by assumption)) | (have g_ := acs_in (by assumption); omega) | assumption | exact hp.1 | exact hp.2 | exact hp.2.1 | (simp_all; done) | (simp_all; omega), fun _ => ?_⟩
        refine ⟨by first | omega | exact (hp) | (have g_ := hp; omega) | exact (acs_in (by assumption)) | (have g_ := acs_in (by assumption); omega) | assumption | exact hp.1 | exact hp.2 | exact hp.2.1 | (simp_all; done) | (simp_all; omega), fun _ => ?_⟩
        refine ⟨by first | omega | exact (hp) | (have g_ := hp; omega) | exact (acs_in (by assumption)) | (have g_ := acs_in (by assumption); omega) | assumption | exact hp.1 | exact hp.2 | exact hp.2.1 | (simp_all; done) | (simp_all; omega), fun _ => ?_⟩
        refine fun _ => ?_
        exact ⟨by simp only [qryF, h1, h2, h3, cond_true, cond_false], rfl⟩)
theorem c_query2 : SpecOK E_A24 f_alias_Query k_query2.spec := spec_of fun x hx hp => ⟨rfl, m_query2 x.1 x.2.1 x.2.2.1 hx.1 hx.2.1 hx.2.2.1 hp⟩
def L_A24 : List (FuncId × FSpec) := [(f_alias_Query, k_query2.spec)] ++ L_A23
theorem L_A24_ok : ∀ x ∈ L_A24, SpecOK (ctx []) x.1 x.2 := by
  unfold L_A24
  simp only [List.cons_append, List.nil_append, List.forall_mem_cons]
  exact ⟨c_query2, L_A23_ok⟩
end Burn.M27N

/- What the functions that the law reaches compute, one contract each. No conditions beyond those written. -/
import Derived.Test.YtdbjmhlgbdeihaaDoorWalkB
namespace Burn.M27Q
open Go Go.BE Go.Proofs
set_option maxRecDepth 100000
set_option linter.unusedVariables false
set_option linter.unusedSimpArgs false
open Burn.Cfg Burn.Intn Burn.Ref
noncomputable abbrev E_A16 : Ctx := ctx L_A15
theorem E_A16_ok : EOK E_A16 := ctx_ok L_A15_ok
def cuts_A16 : CutL := [([], 47, 0, [2, 3, 4, 8, 9, 34, 35, 36], [], [])]
def rets_A16 : FuncId → List (Option Fx)
  | 47 => [some (.dat s_alias_Base)]
  | _ => []
def H_A16 : Hints := { cut := cutOf cuts_A16, ret := rets_A16 }
theorem r27_leaves_t (f : Den s_api_Func) (bases : List (Den s_alias_Base)) (in_ : Den s_api_Instr) (r : Int) : run E_A16 H_A16 f_r27_leaves 3000 (start E_A16 f_r27_leaves [(.tv s_api_Func f), (.tv (.sl 32 s_alias_Base) bases), (.tv s_api_Instr in_), (vi r)]) = (cond ((z in_.1) == (29 : Int)) (cond (decide (((ln I in_.2.2.2.1) : Int) > (1 : Int))) (.chk (0 ≤ (1 : Int) ∧ (1 : Int) < (ln I in_.2.2.2.1)) (.chk (ln s_alias_Base bases = ln I f.2.2.2.1) (.know True (rt (vb (pntF f bases (gd I in_.2.2.2.1 (1 : Nat)) r)) [])))) (rt (vb false) [])) (cond ((z in_.1) == (30 : Int)) (.chk (ln s_alias_Base bases = ln I f.2.2.2.1) (.know True (rt (vb (anyF f bases in_.2.2.2.1 r)) []))) (cond ((z in_.1) == (31 : Int)) (.chk (ln s_alias_Base bases = ln I f.2.2.2.1) (.know True (rt (vb (anyF f bases in_.2.2.2.1 r)) []))) (cond ((z in_.1) == (21 : Int)) (cond (decide (((ln I in_.2.2.2.1) : Int) > (1 : Int))) (.chk (0 ≤ (1 : Int) ∧ (1 : Int) ≤ (if (3 : Int) < ((ln I in_.2.2.2.1) : Int) then (3 : Int) else ((ln I in_.2.2.2.1) : Int)) ∧ (if (3 : Int) < ((ln I in_.2.2.2.1) : Int) then (3 : Int) else ((ln I in_.2.2.2.1) : Int)) ≤ ((ln I in_.2.2.2.1) : Int)) (.chk (ln s_alias_Base bases = ln I f.2.2.2.1) (cond (anyF f bases (wn I in_.2.2.2.1 (1 : Nat) (((if (3 : Int) < ((ln I in_.2.2.2.1) : Int) then (3 : Int) else ((ln I in_.2.2.2.1) : Int))).toNat - (1 : Nat))) r) (.chk (ln s_alias_Base bases = ln I f.2.2.2.1) (.know True (.know True (rt (vb (!(pntF f bases in_.2.2.1 r))) [])))) (.know True (rt (vb false) []))))) (rt (vb false) [])) (rt (vb false) []))))) := by kernel_rfl
noncomputable def r27_next_L0 (old : List (Den s_alias_Base)) (r : Int) (f : Den s_api_Func) (t34 : List (Den I)) (t35 : Int) (t36 : Int) (t8 : Den s_alias_Base) (at_ : Den s_api_Pos) : Cfg := hcfg E_A16 f_r27_next 0 [(2, (.tv (.sl 32 s_alias_Base) old)), (3, (vi r)), (4, (.rtp s_api_Func f)), (8, (.tref 0 0 [] (0 : Nat) [])), (9, (.tref 1 1 [] (0 : Nat) [])), (34, (.tv (.sl 8 I) t34)), (35, (vi t35)), (36, (vi t36))] [(0, ⟨(.arr 0 32 s_alias_Base ([t8] : List (Den s_alias_Base))), 0, [], false, none⟩), (1, ⟨(.arr 0 16 s_api_Pos ([at_] : List (Den s_api_Pos))), 1, [], false, none⟩)] 2
theorem r27_next_t (f : Den s_api_Func) (defs : List (Den (.sl 16 s_api_Pos))) (old : List (Den s_alias_Base)) (r : Int) : run E_A16 H_A16 f_r27_next 3000 (start E_A16 f_r27_next [(.tv s_api_Func f), (.tv (.sl 24 (.sl 16 s_api_Pos)) defs), (.tv (.sl 32 s_alias_Base) old), (vi r)]) = (.chk (0 ≤ r ∧ r < (ln (.sl 16 s_api_Pos) defs)) (cond (((ln s_api_Pos (gd (.sl 16 s_api_Pos) defs ((r).toNat))) : Int) != (1 : Int)) (.chk (True) (.know (okD s_alias_Base (ownR r)) (.chk ((0 : Nat) < (1 : Nat)) (.chk ((0 : Nat) < (1 : Nat)) (rt (.tv s_alias_Base (ownR r)) []))))) (.chk (0 ≤ r ∧ r < (ln (.sl 16 s_api_Pos) defs)) (.chk (0 ≤ (0 : Int) ∧ (0 : Int) < (ln s_api_Pos (gd (.sl 16 s_api_Pos) defs ((r).toNat)))) (.chk ((0 : Nat) < (1 : Nat)) (.chk ((0 : Nat) < (1 : Nat)) (cond (decide ((z (((gd s_api_Pos (gd (.sl 16 s_api_Pos) defs ((r).toNat)) (0 : Nat)).2).1)) < (0 : Int))) (hd (r27_next_L0 old r f f.2.1 ((ln I f.2.1) : Int) (0 : Int) ((0 : Int), (0 : Int), (0 : Int), false, ()) (gd s_api_Pos (gd (.sl 16 s_api_Pos) defs ((r).toNat)) (0 : Nat)))) (.chk ((0 : Nat) < (1 : Nat)) (.chk (0 ≤ (z ((gd s_api_Pos (gd (.sl 16 s_api_Pos) defs ((r).toNat)) (0 : Nat)).1)) ∧ (z ((gd s_api_Pos (gd (.sl 16 s_api_Pos) defs ((r).toNat)) (0 : Nat)).1)) < (ln s_api_Block f.2.2.2.2.1)) (.chk ((0 : Nat) < (1 : Nat)) (.chk (0 ≤ (z (((gd s_api_Pos (gd (.sl 16 s_api_Pos) defs ((r).toNat)) (0 : Nat)).2).1)) ∧ (z (((gd s_api_Pos (gd (.sl 16 s_api_Pos) defs ((r).toNat)) (0 : Nat)).2).1)) < (ln s_api_Instr (((gd s_api_Block f.2.2.2.2.1 (((z ((gd s_api_Pos (gd (.sl 16 s_api_Pos) defs ((r).toNat)) (0 : Nat)).1))).toNat)).2).1))) (cond ((z ((gd s_api_Instr (((gd s_api_Block f.2.2.2.2.1 (((z ((gd s_api_Pos (gd (.sl 16 s_api_Pos) defs ((r).toNat)) (0 : Nat)).1))).toNat)).2).1) (((z (((gd s_api_Pos (gd (.sl 16 s_api_Pos) defs ((r).toNat)) (0 : Nat)).2).1))).toNat)).1)) == (25 : Int)) (.chk ((0 : Nat) < (1 : Nat)) (.chk ((0 : Nat) < (1 : Nat)) (rt (.tv s_alias_Base ((1 : Int), ((((((gd s_api_Instr (((gd s_api_Block f.2.2.2.2.1 (((z ((gd s_api_Pos (gd (.sl 16 s_api_Pos) defs ((r).toNat)) (0 : Nat)).1))).toNat)).2).1) (((z (((gd s_api_Pos (gd (.sl 16 s_api_Pos) defs ((r).toNat)) (0 : Nat)).2).1))).toNat)).2).2).2).2).2).1, (0 : Int), true, ())) []))) (cond ((z ((gd s_api_Instr (((gd s_api_Block f.2.2.2.2.1 (((z ((gd s_api_Pos (gd (.sl 16 s_api_Pos) defs ((r).toNat)) (0 : Nat)).1))).toNat)).2).1) (((z (((gd s_api_Pos (gd (.sl 16 s_api_Pos) defs ((r).toNat)) (0 : Nat)).2).1))).toNat)).1)) == (26 : Int)) (.chk ((0 : Nat) < (1 : Nat)) (.chk ((0 : Nat) < (1 : Nat)) (rt (.tv s_alias_Base ((2 : Int), r, (0 : Int), true, ())) []))) (cond ((z ((gd s_api_Instr (((gd s_api_Block f.2.2.2.2.1 (((z ((gd s_api_Pos (gd (.sl 16 s_api_Pos) defs ((r).toNat)) (0 : Nat)).1))).toNat)).2).1) (((z (((gd s_api_Pos (gd (.sl 16 s_api_Pos) defs ((r).toNat)) (0 : Nat)).2).1))).toNat)).1)) == (4 : Int)) (.chk (okNow f old ∧ 0 ≤ z (0 : Int)) (.know (okD s_alias_Base (operR f old (gd s_api_Instr (((gd s_api_Block f.2.2.2.2.1 (((z ((gd s_api_Pos (gd (.sl 16 s_api_Pos) defs ((r).toNat)) (0 : Nat)).1))).toNat)).2).1) (((z (((gd s_api_Pos (gd (.sl 16 s_api_Pos) defs ((r).toNat)) (0 : Nat)).2).1))).toNat)) r (0 : Int))) (.chk ((0 : Nat) < (1 : Nat)) (.chk ((0 : Nat) < (1 : Nat)) (rt (.tv s_alias_Base (operR f old (gd s_api_Instr (((gd s_api_Block f.2.2.2.2.1 (((z ((gd s_api_Pos (gd (.sl 16 s_api_Pos) defs ((r).toNat)) (0 : Nat)).1))).toNat)).2).1) (((z (((gd s_api_Pos (gd (.sl 16 s_api_Pos) defs ((r).toNat)) (0 : Nat)).2).1))).toNat)) r (0 : Int))) []))))) (cond ((z ((gd s_api_Instr (((gd s_api_Block f.2.2.2.2.1 (((z ((gd s_api_Pos (gd (.sl 16 s_api_Pos) defs ((r).toNat)) (0 : Nat)).1))).toNat)).2).1) (((z (((gd s_api_Pos (gd (.sl 16 s_api_Pos) defs ((r).toNat)) (0 : Nat)).2).1))).toNat)).1)) == (27 : Int)) (.chk (okNow f old ∧ 0 ≤ z (0 : Int)) (.know (okD s_alias_Base (operR f old (gd s_api_Instr (((gd s_api_Block f.2.2.2.2.1 (((z ((gd s_api_Pos (gd (.sl 16 s_api_Pos) defs ((r).toNat)) (0 : Nat)).1))).toNat)).2).1) (((z (((gd s_api_Pos (gd (.sl 16 s_api_Pos) defs ((r).toNat)) (0 : Nat)).2).1))).toNat)) r (0 : Int))) (.chk ((0 : Nat) < (1 : Nat)) (.chk ((0 : Nat) < (1 : Nat)) (cond ((z ((operR f old (gd s_api_Instr (((gd s_api_Block f.2.2.2.2.1 (((z ((gd s_api_Pos (gd (.sl 16 s_api_Pos) defs ((r).toNat)) (0 : Nat)).1))).toNat)).2).1) (((z (((gd s_api_Pos (gd (.sl 16 s_api_Pos) defs ((r).toNat)) (0 : Nat)).2).1))).toNat)) r (0 : Int)).1)) == (0 : Int)) (.chk ((0 : Nat) < (1 : Nat)) (.chk ((0 : Nat) < (1 : Nat)) (.chk ((0 : Nat) < (1 : Nat)) (rt (.tv s_alias_Base (operR f old (gd s_api_Instr (((gd s_api_Block f.2.2.2.2.1 (((z ((gd s_api_Pos (gd (.sl 16 s_api_Pos) defs ((r).toNat)) (0 : Nat)).1))).toNat)).2).1) (((z (((gd s_api_Pos (gd (.sl 16 s_api_Pos) defs ((r).toNat)) (0 : Nat)).2).1))).toNat)) r (0 : Int))) [])))) (.chk ((0 : Nat) < (1 : Nat)) (cond (bOf (((((operR f old (gd s_api_Instr (((gd s_api_Block f.2.2.2.2.1 (((z ((gd s_api_Pos (gd (.sl 16 s_api_Pos) defs ((r).toNat)) (0 : Nat)).1))).toNat)).2).1) (((z (((gd s_api_Pos (gd (.sl 16 s_api_Pos) defs ((r).toNat)) (0 : Nat)).2).1))).toNat)) r (0 : Int)).2).2).2).1)) (cond (decide (((ln I (((((gd s_api_Instr (((gd s_api_Block f.2.2.2.2.1 (((z ((gd s_api_Pos (gd (.sl 16 s_api_Pos) defs ((r).toNat)) (0 : Nat)).1))).toNat)).2).1) (((z (((gd s_api_Pos (gd (.sl 16 s_api_Pos) defs ((r).toNat)) (0 : Nat)).2).1))).toNat)).2).2).2).1)) : Int) > (1 : Int))) (.chk (0 ≤ (1 : Int) ∧ (1 : Int) < (ln I (((((gd s_api_Instr (((gd s_api_Block f.2.2.2.2.1 (((z ((gd s_api_Pos (gd (.sl 16 s_api_Pos) defs ((r).toNat)) (0 : Nat)).1))).toNat)).2).1) (((z (((gd s_api_Pos (gd (.sl 16 s_api_Pos) defs ((r).toNat)) (0 : Nat)).2).1))).toNat)).2).2).2).1))) (.chk (goodD f defs) (.know (okAVs [(.tv s_api_Instr ((defR f defs (gd I (((((gd s_api_Instr (((gd s_api_Block f.2.2.2.2.1 (((z ((gd s_api_Pos (gd (.sl 16 s_api_Pos) defs ((r).toNat)) (0 : Nat)).1))).toNat)).2).1) (((z (((gd s_api_Pos (gd (.sl 16 s_api_Pos) defs ((r).toNat)) (0 : Nat)).2).1))).toNat)).2).2).2).1) (1 : Nat))).1)), (vb (bOf ((defR f defs (gd I (((((gd s_api_Instr (((gd s_api_Block f.2.2.2.2.1 (((z ((gd s_api_Pos (gd (.sl 16 s_api_Pos) defs ((r).toNat)) (0 : Nat)).1))).toNat)).2).1) (((z (((gd s_api_Pos (gd (.sl 16 s_api_Pos) defs ((r).toNat)) (0 : Nat)).2).1))).toNat)).2).2).2).1) (1 : Nat))).2)))]) (cond (bOf ((defR f defs (gd I (((((gd s_api_Instr (((gd s_api_Block f.2.2.2.2.1 (((z ((gd s_api_Pos (gd (.sl 16 s_api_Pos) defs ((r).toNat)) (0 : Nat)).1))).toNat)).2).1) (((z (((gd s_api_Pos (gd (.sl 16 s_api_Pos) defs ((r).toNat)) (0 : Nat)).2).1))).toNat)).2).2).2).1) (1 : Nat))).2)) (cond ((z (((defR f defs (gd I (((((gd s_api_Instr (((gd s_api_Block f.2.2.2.2.1 (((z ((gd s_api_Pos (gd (.sl 16 s_api_Pos) defs ((r).toNat)) (0 : Nat)).1))).toNat)).2).1) (((z (((gd s_api_Pos (gd (.sl 16 s_api_Pos) defs ((r).toNat)) (0 : Nat)).2).1))).toNat)).2).2).2).1) (1 : Nat))).1).1)) == (1 : Int)) (.chk ((0 : Nat) < (1 : Nat)) (.chk (True) (.know (okAVs [(vi (z ((addR (4 : Int) (((operR f old (gd s_api_Instr (((gd s_api_Block f.2.2.2.2.1 (((z ((gd s_api_Pos (gd (.sl 16 s_api_Pos) defs ((r).toNat)) (0 : Nat)).1))).toNat)).2).1) (((z (((gd s_api_Pos (gd (.sl 16 s_api_Pos) defs ((r).toNat)) (0 : Nat)).2).1))).toNat)) r (0 : Int)).2).2).1 ((((((defR f defs (gd I (((((gd s_api_Instr (((gd s_api_Block f.2.2.2.2.1 (((z ((gd s_api_Pos (gd (.sl 16 s_api_Pos) defs ((r).toNat)) (0 : Nat)).1))).toNat)).2).1) (((z (((gd s_api_Pos (gd (.sl 16 s_api_Pos) defs ((r).toNat)) (0 : Nat)).2).1))).toNat)).2).2).2).1) (1 : Nat))).1).2).2).2).2).1).1))), (vb (bOf ((addR (4 : Int) (((operR f old (gd s_api_Instr (((gd s_api_Block f.2.2.2.2.1 (((z ((gd s_api_Pos (gd (.sl 16 s_api_Pos) defs ((r).toNat)) (0 : Nat)).1))).toNat)).2).1) (((z (((gd s_api_Pos (gd (.sl 16 s_api_Pos) defs ((r).toNat)) (0 : Nat)).2).1))).toNat)) r (0 : Int)).2).2).1 ((((((defR f defs (gd I (((((gd s_api_Instr (((gd s_api_Block f.2.2.2.2.1 (((z ((gd s_api_Pos (gd (.sl 16 s_api_Pos) defs ((r).toNat)) (0 : Nat)).1))).toNat)).2).1) (((z (((gd s_api_Pos (gd (.sl 16 s_api_Pos) defs ((r).toNat)) (0 : Nat)).2).1))).toNat)).2).2).2).1) (1 : Nat))).1).2).2).2).2).1).2)))]) (.chk ((0 : Nat) < (1 : Nat)) (.chk ((0 : Nat) < (1 : Nat)) (.chk ((0 : Nat) < (1 : Nat)) (.chk ((0 : Nat) < (1 : Nat)) (rt (.tv s_alias_Base ((operR f old (gd s_api_Instr (((gd s_api_Block f.2.2.2.2.1 (((z ((gd s_api_Pos (gd (.sl 16 s_api_Pos) defs ((r).toNat)) (0 : Nat)).1))).toNat)).2).1) (((z (((gd s_api_Pos (gd (.sl 16 s_api_Pos) defs ((r).toNat)) (0 : Nat)).2).1))).toNat)) r (0 : Int)).1, ((operR f old (gd s_api_Instr (((gd s_api_Block f.2.2.2.2.1 (((z ((gd s_api_Pos (gd (.sl 16 s_api_Pos) defs ((r).toNat)) (0 : Nat)).1))).toNat)).2).1) (((z (((gd s_api_Pos (gd (.sl 16 s_api_Pos) defs ((r).toNat)) (0 : Nat)).2).1))).toNat)) r (0 : Int)).2).1, (addR (4 : Int) (((operR f old (gd s_api_Instr (((gd s_api_Block f.2.2.2.2.1 (((z ((gd s_api_Pos (gd (.sl 16 s_api_Pos) defs ((r).toNat)) (0 : Nat)).1))).toNat)).2).1) (((z (((gd s_api_Pos (gd (.sl 16 s_api_Pos) defs ((r).toNat)) (0 : Nat)).2).1))).toNat)) r (0 : Int)).2).2).1 ((((((defR f defs (gd I (((((gd s_api_Instr (((gd s_api_Block f.2.2.2.2.1 (((z ((gd s_api_Pos (gd (.sl 16 s_api_Pos) defs ((r).toNat)) (0 : Nat)).1))).toNat)).2).1) (((z (((gd s_api_Pos (gd (.sl 16 s_api_Pos) defs ((r).toNat)) (0 : Nat)).2).1))).toNat)).2).2).2).1) (1 : Nat))).1).2).2).2).2).1).1, (((operR f old (gd s_api_Instr (((gd s_api_Block f.2.2.2.2.1 (((z ((gd s_api_Pos (gd (.sl 16 s_api_Pos) defs ((r).toNat)) (0 : Nat)).1))).toNat)).2).1) (((z (((gd s_api_Pos (gd (.sl 16 s_api_Pos) defs ((r).toNat)) (0 : Nat)).2).1))).toNat)) r (0 : Int)).2).2).2)) [])))))))) (.chk ((0 : Nat) < (1 : Nat)) (.chk ((0 : Nat) < (1 : Nat)) (.chk ((0 : Nat) < (1 : Nat)) (.chk ((0 : Nat) < (1 : Nat)) (rt (.tv s_alias_Base ((operR f old (gd s_api_Instr (((gd s_api_Block f.2.2.2.2.1 (((z ((gd s_api_Pos (gd (.sl 16 s_api_Pos) defs ((r).toNat)) (0 : Nat)).1))).toNat)).2).1) (((z (((gd s_api_Pos (gd (.sl 16 s_api_Pos) defs ((r).toNat)) (0 : Nat)).2).1))).toNat)) r (0 : Int)).1, ((operR f old (gd s_api_Instr (((gd s_api_Block f.2.2.2.2.1 (((z ((gd s_api_Pos (gd (.sl 16 s_api_Pos) defs ((r).toNat)) (0 : Nat)).1))).toNat)).2).1) (((z (((gd s_api_Pos (gd (.sl 16 s_api_Pos) defs ((r).toNat)) (0 : Nat)).2).1))).toNat)) r (0 : Int)).2).1, (0 : Int), false, ())) [])))))) (.chk ((0 : Nat) < (1 : Nat)) (.chk ((0 : Nat) < (1 : Nat)) (.chk ((0 : Nat) < (1 : Nat)) (.chk ((0 : Nat) < (1 : Nat)) (rt (.tv s_alias_Base ((operR f old (gd s_api_Instr (((gd s_api_Block f.2.2.2.2.1 (((z ((gd s_api_Pos (gd (.sl 16 s_api_Pos) defs ((r).toNat)) (0 : Nat)).1))).toNat)).2).1) (((z (((gd s_api_Pos (gd (.sl 16 s_api_Pos) defs ((r).toNat)) (0 : Nat)).2).1))).toNat)) r (0 : Int)).1, ((operR f old (gd s_api_Instr (((gd s_api_Block f.2.2.2.2.1 (((z ((gd s_api_Pos (gd (.sl 16 s_api_Pos) defs ((r).toNat)) (0 : Nat)).1))).toNat)).2).1) (((z (((gd s_api_Pos (gd (.sl 16 s_api_Pos) defs ((r).toNat)) (0 : Nat)).2).1))).toNat)) r (0 : Int)).2).1, (0 : Int), false, ())) []))))))))) (.chk ((0 : Nat) < (1 : Nat)) (.chk ((0 : Nat) < (1 : Nat)) (.chk ((0 : Nat) < (1 : Nat)) (.chk ((0 : Nat) < (1 : Nat)) (rt (.tv s_alias_Base ((operR f old (gd s_api_Instr (((gd s_api_Block f.2.2.2.2.1 (((z ((gd s_api_Pos (gd (.sl 16 s_api_Pos) defs ((r).toNat)) (0 : Nat)).1))).toNat)).2).1) (((z (((gd s_api_Pos (gd (.sl 16 s_api_Pos) defs ((r).toNat)) (0 : Nat)).2).1))).toNat)) r (0 : Int)).1, ((operR f old (gd s_api_Instr (((gd s_api_Block f.2.2.2.2.1 (((z ((gd s_api_Pos (gd (.sl 16 s_api_Pos) defs ((r).toNat)) (0 : Nat)).1))).toNat)).2).1) (((z (((gd s_api_Pos (gd (.sl 16 s_api_Pos) defs ((r).toNat)) (0 : Nat)).2).1))).toNat)) r (0 : Int)).2).1, (0 : Int), false, ())) [])))))) (.chk ((0 : Nat) < (1 : Nat)) (.chk ((0 : Nat) < (1 : Nat)) (.chk ((0 : Nat) < (1 : Nat)) (.chk ((0 : Nat) < (1 : Nat)) (rt (.tv s_alias_Base ((operR f old (gd s_api_Instr (((gd s_api_Block f.2.2.2.2.1 (((z ((gd s_api_Pos (gd (.sl 16 s_api_Pos) defs ((r).toNat)) (0 : Nat)).1))).toNat)).2).1) (((z (((gd s_api_Pos (gd (.sl 16 s_api_Pos) defs ((r).toNat)) (0 : Nat)).2).1))).toNat)) r (0 : Int)).1, ((operR f old (gd s_api_Instr (((gd s_api_Block f.2.2.2.2.1 (((z ((gd s_api_Pos (gd (.sl 16 s_api_Pos) defs ((r).toNat)) (0 : Nat)).1))).toNat)).2).1) (((z (((gd s_api_Pos (gd (.sl 16 s_api_Pos) defs ((r).toNat)) (0 : Nat)).2).1))).toNat)) r (0 : Int)).2).1, (0 : Int), false, ())) [])))))))))))) (cond ((z ((gd s_api_Instr (((gd s_api_Block f.2.2.2.2.1 (((z ((gd s_api_Pos (gd (.sl 16 s_api_Pos) defs ((r).toNat)) (0 : Nat)).1))).toNat)).2).1) (((z (((gd s_api_Pos (gd (.sl 16 s_api_Pos) defs ((r).toNat)) (0 : Nat)).2).1))).toNat)).1)) == (21 : Int)) (.chk (okNow f old ∧ 0 ≤ z (1 : Int)) (.chk (okNow f old ∧ 0 ≤ z (2 : Int)) (.chk (True) (.chk ((0 : Nat) < (1 : Nat)) (.know (okD s_alias_Base (operR f old (gd s_api_Instr (((gd s_api_Block f.2.2.2.2.1 (((z ((gd s_api_Pos (gd (.sl 16 s_api_Pos) defs ((r).toNat)) (0 : Nat)).1))).toNat)).2).1) (((z (((gd s_api_Pos (gd (.sl 16 s_api_Pos) defs ((r).toNat)) (0 : Nat)).2).1))).toNat)) r (1 : Int))) (.know (okD s_alias_Base (operR f old (gd s_api_Instr (((gd s_api_Block f.2.2.2.2.1 (((z ((gd s_api_Pos (gd (.sl 16 s_api_Pos) defs ((r).toNat)) (0 : Nat)).1))).toNat)).2).1) (((z (((gd s_api_Pos (gd (.sl 16 s_api_Pos) defs ((r).toNat)) (0 : Nat)).2).1))).toNat)) r (2 : Int))) (.know (okD s_alias_Base (meetR r (operR f old (gd s_api_Instr (((gd s_api_Block f.2.2.2.2.1 (((z ((gd s_api_Pos (gd (.sl 16 s_api_Pos) defs ((r).toNat)) (0 : Nat)).1))).toNat)).2).1) (((z (((gd s_api_Pos (gd (.sl 16 s_api_Pos) defs ((r).toNat)) (0 : Nat)).2).1))).toNat)) r (1 : Int)) (operR f old (gd s_api_Instr (((gd s_api_Block f.2.2.2.2.1 (((z ((gd s_api_Pos (gd (.sl 16 s_api_Pos) defs ((r).toNat)) (0 : Nat)).1))).toNat)).2).1) (((z (((gd s_api_Pos (gd (.sl 16 s_api_Pos) defs ((r).toNat)) (0 : Nat)).2).1))).toNat)) r (2 : Int)))) (.chk ((0 : Nat) < (1 : Nat)) (rt (.tv s_alias_Base (meetR r (operR f old (gd s_api_Instr (((gd s_api_Block f.2.2.2.2.1 (((z ((gd s_api_Pos (gd (.sl 16 s_api_Pos) defs ((r).toNat)) (0 : Nat)).1))).toNat)).2).1) (((z (((gd s_api_Pos (gd (.sl 16 s_api_Pos) defs ((r).toNat)) (0 : Nat)).2).1))).toNat)) r (1 : Int)) (operR f old (gd s_api_Instr (((gd s_api_Block f.2.2.2.2.1 (((z ((gd s_api_Pos (gd (.sl 16 s_api_Pos) defs ((r).toNat)) (0 : Nat)).1))).toNat)).2).1) (((z (((gd s_api_Pos (gd (.sl 16 s_api_Pos) defs ((r).toNat)) (0 : Nat)).2).1))).toNat)) r (2 : Int)))) []))))))))) (.chk (True) (.know (okD s_alias_Base (ownR r)) (.chk ((0 : Nat) < (1 : Nat)) (.chk ((0 : Nat) < (1 : Nat)) (rt (.tv s_alias_Base (ownR r)) []))))))))))))))))))))) := by kernel_rfl
theorem r27_next_L0_t (old : List (Den s_alias_Base)) (r : Int) (f : Den s_api_Func) (t34 : List (Den I)) (t35 : Int) (t36 : Int) (t8 : Den s_alias_Base) (at_ : Den s_api_Pos) : run E_A16 H_A16 f_r27_next 3000 (r27_next_L0 old r f t34 t35 t36 t8 at_) = (cond (decide (t36 < t35)) (.chk (0 ≤ t36 ∧ t36 < (ln I t34)) (cond ((z (gd I t34 ((t36).toNat))) == r) (.chk ((0 : Nat) < (1 : Nat)) (cond ((z at_.1) == (0 : Int)) (.chk (True) (.know (okD s_alias_Base (ownR r)) (.chk ((0 : Nat) < (1 : Nat)) (.chk ((0 : Nat) < (1 : Nat)) (rt (.tv s_alias_Base (ownR r)) []))))) (hd (r27_next_L0 old r f t34 t35 (IntKind.wrap .i64 (t36 + (1 : Int))) t8 at_)))) (hd (r27_next_L0 old r f t34 t35 (IntKind.wrap .i64 (t36 + (1 : Int))) t8 at_)))) (.chk ((0 : Nat) < (1 : Nat)) (.chk (preJ f old (z r) (z at_.1)) (.know (okD s_alias_Base (joinedF f old r at_)) (.chk ((0 : Nat) < (1 : Nat)) (.chk ((0 : Nat) < (1 : Nat)) (rt (.tv s_alias_Base (joinedF f old r at_)) []))))))) := by kernel_rfl
theorem add_1 (a b : Int) : (addR 4 a b).1 = wrapZ 4 (IntKind.wrap .i64 (wrapZ 4 a + wrapZ 4 b)) := by
  have hb : (bitsZ 4 == (0 : Int)) = false := rfl
  unfold addR
  simp only [hb, cond_false]
  simp only [Bool.cond_eq_ite, apply_ite Prod.fst, ite_self]
theorem oper_eq (f : Fn) (defs : DL) (old : List Bs) (r : Int) (x : Den s_api_Instr) (i : Int) : operF (f, defs, old, ()) r x i = operR f old x r i := by
  unfold operF operR argP
  cases h : decide (i ≥ (ln I x.2.2.2.1 : Int)) with
  | true => rfl
  | false => rfl
def offN (f : Fn) (defs : DL) (x : Den s_api_Instr) (b : Bs) : Bs :=
  cond (z b.1 == 0) b (cond (bOf b.2.2.2.1) (cond (decide ((ln I x.2.2.2.1 : Int) > 1)) (cond (bOf (defR f defs (gd I x.2.2.2.1 1)).2) (cond (z (defR f defs (gd I x.2.2.2.1 1)).1.1 == 1) (b.1, b.2.1, (addR 4 b.2.2.1 (defR f defs (gd I x.2.2.2.1 1)).1.2.2.2.2.1).1, b.2.2.2) (b.1, b.2.1, (0 : Int), false, ())) (b.1, b.2.1, (0 : Int), false, ())) (b.1, b.2.1, (0 : Int), false, ())) (b.1, b.2.1, (0 : Int), false, ()))
def insN (f : Fn) (defs : DL) (old : List Bs) (r : Int) (x : Den s_api_Instr) : Bs :=
  cond (z x.1 == 25) ((1 : Int), x.2.2.2.2.2.1, (0 : Int), true, ()) (cond (z x.1 == 26) ((2 : Int), r, (0 : Int), true, ()) (cond (z x.1 == 4) (operR f old x r 0) (cond (z x.1 == 27) (offN f defs x (operR f old x r 0)) (cond (z x.1 == 21) (meetR r (operR f old x r 1) (operR f old x r 2)) (ownR r)))))
theorem def_neg (s : Sv) : bOf (defA s (-1)).2 = false := rfl
theorem mov_eq (f : Fn) (defs : DL) (old : List Bs) (x : Den s_api_Instr) (b : Bs) (hb : z b.1 ≠ 0) : movF (f, defs, old, ()) b (argP x 1) = offN f defs x b := by
  unfold offN
  rw [show (z b.1 == 0) = false by simpa using hb]
  have hbz : (bitsZ 4 == (0 : Int)) = false := rfl
  unfold movF argP
  simp only [hbz, cond_false, add_1]
  by_cases h : (ln I x.2.2.2.1 : Int) > 1
  · rw [show decide ((1 : Int) ≥ (ln I x.2.2.2.1 : Int)) = false from decide_eq_false (by omega), show decide ((ln I x.2.2.2.1 : Int) > 1) = true from decide_eq_true h]
    simp only [cond_false, cond_true]
    have e : ∀ a, defA (f, defs, old, ()) a = defR f defs a := fun _ => rfl
    have e2 : z (gd I x.2.2.2.1 ((1 : Int).toNat)) = gd I x.2.2.2.1 1 := rfl
    simp only [e, e2]
    generalize defR f defs (gd I x.2.2.2.1 1) = q
    simp only [Bool.cond_eq_ite, Bool.not_eq_true', bne_iff_ne, beq_iff_eq]
    cases hq : bOf q.2 <;> cases hk : bOf b.2.2.2.1 <;> by_cases h1 : z q.1.1 = 1 <;> simp_all
  · rw [show decide ((1 : Int) ≥ (ln I x.2.2.2.1 : Int)) = true from decide_eq_true (by omega), show decide ((ln I x.2.2.2.1 : Int) > 1) = false from decide_eq_false h]
    simp only [cond_false, cond_true, def_neg]
    cases bOf b.2.2.2.1 <;> rfl
theorem ins_eq {f : Fn} {defs : DL} {old : List Bs} (r : Int) (x : Den s_api_Instr) (hn : okNow f old) : insF (f, defs, old, ()) r x = insN f defs old r x := by
  have o0 := oper_eq f defs old r x 0
  have o1 := oper_eq f defs old r x 1
  have o2 := oper_eq f defs old r x 2
  unfold insF insN
  rw [o0, o1, o2]
  have h0 : okZ (operR f old x r 0) := by rw [← o0]; exact okZ_oper hn
  have h1 : okZ (operR f old x r 1) := by rw [← o1]; exact okZ_oper hn
  have h2 : okZ (operR f old x r 2) := by rw [← o2]; exact okZ_oper hn
  have ej : joinF r [operR f old x r 1, operR f old x r 2] = meetR r (operR f old x r 1) (operR f old x r 2) := by
    unfold joinF
    rw [(joinM_ok okZ_z fun b hb => ?_).1]
    · rw [List.foldl_cons, List.foldl_cons, List.foldl_nil, meetR_eq (a := zB), if_pos (by rfl)]
    · rcases List.mem_cons.1 hb with rfl | hb
      · exact h1
      · rcases List.mem_cons.1 hb with rfl | hb
        · exact h2
        · cases hb
  rw [ej]
  have eo : (cond (eqBs (operR f old x r 0) zB) zB (movF (f, defs, old, ()) (operR f old x r 0) (argP x 1))) = offN f defs x (operR f old x r 0) := by
    cases hq : eqBs (operR f old x r 0) zB with
    | true =>
      rw [eqBs_iff.1 hq]
      rfl
    | false => exact mov_eq f defs old x _ fun e => eqBs_ne hq (h0 e)
  have eo' := eo
  unfold eqBs at eo'
  cases z x.1 == 25 <;> cases z x.1 == 26 <;> cases z x.1 == 4 <;> cases z x.1 == 27 <;> first | rfl | exact eo'
def nxtR (f : Fn) (defs : DL) (old : List Bs) (r : Int) : Bs := nextF (f, defs, old, ()) r
def preM (f : Fn) (defs : DL) (old : List Bs) (r : Int) : Prop := preN (f, defs, old, ()) r
theorem preM_r {f : Fn} {defs : DL} {old : List Bs} {r : Int} (h : preM f defs old r) : 0 ≤ r ∧ r < (ln (.sl 16 s_api_Pos) defs : Int) := preN_r (s := (f, defs, old, ())) h
theorem nxt_own {f : Fn} {defs : DL} {old : List Bs} {r : Int} (h : ((ln s_api_Pos (gd (.sl 16 s_api_Pos) defs r.toNat) : Int) != 1) = true) : nxtR f defs old r = ownR r := by
  unfold nxtR nextF
  simp only [h, cond_true]
  rfl
theorem nxt_ins {f : Fn} {defs : DL} {old : List Bs} {r : Int} (h : ((ln s_api_Pos (gd (.sl 16 s_api_Pos) defs r.toNat) : Int) != 1) = false) (h2 : decide (z (gd s_api_Pos (gd (.sl 16 s_api_Pos) defs r.toNat) 0).2.1 < 0) = false) (hn : okNow f old) :
    nxtR f defs old r = insN f defs old r (gd s_api_Instr (gd s_api_Block f.2.2.2.2.1 (z (gd s_api_Pos (gd (.sl 16 s_api_Pos) defs r.toNat) 0).1).toNat).2.1 (z (gd s_api_Pos (gd (.sl 16 s_api_Pos) defs r.toNat) 0).2.1).toNat) := by
  have h3 : decide (z (gd s_api_Pos (gd (.sl 16 s_api_Pos) defs r.toNat) 0).2.1 ≥ 0) = true := decide_eq_true (by have := of_decide_eq_false h2; omega)
  unfold nxtR nextF
  simp only [h, h3, cond_true, cond_false]
  exact ins_eq r _ hn
theorem nxt_par {f : Fn} {defs : DL} {old : List Bs} {r : Int} (h : ((ln s_api_Pos (gd (.sl 16 s_api_Pos) defs r.toNat) : Int) != 1) = false) (h2 : z (gd s_api_Pos (gd (.sl 16 s_api_Pos) defs r.toNat) 0).2.1 < 0) :
    nxtR f defs old r = if idxF f.2.1 r ≥ 0 ∧ z (gd s_api_Pos (gd (.sl 16 s_api_Pos) defs r.toNat) 0).1 = 0 then ownR r else joinedF f old r (gd s_api_Pos (gd (.sl 16 s_api_Pos) defs r.toNat) 0) := by
  have h3 : decide (z (gd s_api_Pos (gd (.sl 16 s_api_Pos) defs r.toNat) 0).2.1 ≥ 0) = false := decide_eq_false (by omega)
  unfold nxtR nextF
  simp only [h, h3, cond_false]
  by_cases a : idxF f.2.1 r ≥ 0
  · rw [decide_eq_true a]
    by_cases b : z (gd s_api_Pos (gd (.sl 16 s_api_Pos) defs r.toNat) 0).1 = 0
    · rw [if_pos ⟨a, b⟩, show (z (gd s_api_Pos (gd (.sl 16 s_api_Pos) defs r.toNat) 0).1 == 0) = true by simpa using b]
      rfl
    · rw [if_neg (fun h => b h.2), show (z (gd s_api_Pos (gd (.sl 16 s_api_Pos) defs r.toNat) 0).1 == 0) = false by simpa using b]
      rfl
  · rw [decide_eq_false a, if_neg (fun h => a h.1)]
    rfl
theorem preJ_of {f : Fn} {defs : DL} {old : List Bs} {r : Int} (hp : preM f defs old r) (h1 : (ln s_api_Pos (gd (.sl 16 s_api_Pos) defs r.toNat) : Int) = 1) (h2 : ¬ z (gd s_api_Pos (gd (.sl 16 s_api_Pos) defs r.toNat) 0).2.1 ≥ 0) (h3 : ¬ idxF f.2.1 r ≥ 0 ∨ ¬ z (gd s_api_Pos (gd (.sl 16 s_api_Pos) defs r.toNat) 0).1 = 0) : preJ f old (z r) (z (gd s_api_Pos (gd (.sl 16 s_api_Pos) defs r.toNat) 0).1) :=
  have h := preP_of (s := (f, defs, old, ())) hp h1 h2 h3
  ⟨h.2.1, h.2.2.1, h.2.2.2.1, h.2.2.2.2⟩
theorem good_rawM {f : Fn} {defs : DL} {old : List Bs} {r : Int} (hp : preM f defs old r) (h0 : 0 < ln s_api_Pos (gd (.sl 16 s_api_Pos) defs r.toNat)) : (0 ≤ z (gd s_api_Pos (gd (.sl 16 s_api_Pos) defs r.toNat) 0).1 ∧ z (gd s_api_Pos (gd (.sl 16 s_api_Pos) defs r.toNat) 0).1 < (ln s_api_Block f.2.2.2.2.1 : Int)) ∧
    z (gd s_api_Pos (gd (.sl 16 s_api_Pos) defs r.toNat) 0).2.1 < (ln s_api_Instr (gd s_api_Block f.2.2.2.2.1 (z (gd s_api_Pos (gd (.sl 16 s_api_Pos) defs r.toNat) 0).1).toNat).2.1 : Int) :=
  good_raw (f := f) (D := defs) hp.2.2.1 (by have := preM_r hp; omega) h0
def leavR (f : Den s_api_Func) (bases : List (Den s_alias_Base)) (in_ : Den s_api_Instr) (r : Int) : Bool := (cond ((z in_.1) == (29 : Int)) (cond (decide (((ln I in_.2.2.2.1) : Int) > (1 : Int))) (pntF f bases (gd I in_.2.2.2.1 (1 : Nat)) r) false) (cond ((z in_.1) == (30 : Int)) (anyF f bases in_.2.2.2.1 r) (cond ((z in_.1) == (31 : Int)) (anyF f bases in_.2.2.2.1 r) (cond ((z in_.1) == (21 : Int)) (cond (decide (((ln I in_.2.2.2.1) : Int) > (1 : Int))) (cond (anyF f bases (wn I in_.2.2.2.1 (1 : Nat) (((if (3 : Int) < ((ln I in_.2.2.2.1) : Int) then (3 : Int) else ((ln I in_.2.2.2.1) : Int))).toNat - (1 : Nat))) r) (!(pntF f bases in_.2.2.1 r)) false) false) false))))

def k_r27_leaves : Con := con [.d s_api_Func, .d (.sl 32 s_alias_Base), .d s_api_Instr, .d I] .bool (fun x => ln s_alias_Base x.2.1 = ln I x.1.2.2.2.1) fun x => leavR x.1 x.2.1 x.2.2.1 x.2.2.2.1
theorem m_r27_leaves (f : Den s_api_Func) (bases : List (Den s_alias_Base)) (in_ : Den s_api_Instr) (r : Int) (h_f : okD s_api_Func f) (h_bases : okD (.sl 32 s_alias_Base) bases) (h_in_ : okD s_api_Instr in_) (h_r : okD I r) (hp : ln s_alias_Base bases = ln I f.2.2.2.1) : Runs E_A16 (start E_A16 f_r27_leaves [(.tv s_api_Func f), (.tv (.sl 32 s_alias_Base) bases), (.tv s_api_Instr in_), (vi r)]) (fun r_ h_ => r_ = (vb (leavR f bases in_ r)) ∧ h_ = []) := .tree E_A16_ok (r27_leaves_t f bases in_ r) (by
  have hp_ := hp
  try simp only [z] at hp_
  refine wp_cond (fun h1 => ?_) (fun h1 => ?_)
  · have h1_ := beq_t h1
    refine wp_cond (fun h2 => ?_) (fun h2 => ?_)
    · have h2_ := of_decide_eq_true h2
      refine ⟨by first | omega | assumption | exact hp.1 | exact hp.2 | exact hp.2.1 | (simp_all; done) | (simp_all; omega), fun _ => ?_⟩
      refine ⟨by first | omega | assumption | exact hp.1 | exact hp.2 | exact hp.2.1 | (simp_all; done) | (simp_all; omega), fun _ => ?_⟩
      refine fun _ => ?_
      exact ⟨by simp only [leavR, h1, h2, cond_true, cond_false], rfl⟩
    · have h2_ := of_decide_eq_false h2
      exact ⟨by simp only [leavR, h1, h2, cond_true, cond_false], rfl⟩
  · have h1_ := beq_f h1
    refine wp_cond (fun h3 => ?_) (fun h3 => ?_)
    · have h3_ := beq_t h3
      refine ⟨by first | omega | assumption | exact hp.1 | exact hp.2 | exact hp.2.1 | (simp_all; done) | (simp_all; omega), fun _ => ?_⟩
      refine fun _ => ?_
      exact ⟨by simp only [leavR, h1, h3, cond_true, cond_false], rfl⟩
    · have h3_ := beq_f h3
      refine wp_cond (fun h4 => ?_) (fun h4 => ?_)
      · have h4_ := beq_t h4
        refine ⟨by first | omega | assumption | exact hp.1 | exact hp.2 | exact hp.2.1 | (simp_all; done) | (simp_all; omega), fun _ => ?_⟩
        refine fun _ => ?_
        exact ⟨by simp only [leavR, h1, h3, h4, cond_true, cond_false], rfl⟩
      · have h4_ := beq_f h4
        refine wp_cond (fun h5 => ?_) (fun h5 => ?_)
        · have h5_ := beq_t h5
          refine wp_cond (fun h6 => ?_) (fun h6 => ?_)
          · have h6_ := of_decide_eq_true h6
            refine ⟨by first | omega | assumption | exact hp.1 | exact hp.2 | exact hp.2.1 | (simp_all; done) | (simp_all; omega), fun _ => ?_⟩
            refine ⟨by first | omega | assumption | exact hp.1 | exact hp.2 | exact hp.2.1 | (simp_all; done) | (simp_all; omega), fun _ => ?_⟩
            refine wp_cond (fun h7 => ?_) (fun h7 => ?_)
            · refine ⟨by first | omega | assumption | exact hp.1 | exact hp.2 | exact hp.2.1 | (simp_all; done) | (simp_all; omega), fun _ => ?_⟩
              refine fun _ => ?_
              refine fun _ => ?_
              exact ⟨by simp only [leavR, h1, h3, h4, h5, h6, h7, cond_true, cond_false], rfl⟩
            · refine fun _ => ?_
              exact ⟨by simp only [leavR, h1, h3, h4, h5, h6, h7, cond_true, cond_false], rfl⟩
          · have h6_ := of_decide_eq_false h6
            exact ⟨by simp only [leavR, h1, h3, h4, h5, h6, cond_true, cond_false], rfl⟩
        · have h5_ := beq_f h5
          exact ⟨by simp only [leavR, h1, h3, h4, h5, cond_true, cond_false], rfl⟩)
theorem c_r27_leaves : SpecOK E_A16 f_r27_leaves k_r27_leaves.spec := spec_of fun x hx hp => ⟨rfl, m_r27_leaves x.1 x.2.1 x.2.2.1 x.2.2.2.1 hx.1 hx.2.1 hx.2.2.1 hx.2.2.2.1 hp⟩
theorem nx_l0 (f : Fn) (defs : DL) (old : List Bs) (r : Int) (t8 : Bs) (hf : okD s_api_Func f) (hp : preM f defs old (z r)) (h1 : ((ln s_api_Pos (gd (.sl 16 s_api_Pos) defs r.toNat) : Int) != 1) = false) (h2 : decide (z (gd s_api_Pos (gd (.sl 16 s_api_Pos) defs r.toNat) 0).2.1 < 0) = true) :
    Runs E_A16 (r27_next_L0 old r f f.2.1 (ln I f.2.1 : Nat) 0 t8 (gd s_api_Pos (gd (.sl 16 s_api_Pos) defs r.toNat) 0)) (fun x h => x = .tv s_alias_Base (nxtR f defs old r) ∧ h = []) := by
  have h2' := of_decide_eq_true h2
  rw [nxt_par h1 h2']
  have hl : ln I f.2.1 < 9223372036854775807 := room_lt hf.2.1.1
  have key : ∀ i, i ≤ ln I f.2.1 → (∀ j, j < i → z (gd I f.2.1 j) ≠ r ∨ z (gd s_api_Pos (gd (.sl 16 s_api_Pos) defs r.toNat) 0).1 ≠ 0) → Runs E_A16 (r27_next_L0 old r f f.2.1 (ln I f.2.1 : Nat) i t8 (gd s_api_Pos (gd (.sl 16 s_api_Pos) defs r.toNat) 0)) (fun x h => x = .tv s_alias_Base (if idxF f.2.1 r ≥ 0 ∧ z (gd s_api_Pos (gd (.sl 16 s_api_Pos) defs r.toNat) 0).1 = 0 then ownR r else joinedF f old r (gd s_api_Pos (gd (.sl 16 s_api_Pos) defs r.toNat) 0)) ∧ h = []) :=
    up_ind (fun hno => .tree E_A16_ok (r27_next_L0_t _ _ _ _ _ _ _ _) (by
      have hneg : ¬ (idxF f.2.1 r ≥ 0 ∧ z (gd s_api_Pos (gd (.sl 16 s_api_Pos) defs r.toNat) 0).1 = 0) := fun ⟨a, b⟩ => by
        rcases idxGo_sp (x := r) (l := f.2.1) (i := 0) with ⟨c, _⟩ | ⟨k, k1, _, k3, _⟩
        · unfold idxF at a; omega
        · rcases hno k k1 with h | h
          · exact h k3
          · exact h b
      rw [if_neg hneg]
      have hj := preJ_of (r := r) hp (bne_f h1) (by omega) (by omega)
      simp only [wp_iff, chk_iff, know_iff, any_iff, rt_iff, hd_iff, true_imp_iff, true_and, and_true, and_self, lt01, Int.ofNat_lt, Int.ofNat_le, Int.natCast_nonneg, Int.toNat_natCast, decide_true, decide_false, Bool.true_eq_false, Bool.false_eq_true, false_imp_iff, Nat.lt_irrefl, imp_self, implies_true,  true_and]
      exact hj))
      fun i hi ih hno => .tree E_A16_ok (r27_next_L0_t _ _ _ _ _ _ _ _) (by
        simp only [wp_iff, chk_iff, know_iff, any_iff, rt_iff, hd_iff, true_imp_iff, true_and, and_true, and_self, lt01, Int.ofNat_lt, Int.ofNat_le, Int.natCast_nonneg, Int.toNat_natCast, decide_true, decide_false, Bool.true_eq_false, Bool.false_eq_true, false_imp_iff, Nat.lt_irrefl, imp_self, implies_true,  hi, wrapS hi hl]
        refine ⟨fun h => ⟨fun h3 _ => ?_, fun h3 => ?_⟩, fun h => ?_⟩
        · rw [if_pos ⟨(idx_pos ⟨i, hi, beq_t h⟩).1, beq_t h3⟩]
        · refine ih fun j hj => ?_
          rcases Nat.lt_or_eq_of_le (Nat.le_of_lt_succ hj) with h' | rfl
          · exact hno j h'
          · exact .inr (beq_f h3)
        · refine ih fun j hj => ?_
          rcases Nat.lt_or_eq_of_le (Nat.le_of_lt_succ hj) with h' | rfl
          · exact hno j h'
          · exact .inl (beq_f h))
  exact key 0 (Nat.zero_le _) fun j hj => absurd hj (Nat.not_lt_zero _)
def k_r27_next : Con := con [.d s_api_Func, .d (.sl 24 (.sl 16 s_api_Pos)), .d (.sl 32 s_alias_Base), .d I] s_alias_Base (fun x => preM x.1 x.2.1 x.2.2.1 (z x.2.2.2.1)) fun x => nxtR x.1 x.2.1 x.2.2.1 x.2.2.2.1
theorem m_r27_next (f : Den s_api_Func) (defs : List (Den (.sl 16 s_api_Pos))) (old : List (Den s_alias_Base)) (r : Int) (h_f : okD s_api_Func f) (h_defs : okD (.sl 24 (.sl 16 s_api_Pos)) defs) (h_old : okD (.sl 32 s_alias_Base) old) (h_r : okD I r) (hp : preM f defs old (z r)) : Runs E_A16 (start E_A16 f_r27_next [(.tv s_api_Func f), (.tv (.sl 24 (.sl 16 s_api_Pos)) defs), (.tv (.sl 32 s_alias_Base) old), (vi r)]) (fun r_ h_ => r_ = (.tv s_alias_Base (nxtR f defs old r)) ∧ h_ = []) := .tree E_A16_ok (r27_next_t f defs old r) (by
  have hp_ := hp
  try simp only [z] at hp_
  refine ⟨by first | omega | exact (preM_r hp) | (have g_ := preM_r hp; omega) | exact (good_rawM (r := r) hp (by omega)) | (have g_ := good_rawM (r := r) hp (by omega); omega) | exact (⟨hp.2.1, by decide⟩) | (have g_ := ⟨hp.2.1, by decide⟩; omega) | exact (hp.2.2.1) | (have g_ := hp.2.2.1; omega) | assumption | exact hp.1 | exact hp.2 | exact hp.2.1 | (simp_all; done) | (simp_all; omega), fun _ => ?_⟩
  refine wp_cond (fun h1 => ?_) (fun h1 => ?_)
  · have h1_ := bne_t h1
    refine ⟨trivial, fun _ => ?_⟩
    refine fun _ => ?_
    refine ⟨Nat.zero_lt_one, fun _ => ?_⟩
    refine ⟨Nat.zero_lt_one, fun _ => ?_⟩
    exact ⟨by first | (rw [nxt_own (by assumption)]; done) | (rw [nxt_ins h1 (by assumption) hp.2.1]; simp only [insN, offN, h1, cond_true, cond_false]; done) | (rw [nxt_ins h1 (by assumption) hp.2.1]; simp only [insN, offN, h1, cond_true, cond_false]; rfl), rfl⟩
  · have h1_ := bne_f h1
    refine ⟨by first | omega | exact (preM_r hp) | (have g_ := preM_r hp; omega) | exact (good_rawM (r := r) hp (by omega)) | (have g_ := good_rawM (r := r) hp (by omega); omega) | exact (⟨hp.2.1, by decide⟩) | (have g_ := ⟨hp.2.1, by decide⟩; omega) | exact (hp.2.2.1) | (have g_ := hp.2.2.1; omega) | assumption | exact hp.1 | exact hp.2 | exact hp.2.1 | (simp_all; done) | (simp_all; omega), fun _ => ?_⟩
    refine ⟨by first | omega | exact (preM_r hp) | (have g_ := preM_r hp; omega) | exact (good_rawM (r := r) hp (by omega)) | (have g_ := good_rawM (r := r) hp (by omega); omega) | exact (⟨hp.2.1, by decide⟩) | (have g_ := ⟨hp.2.1, by decide⟩; omega) | exact (hp.2.2.1) | (have g_ := hp.2.2.1; omega) | assumption | exact hp.1 | exact hp.2 | exact hp.2.1 | (simp_all; done) | (simp_all; omega), fun _ => ?_⟩
    refine ⟨Nat.zero_lt_one, fun _ => ?_⟩
    refine ⟨Nat.zero_lt_one, fun _ => ?_⟩
    refine wp_cond (fun h2 => ?_) (fun h2 => ?_)
    · have h2_ := of_decide_eq_true h2
      exact nx_l0 f defs old r _ h_f hp (by assumption) (by assumption)
    · have h2_ := of_decide_eq_false h2
      refine ⟨Nat.zero_lt_one, fun _ => ?_⟩
      refine ⟨by first | omega | exact (preM_r hp) | (have g_ := preM_r hp; omega) | exact (good_rawM (r := r) hp (by omega)) | (have g_ := good_rawM (r := r) hp (by omega); omega) | exact (⟨hp.2.1, by decide⟩) | (have g_ := ⟨hp.2.1, by decide⟩; omega) | exact (hp.2.2.1) | (have g_ := hp.2.2.1; omega) | assumption | exact hp.1 | exact hp.2 | exact hp.2.1 | (simp_all; done) | (simp_all; omega), fun _ => ?_⟩
      refine ⟨Nat.zero_lt_one, fun _ => ?_⟩
      refine ⟨by first | omega | exact (preM_r hp) | (have g_ := preM_r hp; omega) | exact (good_rawM (r := r) hp (by omega)) | (have g_ := good_rawM (r := r) hp (by omega); omega) | exact (⟨hp.2.1, by decide⟩) | (have g_ := ⟨hp.2.1, by decide⟩; omega) | exact (hp.2.2.1) | (have g_ := hp.2.2.1; omega) | assumption | exact hp.1 | exact hp.2 | exact hp.2.1 | (simp_all; done) | (simp_all; omega), fun _ => ?_⟩
      refine wp_cond (fun h3 => ?_) (fun h3 => ?_)
      · have h3_ := beq_t h3
        refine ⟨Nat.zero_lt_one, fun _ => ?_⟩
        refine ⟨Nat.zero_lt_one, fun _ => ?_⟩
        exact ⟨by first | (rw [nxt_own (by assumption)]; done) | (rw [nxt_ins h1 (by assumption) hp.2.1]; simp only [insN, offN, h1, h2, h3, cond_true, cond_false]; done) | (rw [nxt_ins h1 (by assumption) hp.2.1]; simp only [insN, offN, h1, h2, h3, cond_true, cond_false]; rfl), rfl⟩
      · have h3_ := beq_f h3
        refine wp_cond (fun h4 => ?_) (fun h4 => ?_)
        · have h4_ := beq_t h4
          refine ⟨Nat.zero_lt_one, fun _ => ?_⟩
          refine ⟨Nat.zero_lt_one, fun _ => ?_⟩
          exact ⟨by first | (rw [nxt_own (by assumption)]; done) | (rw [nxt_ins h1 (by assumption) hp.2.1]; simp only [insN, offN, h1, h2, h3, h4, cond_true, cond_false]; done) | (rw [nxt_ins h1 (by assumption) hp.2.1]; simp only [insN, offN, h1, h2, h3, h4, cond_true, cond_false]; rfl), rfl⟩
        · have h4_ := beq_f h4
          refine wp_cond (fun h5 => ?_) (fun h5 => ?_)
          · have h5_ := beq_t h5
            refine ⟨by first | omega | exact (preM_r hp) | (have g_ := preM_r hp; omega) | exact (good_rawM (r := r) hp (by omega)) | (have g_ := good_rawM (r := r) hp (by omega); omega) | exact (⟨hp.2.1, by decide⟩) | (have g_ := ⟨hp.2.1, by decide⟩; omega) | exact (hp.2.2.1) | (have g_ := hp.2.2.1; omega) | assumption | exact hp.1 | exact hp.2 | exact hp.2.1 | (simp_all; done) | (simp_all; omega), fun _ => ?_⟩
            refine fun _ => ?_
            refine ⟨Nat.zero_lt_one, fun _ => ?_⟩
            refine ⟨Nat.zero_lt_one, fun _ => ?_⟩
            exact ⟨by first | (rw [nxt_own (by assumption)]; done) | (rw [nxt_ins h1 (by assumption) hp.2.1]; simp only [insN, offN, h1, h2, h3, h4, h5, cond_true, cond_false]; done) | (rw [nxt_ins h1 (by assumption) hp.2.1]; simp only [insN, offN, h1, h2, h3, h4, h5, cond_true, cond_false]; rfl), rfl⟩
          · have h5_ := beq_f h5
            refine wp_cond (fun h6 => ?_) (fun h6 => ?_)
            · have h6_ := beq_t h6
              refine ⟨by first | omega | exact (preM_r hp) | (have g_ := preM_r hp; omega) | exact (good_rawM (r := r) hp (by omega)) | (have g_ := good_rawM (r := r) hp (by omega); omega) | exact (⟨hp.2.1, by decide⟩) | (have g_ := ⟨hp.2.1, by decide⟩; omega) | exact (hp.2.2.1) | (have g_ := hp.2.2.1; omega) | assumption | exact hp.1 | exact hp.2 | exact hp.2.1 | (simp_all; done) | (simp_all; omega), fun _ => ?_⟩
              refine fun _ => ?_
              refine ⟨Nat.zero_lt_one, fun _ => ?_⟩
              refine ⟨Nat.zero_lt_one, fun _ => ?_⟩
              refine wp_cond (fun h7 => ?_) (fun h7 => ?_)
              · have h7_ := beq_t h7
                refine ⟨Nat.zero_lt_one, fun _ => ?_⟩
                refine ⟨Nat.zero_lt_one, fun _ => ?_⟩
                refine ⟨Nat.zero_lt_one, fun _ => ?_⟩
                exact ⟨by first | (rw [nxt_own (by assumption)]; done) | (rw [nxt_ins h1 (by assumption) hp.2.1]; simp only [insN, offN, h1, h2, h3, h4, h5, h6, h7, cond_true, cond_false]; done) | (rw [nxt_ins h1 (by assumption) hp.2.1]; simp only [insN, offN, h1, h2, h3, h4, h5, h6, h7, cond_true, cond_false]; rfl), rfl⟩
              · have h7_ := beq_f h7
                refine ⟨Nat.zero_lt_one, fun _ => ?_⟩
                refine wp_cond (fun h8 => ?_) (fun h8 => ?_)
                · refine wp_cond (fun h9 => ?_) (fun h9 => ?_)
                  · have h9_ := of_decide_eq_true h9
                    refine ⟨by first | omega | exact (preM_r hp) | (have g_ := preM_r hp; omega) | exact (good_rawM (r := r) hp (by omega)) | (have g_ := good_rawM (r := r) hp (by omega); omega) | exact (⟨hp.2.1, by decide⟩) | (have g_ := ⟨hp.2.1, by decide⟩; omega) | exact (hp.2.2.1) | (have g_ := hp.2.2.1; omega) | assumption | exact hp.1 | exact hp.2 | exact hp.2.1 | (simp_all; done) | (simp_all; omega), fun _ => ?_⟩
                    refine ⟨by first | omega | exact (preM_r hp) | (have g_ := preM_r hp; omega) | exact (good_rawM (r := r) hp (by omega)) | (have g_ := good_rawM (r := r) hp (by omega); omega) | exact (⟨hp.2.1, by decide⟩) | (have g_ := ⟨hp.2.1, by decide⟩; omega) | exact (hp.2.2.1) | (have g_ := hp.2.2.1; omega) | assumption | exact hp.1 | exact hp.2 | exact hp.2.1 | (simp_all; done) | (simp_all; omega), fun _ => ?_⟩
                    refine fun _ => ?_
                    refine wp_cond (fun h10 => ?_) (fun h10 => ?_)
                    · refine wp_cond (fun h11 => ?_) (fun h11 => ?_)
                      · have h11_ := beq_t h11
                        refine ⟨Nat.zero_lt_one, fun _ => ?_⟩
                        refine ⟨trivial, fun _ => ?_⟩
                        refine fun _ => ?_
                        refine ⟨Nat.zero_lt_one, fun _ => ?_⟩
                        refine ⟨Nat.zero_lt_one, fun _ => ?_⟩
                        refine ⟨Nat.zero_lt_one, fun _ => ?_⟩
                        refine ⟨Nat.zero_lt_one, fun _ => ?_⟩
                        exact ⟨by first | (rw [nxt_own (by assumption)]; done) | (rw [nxt_ins h1 (by assumption) hp.2.1]; simp only [insN, offN, h1, h2, h3, h4, h5, h6, h7, h8, h9, h10, h11, cond_true, cond_false]; done) | (rw [nxt_ins h1 (by assumption) hp.2.1]; simp only [insN, offN, h1, h2, h3, h4, h5, h6, h7, h8, h9, h10, h11, cond_true, cond_false]; rfl), rfl⟩
                      · have h11_ := beq_f h11
                        refine ⟨Nat.zero_lt_one, fun _ => ?_⟩
                        refine ⟨Nat.zero_lt_one, fun _ => ?_⟩
                        refine ⟨Nat.zero_lt_one, fun _ => ?_⟩
                        refine ⟨Nat.zero_lt_one, fun _ => ?_⟩
                        exact ⟨by first | (rw [nxt_own (by assumption)]; done) | (rw [nxt_ins h1 (by assumption) hp.2.1]; simp only [insN, offN, h1, h2, h3, h4, h5, h6, h7, h8, h9, h10, h11, cond_true, cond_false]; done) | (rw [nxt_ins h1 (by assumption) hp.2.1]; simp only [insN, offN, h1, h2, h3, h4, h5, h6, h7, h8, h9, h10, h11, cond_true, cond_false]; rfl), rfl⟩
                    · refine ⟨Nat.zero_lt_one, fun _ => ?_⟩
                      refine ⟨Nat.zero_lt_one, fun _ => ?_⟩
                      refine ⟨Nat.zero_lt_one, fun _ => ?_⟩
                      refine ⟨Nat.zero_lt_one, fun _ => ?_⟩
                      exact ⟨by first | (rw [nxt_own (by assumption)]; done) | (rw [nxt_ins h1 (by assumption) hp.2.1]; simp only [insN, offN, h1, h2, h3, h4, h5, h6, h7, h8, h9, h10, cond_true, cond_false]; done) | (rw [nxt_ins h1 (by assumption) hp.2.1]; simp only [insN, offN, h1, h2, h3, h4, h5, h6, h7, h8, h9, h10, cond_true, cond_false]; rfl), rfl⟩
                  · have h9_ := of_decide_eq_false h9
                    refine ⟨Nat.zero_lt_one, fun _ => ?_⟩
                    refine ⟨Nat.zero_lt_one, fun _ => ?_⟩
                    refine ⟨Nat.zero_lt_one, fun _ => ?_⟩
                    refine ⟨Nat.zero_lt_one, fun _ => ?_⟩
                    exact ⟨by first | (rw [nxt_own (by assumption)]; done) | (rw [nxt_ins h1 (by assumption) hp.2.1]; simp only [insN, offN, h1, h2, h3, h4, h5, h6, h7, h8, h9, cond_true, cond_false]; done) | (rw [nxt_ins h1 (by assumption) hp.2.1]; simp only [insN, offN, h1, h2, h3, h4, h5, h6, h7, h8, h9, cond_true, cond_false]; rfl), rfl⟩
                · refine ⟨Nat.zero_lt_one, fun _ => ?_⟩
                  refine ⟨Nat.zero_lt_one, fun _ => ?_⟩
                  refine ⟨Nat.zero_lt_one, fun _ => ?_⟩
                  refine ⟨Nat.zero_lt_one, fun _ => ?_⟩
                  exact ⟨by first | (rw [nxt_own (by assumption)]; done) | (rw [nxt_ins h1 (by assumption) hp.2.1]; simp only [insN, offN, h1, h2, h3, h4, h5, h6, h7, h8, cond_true, cond_false]; done) | (rw [nxt_ins h1 (by assumption) hp.2.1]; simp only [insN, offN, h1, h2, h3, h4, h5, h6, h7, h8, cond_true, cond_false]; rfl), rfl⟩
            · have h6_ := beq_f h6
              refine wp_cond (fun h12 => ?_) (fun h12 => ?_)
              · have h12_ := beq_t h12
                refine ⟨by first | omega | exact (preM_r hp) | (have g_ := preM_r hp; omega) | exact (good_rawM (r := r) hp (by omega)) | (have g_ := good_rawM (r := r) hp (by omega); omega) | exact (⟨hp.2.1, by decide⟩) | (have g_ := ⟨hp.2.1, by decide⟩; omega) | exact (hp.2.2.1) | (have g_ := hp.2.2.1; omega) | assumption | exact hp.1 | exact hp.2 | exact hp.2.1 | (simp_all; done) | (simp_all; omega), fun _ => ?_⟩
                refine ⟨by first | omega | exact (preM_r hp) | (have g_ := preM_r hp; omega) | exact (good_rawM (r := r) hp (by omega)) | (have g_ := good_rawM (r := r) hp (by omega); omega) | exact (⟨hp.2.1, by decide⟩) | (have g_ := ⟨hp.2.1, by decide⟩; omega) | exact (hp.2.2.1) | (have g_ := hp.2.2.1; omega) | assumption | exact hp.1 | exact hp.2 | exact hp.2.1 | (simp_all; done) | (simp_all; omega), fun _ => ?_⟩
                refine ⟨trivial, fun _ => ?_⟩
                refine ⟨Nat.zero_lt_one, fun _ => ?_⟩
                refine fun _ => ?_
                refine fun _ => ?_
                refine fun _ => ?_
                refine ⟨Nat.zero_lt_one, fun _ => ?_⟩
                exact ⟨by first | (rw [nxt_own (by assumption)]; done) | (rw [nxt_ins h1 (by assumption) hp.2.1]; simp only [insN, offN, h1, h2, h3, h4, h5, h6, h12, cond_true, cond_false]; done) | (rw [nxt_ins h1 (by assumption) hp.2.1]; simp only [insN, offN, h1, h2, h3, h4, h5, h6, h12, cond_true, cond_false]; rfl), rfl⟩
              · have h12_ := beq_f h12
                refine ⟨trivial, fun _ => ?_⟩
                refine fun _ => ?_
                refine ⟨Nat.zero_lt_one, fun _ => ?_⟩
                refine ⟨Nat.zero_lt_one, fun _ => ?_⟩
                exact ⟨by first | (rw [nxt_own (by assumption)]; done) | (rw [nxt_ins h1 (by assumption) hp.2.1]; simp only [insN, offN, h1, h2, h3, h4, h5, h6, h12, cond_true, cond_false]; done) | (rw [nxt_ins h1 (by assumption) hp.2.1]; simp only [insN, offN, h1, h2, h3, h4, h5, h6, h12, cond_true, cond_false]; rfl), rfl⟩)
theorem c_r27_next : SpecOK E_A16 f_r27_next k_r27_next.spec := spec_of fun x hx hp => ⟨rfl, m_r27_next x.1 x.2.1 x.2.2.1 x.2.2.2.1 hx.1 hx.2.1 hx.2.2.1 hx.2.2.2.1 hp⟩
def L_A16 : List (FuncId × FSpec) := [(f_r27_leaves, k_r27_leaves.spec), (f_r27_next, k_r27_next.spec)] ++ L_A15
theorem L_A16_ok : ∀ x ∈ L_A16, SpecOK (ctx []) x.1 x.2 := by
  unfold L_A16
  simp only [List.cons_append, List.nil_append, List.forall_mem_cons]
  exact ⟨c_r27_leaves, c_r27_next, L_A15_ok⟩
end Burn.M27Q
namespace Burn.M27Q
open Go Go.BE Go.Proofs
set_option maxRecDepth 100000
set_option linter.unusedVariables false
set_option linter.unusedSimpArgs false
open Burn.Cfg Burn.Intn Burn.Ref
noncomputable abbrev E_A17 : Ctx := ctx L_A16
theorem E_A17_ok : EOK E_A17 := ctx_ok L_A16_ok
def cuts_A17 : CutL := [([], 27, 0, [1, 3, 4, 5, 6], [], []),
  ([], 27, 2, [1, 3, 4, 5, 6, 7, 36, 37, 38], [], []),
  ([], 27, 4, [4, 5, 68, 69, 70], [], []),
  ([], 37, 0, [1, 3, 11, 12, 13], [], [])]
def rets_A17 : FuncId → List (Option Fx)
  | 27 => [some (.dat (.sl 32 s_alias_Base))]
  | 37 => [some (.dat (.sl 1 .bool))]
  | _ => []
def H_A17 : Hints := { cut := cutOf cuts_A17, ret := rets_A17 }
noncomputable def r27_Bases_L0 (f : Den s_api_Func) (defs : List (Den (.sl 16 s_api_Pos))) (done : Bool) (k : Int) (old : List (Den s_alias_Base)) : Cfg := hcfg E_A17 f_r27_Bases 0 [(1, (.rtp s_api_Func f)), (3, (.tv (.sl 24 (.sl 16 s_api_Pos)) defs)), (4, (.osl 0 0 [] none)), (5, (vb done)), (6, (vi k))] [(0, ⟨(.arr 0 32 s_alias_Base old), 0, [], false, none⟩)] 1
noncomputable def r27_Bases_L2 (f : Den s_api_Func) (defs : List (Den (.sl 16 s_api_Pos))) (done : Bool) (k : Int) (t36 : List (Den I)) (t37 : Int) (t38 : Int) (old : List (Den s_alias_Base)) (now : List (Den s_alias_Base)) : Cfg := hcfg E_A17 f_r27_Bases 2 [(1, (.rtp s_api_Func f)), (3, (.tv (.sl 24 (.sl 16 s_api_Pos)) defs)), (4, (.osl 0 0 [] none)), (5, (vb done)), (6, (vi k)), (7, (.osl 1 1 [] none)), (36, (.tv (.sl 8 I) t36)), (37, (vi t37)), (38, (vi t38))] [(0, ⟨(.arr 0 32 s_alias_Base old), 0, [], false, none⟩), (1, ⟨(.arr 0 32 s_alias_Base now), 1, [], false, none⟩)] 2
noncomputable def r27_Bases_L4 (done : Bool) (t68 : List (Den I)) (t69 : Int) (t70 : Int) (old : List (Den s_alias_Base)) : Cfg := hcfg E_A17 f_r27_Bases 4 [(4, (.osl 0 0 [] none)), (5, (vb done)), (68, (.tv (.sl 8 I) t68)), (69, (vi t69)), (70, (vi t70))] [(0, ⟨(.arr 0 32 s_alias_Base old), 0, [], false, none⟩)] 1
theorem r27_Bases_t (f : Den s_api_Func) : run E_A17 H_A17 f_r27_Bases 3000 (start E_A17 f_r27_Bases [(.tv s_api_Func f)]) = (.chk (smallF f) (.know (okD (.sl 24 (.sl 16 s_api_Pos)) (rDefs f)) (.chk (((ln I f.2.2.2.1) : Int) = ((ln I f.2.2.2.1) : Int)) (.chk (0 ≤ ((ln I f.2.2.2.1) : Int)) (.chk ((ln I f.2.2.2.1) * 32 ≤ roomB) (hd (r27_Bases_L0 f (rDefs f) false (0 : Int) (List.replicate (ln I f.2.2.2.1) (dz s_alias_Base))))))))) := by kernel_rfl
theorem r27_Bases_L0_t (f : Den s_api_Func) (defs : List (Den (.sl 16 s_api_Pos))) (done : Bool) (k : Int) (old : List (Den s_alias_Base)) : run E_A17 H_A17 f_r27_Bases 3000 (r27_Bases_L0 f defs done k old) = (cond (decide (k < (IntKind.wrap .i64 ((8 : Int) * (IntKind.wrap .i64 (((ln I f.2.2.2.1) : Int) + (1 : Int))))))) (cond (!done) (.chk (((ln I f.2.2.2.1) : Int) = ((ln I f.2.2.2.1) : Int)) (.chk (0 ≤ ((ln I f.2.2.2.1) : Int)) (.chk ((ln I f.2.2.2.1) * 32 ≤ roomB) (hd (r27_Bases_L2 f defs true k f.2.2.2.1 ((ln I f.2.2.2.1) : Int) (0 : Int) old (List.replicate (ln I f.2.2.2.1) (dz s_alias_Base))))))) (hd (r27_Bases_L4 done f.2.2.2.1 ((ln I f.2.2.2.1) : Int) (0 : Int) old))) (hd (r27_Bases_L4 done f.2.2.2.1 ((ln I f.2.2.2.1) : Int) (0 : Int) old))) := by kernel_rfl
theorem r27_Bases_L2_t (f : Den s_api_Func) (defs : List (Den (.sl 16 s_api_Pos))) (done : Bool) (k : Int) (t36 : List (Den I)) (t37 : Int) (t38 : Int) (old : List (Den s_alias_Base)) (now : List (Den s_alias_Base)) : run E_A17 H_A17 f_r27_Bases 3000 (r27_Bases_L2 f defs done k t36 t37 t38 old now) = (cond (decide (t38 < t37)) (.chk (0 ≤ t38 ∧ t38 < (ln I t36)) (cond ((z (gd I t36 ((t38).toNat))) == (5 : Int)) (.chk (preM f defs old (z t38)) (.know (okD s_alias_Base (nxtR f defs old t38)) (.chk (0 ≤ t38 ∧ t38 < (ln s_alias_Base now)) (.chk ((t38).toNat < (ln s_alias_Base now)) (cond done (.chk (0 ≤ t38 ∧ t38 < (ln s_alias_Base (st s_alias_Base now ((t38).toNat) (nxtR f defs old t38)))) (.chk ((t38).toNat < (ln s_alias_Base (st s_alias_Base now ((t38).toNat) (nxtR f defs old t38)))) (.chk (0 ≤ t38 ∧ t38 < (ln s_alias_Base old)) (.chk ((t38).toNat < (ln s_alias_Base old)) (hd (r27_Bases_L2 f defs (((z ((gd s_alias_Base (st s_alias_Base now ((t38).toNat) (nxtR f defs old t38)) ((t38).toNat)).1)) == (z ((gd s_alias_Base old ((t38).toNat)).1))) && (((z (((gd s_alias_Base (st s_alias_Base now ((t38).toNat) (nxtR f defs old t38)) ((t38).toNat)).2).1)) == (z (((gd s_alias_Base old ((t38).toNat)).2).1))) && (((z ((((gd s_alias_Base (st s_alias_Base now ((t38).toNat) (nxtR f defs old t38)) ((t38).toNat)).2).2).1)) == (z ((((gd s_alias_Base old ((t38).toNat)).2).2).1))) && (((bOf (((((gd s_alias_Base (st s_alias_Base now ((t38).toNat) (nxtR f defs old t38)) ((t38).toNat)).2).2).2).1)) == (bOf (((((gd s_alias_Base old ((t38).toNat)).2).2).2).1))) && true)))) k t36 t37 (IntKind.wrap .i64 (t38 + (1 : Int))) old (st s_alias_Base now ((t38).toNat) (nxtR f defs old t38)))))))) (hd (r27_Bases_L2 f defs false k t36 t37 (IntKind.wrap .i64 (t38 + (1 : Int))) old (st s_alias_Base now ((t38).toNat) (nxtR f defs old t38))))))))) (hd (r27_Bases_L2 f defs done k t36 t37 (IntKind.wrap .i64 (t38 + (1 : Int))) old now)))) (hd (r27_Bases_L0 f defs done (IntKind.wrap .i64 (k + (1 : Int))) now))) := by kernel_rfl
theorem r27_Bases_L4_t (done : Bool) (t68 : List (Den I)) (t69 : Int) (t70 : Int) (old : List (Den s_alias_Base)) : run E_A17 H_A17 f_r27_Bases 3000 (r27_Bases_L4 done t68 t69 t70 old) = (cond (decide (t70 < t69)) (.chk (0 ≤ t70 ∧ t70 < (ln I t68)) (cond ((z (gd I t68 ((t70).toNat))) == (5 : Int)) (cond (!done) (.chk (True) (.know (okD s_alias_Base (ownR t70)) (.chk (0 ≤ t70 ∧ t70 < (ln s_alias_Base old)) (.chk ((t70).toNat < (ln s_alias_Base old)) (hd (r27_Bases_L4 done t68 t69 (IntKind.wrap .i64 (t70 + (1 : Int))) (st s_alias_Base old ((t70).toNat) (ownR t70)))))))) (.chk (0 ≤ t70 ∧ t70 < (ln s_alias_Base old)) (.chk ((t70).toNat < (ln s_alias_Base old)) (cond ((z ((gd s_alias_Base old ((t70).toNat)).1)) == (0 : Int)) (.chk (True) (.know (okD s_alias_Base (ownR t70)) (.chk (0 ≤ t70 ∧ t70 < (ln s_alias_Base old)) (.chk ((t70).toNat < (ln s_alias_Base old)) (hd (r27_Bases_L4 done t68 t69 (IntKind.wrap .i64 (t70 + (1 : Int))) (st s_alias_Base old ((t70).toNat) (ownR t70)))))))) (hd (r27_Bases_L4 done t68 t69 (IntKind.wrap .i64 (t70 + (1 : Int))) old)))))) (hd (r27_Bases_L4 done t68 t69 (IntKind.wrap .i64 (t70 + (1 : Int))) old)))) (rt (.tv (.sl 32 s_alias_Base) old) [])) := by kernel_rfl
noncomputable def alias_allocas_L0 (f : Den s_api_Func) (t11 : List (Den (.sl 16 s_api_Pos))) (t12 : Int) (t13 : Int) (out : List (Den .bool)) : Cfg := hcfg E_A17 f_alias_allocas 0 [(1, (.rtp s_api_Func f)), (3, (.osl 0 0 [] none)), (11, (.tv (.sl 24 (.sl 16 s_api_Pos)) t11)), (12, (vi t12)), (13, (vi t13))] [(0, ⟨(.arr 0 1 .bool out), 0, [], false, none⟩)] 1
theorem alias_allocas_t (f : Den s_api_Func) : run E_A17 H_A17 f_alias_allocas 3000 (start E_A17 f_alias_allocas [(.tv s_api_Func f)]) = (.chk (((ln I f.2.2.2.1) : Int) = ((ln I f.2.2.2.1) : Int)) (.chk (0 ≤ ((ln I f.2.2.2.1) : Int)) (.chk ((ln I f.2.2.2.1) * 1 ≤ roomB) (.chk (smallF f) (.know (okD (.sl 24 (.sl 16 s_api_Pos)) (defsF f)) (hd (alias_allocas_L0 f (defsF f) ((ln (.sl 16 s_api_Pos) (defsF f)) : Int) (0 : Int) (List.replicate (ln I f.2.2.2.1) (dz .bool))))))))) := by kernel_rfl
theorem alias_allocas_L0_t (f : Den s_api_Func) (t11 : List (Den (.sl 16 s_api_Pos))) (t12 : Int) (t13 : Int) (out : List (Den .bool)) : run E_A17 H_A17 f_alias_allocas 3000 (alias_allocas_L0 f t11 t12 t13 out) = (cond (decide (t13 < t12)) (.chk (0 ≤ t13 ∧ t13 < (ln (.sl 16 s_api_Pos) t11)) (cond (((ln s_api_Pos (gd (.sl 16 s_api_Pos) t11 ((t13).toNat))) : Int) == (1 : Int)) (.chk (0 ≤ (0 : Int) ∧ (0 : Int) < (ln s_api_Pos (gd (.sl 16 s_api_Pos) t11 ((t13).toNat)))) (cond (decide ((z (((gd s_api_Pos (gd (.sl 16 s_api_Pos) t11 ((t13).toNat)) (0 : Nat)).2).1)) ≥ (0 : Int))) (.chk (0 ≤ (0 : Int) ∧ (0 : Int) < (ln s_api_Pos (gd (.sl 16 s_api_Pos) t11 ((t13).toNat)))) (.chk (0 ≤ (z ((gd s_api_Pos (gd (.sl 16 s_api_Pos) t11 ((t13).toNat)) (0 : Nat)).1)) ∧ (z ((gd s_api_Pos (gd (.sl 16 s_api_Pos) t11 ((t13).toNat)) (0 : Nat)).1)) < (ln s_api_Block f.2.2.2.2.1)) (.chk (0 ≤ (0 : Int) ∧ (0 : Int) < (ln s_api_Pos (gd (.sl 16 s_api_Pos) t11 ((t13).toNat)))) (.chk (0 ≤ (z (((gd s_api_Pos (gd (.sl 16 s_api_Pos) t11 ((t13).toNat)) (0 : Nat)).2).1)) ∧ (z (((gd s_api_Pos (gd (.sl 16 s_api_Pos) t11 ((t13).toNat)) (0 : Nat)).2).1)) < (ln s_api_Instr (((gd s_api_Block f.2.2.2.2.1 (((z ((gd s_api_Pos (gd (.sl 16 s_api_Pos) t11 ((t13).toNat)) (0 : Nat)).1))).toNat)).2).1))) (.chk (0 ≤ t13 ∧ t13 < (ln .bool out)) (.chk ((t13).toNat < (ln .bool out)) (hd (alias_allocas_L0 f t11 t12 (IntKind.wrap .i64 (t13 + (1 : Int))) (st .bool out ((t13).toNat) ((z ((gd s_api_Instr (((gd s_api_Block f.2.2.2.2.1 (((z ((gd s_api_Pos (gd (.sl 16 s_api_Pos) t11 ((t13).toNat)) (0 : Nat)).1))).toNat)).2).1) (((z (((gd s_api_Pos (gd (.sl 16 s_api_Pos) t11 ((t13).toNat)) (0 : Nat)).2).1))).toNat)).1)) == (26 : Int))))))))))) (.chk (0 ≤ t13 ∧ t13 < (ln .bool out)) (.chk ((t13).toNat < (ln .bool out)) (hd (alias_allocas_L0 f t11 t12 (IntKind.wrap .i64 (t13 + (1 : Int))) (st .bool out ((t13).toNat) false))))))) (.chk (0 ≤ t13 ∧ t13 < (ln .bool out)) (.chk ((t13).toNat < (ln .bool out)) (hd (alias_allocas_L0 f t11 t12 (IntKind.wrap .i64 (t13 + (1 : Int))) (st .bool out ((t13).toNat) false))))))) (rt (.tv (.sl 1 .bool) out) [])) := by kernel_rfl
def fillT (S : Sh) (n : Nat) (g : Nat → Den S) (z0 : Den S) (i : Nat) : List (Den S) := tab S n fun j => if j < i then g j else z0
theorem fill_ln {S : Sh} {n : Nat} {g : Nat → Den S} {z0 : Den S} {i : Nat} : ln S (fillT S n g z0 i) = n := tab_ln
theorem fill_st {S : Sh} {n : Nat} {g : Nat → Den S} {z0 x : Den S} {i : Nat} (h : g i = x) : st S (fillT S n g z0 i) i x = fillT S n g z0 (i + 1) := by
  unfold fillT
  rw [tab_st]
  refine tab_ext fun j _ => ?_
  by_cases h1 : j = i
  · rw [if_pos h1, if_pos (by omega), h1, h]
  · rw [if_neg h1]
    by_cases h2 : j < i
    · rw [if_pos h2, if_pos (by omega)]
    · rw [if_neg h2, if_neg (by omega)]
theorem fill_0 {S : Sh} {n : Nat} {g : Nat → Den S} {z0 : Den S} : List.replicate n z0 = fillT S n g z0 0 := by
  rw [tab_rep (S := S)]
  exact tab_ext fun j _ => by rw [if_neg (by omega)]
theorem fill_n {S : Sh} {n : Nat} {g : Nat → Den S} {z0 : Den S} : fillT S n g z0 n = tab S n g := tab_ext fun j hj => by rw [if_pos hj]
theorem ptrR_at {f : Fn} {i : Nat} (hi : i < nR f) : ptrR f (i : Int) = (z (gd I f.2.2.2.1 i) == 5) := by
  unfold ptrR
  have hi' : i < ln I f.2.2.2.1 := hi
  rw [show decide ((i : Int) ≥ 0) = true from decide_eq_true (by omega), show decide ((i : Int) < (ln I f.2.2.2.1 : Int)) = true from decide_eq_true (by omega)]
  rfl
def okP (f : Fn) (now : List Bs) : Prop := ∀ j, j < nR f → ptrR f (j : Int) = false → gd s_alias_Base now j = zB
theorem okP_rnd {f : Fn} {now : List Bs} : okP f (rndF f now) := fun j hj h => by
  unfold rndF
  rw [tab_gd hj]
  exact if_neg (by rw [h]; decide)
theorem okP_zeros (f : Fn) : okP f (zeros f) := fun j hj _ => by
  unfold zeros
  rw [tab_rep (S := s_alias_Base), tab_gd hj]
def alcL (f : Fn) (j : Nat) : Bool := alcR f (defsF f) (j : Int)
def allocsF (f : Fn) : Den (.sl 1 .bool) := tab .bool (nR f) (alcL f)
theorem rb_l4 (f : Fn) (hl : nR f < 9223372036854775807) (done : Bool) (now : List Bs) (hn : okNow f now) : ∀ i, i ≤ nR f → Runs E_A17 (r27_Bases_L4 done f.2.2.2.1 (nR f : Nat) i (finT f done now i)) (fun x h => x = .tv (.sl 32 s_alias_Base) (finL f (done, now)) ∧ h = []) :=
  up_ind (.tree E_A17_ok (r27_Bases_L4_t _ _ _ _ _) (by
    rw [finT_n]
    simp only [wp_iff, chk_iff, know_iff, any_iff, rt_iff, hd_iff, true_imp_iff, true_and, and_true, and_self, lt01, Int.ofNat_lt, Int.ofNat_le, Int.natCast_nonneg, Int.toNat_natCast, decide_true, decide_false, Bool.true_eq_false, Bool.false_eq_true, false_imp_iff, Nat.lt_irrefl, imp_self, implies_true,  true_and]
    rfl))
    fun i hi ih => .tree E_A17_ok (r27_Bases_L4_t _ _ _ _ _) (by
      have hi' : i < ln I f.2.2.2.1 := hi
      have hp := ptrR_at hi
      simp only [wp_iff, chk_iff, know_iff, any_iff, rt_iff, hd_iff, true_imp_iff, true_and, and_true, and_self, lt01, Int.ofNat_lt, Int.ofNat_le, Int.natCast_nonneg, Int.toNat_natCast, decide_true, decide_false, Bool.true_eq_false, Bool.false_eq_true, false_imp_iff, Nat.lt_irrefl, imp_self, implies_true,  hi, hi', finT_ln, wrapS hi hl, finT_gd hi, ← hp]
      refine ⟨fun h1 => ⟨fun h2 _ => ?_, fun h2 => ⟨fun h3 _ => ?_, fun h3 => ?_⟩⟩, fun h1 => ?_⟩
      · have := finT_st (fin_own h1 (.inl (by simpa using h2)) : finB f done now i = ownP (i : Int))
        rw [← this] at ih
        exact ih
      · have := finT_st (fin_own h1 (.inr (hn.2 i (by rw [hn.1]; exact hi) (beq_t h3))) : finB f done now i = ownP (i : Int))
        rw [← this] at ih
        exact ih
      · rw [finT_same (fin_keep (by simpa using h2) fun e => beq_f h3 (by rw [e]; rfl))]
        exact ih
      · rw [finT_same (fin_not h1)]
        exact ih)
theorem rb_l2 (f : Fn) (hs : smallF f) (hl : nR f < 9223372036854775807) (now : List Bs) (hn : okNow f now) (hP : okP f now) (k : Int) (Q : AV → Heap → Prop)
    (h : Runs E_A17 (r27_Bases_L0 f (defsF f) (!(chG f now (nR f))) (IntKind.wrap .i64 (k + 1)) (rndF f now)) Q) :
    ∀ i, i ≤ nR f → Runs E_A17 (r27_Bases_L2 f (defsF f) (!(chG f now i)) k f.2.2.2.1 (nR f : Nat) i now (outT f now i)) Q :=
  up_ind (.tree E_A17_ok (r27_Bases_L2_t _ _ _ _ _ _ _ _ _) (by
    rw [outT_n]
    simp only [wp_iff, chk_iff, know_iff, any_iff, rt_iff, hd_iff, true_imp_iff, true_and, and_true, and_self, lt01, Int.ofNat_lt, Int.ofNat_le, Int.natCast_nonneg, Int.toNat_natCast, decide_true, decide_false, Bool.true_eq_false, Bool.false_eq_true, false_imp_iff, Nat.lt_irrefl, imp_self, implies_true,  true_and]
    exact h))
    fun i hi ih => .tree E_A17_ok (r27_Bases_L2_t _ _ _ _ _ _ _ _ _) (by
      have hi' : i < ln I f.2.2.2.1 := hi
      have hp := ptrR_at hi
      have hin : i < ln s_alias_Base now := by rw [hn.1]; exact hi
      rw [chG] at ih
      by_cases hq : ptrR f (i : Int) = true
      · have hN : nxtR f (defsF f) now (i : Int) = outB f now i := (if_pos hq).symm
        have hpre : preM f (defsF f) now (z (i : Int)) := ⟨hs, hn, good_defs f, hq⟩
        simp only [wp_iff, chk_iff, know_iff, any_iff, rt_iff, hd_iff, true_imp_iff, true_and, and_true, and_self, lt01, Int.ofNat_lt, Int.ofNat_le, Int.natCast_nonneg, Int.toNat_natCast, decide_true, decide_false, Bool.true_eq_false, Bool.false_eq_true, false_imp_iff, Nat.lt_irrefl, imp_self, implies_true,  hi, hi', ← hp, hq, hN, hpre, outT_ln, outT_st, outT_gd hi, hin, wrapS hi hl]
        refine fun _ => ⟨fun hd => ?_, fun hd => ?_⟩
        · have hd' : chG f now i = false := by simpa using hd
          rw [hd', Bool.false_or, Bool.not_not] at ih
          exact ih
        · have hd' : chG f now i = true := by simpa using hd
          rw [hd', Bool.true_or] at ih
          exact ih
      · have hq' : ptrR f (i : Int) = false := by cases h : ptrR f (i : Int) with | true => exact absurd h hq | false => rfl
        have hO : outB f now i = zB := if_neg hq
        have hz : eqBs (outB f now i) (gd s_alias_Base now i) = true := by rw [hO, hP i hi hq']; exact eqBs_refl _
        rw [hz, Bool.not_true, Bool.or_false] at ih
        rw [outT_z hO]
        simp only [wp_iff, chk_iff, know_iff, any_iff, rt_iff, hd_iff, true_imp_iff, true_and, and_true, and_self, lt01, Int.ofNat_lt, Int.ofNat_le, Int.natCast_nonneg, Int.toNat_natCast, decide_true, decide_false, Bool.true_eq_false, Bool.false_eq_true, false_imp_iff, Nat.lt_irrefl, imp_self, implies_true,  hi, hi', ← hp, hq', wrapS hi hl]
        exact ih)
theorem rb_done (f : Fn) (hl : nR f < 9223372036854775807) (now : List Bs) (hn : okNow f now) (k : Int) : Runs E_A17 (r27_Bases_L0 f (defsF f) true k now) (fun x h => x = .tv (.sl 32 s_alias_Base) (finL f (true, now)) ∧ h = []) :=
  .tree E_A17_ok (r27_Bases_L0_t _ _ _ _ _) (by
    have h0 := rb_l4 f hl true now hn 0 (Nat.zero_le _)
    rw [← finT_0 hn.1] at h0
    exact wp_cond (fun _ => wp_cond (fun h => absurd h (by decide)) fun _ => h0) fun _ => h0)
theorem rb_l0 (f : Fn) (hs : smallF f) (hl : nR f ≤ 4194304) : ∀ m, m ≤ 8 * (nR f + 1) → ∀ now, okNow f now → okP f now → Runs E_A17 (r27_Bases_L0 f (defsF f) false ((8 * (nR f + 1) - m : Nat) : Int) now) (fun x h => x = .tv (.sl 32 s_alias_Base) (finL f (basesGo f m now)) ∧ h = [])
  | 0, _, now, hn, hP => .tree E_A17_ok (r27_Bases_L0_t _ _ _ _ _) (by
    have h0 := rb_l4 f (by omega) false now hn 0 (Nat.zero_le _)
    rw [← finT_0 hn.1] at h0
    have e2 : ln I f.2.2.2.1 = nR f := rfl
    rw [show IntKind.wrap .i64 ((ln I f.2.2.2.1 : Int) + 1) = (ln I f.2.2.2.1 : Int) + 1 from wrap64 _ (by omega) (by omega), wrap64 _ (by omega) (by omega)]
    exact wp_cond (fun h => absurd (of_decide_eq_true h) (by omega)) fun _ => h0)
  | m + 1, hm, now, hn, hP => .tree E_A17_ok (r27_Bases_L0_t _ _ _ _ _) (by
    have e2 : ln I f.2.2.2.1 = nR f := rfl
    rw [show IntKind.wrap .i64 ((ln I f.2.2.2.1 : Int) + 1) = (ln I f.2.2.2.1 : Int) + 1 from wrap64 _ (by omega) (by omega), wrap64 (8 * _) (by omega) (by omega)]
    refine wp_cond (fun _ => wp_cond (fun _ => ?_) fun h => absurd h (by decide)) fun h => absurd (of_decide_eq_false h) (by omega)
    have hr := rb_l2 f hs (by omega) now hn hP ((8 * (nR f + 1) - (m + 1) : Nat) : Int) (fun x h => x = .tv (.sl 32 s_alias_Base) (finL f (basesGo f (m + 1) now)) ∧ h = []) (by
      rw [show IntKind.wrap .i64 (((8 * (nR f + 1) - (m + 1) : Nat) : Int) + 1) = ((8 * (nR f + 1) - m : Nat) : Int) by rw [wrap64 _ (by omega) (by omega)]; omega]
      cases hc : chG f now (nR f) with
      | true =>
        have e : basesGo f (m + 1) now = basesGo f m (rndF f now) := if_pos hc
        rw [e]
        exact rb_l0 f hs hl m (by omega) (rndF f now) (okNow_rnd hn) okP_rnd
      | false =>
        have e : basesGo f (m + 1) now = (true, rndF f now) := if_neg (by rw [hc]; decide)
        rw [e]
        exact rb_done f (by omega) (rndF f now) (okNow_rnd hn) _) 0 (Nat.zero_le _)
    rw [← outT_0] at hr
    exact ⟨rfl, fun _ => ⟨by omega, fun _ => ⟨by unfold roomB; omega, fun _ => hr⟩⟩⟩)
def k_r27_Bases : Con := con [.d s_api_Func] (.sl 32 s_alias_Base) (fun x => smallF x.1) fun x => basesF x.1
theorem m_r27_Bases (f : Den s_api_Func) (h_f : okD s_api_Func f) (hp : smallF f) : Runs E_A17 (start E_A17 f_r27_Bases [(.tv s_api_Func f)]) (fun r_ h_ => r_ = (.tv (.sl 32 s_alias_Base) (basesF f)) ∧ h_ = []) := .tree E_A17_ok (r27_Bases_t f) (by
  have h1 := sz_func f
  have h2 := sz_I f.2.2.2.1
  have e2 : ln I f.2.2.2.1 = nR f := rfl
  have hl : nR f ≤ 1048576 := by
    unfold smallF at hp
    omega
  have := rb_l0 f hp (by omega) (8 * (nR f + 1)) (Nat.le_refl _) (zeros f) (okNow_zeros f) (okP_zeros f)
  rw [Nat.sub_self] at this
  exact ⟨hp, fun _ _ => ⟨rfl, fun _ => ⟨by omega, fun _ => ⟨by unfold roomB; omega, fun _ => this⟩⟩⟩⟩)
theorem c_r27_Bases : SpecOK E_A17 f_r27_Bases k_r27_Bases.spec := spec_of fun x hx hp => ⟨rfl, m_r27_Bases x.1 hx.1 hp⟩
theorem alc_at {f : Fn} {i : Nat} (hi : i < nR f) : alcL f i = if (ln s_api_Pos (gd (.sl 16 s_api_Pos) (defsF f) i) : Int) = 1 ∧ z (gd s_api_Pos (gd (.sl 16 s_api_Pos) (defsF f) i) 0).2.1 ≥ 0 then (z (gd s_api_Instr (gd s_api_Block f.2.2.2.2.1 (z (gd s_api_Pos (gd (.sl 16 s_api_Pos) (defsF f) i) 0).1).toNat).2.1 (z (gd s_api_Pos (gd (.sl 16 s_api_Pos) (defsF f) i) 0).2.1).toNat).1 == 26) else false := by
  have hln : ln (.sl 16 s_api_Pos) (defsF f) = nR f := (good_defs f).1
  unfold alcL alcR defR
  rw [show decide ((i : Int) < 0) = false from decide_eq_false (by omega), show decide ((i : Int) ≥ (ln (.sl 16 s_api_Pos) (defsF f) : Int)) = false from decide_eq_false (by omega)]
  simp only [cond_false, Int.toNat_natCast]
  by_cases h1 : (ln s_api_Pos (gd (.sl 16 s_api_Pos) (defsF f) i) : Int) = 1
  · rw [show ((ln s_api_Pos (gd (.sl 16 s_api_Pos) (defsF f) i) : Int) != 1) = false by simp [h1]]
    by_cases h2 : z (gd s_api_Pos (gd (.sl 16 s_api_Pos) (defsF f) i) 0).2.1 ≥ 0
    · rw [if_pos ⟨h1, h2⟩, show decide (z (gd s_api_Pos (gd (.sl 16 s_api_Pos) (defsF f) i) 0).2.1 < 0) = false from decide_eq_false (by omega)]
      rfl
    · rw [if_neg (fun h => h2 h.2), show decide (z (gd s_api_Pos (gd (.sl 16 s_api_Pos) (defsF f) i) 0).2.1 < 0) = true from decide_eq_true (by omega)]
      rfl
  · rw [if_neg (fun h => h1 h.1), show ((ln s_api_Pos (gd (.sl 16 s_api_Pos) (defsF f) i) : Int) != 1) = true by simp [h1]]
    rfl
theorem alc_l (f : Fn) (hl : nR f < 9223372036854775807) : ∀ i, i ≤ nR f → Runs E_A17 (alias_allocas_L0 f (defsF f) (nR f : Nat) i (fillT .bool (nR f) (alcL f) false i)) (fun x h => x = .tv (.sl 1 .bool) (allocsF f) ∧ h = []) :=
  up_ind (.tree E_A17_ok (alias_allocas_L0_t _ _ _ _ _) (by
    rw [fill_n]
    simp only [wp_iff, chk_iff, know_iff, any_iff, rt_iff, hd_iff, true_imp_iff, true_and, and_true, and_self, lt01, Int.ofNat_lt, Int.ofNat_le, Int.natCast_nonneg, Int.toNat_natCast, decide_true, decide_false, Bool.true_eq_false, Bool.false_eq_true, false_imp_iff, Nat.lt_irrefl, imp_self, implies_true,  true_and]
    rfl))
    fun i hi ih => .tree E_A17_ok (alias_allocas_L0_t _ _ _ _ _) (by
      have hln : i < ln (.sl 16 s_api_Pos) (defsF f) := by rw [(good_defs f).1]; exact hi
      have ha := alc_at hi
      have hg := fun h0 => good_raw (good_defs f) hln h0
      simp only [wp_iff, chk_iff, know_iff, any_iff, rt_iff, hd_iff, true_imp_iff, true_and, and_true, and_self, lt01, Int.ofNat_lt, Int.ofNat_le, Int.natCast_nonneg, Int.toNat_natCast, decide_true, decide_false, Bool.true_eq_false, Bool.false_eq_true, false_imp_iff, Nat.lt_irrefl, imp_self, implies_true,  hi, hln, fill_ln, wrapS hi hl]
      refine ⟨fun h1 => ?_, fun h1 => ?_⟩
      · have e1 := beq_t h1
        have hpos : 0 < ln s_api_Pos (gd (.sl 16 s_api_Pos) (defsF f) i) := by omega
        have g := hg hpos
        have q0 : (0 : Int) ≤ 0 ∧ (0 : Int) < (ln s_api_Pos (gd (.sl 16 s_api_Pos) (defsF f) i) : Int) := ⟨Int.le_refl _, by omega⟩
        refine ⟨q0, fun _ => ⟨fun h2 => ?_, fun h2 => ?_⟩⟩
        · have e2 := of_decide_eq_true h2
          rw [if_pos ⟨e1, e2⟩] at ha
          rw [← fill_st ha] at ih
          exact ⟨q0, fun _ => ⟨g.1, fun _ => ⟨q0, fun _ => ⟨⟨e2, g.2⟩, fun _ => ih⟩⟩⟩⟩
        · have e2 := of_decide_eq_false h2
          rw [if_neg (fun h => e2 h.2)] at ha
          rw [← fill_st ha] at ih
          exact ih
      · have e1 := beq_f h1
        rw [if_neg (fun h => e1 h.1)] at ha
        rw [← fill_st ha] at ih
        exact ih)
def k_alias_allocas : Con := con [.d s_api_Func] (.sl 1 .bool) (fun x => smallF x.1) fun x => allocsF x.1
theorem m_alias_allocas (f : Den s_api_Func) (h_f : okD s_api_Func f) (hp : smallF f) : Runs E_A17 (start E_A17 f_alias_allocas [(.tv s_api_Func f)]) (fun r_ h_ => r_ = (.tv (.sl 1 .bool) (allocsF f)) ∧ h_ = []) := .tree E_A17_ok (alias_allocas_t f) (by
  have h1 := sz_func f
  have h2 := sz_I f.2.2.2.1
  have e2 : ln I f.2.2.2.1 = nR f := rfl
  have hl : nR f ≤ 1048576 := by
    unfold smallF at hp
    omega
  have := alc_l f (by omega) 0 (Nat.zero_le _)
  rw [← fill_0] at this
  have e3 : ln (.sl 16 s_api_Pos) (defsF f) = nR f := (good_defs f).1
  refine ⟨rfl, fun _ => ⟨by omega, fun _ => ⟨by unfold roomB; omega, fun _ => ⟨hp, fun _ _ => ?_⟩⟩⟩⟩
  rw [e3]
  exact this)
theorem c_alias_allocas : SpecOK E_A17 f_alias_allocas k_alias_allocas.spec := spec_of fun x hx hp => ⟨rfl, m_alias_allocas x.1 hx.1 hp⟩
def L_A17 : List (FuncId × FSpec) := [(f_r27_Bases, k_r27_Bases.spec), (f_alias_allocas, k_alias_allocas.spec)] ++ L_A16
theorem L_A17_ok : ∀ x ∈ L_A17, SpecOK (ctx []) x.1 x.2 := by
  unfold L_A17
  simp only [List.cons_append, List.nil_append, List.forall_mem_cons]
  exact ⟨c_r27_Bases, c_alias_allocas, L_A16_ok⟩
end Burn.M27Q
namespace Burn.M27Q
open Go Go.BE Go.Proofs
set_option maxRecDepth 100000
set_option linter.unusedVariables false
set_option linter.unusedSimpArgs false
open Burn.Cfg Burn.Intn Burn.Ref
noncomputable abbrev E_A18 : Ctx := ctx L_A17
theorem E_A18_ok : EOK E_A18 := ctx_ok L_A17_ok
def cuts_A18 : CutL := [([], 38, 0, [1, 3, 24, 25, 26], [], []),
  ([], 38, 2, [1, 3, 5, 24, 25, 26, 31, 32, 33], [], []),
  ([], 38, 4, [1, 3, 5, 24, 25, 26, 53, 54, 55], [], []),
  ([], 38, 6, [1, 3, 24, 25, 26, 65, 66, 67], [], []),
  ([], 38, 8, [3, 12, 82, 83], [], []),
  ([(38, 2370)], 53, 0, [0, 3, 7, 8, 9], [], [[1, 3, 5, 24, 25, 26, 31, 32, 33]]),
  ([(38, 4546)], 55, 0, [0, 3, 29, 30, 31], [], [[1, 3, 24, 25, 26, 65, 66, 67]])]
def rets_A18 : FuncId → List (Option Fx)
  | 38 => [some (.dat (.sl 1 .bool))]
  | _ => []
def H_A18 : Hints := { cut := cutOf cuts_A18, ret := rets_A18 }
noncomputable def alias_Escapes_L0 (f : Den s_api_Func) (t24 : List (Den s_api_Block)) (t25 : Int) (t26 : Int) (x_0 : ByteArray) (x_1 : List (Den I)) (x_2 : Int) (x_3 : List (Den I)) (x_4 : List (Den s_api_Block)) (x_5 : List (Den s_alias_Base)) (x_6 : List (Den .bool)) : Cfg := hcfg E_A18 f_alias_Escapes 0 [(1, (.rtp s_api_Func f)), (3, (.ref 0 0)), (24, (.tv (.sl 136 s_api_Block) t24)), (25, (vi t25)), (26, (vi t26))] [(0, ⟨(.cells [(vs x_0), (.tv (.sl 8 I) x_1), (vi x_2), (.tv (.sl 8 I) x_3), (.tv (.sl 136 s_api_Block) x_4), (.tv (.sl 32 s_alias_Base) x_5), (.osl 1 1 [] none)]), 0, [], false, none⟩), (1, ⟨(.arr 0 1 .bool x_6), 1, [], false, none⟩)] 2
noncomputable def alias_Escapes_L2 (f : Den s_api_Func) (t24 : List (Den s_api_Block)) (t25 : Int) (t26 : Int) (t31 : List (Den s_api_Instr)) (t32 : Int) (t33 : Int) (x_0 : ByteArray) (x_1 : List (Den I)) (x_2 : Int) (x_3 : List (Den I)) (x_4 : List (Den s_api_Block)) (x_5 : List (Den s_alias_Base)) (b_0 : List (Den I)) (b_1 : List (Den s_api_Instr)) (b_2 : Int) (b_3 : List (Den I)) (b_4 : List (Den I)) (b_5 : List (Den s_api_Edge)) (b_6 : Int) (x_6 : List (Den .bool)) : Cfg := hcfg E_A18 f_alias_Escapes 2 [(1, (.rtp s_api_Func f)), (3, (.ref 0 0)), (5, (.ref 1 0)), (24, (.tv (.sl 136 s_api_Block) t24)), (25, (vi t25)), (26, (vi t26)), (31, (.tv (.sl 80 s_api_Instr) t31)), (32, (vi t32)), (33, (vi t33))] [(0, ⟨(.cells [(vs x_0), (.tv (.sl 8 I) x_1), (vi x_2), (.tv (.sl 8 I) x_3), (.tv (.sl 136 s_api_Block) x_4), (.tv (.sl 32 s_alias_Base) x_5), (.osl 2 2 [] none)]), 0, [], false, none⟩), (1, ⟨(.cells [(.tv (.sl 8 I) b_0), (.tv (.sl 80 s_api_Instr) b_1), (vi b_2), (.tv (.sl 8 I) b_3), (.tv (.sl 8 I) b_4), (.tv (.sl 32 s_api_Edge) b_5), (vi b_6)]), 1, [], false, none⟩), (2, ⟨(.arr 0 1 .bool x_6), 2, [], false, none⟩)] 3
noncomputable def alias_Escapes_L8 (allocated : List (Den .bool)) (t82 : Int) (t83 : Int) (x_0 : ByteArray) (x_1 : List (Den I)) (x_2 : Int) (x_3 : List (Den I)) (x_4 : List (Den s_api_Block)) (x_5 : List (Den s_alias_Base)) (x_6 : List (Den .bool)) : Cfg := hcfg E_A18 f_alias_Escapes 8 [(3, (.ref 0 0)), (12, (.tv (.sl 1 .bool) allocated)), (82, (vi t82)), (83, (vi t83))] [(0, ⟨(.cells [(vs x_0), (.tv (.sl 8 I) x_1), (vi x_2), (.tv (.sl 8 I) x_3), (.tv (.sl 136 s_api_Block) x_4), (.tv (.sl 32 s_alias_Base) x_5), (.osl 1 1 [] none)]), 0, [], false, none⟩), (1, ⟨(.arr 0 1 .bool x_6), 1, [], false, none⟩)] 2
noncomputable def alias_Escapes_instr_L0 (in_0 : Int) (in_1 : Int) (in_2 : Int) (in_3 : List (Den I)) (in_4 : Int) (in_5 : Int) (in_6 : Int) (in_7 : Bool) (t7 : List (Den I)) (t8 : Int) (t9 : Int) (f : Den s_api_Func) (t24 : List (Den s_api_Block)) (t25 : Int) (t26 : Int) (t31 : List (Den s_api_Instr)) (t32 : Int) (t33 : Int) (x_0 : ByteArray) (x_1 : List (Den I)) (x_2 : Int) (x_3 : List (Den I)) (x_4 : List (Den s_api_Block)) (x_5 : List (Den s_alias_Base)) (b_0 : List (Den I)) (b_1 : List (Den s_api_Instr)) (b_2 : Int) (b_3 : List (Den I)) (b_4 : List (Den I)) (b_5 : List (Den s_api_Edge)) (b_6 : Int) (x_6 : List (Den .bool)) : Cfg := hcfgx E_A18 f_alias_escapes_instr 0 [(0, (.ref 0 0)), (3, (.rop [(vi in_0), (vi in_1), (vi in_2), (.tv (.sl 8 I) in_3), (vi in_4), (vi in_5), (vi in_6), (vb in_7)] 0)), (7, (.tv (.sl 8 I) t7)), (8, (vi t8)), (9, (vi t9))] [(0, ⟨(.cells [(vs x_0), (.tv (.sl 8 I) x_1), (vi x_2), (.tv (.sl 8 I) x_3), (.tv (.sl 136 s_api_Block) x_4), (.tv (.sl 32 s_alias_Base) x_5), (.osl 2 2 [] none)]), 0, [], false, none⟩), (1, ⟨(.cells [(.tv (.sl 8 I) b_0), (.tv (.sl 80 s_api_Instr) b_1), (vi b_2), (.tv (.sl 8 I) b_3), (.tv (.sl 8 I) b_4), (.tv (.sl 32 s_api_Edge) b_5), (vi b_6)]), 1, [], false, none⟩), (2, ⟨(.arr 0 1 .bool x_6), 2, [], false, none⟩)] 3 [cfr E_A18 f_alias_Escapes 2 [(1, (.rtp s_api_Func f)), (3, (.ref 0 0)), (5, (.ref 1 0)), (24, (.tv (.sl 136 s_api_Block) t24)), (25, (vi t25)), (26, (vi t26)), (31, (.tv (.sl 80 s_api_Instr) t31)), (32, (vi t32)), (33, (vi t33))]]
noncomputable def alias_Escapes_L4 (f : Den s_api_Func) (t24 : List (Den s_api_Block)) (t25 : Int) (t26 : Int) (t53 : List (Den I)) (t54 : Int) (t55 : Int) (x_0 : ByteArray) (x_1 : List (Den I)) (x_2 : Int) (x_3 : List (Den I)) (x_4 : List (Den s_api_Block)) (x_5 : List (Den s_alias_Base)) (b_0 : List (Den I)) (b_1 : List (Den s_api_Instr)) (b_2 : Int) (b_3 : List (Den I)) (b_4 : List (Den I)) (b_5 : List (Den s_api_Edge)) (b_6 : Int) (x_6 : List (Den .bool)) : Cfg := hcfg E_A18 f_alias_Escapes 4 [(1, (.rtp s_api_Func f)), (3, (.ref 0 0)), (5, (.ref 1 0)), (24, (.tv (.sl 136 s_api_Block) t24)), (25, (vi t25)), (26, (vi t26)), (53, (.tv (.sl 8 I) t53)), (54, (vi t54)), (55, (vi t55))] [(0, ⟨(.cells [(vs x_0), (.tv (.sl 8 I) x_1), (vi x_2), (.tv (.sl 8 I) x_3), (.tv (.sl 136 s_api_Block) x_4), (.tv (.sl 32 s_alias_Base) x_5), (.osl 2 2 [] none)]), 0, [], false, none⟩), (1, ⟨(.cells [(.tv (.sl 8 I) b_0), (.tv (.sl 80 s_api_Instr) b_1), (vi b_2), (.tv (.sl 8 I) b_3), (.tv (.sl 8 I) b_4), (.tv (.sl 32 s_api_Edge) b_5), (vi b_6)]), 1, [], false, none⟩), (2, ⟨(.arr 0 1 .bool x_6), 2, [], false, none⟩)] 3
noncomputable def alias_Escapes_L6 (f : Den s_api_Func) (t24 : List (Den s_api_Block)) (t25 : Int) (t26 : Int) (t65 : List (Den s_api_Edge)) (t66 : Int) (t67 : Int) (x_0 : ByteArray) (x_1 : List (Den I)) (x_2 : Int) (x_3 : List (Den I)) (x_4 : List (Den s_api_Block)) (x_5 : List (Den s_alias_Base)) (x_6 : List (Den .bool)) : Cfg := hcfg E_A18 f_alias_Escapes 6 [(1, (.rtp s_api_Func f)), (3, (.ref 0 0)), (24, (.tv (.sl 136 s_api_Block) t24)), (25, (vi t25)), (26, (vi t26)), (65, (.tv (.sl 32 s_api_Edge) t65)), (66, (vi t66)), (67, (vi t67))] [(0, ⟨(.cells [(vs x_0), (.tv (.sl 8 I) x_1), (vi x_2), (.tv (.sl 8 I) x_3), (.tv (.sl 136 s_api_Block) x_4), (.tv (.sl 32 s_alias_Base) x_5), (.osl 1 1 [] none)]), 0, [], false, none⟩), (1, ⟨(.arr 0 1 .bool x_6), 1, [], false, none⟩)] 2
noncomputable def alias_Escapes_edge_L0 (e_0 : Int) (e_1 : List (Den I)) (t29 : List (Den I)) (t30 : Int) (t31 : Int) (f : Den s_api_Func) (t24 : List (Den s_api_Block)) (t25 : Int) (t26 : Int) (t65 : List (Den s_api_Edge)) (t66 : Int) (t67 : Int) (x_0 : ByteArray) (x_1 : List (Den I)) (x_2 : Int) (x_3 : List (Den I)) (x_4 : List (Den s_api_Block)) (x_5 : List (Den s_alias_Base)) (x_6 : List (Den .bool)) : Cfg := hcfgx E_A18 f_alias_escapes_edge 0 [(0, (.ref 0 0)), (3, (.rop [(vi e_0), (.tv (.sl 8 I) e_1)] 0)), (29, (.tv (.sl 8 I) t29)), (30, (vi t30)), (31, (vi t31))] [(0, ⟨(.cells [(vs x_0), (.tv (.sl 8 I) x_1), (vi x_2), (.tv (.sl 8 I) x_3), (.tv (.sl 136 s_api_Block) x_4), (.tv (.sl 32 s_alias_Base) x_5), (.osl 1 1 [] none)]), 0, [], false, none⟩), (1, ⟨(.arr 0 1 .bool x_6), 1, [], false, none⟩)] 2 [cfr E_A18 f_alias_Escapes 6 [(1, (.rtp s_api_Func f)), (3, (.ref 0 0)), (24, (.tv (.sl 136 s_api_Block) t24)), (25, (vi t25)), (26, (vi t26)), (65, (.tv (.sl 32 s_api_Edge) t65)), (66, (vi t66)), (67, (vi t67))]]
theorem alias_Escapes_t (f : Den s_api_Func) : run E_A18 H_A18 f_alias_Escapes 3000 (start E_A18 f_alias_Escapes [(.tv s_api_Func f)]) = (.chk (smallF f) (.chk (((ln I f.2.2.2.1) : Int) = ((ln I f.2.2.2.1) : Int)) (.chk (0 ≤ ((ln I f.2.2.2.1) : Int)) (.chk ((ln I f.2.2.2.1) * 1 ≤ roomB) (.know (okD (.sl 32 s_alias_Base) (basesF f)) (hd (alias_Escapes_L0 f f.2.2.2.2.1 ((ln s_api_Block f.2.2.2.2.1) : Int) (0 : Int) (tOf f.1) f.2.1 (z f.2.2.1) f.2.2.2.1 f.2.2.2.2.1 (basesF f) (List.replicate (ln I f.2.2.2.1) (dz .bool))))))))) := by kernel_rfl
theorem alias_Escapes_L0_t (f : Den s_api_Func) (t24 : List (Den s_api_Block)) (t25 : Int) (t26 : Int) (x_0 : ByteArray) (x_1 : List (Den I)) (x_2 : Int) (x_3 : List (Den I)) (x_4 : List (Den s_api_Block)) (x_5 : List (Den s_alias_Base)) (x_6 : List (Den .bool)) : run E_A18 H_A18 f_alias_Escapes 3000 (alias_Escapes_L0 f t24 t25 t26 x_0 x_1 x_2 x_3 x_4 x_5 x_6) = (cond (decide (t26 < t25)) (.chk (0 ≤ t26 ∧ t26 < (ln s_api_Block t24)) (hd (alias_Escapes_L2 f t24 t25 t26 (((gd s_api_Block t24 ((t26).toNat)).2).1) ((ln s_api_Instr (((gd s_api_Block t24 ((t26).toNat)).2).1)) : Int) (0 : Int) x_0 x_1 x_2 x_3 x_4 x_5 ((gd s_api_Block t24 ((t26).toNat)).1) (((gd s_api_Block t24 ((t26).toNat)).2).1) (z (((((gd s_api_Block t24 ((t26).toNat)).2).2).1).1)) ((((((gd s_api_Block t24 ((t26).toNat)).2).2).1).2).1) (((((((gd s_api_Block t24 ((t26).toNat)).2).2).1).2).2).1) ((((((((gd s_api_Block t24 ((t26).toNat)).2).2).1).2).2).2).1) (z (((((((((gd s_api_Block t24 ((t26).toNat)).2).2).1).2).2).2).2).1)) x_6))) (.chk (smallF f) (.know (okD (.sl 1 .bool) (allocsF f)) (hd (alias_Escapes_L8 (allocsF f) ((ln .bool x_6) : Int) (0 : Int) x_0 x_1 x_2 x_3 x_4 x_5 x_6))))) := by kernel_rfl
theorem alias_Escapes_L2_t (f : Den s_api_Func) (t24 : List (Den s_api_Block)) (t25 : Int) (t26 : Int) (t31 : List (Den s_api_Instr)) (t32 : Int) (t33 : Int) (x_0 : ByteArray) (x_1 : List (Den I)) (x_2 : Int) (x_3 : List (Den I)) (x_4 : List (Den s_api_Block)) (x_5 : List (Den s_alias_Base)) (b_0 : List (Den I)) (b_1 : List (Den s_api_Instr)) (b_2 : Int) (b_3 : List (Den I)) (b_4 : List (Den I)) (b_5 : List (Den s_api_Edge)) (b_6 : Int) (x_6 : List (Den .bool)) : run E_A18 H_A18 f_alias_Escapes 3000 (alias_Escapes_L2 f t24 t25 t26 t31 t32 t33 x_0 x_1 x_2 x_3 x_4 x_5 b_0 b_1 b_2 b_3 b_4 b_5 b_6 x_6) = (cond (decide (t33 < t32)) (.chk (0 ≤ t33 ∧ t33 < (ln s_api_Instr t31)) (hd (alias_Escapes_instr_L0 (z ((gd s_api_Instr t31 ((t33).toNat)).1)) (z (((gd s_api_Instr t31 ((t33).toNat)).2).1)) (z ((((gd s_api_Instr t31 ((t33).toNat)).2).2).1)) (((((gd s_api_Instr t31 ((t33).toNat)).2).2).2).1) (z ((((((gd s_api_Instr t31 ((t33).toNat)).2).2).2).2).1)) (z (((((((gd s_api_Instr t31 ((t33).toNat)).2).2).2).2).2).1)) (z ((((((((gd s_api_Instr t31 ((t33).toNat)).2).2).2).2).2).2).1)) (bOf (((((((((gd s_api_Instr t31 ((t33).toNat)).2).2).2).2).2).2).2).1)) (((((gd s_api_Instr t31 ((t33).toNat)).2).2).2).1) ((ln I (((((gd s_api_Instr t31 ((t33).toNat)).2).2).2).1)) : Int) (0 : Int) f t24 t25 t26 t31 t32 t33 x_0 x_1 x_2 x_3 x_4 x_5 b_0 b_1 b_2 b_3 b_4 b_5 b_6 x_6))) (cond (b_2 == (4 : Int)) (hd (alias_Escapes_L4 f t24 t25 t26 b_3 ((ln I b_3) : Int) (0 : Int) x_0 x_1 x_2 x_3 x_4 x_5 b_0 b_1 b_2 b_3 b_4 b_5 b_6 x_6)) (cond (b_2 == (6 : Int)) (hd (alias_Escapes_L4 f t24 t25 t26 b_3 ((ln I b_3) : Int) (0 : Int) x_0 x_1 x_2 x_3 x_4 x_5 b_0 b_1 b_2 b_3 b_4 b_5 b_6 x_6)) (hd (alias_Escapes_L6 f t24 t25 t26 b_5 ((ln s_api_Edge b_5) : Int) (0 : Int) x_0 x_1 x_2 x_3 x_4 x_5 x_6))))) := by kernel_rfl
theorem alias_Escapes_L8_t (allocated : List (Den .bool)) (t82 : Int) (t83 : Int) (x_0 : ByteArray) (x_1 : List (Den I)) (x_2 : Int) (x_3 : List (Den I)) (x_4 : List (Den s_api_Block)) (x_5 : List (Den s_alias_Base)) (x_6 : List (Den .bool)) : run E_A18 H_A18 f_alias_Escapes 3000 (alias_Escapes_L8 allocated t82 t83 x_0 x_1 x_2 x_3 x_4 x_5 x_6) = (cond (decide (t83 < t82)) (.chk (0 ≤ t83 ∧ t83 < (ln .bool x_6)) (.chk ((t83).toNat < (ln .bool x_6)) (cond (bOf (gd .bool x_6 ((t83).toNat))) (.chk (0 ≤ t83 ∧ t83 < (ln .bool allocated)) (.chk (0 ≤ t83 ∧ t83 < (ln .bool x_6)) (.chk ((t83).toNat < (ln .bool x_6)) (hd (alias_Escapes_L8 allocated t82 (IntKind.wrap .i64 (t83 + (1 : Int))) x_0 x_1 x_2 x_3 x_4 x_5 (st .bool x_6 ((t83).toNat) (gd .bool allocated ((t83).toNat)))))))) (.chk (0 ≤ t83 ∧ t83 < (ln .bool x_6)) (.chk ((t83).toNat < (ln .bool x_6)) (hd (alias_Escapes_L8 allocated t82 (IntKind.wrap .i64 (t83 + (1 : Int))) x_0 x_1 x_2 x_3 x_4 x_5 (st .bool x_6 ((t83).toNat) false)))))))) (rt (.tv (.sl 1 .bool) x_6) [])) := by kernel_rfl
theorem alias_Escapes_instr_L0_t (in_0 : Int) (in_1 : Int) (in_2 : Int) (in_3 : List (Den I)) (in_4 : Int) (in_5 : Int) (in_6 : Int) (in_7 : Bool) (t7 : List (Den I)) (t8 : Int) (t9 : Int) (f : Den s_api_Func) (t24 : List (Den s_api_Block)) (t25 : Int) (t26 : Int) (t31 : List (Den s_api_Instr)) (t32 : Int) (t33 : Int) (x_0 : ByteArray) (x_1 : List (Den I)) (x_2 : Int) (x_3 : List (Den I)) (x_4 : List (Den s_api_Block)) (x_5 : List (Den s_alias_Base)) (b_0 : List (Den I)) (b_1 : List (Den s_api_Instr)) (b_2 : Int) (b_3 : List (Den I)) (b_4 : List (Den I)) (b_5 : List (Den s_api_Edge)) (b_6 : Int) (x_6 : List (Den .bool)) : run E_A18 H_A18 f_alias_Escapes 3000 (alias_Escapes_instr_L0 in_0 in_1 in_2 in_3 in_4 in_5 in_6 in_7 t7 t8 t9 f t24 t25 t26 t31 t32 t33 x_0 x_1 x_2 x_3 x_4 x_5 b_0 b_1 b_2 b_3 b_4 b_5 b_6 x_6) = (cond (decide (t9 < t8)) (.chk (0 ≤ t9 ∧ t9 < (ln I t7)) (cond (in_0 == (29 : Int)) (cond (t9 == (1 : Int)) (cond (decide ((z (gd I t7 ((t9).toNat))) < (0 : Int))) (hd (alias_Escapes_instr_L0 in_0 in_1 in_2 in_3 in_4 in_5 in_6 in_7 t7 t8 (IntKind.wrap .i64 (t9 + (1 : Int))) f t24 t25 t26 t31 t32 t33 x_0 x_1 x_2 x_3 x_4 x_5 b_0 b_1 b_2 b_3 b_4 b_5 b_6 x_6)) (cond (decide ((z (gd I t7 ((t9).toNat))) ≥ ((ln s_alias_Base x_5) : Int))) (hd (alias_Escapes_instr_L0 in_0 in_1 in_2 in_3 in_4 in_5 in_6 in_7 t7 t8 (IntKind.wrap .i64 (t9 + (1 : Int))) f t24 t25 t26 t31 t32 t33 x_0 x_1 x_2 x_3 x_4 x_5 b_0 b_1 b_2 b_3 b_4 b_5 b_6 x_6)) (.chk (0 ≤ (z (gd I t7 ((t9).toNat))) ∧ (z (gd I t7 ((t9).toNat))) < (ln s_alias_Base x_5)) (cond ((z ((gd s_alias_Base x_5 (((z (gd I t7 ((t9).toNat)))).toNat)).1)) != (2 : Int)) (hd (alias_Escapes_instr_L0 in_0 in_1 in_2 in_3 in_4 in_5 in_6 in_7 t7 t8 (IntKind.wrap .i64 (t9 + (1 : Int))) f t24 t25 t26 t31 t32 t33 x_0 x_1 x_2 x_3 x_4 x_5 b_0 b_1 b_2 b_3 b_4 b_5 b_6 x_6)) (.chk (0 ≤ (z (gd I t7 ((t9).toNat))) ∧ (z (gd I t7 ((t9).toNat))) < (ln s_alias_Base x_5)) (.chk (0 ≤ (z (((gd s_alias_Base x_5 (((z (gd I t7 ((t9).toNat)))).toNat)).2).1)) ∧ (z (((gd s_alias_Base x_5 (((z (gd I t7 ((t9).toNat)))).toNat)).2).1)) < (ln .bool x_6)) (.chk (((z (((gd s_alias_Base x_5 (((z (gd I t7 ((t9).toNat)))).toNat)).2).1))).toNat < (ln .bool x_6)) (hd (alias_Escapes_instr_L0 in_0 in_1 in_2 in_3 in_4 in_5 in_6 in_7 t7 t8 (IntKind.wrap .i64 (t9 + (1 : Int))) f t24 t25 t26 t31 t32 t33 x_0 x_1 x_2 x_3 x_4 x_5 b_0 b_1 b_2 b_3 b_4 b_5 b_6 (st .bool x_6 (((z (((gd s_alias_Base x_5 (((z (gd I t7 ((t9).toNat)))).toNat)).2).1))).toNat) true)))))))))) (hd (alias_Escapes_instr_L0 in_0 in_1 in_2 in_3 in_4 in_5 in_6 in_7 t7 t8 (IntKind.wrap .i64 (t9 + (1 : Int))) f t24 t25 t26 t31 t32 t33 x_0 x_1 x_2 x_3 x_4 x_5 b_0 b_1 b_2 b_3 b_4 b_5 b_6 x_6))) (cond (in_0 == (30 : Int)) (cond (decide ((z (gd I t7 ((t9).toNat))) < (0 : Int))) (hd (alias_Escapes_instr_L0 in_0 in_1 in_2 in_3 in_4 in_5 in_6 in_7 t7 t8 (IntKind.wrap .i64 (t9 + (1 : Int))) f t24 t25 t26 t31 t32 t33 x_0 x_1 x_2 x_3 x_4 x_5 b_0 b_1 b_2 b_3 b_4 b_5 b_6 x_6)) (cond (decide ((z (gd I t7 ((t9).toNat))) ≥ ((ln s_alias_Base x_5) : Int))) (hd (alias_Escapes_instr_L0 in_0 in_1 in_2 in_3 in_4 in_5 in_6 in_7 t7 t8 (IntKind.wrap .i64 (t9 + (1 : Int))) f t24 t25 t26 t31 t32 t33 x_0 x_1 x_2 x_3 x_4 x_5 b_0 b_1 b_2 b_3 b_4 b_5 b_6 x_6)) (.chk (0 ≤ (z (gd I t7 ((t9).toNat))) ∧ (z (gd I t7 ((t9).toNat))) < (ln s_alias_Base x_5)) (cond ((z ((gd s_alias_Base x_5 (((z (gd I t7 ((t9).toNat)))).toNat)).1)) != (2 : Int)) (hd (alias_Escapes_instr_L0 in_0 in_1 in_2 in_3 in_4 in_5 in_6 in_7 t7 t8 (IntKind.wrap .i64 (t9 + (1 : Int))) f t24 t25 t26 t31 t32 t33 x_0 x_1 x_2 x_3 x_4 x_5 b_0 b_1 b_2 b_3 b_4 b_5 b_6 x_6)) (.chk (0 ≤ (z (gd I t7 ((t9).toNat))) ∧ (z (gd I t7 ((t9).toNat))) < (ln s_alias_Base x_5)) (.chk (0 ≤ (z (((gd s_alias_Base x_5 (((z (gd I t7 ((t9).toNat)))).toNat)).2).1)) ∧ (z (((gd s_alias_Base x_5 (((z (gd I t7 ((t9).toNat)))).toNat)).2).1)) < (ln .bool x_6)) (.chk (((z (((gd s_alias_Base x_5 (((z (gd I t7 ((t9).toNat)))).toNat)).2).1))).toNat < (ln .bool x_6)) (hd (alias_Escapes_instr_L0 in_0 in_1 in_2 in_3 in_4 in_5 in_6 in_7 t7 t8 (IntKind.wrap .i64 (t9 + (1 : Int))) f t24 t25 t26 t31 t32 t33 x_0 x_1 x_2 x_3 x_4 x_5 b_0 b_1 b_2 b_3 b_4 b_5 b_6 (st .bool x_6 (((z (((gd s_alias_Base x_5 (((z (gd I t7 ((t9).toNat)))).toNat)).2).1))).toNat) true)))))))))) (cond (in_0 == (31 : Int)) (cond (decide ((z (gd I t7 ((t9).toNat))) < (0 : Int))) (hd (alias_Escapes_instr_L0 in_0 in_1 in_2 in_3 in_4 in_5 in_6 in_7 t7 t8 (IntKind.wrap .i64 (t9 + (1 : Int))) f t24 t25 t26 t31 t32 t33 x_0 x_1 x_2 x_3 x_4 x_5 b_0 b_1 b_2 b_3 b_4 b_5 b_6 x_6)) (cond (decide ((z (gd I t7 ((t9).toNat))) ≥ ((ln s_alias_Base x_5) : Int))) (hd (alias_Escapes_instr_L0 in_0 in_1 in_2 in_3 in_4 in_5 in_6 in_7 t7 t8 (IntKind.wrap .i64 (t9 + (1 : Int))) f t24 t25 t26 t31 t32 t33 x_0 x_1 x_2 x_3 x_4 x_5 b_0 b_1 b_2 b_3 b_4 b_5 b_6 x_6)) (.chk (0 ≤ (z (gd I t7 ((t9).toNat))) ∧ (z (gd I t7 ((t9).toNat))) < (ln s_alias_Base x_5)) (cond ((z ((gd s_alias_Base x_5 (((z (gd I t7 ((t9).toNat)))).toNat)).1)) != (2 : Int)) (hd (alias_Escapes_instr_L0 in_0 in_1 in_2 in_3 in_4 in_5 in_6 in_7 t7 t8 (IntKind.wrap .i64 (t9 + (1 : Int))) f t24 t25 t26 t31 t32 t33 x_0 x_1 x_2 x_3 x_4 x_5 b_0 b_1 b_2 b_3 b_4 b_5 b_6 x_6)) (.chk (0 ≤ (z (gd I t7 ((t9).toNat))) ∧ (z (gd I t7 ((t9).toNat))) < (ln s_alias_Base x_5)) (.chk (0 ≤ (z (((gd s_alias_Base x_5 (((z (gd I t7 ((t9).toNat)))).toNat)).2).1)) ∧ (z (((gd s_alias_Base x_5 (((z (gd I t7 ((t9).toNat)))).toNat)).2).1)) < (ln .bool x_6)) (.chk (((z (((gd s_alias_Base x_5 (((z (gd I t7 ((t9).toNat)))).toNat)).2).1))).toNat < (ln .bool x_6)) (hd (alias_Escapes_instr_L0 in_0 in_1 in_2 in_3 in_4 in_5 in_6 in_7 t7 t8 (IntKind.wrap .i64 (t9 + (1 : Int))) f t24 t25 t26 t31 t32 t33 x_0 x_1 x_2 x_3 x_4 x_5 b_0 b_1 b_2 b_3 b_4 b_5 b_6 (st .bool x_6 (((z (((gd s_alias_Base x_5 (((z (gd I t7 ((t9).toNat)))).toNat)).2).1))).toNat) true)))))))))) (cond (in_0 == (21 : Int)) (cond (t9 == (1 : Int)) (cond (decide ((z (gd I t7 ((t9).toNat))) < (0 : Int))) (hd (alias_Escapes_instr_L0 in_0 in_1 in_2 in_3 in_4 in_5 in_6 in_7 t7 t8 (IntKind.wrap .i64 (t9 + (1 : Int))) f t24 t25 t26 t31 t32 t33 x_0 x_1 x_2 x_3 x_4 x_5 b_0 b_1 b_2 b_3 b_4 b_5 b_6 x_6)) (cond (decide ((z (gd I t7 ((t9).toNat))) ≥ ((ln s_alias_Base x_5) : Int))) (hd (alias_Escapes_instr_L0 in_0 in_1 in_2 in_3 in_4 in_5 in_6 in_7 t7 t8 (IntKind.wrap .i64 (t9 + (1 : Int))) f t24 t25 t26 t31 t32 t33 x_0 x_1 x_2 x_3 x_4 x_5 b_0 b_1 b_2 b_3 b_4 b_5 b_6 x_6)) (.chk (0 ≤ (z (gd I t7 ((t9).toNat))) ∧ (z (gd I t7 ((t9).toNat))) < (ln s_alias_Base x_5)) (cond ((z ((gd s_alias_Base x_5 (((z (gd I t7 ((t9).toNat)))).toNat)).1)) != (2 : Int)) (hd (alias_Escapes_instr_L0 in_0 in_1 in_2 in_3 in_4 in_5 in_6 in_7 t7 t8 (IntKind.wrap .i64 (t9 + (1 : Int))) f t24 t25 t26 t31 t32 t33 x_0 x_1 x_2 x_3 x_4 x_5 b_0 b_1 b_2 b_3 b_4 b_5 b_6 x_6)) (.chk (0 ≤ (z (gd I t7 ((t9).toNat))) ∧ (z (gd I t7 ((t9).toNat))) < (ln s_alias_Base x_5)) (cond (decide (in_2 ≥ (0 : Int))) (cond (decide (in_2 < ((ln s_alias_Base x_5) : Int))) (.chk (0 ≤ in_2 ∧ in_2 < (ln s_alias_Base x_5)) (cond ((z ((gd s_alias_Base x_5 ((in_2).toNat)).1)) == (2 : Int)) (.chk (0 ≤ in_2 ∧ in_2 < (ln s_alias_Base x_5)) (cond ((z (((gd s_alias_Base x_5 ((in_2).toNat)).2).1)) == (z (((gd s_alias_Base x_5 (((z (gd I t7 ((t9).toNat)))).toNat)).2).1))) (hd (alias_Escapes_instr_L0 in_0 in_1 in_2 in_3 in_4 in_5 in_6 in_7 t7 t8 (IntKind.wrap .i64 (t9 + (1 : Int))) f t24 t25 t26 t31 t32 t33 x_0 x_1 x_2 x_3 x_4 x_5 b_0 b_1 b_2 b_3 b_4 b_5 b_6 x_6)) (.chk (0 ≤ (z (((gd s_alias_Base x_5 (((z (gd I t7 ((t9).toNat)))).toNat)).2).1)) ∧ (z (((gd s_alias_Base x_5 (((z (gd I t7 ((t9).toNat)))).toNat)).2).1)) < (ln .bool x_6)) (.chk (((z (((gd s_alias_Base x_5 (((z (gd I t7 ((t9).toNat)))).toNat)).2).1))).toNat < (ln .bool x_6)) (hd (alias_Escapes_instr_L0 in_0 in_1 in_2 in_3 in_4 in_5 in_6 in_7 t7 t8 (IntKind.wrap .i64 (t9 + (1 : Int))) f t24 t25 t26 t31 t32 t33 x_0 x_1 x_2 x_3 x_4 x_5 b_0 b_1 b_2 b_3 b_4 b_5 b_6 (st .bool x_6 (((z (((gd s_alias_Base x_5 (((z (gd I t7 ((t9).toNat)))).toNat)).2).1))).toNat) true))))))) (.chk (0 ≤ (z (((gd s_alias_Base x_5 (((z (gd I t7 ((t9).toNat)))).toNat)).2).1)) ∧ (z (((gd s_alias_Base x_5 (((z (gd I t7 ((t9).toNat)))).toNat)).2).1)) < (ln .bool x_6)) (.chk (((z (((gd s_alias_Base x_5 (((z (gd I t7 ((t9).toNat)))).toNat)).2).1))).toNat < (ln .bool x_6)) (hd (alias_Escapes_instr_L0 in_0 in_1 in_2 in_3 in_4 in_5 in_6 in_7 t7 t8 (IntKind.wrap .i64 (t9 + (1 : Int))) f t24 t25 t26 t31 t32 t33 x_0 x_1 x_2 x_3 x_4 x_5 b_0 b_1 b_2 b_3 b_4 b_5 b_6 (st .bool x_6 (((z (((gd s_alias_Base x_5 (((z (gd I t7 ((t9).toNat)))).toNat)).2).1))).toNat) true))))))) (.chk (0 ≤ (z (((gd s_alias_Base x_5 (((z (gd I t7 ((t9).toNat)))).toNat)).2).1)) ∧ (z (((gd s_alias_Base x_5 (((z (gd I t7 ((t9).toNat)))).toNat)).2).1)) < (ln .bool x_6)) (.chk (((z (((gd s_alias_Base x_5 (((z (gd I t7 ((t9).toNat)))).toNat)).2).1))).toNat < (ln .bool x_6)) (hd (alias_Escapes_instr_L0 in_0 in_1 in_2 in_3 in_4 in_5 in_6 in_7 t7 t8 (IntKind.wrap .i64 (t9 + (1 : Int))) f t24 t25 t26 t31 t32 t33 x_0 x_1 x_2 x_3 x_4 x_5 b_0 b_1 b_2 b_3 b_4 b_5 b_6 (st .bool x_6 (((z (((gd s_alias_Base x_5 (((z (gd I t7 ((t9).toNat)))).toNat)).2).1))).toNat) true)))))) (.chk (0 ≤ (z (((gd s_alias_Base x_5 (((z (gd I t7 ((t9).toNat)))).toNat)).2).1)) ∧ (z (((gd s_alias_Base x_5 (((z (gd I t7 ((t9).toNat)))).toNat)).2).1)) < (ln .bool x_6)) (.chk (((z (((gd s_alias_Base x_5 (((z (gd I t7 ((t9).toNat)))).toNat)).2).1))).toNat < (ln .bool x_6)) (hd (alias_Escapes_instr_L0 in_0 in_1 in_2 in_3 in_4 in_5 in_6 in_7 t7 t8 (IntKind.wrap .i64 (t9 + (1 : Int))) f t24 t25 t26 t31 t32 t33 x_0 x_1 x_2 x_3 x_4 x_5 b_0 b_1 b_2 b_3 b_4 b_5 b_6 (st .bool x_6 (((z (((gd s_alias_Base x_5 (((z (gd I t7 ((t9).toNat)))).toNat)).2).1))).toNat) true))))))))))) (cond (t9 == (2 : Int)) (cond (decide ((z (gd I t7 ((t9).toNat))) < (0 : Int))) (hd (alias_Escapes_instr_L0 in_0 in_1 in_2 in_3 in_4 in_5 in_6 in_7 t7 t8 (IntKind.wrap .i64 (t9 + (1 : Int))) f t24 t25 t26 t31 t32 t33 x_0 x_1 x_2 x_3 x_4 x_5 b_0 b_1 b_2 b_3 b_4 b_5 b_6 x_6)) (cond (decide ((z (gd I t7 ((t9).toNat))) ≥ ((ln s_alias_Base x_5) : Int))) (hd (alias_Escapes_instr_L0 in_0 in_1 in_2 in_3 in_4 in_5 in_6 in_7 t7 t8 (IntKind.wrap .i64 (t9 + (1 : Int))) f t24 t25 t26 t31 t32 t33 x_0 x_1 x_2 x_3 x_4 x_5 b_0 b_1 b_2 b_3 b_4 b_5 b_6 x_6)) (.chk (0 ≤ (z (gd I t7 ((t9).toNat))) ∧ (z (gd I t7 ((t9).toNat))) < (ln s_alias_Base x_5)) (cond ((z ((gd s_alias_Base x_5 (((z (gd I t7 ((t9).toNat)))).toNat)).1)) != (2 : Int)) (hd (alias_Escapes_instr_L0 in_0 in_1 in_2 in_3 in_4 in_5 in_6 in_7 t7 t8 (IntKind.wrap .i64 (t9 + (1 : Int))) f t24 t25 t26 t31 t32 t33 x_0 x_1 x_2 x_3 x_4 x_5 b_0 b_1 b_2 b_3 b_4 b_5 b_6 x_6)) (.chk (0 ≤ (z (gd I t7 ((t9).toNat))) ∧ (z (gd I t7 ((t9).toNat))) < (ln s_alias_Base x_5)) (cond (decide (in_2 ≥ (0 : Int))) (cond (decide (in_2 < ((ln s_alias_Base x_5) : Int))) (.chk (0 ≤ in_2 ∧ in_2 < (ln s_alias_Base x_5)) (cond ((z ((gd s_alias_Base x_5 ((in_2).toNat)).1)) == (2 : Int)) (.chk (0 ≤ in_2 ∧ in_2 < (ln s_alias_Base x_5)) (cond ((z (((gd s_alias_Base x_5 ((in_2).toNat)).2).1)) == (z (((gd s_alias_Base x_5 (((z (gd I t7 ((t9).toNat)))).toNat)).2).1))) (hd (alias_Escapes_instr_L0 in_0 in_1 in_2 in_3 in_4 in_5 in_6 in_7 t7 t8 (IntKind.wrap .i64 (t9 + (1 : Int))) f t24 t25 t26 t31 t32 t33 x_0 x_1 x_2 x_3 x_4 x_5 b_0 b_1 b_2 b_3 b_4 b_5 b_6 x_6)) (.chk (0 ≤ (z (((gd s_alias_Base x_5 (((z (gd I t7 ((t9).toNat)))).toNat)).2).1)) ∧ (z (((gd s_alias_Base x_5 (((z (gd I t7 ((t9).toNat)))).toNat)).2).1)) < (ln .bool x_6)) (.chk (((z (((gd s_alias_Base x_5 (((z (gd I t7 ((t9).toNat)))).toNat)).2).1))).toNat < (ln .bool x_6)) (hd (alias_Escapes_instr_L0 in_0 in_1 in_2 in_3 in_4 in_5 in_6 in_7 t7 t8 (IntKind.wrap .i64 (t9 + (1 : Int))) f t24 t25 t26 t31 t32 t33 x_0 x_1 x_2 x_3 x_4 x_5 b_0 b_1 b_2 b_3 b_4 b_5 b_6 (st .bool x_6 (((z (((gd s_alias_Base x_5 (((z (gd I t7 ((t9).toNat)))).toNat)).2).1))).toNat) true))))))) (.chk (0 ≤ (z (((gd s_alias_Base x_5 (((z (gd I t7 ((t9).toNat)))).toNat)).2).1)) ∧ (z (((gd s_alias_Base x_5 (((z (gd I t7 ((t9).toNat)))).toNat)).2).1)) < (ln .bool x_6)) (.chk (((z (((gd s_alias_Base x_5 (((z (gd I t7 ((t9).toNat)))).toNat)).2).1))).toNat < (ln .bool x_6)) (hd (alias_Escapes_instr_L0 in_0 in_1 in_2 in_3 in_4 in_5 in_6 in_7 t7 t8 (IntKind.wrap .i64 (t9 + (1 : Int))) f t24 t25 t26 t31 t32 t33 x_0 x_1 x_2 x_3 x_4 x_5 b_0 b_1 b_2 b_3 b_4 b_5 b_6 (st .bool x_6 (((z (((gd s_alias_Base x_5 (((z (gd I t7 ((t9).toNat)))).toNat)).2).1))).toNat) true))))))) (.chk (0 ≤ (z (((gd s_alias_Base x_5 (((z (gd I t7 ((t9).toNat)))).toNat)).2).1)) ∧ (z (((gd s_alias_Base x_5 (((z (gd I t7 ((t9).toNat)))).toNat)).2).1)) < (ln .bool x_6)) (.chk (((z (((gd s_alias_Base x_5 (((z (gd I t7 ((t9).toNat)))).toNat)).2).1))).toNat < (ln .bool x_6)) (hd (alias_Escapes_instr_L0 in_0 in_1 in_2 in_3 in_4 in_5 in_6 in_7 t7 t8 (IntKind.wrap .i64 (t9 + (1 : Int))) f t24 t25 t26 t31 t32 t33 x_0 x_1 x_2 x_3 x_4 x_5 b_0 b_1 b_2 b_3 b_4 b_5 b_6 (st .bool x_6 (((z (((gd s_alias_Base x_5 (((z (gd I t7 ((t9).toNat)))).toNat)).2).1))).toNat) true)))))) (.chk (0 ≤ (z (((gd s_alias_Base x_5 (((z (gd I t7 ((t9).toNat)))).toNat)).2).1)) ∧ (z (((gd s_alias_Base x_5 (((z (gd I t7 ((t9).toNat)))).toNat)).2).1)) < (ln .bool x_6)) (.chk (((z (((gd s_alias_Base x_5 (((z (gd I t7 ((t9).toNat)))).toNat)).2).1))).toNat < (ln .bool x_6)) (hd (alias_Escapes_instr_L0 in_0 in_1 in_2 in_3 in_4 in_5 in_6 in_7 t7 t8 (IntKind.wrap .i64 (t9 + (1 : Int))) f t24 t25 t26 t31 t32 t33 x_0 x_1 x_2 x_3 x_4 x_5 b_0 b_1 b_2 b_3 b_4 b_5 b_6 (st .bool x_6 (((z (((gd s_alias_Base x_5 (((z (gd I t7 ((t9).toNat)))).toNat)).2).1))).toNat) true))))))))))) (hd (alias_Escapes_instr_L0 in_0 in_1 in_2 in_3 in_4 in_5 in_6 in_7 t7 t8 (IntKind.wrap .i64 (t9 + (1 : Int))) f t24 t25 t26 t31 t32 t33 x_0 x_1 x_2 x_3 x_4 x_5 b_0 b_1 b_2 b_3 b_4 b_5 b_6 x_6)))) (hd (alias_Escapes_instr_L0 in_0 in_1 in_2 in_3 in_4 in_5 in_6 in_7 t7 t8 (IntKind.wrap .i64 (t9 + (1 : Int))) f t24 t25 t26 t31 t32 t33 x_0 x_1 x_2 x_3 x_4 x_5 b_0 b_1 b_2 b_3 b_4 b_5 b_6 x_6))))))) (hd (alias_Escapes_L2 f t24 t25 t26 t31 t32 (IntKind.wrap .i64 (t33 + (1 : Int))) x_0 x_1 x_2 x_3 x_4 x_5 b_0 b_1 b_2 b_3 b_4 b_5 b_6 x_6))) := by kernel_rfl
theorem alias_Escapes_L4_t (f : Den s_api_Func) (t24 : List (Den s_api_Block)) (t25 : Int) (t26 : Int) (t53 : List (Den I)) (t54 : Int) (t55 : Int) (x_0 : ByteArray) (x_1 : List (Den I)) (x_2 : Int) (x_3 : List (Den I)) (x_4 : List (Den s_api_Block)) (x_5 : List (Den s_alias_Base)) (b_0 : List (Den I)) (b_1 : List (Den s_api_Instr)) (b_2 : Int) (b_3 : List (Den I)) (b_4 : List (Den I)) (b_5 : List (Den s_api_Edge)) (b_6 : Int) (x_6 : List (Den .bool)) : run E_A18 H_A18 f_alias_Escapes 3000 (alias_Escapes_L4 f t24 t25 t26 t53 t54 t55 x_0 x_1 x_2 x_3 x_4 x_5 b_0 b_1 b_2 b_3 b_4 b_5 b_6 x_6) = (cond (decide (t55 < t54)) (.chk (0 ≤ t55 ∧ t55 < (ln I t53)) (cond (decide ((z (gd I t53 ((t55).toNat))) < (0 : Int))) (hd (alias_Escapes_L4 f t24 t25 t26 t53 t54 (IntKind.wrap .i64 (t55 + (1 : Int))) x_0 x_1 x_2 x_3 x_4 x_5 b_0 b_1 b_2 b_3 b_4 b_5 b_6 x_6)) (cond (decide ((z (gd I t53 ((t55).toNat))) ≥ ((ln s_alias_Base x_5) : Int))) (hd (alias_Escapes_L4 f t24 t25 t26 t53 t54 (IntKind.wrap .i64 (t55 + (1 : Int))) x_0 x_1 x_2 x_3 x_4 x_5 b_0 b_1 b_2 b_3 b_4 b_5 b_6 x_6)) (.chk (0 ≤ (z (gd I t53 ((t55).toNat))) ∧ (z (gd I t53 ((t55).toNat))) < (ln s_alias_Base x_5)) (cond ((z ((gd s_alias_Base x_5 (((z (gd I t53 ((t55).toNat)))).toNat)).1)) != (2 : Int)) (hd (alias_Escapes_L4 f t24 t25 t26 t53 t54 (IntKind.wrap .i64 (t55 + (1 : Int))) x_0 x_1 x_2 x_3 x_4 x_5 b_0 b_1 b_2 b_3 b_4 b_5 b_6 x_6)) (.chk (0 ≤ (z (gd I t53 ((t55).toNat))) ∧ (z (gd I t53 ((t55).toNat))) < (ln s_alias_Base x_5)) (.chk (0 ≤ (z (((gd s_alias_Base x_5 (((z (gd I t53 ((t55).toNat)))).toNat)).2).1)) ∧ (z (((gd s_alias_Base x_5 (((z (gd I t53 ((t55).toNat)))).toNat)).2).1)) < (ln .bool x_6)) (.chk (((z (((gd s_alias_Base x_5 (((z (gd I t53 ((t55).toNat)))).toNat)).2).1))).toNat < (ln .bool x_6)) (hd (alias_Escapes_L4 f t24 t25 t26 t53 t54 (IntKind.wrap .i64 (t55 + (1 : Int))) x_0 x_1 x_2 x_3 x_4 x_5 b_0 b_1 b_2 b_3 b_4 b_5 b_6 (st .bool x_6 (((z (((gd s_alias_Base x_5 (((z (gd I t53 ((t55).toNat)))).toNat)).2).1))).toNat) true))))))))))) (hd (alias_Escapes_L6 f t24 t25 t26 b_5 ((ln s_api_Edge b_5) : Int) (0 : Int) x_0 x_1 x_2 x_3 x_4 x_5 x_6))) := by kernel_rfl
theorem alias_Escapes_L6_t (f : Den s_api_Func) (t24 : List (Den s_api_Block)) (t25 : Int) (t26 : Int) (t65 : List (Den s_api_Edge)) (t66 : Int) (t67 : Int) (x_0 : ByteArray) (x_1 : List (Den I)) (x_2 : Int) (x_3 : List (Den I)) (x_4 : List (Den s_api_Block)) (x_5 : List (Den s_alias_Base)) (x_6 : List (Den .bool)) : run E_A18 H_A18 f_alias_Escapes 3000 (alias_Escapes_L6 f t24 t25 t26 t65 t66 t67 x_0 x_1 x_2 x_3 x_4 x_5 x_6) = (cond (decide (t67 < t66)) (.chk (0 ≤ t67 ∧ t67 < (ln s_api_Edge t65)) (cond (decide ((z ((gd s_api_Edge t65 ((t67).toNat)).1)) < (0 : Int))) (hd (alias_Escapes_L6 f t24 t25 t26 t65 t66 (IntKind.wrap .i64 (t67 + (1 : Int))) x_0 x_1 x_2 x_3 x_4 x_5 x_6)) (cond (decide ((z ((gd s_api_Edge t65 ((t67).toNat)).1)) ≥ ((ln s_api_Block x_4) : Int))) (hd (alias_Escapes_L6 f t24 t25 t26 t65 t66 (IntKind.wrap .i64 (t67 + (1 : Int))) x_0 x_1 x_2 x_3 x_4 x_5 x_6)) (.chk (0 ≤ (z ((gd s_api_Edge t65 ((t67).toNat)).1)) ∧ (z ((gd s_api_Edge t65 ((t67).toNat)).1)) < (ln s_api_Block x_4)) (hd (alias_Escapes_edge_L0 (z ((gd s_api_Edge t65 ((t67).toNat)).1)) (((gd s_api_Edge t65 ((t67).toNat)).2).1) ((gd s_api_Block x_4 (((z ((gd s_api_Edge t65 ((t67).toNat)).1))).toNat)).1) ((ln I ((gd s_api_Block x_4 (((z ((gd s_api_Edge t65 ((t67).toNat)).1))).toNat)).1)) : Int) (0 : Int) f t24 t25 t26 t65 t66 t67 x_0 x_1 x_2 x_3 x_4 x_5 x_6)))))) (hd (alias_Escapes_L0 f t24 t25 (IntKind.wrap .i64 (t26 + (1 : Int))) x_0 x_1 x_2 x_3 x_4 x_5 x_6))) := by kernel_rfl
theorem alias_Escapes_edge_L0_t (e_0 : Int) (e_1 : List (Den I)) (t29 : List (Den I)) (t30 : Int) (t31 : Int) (f : Den s_api_Func) (t24 : List (Den s_api_Block)) (t25 : Int) (t26 : Int) (t65 : List (Den s_api_Edge)) (t66 : Int) (t67 : Int) (x_0 : ByteArray) (x_1 : List (Den I)) (x_2 : Int) (x_3 : List (Den I)) (x_4 : List (Den s_api_Block)) (x_5 : List (Den s_alias_Base)) (x_6 : List (Den .bool)) : run E_A18 H_A18 f_alias_Escapes 3000 (alias_Escapes_edge_L0 e_0 e_1 t29 t30 t31 f t24 t25 t26 t65 t66 t67 x_0 x_1 x_2 x_3 x_4 x_5 x_6) = (cond (decide (t31 < t30)) (.chk (0 ≤ t31 ∧ t31 < (ln I t29)) (cond (decide (t31 < ((ln I e_1) : Int))) (.chk (0 ≤ t31 ∧ t31 < (ln I e_1)) (cond (decide ((z (gd I e_1 ((t31).toNat))) < (0 : Int))) (hd (alias_Escapes_edge_L0 e_0 e_1 t29 t30 (IntKind.wrap .i64 (t31 + (1 : Int))) f t24 t25 t26 t65 t66 t67 x_0 x_1 x_2 x_3 x_4 x_5 x_6)) (cond (decide ((z (gd I e_1 ((t31).toNat))) ≥ ((ln s_alias_Base x_5) : Int))) (hd (alias_Escapes_edge_L0 e_0 e_1 t29 t30 (IntKind.wrap .i64 (t31 + (1 : Int))) f t24 t25 t26 t65 t66 t67 x_0 x_1 x_2 x_3 x_4 x_5 x_6)) (.chk (0 ≤ (z (gd I e_1 ((t31).toNat))) ∧ (z (gd I e_1 ((t31).toNat))) < (ln s_alias_Base x_5)) (cond ((z ((gd s_alias_Base x_5 (((z (gd I e_1 ((t31).toNat)))).toNat)).1)) != (2 : Int)) (hd (alias_Escapes_edge_L0 e_0 e_1 t29 t30 (IntKind.wrap .i64 (t31 + (1 : Int))) f t24 t25 t26 t65 t66 t67 x_0 x_1 x_2 x_3 x_4 x_5 x_6)) (.chk (0 ≤ (z (gd I e_1 ((t31).toNat))) ∧ (z (gd I e_1 ((t31).toNat))) < (ln s_alias_Base x_5)) (cond (decide ((z (gd I t29 ((t31).toNat))) ≥ (0 : Int))) (cond (decide ((z (gd I t29 ((t31).toNat))) < ((ln s_alias_Base x_5) : Int))) (.chk (0 ≤ (z (gd I t29 ((t31).toNat))) ∧ (z (gd I t29 ((t31).toNat))) < (ln s_alias_Base x_5)) (cond ((z ((gd s_alias_Base x_5 (((z (gd I t29 ((t31).toNat)))).toNat)).1)) == (2 : Int)) (.chk (0 ≤ (z (gd I t29 ((t31).toNat))) ∧ (z (gd I t29 ((t31).toNat))) < (ln s_alias_Base x_5)) (cond ((z (((gd s_alias_Base x_5 (((z (gd I t29 ((t31).toNat)))).toNat)).2).1)) == (z (((gd s_alias_Base x_5 (((z (gd I e_1 ((t31).toNat)))).toNat)).2).1))) (hd (alias_Escapes_edge_L0 e_0 e_1 t29 t30 (IntKind.wrap .i64 (t31 + (1 : Int))) f t24 t25 t26 t65 t66 t67 x_0 x_1 x_2 x_3 x_4 x_5 x_6)) (.chk (0 ≤ (z (((gd s_alias_Base x_5 (((z (gd I e_1 ((t31).toNat)))).toNat)).2).1)) ∧ (z (((gd s_alias_Base x_5 (((z (gd I e_1 ((t31).toNat)))).toNat)).2).1)) < (ln .bool x_6)) (.chk (((z (((gd s_alias_Base x_5 (((z (gd I e_1 ((t31).toNat)))).toNat)).2).1))).toNat < (ln .bool x_6)) (hd (alias_Escapes_edge_L0 e_0 e_1 t29 t30 (IntKind.wrap .i64 (t31 + (1 : Int))) f t24 t25 t26 t65 t66 t67 x_0 x_1 x_2 x_3 x_4 x_5 (st .bool x_6 (((z (((gd s_alias_Base x_5 (((z (gd I e_1 ((t31).toNat)))).toNat)).2).1))).toNat) true))))))) (.chk (0 ≤ (z (((gd s_alias_Base x_5 (((z (gd I e_1 ((t31).toNat)))).toNat)).2).1)) ∧ (z (((gd s_alias_Base x_5 (((z (gd I e_1 ((t31).toNat)))).toNat)).2).1)) < (ln .bool x_6)) (.chk (((z (((gd s_alias_Base x_5 (((z (gd I e_1 ((t31).toNat)))).toNat)).2).1))).toNat < (ln .bool x_6)) (hd (alias_Escapes_edge_L0 e_0 e_1 t29 t30 (IntKind.wrap .i64 (t31 + (1 : Int))) f t24 t25 t26 t65 t66 t67 x_0 x_1 x_2 x_3 x_4 x_5 (st .bool x_6 (((z (((gd s_alias_Base x_5 (((z (gd I e_1 ((t31).toNat)))).toNat)).2).1))).toNat) true))))))) (.chk (0 ≤ (z (((gd s_alias_Base x_5 (((z (gd I e_1 ((t31).toNat)))).toNat)).2).1)) ∧ (z (((gd s_alias_Base x_5 (((z (gd I e_1 ((t31).toNat)))).toNat)).2).1)) < (ln .bool x_6)) (.chk (((z (((gd s_alias_Base x_5 (((z (gd I e_1 ((t31).toNat)))).toNat)).2).1))).toNat < (ln .bool x_6)) (hd (alias_Escapes_edge_L0 e_0 e_1 t29 t30 (IntKind.wrap .i64 (t31 + (1 : Int))) f t24 t25 t26 t65 t66 t67 x_0 x_1 x_2 x_3 x_4 x_5 (st .bool x_6 (((z (((gd s_alias_Base x_5 (((z (gd I e_1 ((t31).toNat)))).toNat)).2).1))).toNat) true)))))) (.chk (0 ≤ (z (((gd s_alias_Base x_5 (((z (gd I e_1 ((t31).toNat)))).toNat)).2).1)) ∧ (z (((gd s_alias_Base x_5 (((z (gd I e_1 ((t31).toNat)))).toNat)).2).1)) < (ln .bool x_6)) (.chk (((z (((gd s_alias_Base x_5 (((z (gd I e_1 ((t31).toNat)))).toNat)).2).1))).toNat < (ln .bool x_6)) (hd (alias_Escapes_edge_L0 e_0 e_1 t29 t30 (IntKind.wrap .i64 (t31 + (1 : Int))) f t24 t25 t26 t65 t66 t67 x_0 x_1 x_2 x_3 x_4 x_5 (st .bool x_6 (((z (((gd s_alias_Base x_5 (((z (gd I e_1 ((t31).toNat)))).toNat)).2).1))).toNat) true)))))))))))) (hd (alias_Escapes_edge_L0 e_0 e_1 t29 t30 (IntKind.wrap .i64 (t31 + (1 : Int))) f t24 t25 t26 t65 t66 t67 x_0 x_1 x_2 x_3 x_4 x_5 x_6)))) (hd (alias_Escapes_L6 f t24 t25 t26 t65 t66 (IntKind.wrap .i64 (t67 + (1 : Int))) x_0 x_1 x_2 x_3 x_4 x_5 x_6))) := by kernel_rfl
def okI (n : Nat) (b : Bs) : Prop := z b.1 = 2 → 0 ≤ z b.2.1 ∧ z b.2.1 < (n : Int)
theorem okI_own {n : Nat} (r : Int) : okI n (ownP r) := fun h => absurd h (by decide : (3 : Int) ≠ 2)
theorem okI_z {n : Nat} : okI n zB := fun h => absurd h (by decide : (0 : Int) ≠ 2)
theorem okI_meetP {n : Nat} {r : Int} {a b : Bs} (h : okI n a) : okI n (meetP r a b) := by
  unfold meetP
  simp only [Bool.cond_eq_ite]
  repeat' split
  all_goals first | exact h | exact fun h => absurd h (by decide : (3 : Int) ≠ 2)
theorem okI_meet {n : Nat} {r : Int} {a b : Bs} (ha : okI n a) (hb : okI n b) : okI n (meetR r a b) := by
  rw [meetR_eq]
  split
  · exact hb
  · split
    · exact ha
    · exact okI_meetP ha
theorem okI_fold {n : Nat} {r : Int} : ∀ {l : List Bs} {o : Bs}, okI n o → (∀ b ∈ l, okI n b) → okI n (l.foldl (meetR r) o)
  | [], o, ho, _ => ho
  | b :: l, o, ho, hl => okI_fold (l := l) (okI_meet ho (hl b List.mem_cons_self)) fun x hx => hl x (List.mem_cons_of_mem _ hx)
def allI (f : Fn) (now : List Bs) : Prop := ∀ j, j < nR f → okI (nR f) (gd s_alias_Base now j)
theorem okI_at {f : Fn} {now : List Bs} (h : allI f now) {x : Int} (hx : ptrR f x = true) : okI (nR f) (gd s_alias_Base now x.toNat) := by
  have := ptrR_in hx
  exact h _ (by show x.toNat < ln I f.2.2.2.1; omega)
theorem exE_okI {f : Fn} {now : List Bs} {r bk k : Int} {e : Den s_api_Edge} {b : Bs} (hn : allI f now) (h : exE f now r bk k e = some b) : okI (nR f) b := by
  unfold exE at h
  split at h
  · cases h
  · split at h
    · injection h with h; subst h; exact okI_own r
    · split at h
      · cases h
      · split at h
        · injection h with h; subst h; exact okI_own r
        · rename_i hp
          injection h with h
          subst h
          exact okI_at hn (by cases hq : ptrR f (z (gd I e.2.1 k.toNat)) with | true => rfl | false => exact absurd hq hp)
theorem exS_okI {f : Fn} {now : List Bs} {r bk k : Int} (hn : allI f now) : ∀ {l : List (Den s_api_Edge)}, ∀ b ∈ exS f now r bk k l, okI (nR f) b
  | [], b, hb => absurd hb (by simp [exS])
  | e :: l, b, hb => by
    unfold exS at hb
    split at hb
    · exact exS_okI hn b hb
    · rename_i c hc
      rcases List.mem_cons.1 hb with rfl | hb
      · exact exE_okI hn hc
      · exact exS_okI hn b hb
theorem exB_okI {f : Fn} {now : List Bs} {r bk k : Int} (hn : allI f now) : ∀ {l : List Blk}, ∀ b ∈ exB f now r bk k l, okI (nR f) b
  | [], b, hb => absurd hb (by simp [exB])
  | e :: l, b, hb => by
    unfold exB at hb
    rcases List.mem_append.1 hb with hb | hb
    · exact exS_okI hn b hb
    · exact exB_okI hn b hb
theorem okI_oper {f : Fn} {now : List Bs} {r i : Int} {x : Den s_api_Instr} (h : allI f now) : okI (nR f) (operR f now x r i) := by
  unfold operR
  simp only [Bool.cond_eq_ite]
  repeat' split
  all_goals first | exact okI_own r | (exact okI_at h (by simp_all))
theorem okI_ins {f : Fn} {defs : DL} {now : List Bs} {r : Int} {x : Den s_api_Instr} (h : allI f now) (hr : ptrR f r = true) : okI (nR f) (insN f defs now r x) := by
  have hrg := ptrR_in hr
  have hb := okI_oper (r := r) (i := 0) (x := x) h
  unfold insN offN
  simp only [Bool.cond_eq_ite]
  repeat' split
  all_goals first | exact hb | exact okI_own r | exact okI_meet (okI_oper h) (okI_oper h) | exact fun h => absurd h (by decide : (1 : Int) ≠ 2) | exact fun _ => hrg
theorem okI_next {f : Fn} {now : List Bs} (hn : okNow f now) (h : allI f now) {r : Int} (hr : ptrR f r = true) : okI (nR f) (nextF (mkS f now) r) := by
  have hrg := ptrR_in hr
  unfold nextF
  simp only [Bool.cond_eq_ite]
  repeat' split
  all_goals first | exact okI_own r | (show okI (nR f) (insF (f, defsF f, now, ()) r _); rw [ins_eq r _ hn]; exact okI_ins h hr) | (show okI (nR f) (parG f now r _ _); exact okI_fold (h _ (by show r.toNat < ln I f.2.2.2.1; omega)) (exB_okI h))
theorem allI_rnd {f : Fn} {now : List Bs} (hn : okNow f now) (h : allI f now) : allI f (rndF f now) := fun j hj => by
  unfold rndF
  rw [tab_gd hj]
  unfold outB
  split
  · rename_i hp
    exact okI_next hn h hp
  · exact okI_z
theorem allI_go {f : Fn} : ∀ {k : Nat} {now : List Bs}, okNow f now → allI f now → allI f (basesGo f k now).2
  | 0, now, _, h => h
  | k + 1, now, hn, h => by
    unfold basesGo
    split
    · exact allI_go (okNow_rnd hn) (allI_rnd hn h)
    · exact allI_rnd hn h
theorem allI_bases (f : Fn) : allI f (basesF f) := fun j hj => by
  unfold basesF
  rw [tab_gd hj]
  unfold finB
  split
  · exact okI_own _
  · exact allI_go (okNow_zeros f) (fun j hj => by unfold zeros; rw [tab_rep (S := s_alias_Base), tab_gd hj]; exact okI_z) j hj
theorem ln_bases (f : Fn) : ln s_alias_Base (basesF f) = nR f := tab_ln
def pt (f : Fn) (x j : Int) : Bool := pntF f (basesF f) x j
theorem pt_iff {f : Fn} {x j : Int} : pt f x j = true ↔ (0 ≤ x ∧ x < (nR f : Int)) ∧ z (gd s_alias_Base (basesF f) x.toNat).1 = 2 ∧ z (gd s_alias_Base (basesF f) x.toNat).2.1 = j := by
  unfold pt pntF
  simp only [Bool.cond_eq_ite, decide_eq_true_eq, beq_iff_eq]
  have e2 : ln I f.2.2.2.1 = nR f := rfl
  rw [e2]
  by_cases h1 : x ≥ 0
  · by_cases h2 : x < (nR f : Int)
    · by_cases h3 : z (gd s_alias_Base (basesF f) x.toNat).1 = 2
      · simp [h1, h2, h3]
      · simp [h1, h2, h3]
    · simp [h1, h2]
  · simp [h1]
def hit (f : Fn) (j : Int) (q : Int × Int) : Bool := pt f q.1 j && !(pt f q.2 j)
def mk (f : Fn) (ps : List (Int × Int)) : List (Den .bool) := tab .bool (nR f) fun j => ps.any (hit f (j : Int))
theorem mk_ln {f : Fn} {ps : List (Int × Int)} : ln .bool (mk f ps) = nR f := tab_ln
theorem mk_same {f : Fn} {ps : List (Int × Int)} {q : Int × Int} (h : ∀ j : Int, hit f j q = false) : mk f (ps ++ [q]) = mk f ps := tab_ext fun j _ => by
  rw [List.any_append, List.any_cons, List.any_nil, h, Bool.or_false, Bool.or_false]
theorem mk_set {f : Fn} {ps : List (Int × Int)} {q : Int × Int} {i : Nat} (h : ∀ j : Int, hit f j q = decide (j = (i : Int))) : st .bool (mk f ps) i true = mk f (ps ++ [q]) := by
  unfold mk
  rw [tab_st]
  refine tab_ext fun j _ => ?_
  rw [List.any_append, List.any_cons, List.any_nil, h, Bool.or_false]
  by_cases e : j = i
  · rw [if_pos e, e, decide_eq_true rfl, Bool.or_true]
  · rw [if_neg e, decide_eq_false (by omega), Bool.or_false]
theorem hit_no {f : Fn} {p r : Int} (h : ¬ ((0 ≤ p ∧ p < (nR f : Int)) ∧ z (gd s_alias_Base (basesF f) p.toNat).1 = 2)) (j : Int) : hit f j (p, r) = false := by
  unfold hit
  cases hp : pt f p j with
  | false => rfl
  | true => exact absurd ⟨(pt_iff.1 hp).1, (pt_iff.1 hp).2.1⟩ h
theorem hit_own {f : Fn} {p r : Int} (h : (0 ≤ r ∧ r < (nR f : Int)) ∧ z (gd s_alias_Base (basesF f) r.toNat).1 = 2 ∧ z (gd s_alias_Base (basesF f) r.toNat).2.1 = z (gd s_alias_Base (basesF f) p.toNat).2.1) (j : Int) : hit f j (p, r) = false := by
  unfold hit
  cases hp : pt f p j with
  | false => rfl
  | true =>
    have : pt f r j = true := pt_iff.2 ⟨h.1, h.2.1, h.2.2.trans (pt_iff.1 hp).2.2⟩
    simp only [this]
    rfl
theorem hit_yes {f : Fn} {p r : Int} (h : (0 ≤ p ∧ p < (nR f : Int)) ∧ z (gd s_alias_Base (basesF f) p.toNat).1 = 2) (h2 : ¬ ((0 ≤ r ∧ r < (nR f : Int)) ∧ z (gd s_alias_Base (basesF f) r.toNat).1 = 2 ∧ z (gd s_alias_Base (basesF f) r.toNat).2.1 = z (gd s_alias_Base (basesF f) p.toNat).2.1)) (j : Int) :
    hit f j (p, r) = decide (j = (((z (gd s_alias_Base (basesF f) p.toNat).2.1).toNat : Nat) : Int)) := by
  have hi := allI_bases f p.toNat (by omega) h.2
  have e : (((z (gd s_alias_Base (basesF f) p.toNat).2.1).toNat : Nat) : Int) = z (gd s_alias_Base (basesF f) p.toNat).2.1 := by omega
  rw [e]
  unfold hit
  by_cases hj : j = z (gd s_alias_Base (basesF f) p.toNat).2.1
  · rw [decide_eq_true hj, show pt f p j = true from pt_iff.2 ⟨h.1, h.2, hj.symm⟩]
    cases hr : pt f r j with
    | false => rfl
    | true => exact absurd ⟨(pt_iff.1 hr).1, (pt_iff.1 hr).2.1, (pt_iff.1 hr).2.2.trans hj⟩ h2
  · rw [decide_eq_false hj]
    cases hp : pt f p j with
    | false => rfl
    | true => exact absurd (pt_iff.1 hp).2.2.symm hj
theorem leak1 {E : Ctx} {Q : AV → Heap → Prop} (f : Fn) (ps : List (Int × Int)) (N : List (Den .bool) → Cfg) (p r : Int) (hr : r < 0) (h : Runs E (N (mk f (ps ++ [(p, r)]))) Q) :
    (cond (decide (p < 0)) (hd (N (mk f ps))) (cond (decide (p ≥ (ln s_alias_Base (basesF f) : Int))) (hd (N (mk f ps))) (.chk (0 ≤ p ∧ p < (ln s_alias_Base (basesF f) : Int)) (cond (z (gd s_alias_Base (basesF f) p.toNat).1 != 2) (hd (N (mk f ps))) (.chk (0 ≤ p ∧ p < (ln s_alias_Base (basesF f) : Int)) (.chk (0 ≤ z (gd s_alias_Base (basesF f) p.toNat).2.1 ∧ z (gd s_alias_Base (basesF f) p.toNat).2.1 < (ln .bool (mk f ps) : Int)) (.chk ((z (gd s_alias_Base (basesF f) p.toNat).2.1).toNat < ln .bool (mk f ps)) (hd (N (st .bool (mk f ps) (z (gd s_alias_Base (basesF f) p.toNat).2.1).toNat true)))))))))).wp (contL E Q) := by
  rw [ln_bases, mk_ln]
  have no : ¬ ((0 ≤ p ∧ p < (nR f : Int)) ∧ z (gd s_alias_Base (basesF f) p.toNat).1 = 2) → Runs E (N (mk f ps)) Q := fun hc => by
    rw [mk_same (hit_no hc)] at h
    exact h
  refine wp_cond (fun c => no (by have := of_decide_eq_true c; omega)) fun c1 => wp_cond (fun c => no (by have := of_decide_eq_true c; omega)) fun c2 => ?_
  have a1 := of_decide_eq_false c1
  have a2 := of_decide_eq_false c2
  refine ⟨by omega, fun hp => wp_cond (fun c => no fun hc => bne_t c hc.2) fun c3 => ⟨hp, fun _ => ?_⟩⟩
  have hi := allI_bases f p.toNat (by omega) (bne_f c3)
  refine ⟨hi, fun _ => ⟨by omega, fun _ => ?_⟩⟩
  rw [mk_set (hit_yes (p := p) (r := r) ⟨hp, bne_f c3⟩ fun hc => by have := hc.1.1; omega)]
  exact h
theorem leak2 {E : Ctx} {Q : AV → Heap → Prop} (f : Fn) (ps : List (Int × Int)) (N : List (Den .bool) → Cfg) (p r : Int) (h : Runs E (N (mk f (ps ++ [(p, r)]))) Q) :
    (cond (decide (p < 0)) (hd (N (mk f ps))) (cond (decide (p ≥ (ln s_alias_Base (basesF f) : Int))) (hd (N (mk f ps))) (.chk (0 ≤ p ∧ p < (ln s_alias_Base (basesF f) : Int)) (cond (z (gd s_alias_Base (basesF f) p.toNat).1 != 2) (hd (N (mk f ps))) (.chk (0 ≤ p ∧ p < (ln s_alias_Base (basesF f) : Int))
      (cond (decide (r ≥ 0)) (cond (decide (r < (ln s_alias_Base (basesF f) : Int))) (.chk (0 ≤ r ∧ r < (ln s_alias_Base (basesF f) : Int)) (cond (z (gd s_alias_Base (basesF f) r.toNat).1 == 2) (.chk (0 ≤ r ∧ r < (ln s_alias_Base (basesF f) : Int)) (cond (z (gd s_alias_Base (basesF f) r.toNat).2.1 == z (gd s_alias_Base (basesF f) p.toNat).2.1) (hd (N (mk f ps)))
        (.chk (0 ≤ z (gd s_alias_Base (basesF f) p.toNat).2.1 ∧ z (gd s_alias_Base (basesF f) p.toNat).2.1 < (ln .bool (mk f ps) : Int)) (.chk ((z (gd s_alias_Base (basesF f) p.toNat).2.1).toNat < ln .bool (mk f ps)) (hd (N (st .bool (mk f ps) (z (gd s_alias_Base (basesF f) p.toNat).2.1).toNat true)))))))
        (.chk (0 ≤ z (gd s_alias_Base (basesF f) p.toNat).2.1 ∧ z (gd s_alias_Base (basesF f) p.toNat).2.1 < (ln .bool (mk f ps) : Int)) (.chk ((z (gd s_alias_Base (basesF f) p.toNat).2.1).toNat < ln .bool (mk f ps)) (hd (N (st .bool (mk f ps) (z (gd s_alias_Base (basesF f) p.toNat).2.1).toNat true)))))))
        (.chk (0 ≤ z (gd s_alias_Base (basesF f) p.toNat).2.1 ∧ z (gd s_alias_Base (basesF f) p.toNat).2.1 < (ln .bool (mk f ps) : Int)) (.chk ((z (gd s_alias_Base (basesF f) p.toNat).2.1).toNat < ln .bool (mk f ps)) (hd (N (st .bool (mk f ps) (z (gd s_alias_Base (basesF f) p.toNat).2.1).toNat true))))))
        (.chk (0 ≤ z (gd s_alias_Base (basesF f) p.toNat).2.1 ∧ z (gd s_alias_Base (basesF f) p.toNat).2.1 < (ln .bool (mk f ps) : Int)) (.chk ((z (gd s_alias_Base (basesF f) p.toNat).2.1).toNat < ln .bool (mk f ps)) (hd (N (st .bool (mk f ps) (z (gd s_alias_Base (basesF f) p.toNat).2.1).toNat true))))))))))).wp (contL E Q) := by
  rw [ln_bases, mk_ln]
  have no : ¬ ((0 ≤ p ∧ p < (nR f : Int)) ∧ z (gd s_alias_Base (basesF f) p.toNat).1 = 2) → Runs E (N (mk f ps)) Q := fun hc => by
    rw [mk_same (hit_no hc)] at h
    exact h
  refine wp_cond (fun c => no (by have := of_decide_eq_true c; omega)) fun c1 => wp_cond (fun c => no (by have := of_decide_eq_true c; omega)) fun c2 => ?_
  have a1 := of_decide_eq_false c1
  have a2 := of_decide_eq_false c2
  refine ⟨by omega, fun hp => wp_cond (fun c => no fun hc => bne_t c hc.2) fun c3 => ⟨hp, fun _ => ?_⟩⟩
  have hi := allI_bases f p.toNat (by omega) (bne_f c3)
  have yes : ¬ ((0 ≤ r ∧ r < (nR f : Int)) ∧ z (gd s_alias_Base (basesF f) r.toNat).1 = 2 ∧ z (gd s_alias_Base (basesF f) r.toNat).2.1 = z (gd s_alias_Base (basesF f) p.toNat).2.1) → (Tre.chk (0 ≤ z (gd s_alias_Base (basesF f) p.toNat).2.1 ∧ z (gd s_alias_Base (basesF f) p.toNat).2.1 < (nR f : Int)) (.chk ((z (gd s_alias_Base (basesF f) p.toNat).2.1).toNat < nR f) (hd (N (st .bool (mk f ps) (z (gd s_alias_Base (basesF f) p.toNat).2.1).toNat true))))).wp (contL E Q) := fun hc => by
    refine ⟨hi, fun _ => ⟨by omega, fun _ => ?_⟩⟩
    rw [mk_set (hit_yes ⟨hp, bne_f c3⟩ hc)]
    exact h
  refine wp_cond (fun c4 => wp_cond (fun c5 => ⟨⟨of_decide_eq_true c4, of_decide_eq_true c5⟩, fun hr => wp_cond (fun c6 => ⟨hr, fun _ => wp_cond (fun c7 => ?_) fun c7 => yes fun hc => beq_f c7 hc.2.2⟩) fun c6 => yes fun hc => beq_f c6 hc.2.1⟩) fun c5 => yes fun hc => of_decide_eq_false c5 hc.1.2) fun c4 => yes fun hc => of_decide_eq_false c4 hc.1.1
  rw [mk_same (hit_own ⟨hr, beq_t c6, beq_t c7⟩)] at h
  exact h
def insQ (x : Den s_api_Instr) (i : Nat) : Option Int :=
  if z x.1 = 29 then (if i = 1 then some (-1) else none) else if z x.1 = 30 ∨ z x.1 = 31 then some (-1) else if z x.1 = 21 then (if i = 1 ∨ i = 2 then some (z x.2.2.1) else none) else none
def insG (x : Den s_api_Instr) : List (Den I) → Nat → List (Int × Int)
  | [], _ => []
  | p :: l, i => (match insQ x i with | some r => [(z p, r)] | none => []) ++ insG x l (i + 1)
def insB : List (Den s_api_Instr) → List (Int × Int)
  | [] => []
  | x :: l => insG x x.2.2.2.1 0 ++ insB l
def argG : List (Den I) → List (Int × Int)
  | [] => []
  | p :: l => (z p, -1) :: argG l
def edgG (a : List (Den I)) : List (Den I) → Nat → List (Int × Int)
  | [], _ => []
  | q :: l, i => (if i < ln I a then [(z (gd I a i), z q)] else []) ++ edgG a l (i + 1)
def edgP (f : Fn) (e : Den s_api_Edge) : List (Int × Int) := if z e.1 < 0 ∨ z e.1 ≥ (ln s_api_Block (blocks f) : Int) then [] else edgG e.2.1 (bPar (blk f (z e.1))) 0
def edgB (f : Fn) : List (Den s_api_Edge) → List (Int × Int)
  | [] => []
  | e :: l => edgP f e ++ edgB f l
def trmP (b : Blk) : List (Int × Int) := if z b.2.2.1.1 = 4 ∨ z b.2.2.1.1 = 6 then argG (tArgs b) else []
def blkP (f : Fn) : List Blk → List (Int × Int)
  | [] => []
  | b :: l => insB (bIns b) ++ (trmP b ++ (edgB f (tSuc b) ++ blkP f l))
def leaks (f : Fn) : List (Int × Int) := blkP f (blocks f)
def escB (f : Fn) (j : Nat) : Bool := (leaks f).any (hit f (j : Int)) && alcL f j
def escF (f : Fn) : Den (.sl 1 .bool) := tab .bool (nR f) (escB f)
noncomputable abbrev H0 (f : Fn) (bl : List Blk) (n i : Int) (o : List (Den .bool)) : Cfg := alias_Escapes_L0 f bl n i (tOf f.1) f.2.1 (z f.2.2.1) f.2.2.2.1 f.2.2.2.2.1 (basesF f) o
noncomputable abbrev H2 (f : Fn) (bl : List Blk) (n i : Int) (b : Blk) (l : List (Den s_api_Instr)) (m k : Int) (o : List (Den .bool)) : Cfg := alias_Escapes_L2 f bl n i l m k (tOf f.1) f.2.1 (z f.2.2.1) f.2.2.2.1 f.2.2.2.2.1 (basesF f) b.1 b.2.1 (z b.2.2.1.1) b.2.2.1.2.1 b.2.2.1.2.2.1 b.2.2.1.2.2.2.1 (z b.2.2.1.2.2.2.2.1) o
noncomputable abbrev HI (f : Fn) (bl : List Blk) (n i : Int) (b : Blk) (l : List (Den s_api_Instr)) (m k : Int) (x : Den s_api_Instr) (a : List (Den I)) (c j : Int) (o : List (Den .bool)) : Cfg := alias_Escapes_instr_L0 (z x.1) (z x.2.1) (z x.2.2.1) x.2.2.2.1 (z x.2.2.2.2.1) (z x.2.2.2.2.2.1) (z x.2.2.2.2.2.2.1) (bOf x.2.2.2.2.2.2.2.1) a c j f bl n i l m k (tOf f.1) f.2.1 (z f.2.2.1) f.2.2.2.1 f.2.2.2.2.1 (basesF f) b.1 b.2.1 (z b.2.2.1.1) b.2.2.1.2.1 b.2.2.1.2.2.1 b.2.2.1.2.2.2.1 (z b.2.2.1.2.2.2.2.1) o
noncomputable abbrev H4 (f : Fn) (bl : List Blk) (n i : Int) (b : Blk) (l : List (Den I)) (m k : Int) (o : List (Den .bool)) : Cfg := alias_Escapes_L4 f bl n i l m k (tOf f.1) f.2.1 (z f.2.2.1) f.2.2.2.1 f.2.2.2.2.1 (basesF f) b.1 b.2.1 (z b.2.2.1.1) b.2.2.1.2.1 b.2.2.1.2.2.1 b.2.2.1.2.2.2.1 (z b.2.2.1.2.2.2.2.1) o
noncomputable abbrev H6 (f : Fn) (bl : List Blk) (n i : Int) (l : List (Den s_api_Edge)) (m k : Int) (o : List (Den .bool)) : Cfg := alias_Escapes_L6 f bl n i l m k (tOf f.1) f.2.1 (z f.2.2.1) f.2.2.2.1 f.2.2.2.2.1 (basesF f) o
noncomputable abbrev HE (f : Fn) (bl : List Blk) (n i : Int) (l : List (Den s_api_Edge)) (m k : Int) (e0 : Int) (a q : List (Den I)) (c j : Int) (o : List (Den .bool)) : Cfg := alias_Escapes_edge_L0 e0 a q c j f bl n i l m k (tOf f.1) f.2.1 (z f.2.2.1) f.2.2.2.1 f.2.2.2.2.1 (basesF f) o
section
variable {f : Fn} {bl : List Blk} {n i : Int} {Q : AV → Heap → Prop}
theorem es_i (b : Blk) (l : List (Den s_api_Instr)) (m k : Int) (x : Den s_api_Instr) (a : List (Den I)) (ha : ln I a < 9223372036854775807) : ∀ j, j ≤ ln I a → ∀ ps, Runs E_A18 (H2 f bl n i b l m (IntKind.wrap .i64 (k + 1)) (mk f (ps ++ insG x (a.drop j) j))) Q → Runs E_A18 (HI f bl n i b l m k x a (ln I a : Nat) (j : Nat) (mk f ps)) Q :=
  up_ind (fun ps h => .tree E_A18_ok (alias_Escapes_instr_L0_t _ _ _ _ _ _ _ _ _ _ _ _ _ _ _ _ _ _ _ _ _ _ _ _ _ _ _ _ _ _ _ _) (by
    rw [drop_ln, insG, List.append_nil] at h
    exact wp_cond (fun c => absurd (of_decide_eq_true c) (by omega)) fun _ => h))
    fun j hj ih ps h => .tree E_A18_ok (alias_Escapes_instr_L0_t _ _ _ _ _ _ _ _ _ _ _ _ _ _ _ _ _ _ _ _ _ _ _ _ _ _ _ _ _ _ _ _) (by
      rw [drop_gd hj, insG, ← List.append_assoc] at h
      refine wp_cond (fun _ => ⟨⟨by omega, by omega⟩, fun _ => ?_⟩) fun c => absurd (of_decide_eq_false c) (by omega)
      rw [wrapS hj ha]
      have no : insQ x j = none → Runs E_A18 (HI f bl n i b l m k x a (ln I a : Nat) ((j + 1 : Nat) : Int) (mk f ps)) Q := fun e => by
        rw [e, List.append_nil] at h
        exact ih ps h
      have go : ∀ r, insQ x j = some r → Runs E_A18 (HI f bl n i b l m k x a (ln I a : Nat) ((j + 1 : Nat) : Int) (mk f (ps ++ [(z (gd I a j), r)]))) Q := fun r e => by
        rw [e] at h
        exact ih _ h
      have l1 : insQ x j = some (-1) → _ := fun e => leak1 f ps (fun o => HI f bl n i b l m k x a (ln I a : Nat) ((j + 1 : Nat) : Int) o) (z (gd I a j)) (-1) (by decide) (go _ e)
      have l2 : insQ x j = some (z x.2.2.1) → _ := fun e => leak2 f ps (fun o => HI f bl n i b l m k x a (ln I a : Nat) ((j + 1 : Nat) : Int) o) (z (gd I a j)) (z x.2.2.1) (go _ e)
      unfold insQ at l1 l2 no
      clear go h
      refine wp_cond (fun c => ?_) fun c => ?_
      · rw [if_pos (beq_t c)] at l1 no
        refine wp_cond (fun d => ?_) fun d => ?_
        · exact l1 (if_pos (by have := beq_t d; omega))
        · exact no (if_neg (by have := beq_f d; omega))
      · rw [if_neg (beq_f c)] at l1 l2 no
        refine wp_cond (fun d => l1 (if_pos (.inl (beq_t d)))) fun d => ?_
        refine wp_cond (fun e => l1 (if_pos (.inr (beq_t e)))) fun e => ?_
        rw [if_neg (fun h => h.elim (beq_f d) (beq_f e))] at l2 no
        refine wp_cond (fun g => ?_) fun g => ?_
        · rw [if_pos (beq_t g)] at l2 no
          refine wp_cond (fun u => l2 (if_pos (.inl (by have := beq_t u; omega)))) fun u => ?_
          refine wp_cond (fun v => l2 (if_pos (.inr (by have := beq_t v; omega)))) fun v => ?_
          exact no (if_neg (by have := beq_f u; have := beq_f v; omega))
        · exact no (if_neg (beq_f g)))
theorem es_4 (b : Blk) (l : List (Den I)) (hl : ln I l < 9223372036854775807) : ∀ j, j ≤ ln I l → ∀ ps, Runs E_A18 (H6 f bl n i (tSuc b) (ln s_api_Edge (tSuc b) : Nat) 0 (mk f (ps ++ argG (l.drop j)))) Q → Runs E_A18 (H4 f bl n i b l (ln I l : Nat) (j : Nat) (mk f ps)) Q :=
  up_ind (fun ps h => .tree E_A18_ok (alias_Escapes_L4_t _ _ _ _ _ _ _ _ _ _ _ _ _ _ _ _ _ _ _ _ _) (by
    rw [drop_ln, argG, List.append_nil] at h
    exact wp_cond (fun c => absurd (of_decide_eq_true c) (by omega)) fun _ => h))
    fun j hj ih ps h => .tree E_A18_ok (alias_Escapes_L4_t _ _ _ _ _ _ _ _ _ _ _ _ _ _ _ _ _ _ _ _ _) (by
      rw [drop_gd hj, argG, ← List.singleton_append, ← List.append_assoc] at h
      refine wp_cond (fun _ => ⟨⟨by omega, by omega⟩, fun _ => ?_⟩) fun c => absurd (of_decide_eq_false c) (by omega)
      rw [wrapS hj hl]
      exact leak1 f ps (fun o => H4 f bl n i b l (ln I l : Nat) ((j + 1 : Nat) : Int) o) (z (gd I l j)) (-1) (by decide) (ih _ h))
theorem es_e (l : List (Den s_api_Edge)) (m k : Int) (e0 : Int) (a q : List (Den I)) (hq : ln I q < 9223372036854775807) : ∀ j, j ≤ ln I q → ∀ ps, Runs E_A18 (H6 f bl n i l m (IntKind.wrap .i64 (k + 1)) (mk f (ps ++ edgG a (q.drop j) j))) Q → Runs E_A18 (HE f bl n i l m k e0 a q (ln I q : Nat) (j : Nat) (mk f ps)) Q :=
  up_ind (fun ps h => .tree E_A18_ok (alias_Escapes_edge_L0_t _ _ _ _ _ _ _ _ _ _ _ _ _ _ _ _ _ _ _) (by
    rw [drop_ln, edgG, List.append_nil] at h
    exact wp_cond (fun c => absurd (of_decide_eq_true c) (by omega)) fun _ => h))
    fun j hj ih ps h => .tree E_A18_ok (alias_Escapes_edge_L0_t _ _ _ _ _ _ _ _ _ _ _ _ _ _ _ _ _ _ _) (by
      rw [drop_gd hj, edgG, ← List.append_assoc] at h
      refine wp_cond (fun _ => ⟨⟨by omega, by omega⟩, fun _ => ?_⟩) fun c => absurd (of_decide_eq_false c) (by omega)
      rw [wrapS hj hq]
      refine wp_cond (fun c => ?_) fun c => ?_
      · have c' := of_decide_eq_true c
        rw [if_pos (by omega)] at h
        exact ⟨⟨by omega, c'⟩, fun _ => leak2 f ps (fun o => HE f bl n i l m k e0 a q (ln I q : Nat) ((j + 1 : Nat) : Int) o) (z (gd I a j)) (z (gd I q j)) (ih _ h)⟩
      · have c' := of_decide_eq_false c
        rw [if_neg (by omega), List.append_nil] at h
        exact ih ps h)
theorem es_6 (hf : okB (blocks f)) (l : List (Den s_api_Edge)) (hl : ln s_api_Edge l < 9223372036854775807) : ∀ j, j ≤ ln s_api_Edge l → ∀ ps, Runs E_A18 (H0 f bl n (IntKind.wrap .i64 (i + 1)) (mk f (ps ++ edgB f (l.drop j)))) Q → Runs E_A18 (H6 f bl n i l (ln s_api_Edge l : Nat) (j : Nat) (mk f ps)) Q :=
  up_ind (fun ps h => .tree E_A18_ok (alias_Escapes_L6_t _ _ _ _ _ _ _ _ _ _ _ _ _ _) (by
    rw [drop_ln, edgB, List.append_nil] at h
    exact wp_cond (fun c => absurd (of_decide_eq_true c) (by omega)) fun _ => h))
    fun j hj ih ps h => .tree E_A18_ok (alias_Escapes_L6_t _ _ _ _ _ _ _ _ _ _ _ _ _ _) (by
      rw [drop_gd hj, edgB, ← List.append_assoc] at h
      have hw := wrapS hj hl
      refine wp_cond (fun _ => ⟨⟨by omega, by omega⟩, fun _ => ?_⟩) fun c => absurd (of_decide_eq_false c) (by omega)
      unfold edgP at h
      refine wp_cond (fun c => ?_) fun c => wp_cond (fun d => ?_) fun d => ?_
      · rw [hw]
        rw [if_pos (.inl (of_decide_eq_true c)), List.append_nil] at h
        exact ih ps h
      · rw [hw]
        rw [if_pos (.inr (of_decide_eq_true d)), List.append_nil] at h
        exact ih ps h
      · have c' : ¬ z (gd s_api_Edge l j).1 < 0 := of_decide_eq_false c
        have d' : ¬ z (gd s_api_Edge l j).1 ≥ (ln s_api_Block f.2.2.2.2.1 : Int) := of_decide_eq_false d
        rw [if_neg (fun h => h.elim c' d')] at h
        have hbn : (z (gd s_api_Edge l j).1).toNat < ln s_api_Block f.2.2.2.2.1 := by omega
        refine ⟨⟨Int.not_lt.1 c', Int.not_le.1 d'⟩, fun _ => ?_⟩
        refine es_e l (ln s_api_Edge l : Nat) (j : Nat) _ (gd s_api_Edge l j).2.1 (bPar (blk f (z (gd s_api_Edge l j).1))) (room_lt (hf.2 _ hbn).1.1) 0 (Nat.zero_le _) ps ?_
        rw [hw]
        exact ih _ h)
theorem es_2 (hf : okB (blocks f)) (b : Blk) (hb : okD s_api_Block b) (l : List (Den s_api_Instr)) (hl : okD (.sl 80 s_api_Instr) l) : ∀ j, j ≤ ln s_api_Instr l → ∀ ps, Runs E_A18 (H0 f bl n (IntKind.wrap .i64 (i + 1)) (mk f (ps ++ (insB (l.drop j) ++ (trmP b ++ edgB f (tSuc b)))))) Q → Runs E_A18 (H2 f bl n i b l (ln s_api_Instr l : Nat) (j : Nat) (mk f ps)) Q :=
  up_ind (fun ps h => .tree E_A18_ok (alias_Escapes_L2_t _ _ _ _ _ _ _ _ _ _ _ _ _ _ _ _ _ _ _ _ _) (by
    rw [drop_ln, insB, List.nil_append] at h
    refine wp_cond (fun c => absurd (of_decide_eq_true c) (by omega)) fun _ => ?_
    have fin : ∀ ps', Runs E_A18 (H0 f bl n (IntKind.wrap .i64 (i + 1)) (mk f (ps' ++ edgB f (tSuc b)))) Q → Runs E_A18 (H6 f bl n i (tSuc b) (ln s_api_Edge (tSuc b) : Nat) 0 (mk f ps')) Q := fun ps' h' => es_6 hf (tSuc b) (room_lt hb.2.2.1.2.2.2.1.1) 0 (Nat.zero_le _) ps' h'
    have yes : (z b.2.2.1.1 = 4 ∨ z b.2.2.1.1 = 6) → Runs E_A18 (H4 f bl n i b (tArgs b) (ln I (tArgs b) : Nat) 0 (mk f ps)) Q := fun e => by
      unfold trmP at h
      rw [if_pos e, ← List.append_assoc] at h
      exact es_4 b (tArgs b) (room_lt hb.2.2.1.2.1.1) 0 (Nat.zero_le _) ps (fin _ h)
    refine wp_cond (fun c => yes (.inl (beq_t c))) fun c => wp_cond (fun d => yes (.inr (beq_t d))) fun d => ?_
    unfold trmP at h
    rw [if_neg (fun h => h.elim (beq_f c) (beq_f d)), List.nil_append] at h
    exact fin _ h))
    fun j hj ih ps h => .tree E_A18_ok (alias_Escapes_L2_t _ _ _ _ _ _ _ _ _ _ _ _ _ _ _ _ _ _ _ _ _) (by
      rw [drop_gd hj, insB, List.append_assoc, ← List.append_assoc ps] at h
      refine wp_cond (fun _ => ⟨⟨by omega, by omega⟩, fun _ => ?_⟩) fun c => absurd (of_decide_eq_false c) (by omega)
      refine es_i b l (ln s_api_Instr l : Nat) (j : Nat) (gd s_api_Instr l j) (gd s_api_Instr l j).2.2.2.1 (room_lt (ok_gd hl hj).2.2.2.1.1) 0 (Nat.zero_le _) ps ?_
      rw [wrapS hj (room_lt hl.1)]
      exact ih _ h)
end
theorem es_8 (f : Fn) (hl : nR f < 9223372036854775807) (B : List Bs) (m : Nat → Bool) : ∀ i, i ≤ nR f → Runs E_A18 (alias_Escapes_L8 (allocsF f) (nR f : Nat) i (tOf f.1) f.2.1 (z f.2.2.1) f.2.2.2.1 f.2.2.2.2.1 B (tab .bool (nR f) fun j => if j < i then m j && alcL f j else m j)) (fun x h => x = .tv (.sl 1 .bool) (tab .bool (nR f) fun j => m j && alcL f j) ∧ h = []) :=
  up_ind (.tree E_A18_ok (alias_Escapes_L8_t _ _ _ _ _ _ _ _ _ _) (by
    have e : tab .bool (nR f) (fun j => if j < nR f then m j && alcL f j else m j) = tab .bool (nR f) fun j => m j && alcL f j := tab_ext fun j hj => if_pos hj
    rw [e]
    simp only [wp_iff, chk_iff, know_iff, any_iff, rt_iff, hd_iff, true_imp_iff, true_and, and_true, and_self, lt01, Int.ofNat_lt, Int.ofNat_le, Int.natCast_nonneg, Int.toNat_natCast, decide_true, decide_false, Bool.true_eq_false, Bool.false_eq_true, false_imp_iff, Nat.lt_irrefl, imp_self, implies_true,  true_and]))
    fun i hi ih => .tree E_A18_ok (alias_Escapes_L8_t _ _ _ _ _ _ _ _ _ _) (by
      have ha : i < ln .bool (allocsF f) := by unfold allocsF; rw [tab_ln]; exact hi
      have hg : gd .bool (allocsF f) i = alcL f i := by unfold allocsF; exact tab_gd hi
      have hm : gd .bool (tab .bool (nR f) fun j => if j < i then m j && alcL f j else m j) i = m i := by rw [tab_gd hi, if_neg (by omega)]
      have hst : ∀ v, v = (m i && alcL f i) → st .bool (tab .bool (nR f) fun j => if j < i then m j && alcL f j else m j) i v = tab .bool (nR f) fun j => if j < i + 1 then m j && alcL f j else m j := fun v hv => by
        rw [tab_st]
        refine tab_ext fun j _ => ?_
        by_cases h1 : j = i
        · rw [if_pos h1, if_pos (by omega), h1, hv]
        · rw [if_neg h1]
          by_cases h2 : j < i
          · rw [if_pos h2, if_pos (by omega)]
          · rw [if_neg h2, if_neg (by omega)]
      simp only [wp_iff, chk_iff, know_iff, any_iff, rt_iff, hd_iff, true_imp_iff, true_and, and_true, and_self, lt01, Int.ofNat_lt, Int.ofNat_le, Int.natCast_nonneg, Int.toNat_natCast, decide_true, decide_false, Bool.true_eq_false, Bool.false_eq_true, false_imp_iff, Nat.lt_irrefl, imp_self, implies_true,  hi, tab_ln, ha, hg, hm, wrapS hi hl]
      refine ⟨fun h => ?_, fun h => ?_⟩
      · rw [hst _ (by rw [show m i = true from h, Bool.true_and])]
        exact ih
      · rw [hst _ (by rw [show m i = false from h, Bool.false_and])]
        exact ih)
theorem es_0 (f : Fn) (hs : smallF f) (hl : nR f < 9223372036854775807) (bl : List Blk) (hf : okB (blocks f)) (ho : okB bl) : ∀ i, i ≤ ln s_api_Block bl → ∀ ps, Runs E_A18 (H0 f bl (ln s_api_Block bl : Nat) (i : Nat) (mk f ps)) (fun x h => x = .tv (.sl 1 .bool) (tab .bool (nR f) fun j => (ps ++ blkP f (bl.drop i)).any (hit f (j : Int)) && alcL f j) ∧ h = []) :=
  up_ind (fun ps => .tree E_A18_ok (alias_Escapes_L0_t _ _ _ _ _ _ _ _ _ _ _) (by
    rw [drop_ln, blkP, List.append_nil]
    have h8 := es_8 f hl (basesF f) (fun j => ps.any (hit f (j : Int))) 0 (Nat.zero_le _)
    have e : tab .bool (nR f) (fun j => if j < 0 then ps.any (hit f (j : Int)) && alcL f j else ps.any (hit f (j : Int))) = mk f ps := tab_ext fun j hj => if_neg (by omega)
    rw [e] at h8
    refine wp_cond (fun c => absurd (of_decide_eq_true c) (by omega)) fun _ => ⟨hs, fun _ _ => ?_⟩
    rw [mk_ln]
    exact h8))
    fun i hi ih ps => .tree E_A18_ok (alias_Escapes_L0_t _ _ _ _ _ _ _ _ _ _ _) (by
      rw [drop_gd hi, blkP]
      refine wp_cond (fun _ => ⟨⟨by omega, by omega⟩, fun _ => ?_⟩) fun c => absurd (of_decide_eq_false c) (by omega)
      have hb := ho.2 i hi
      refine es_2 hf (gd s_api_Block bl i) hb (bIns (gd s_api_Block bl i)) hb.2.1 0 (Nat.zero_le _) ps ?_
      rw [wrapS hi (room_lt ho.1)]
      have := ih (ps ++ (insB (bIns (gd s_api_Block bl i)) ++ (trmP (gd s_api_Block bl i) ++ edgB f (tSuc (gd s_api_Block bl i)))))
      rw [List.append_assoc, List.append_assoc, List.append_assoc] at this
      exact this)
def k_alias_Escapes : Con := con [.d s_api_Func] (.sl 1 .bool) (fun x => smallF x.1) fun x => escF x.1
theorem m_alias_Escapes (f : Den s_api_Func) (h_f : okD s_api_Func f) (hp : smallF f) : Runs E_A18 (start E_A18 f_alias_Escapes [(.tv s_api_Func f)]) (fun r_ h_ => r_ = (.tv (.sl 1 .bool) (escF f)) ∧ h_ = []) := .tree E_A18_ok (alias_Escapes_t f) (by
  have h1 := sz_func f
  have h2 := sz_I f.2.2.2.1
  have e2 : ln I f.2.2.2.1 = nR f := rfl
  have hl : nR f ≤ 1048576 := by
    unfold smallF at hp
    omega
  have h0 := es_0 f hp (by omega) (blocks f) (okB_of h_f) (okB_of h_f) 0 (Nat.zero_le _) []
  have e : List.replicate (ln I f.2.2.2.1) (dz .bool) = mk f [] := by
    rw [e2, tab_rep (S := .bool)]
    rfl
  refine ⟨hp, fun _ => ⟨rfl, fun _ => ⟨by omega, fun _ => ⟨by unfold roomB; omega, fun _ _ => ?_⟩⟩⟩⟩
  rw [e]
  exact h0)
theorem c_alias_Escapes : SpecOK E_A18 f_alias_Escapes k_alias_Escapes.spec := spec_of fun x hx hp => ⟨rfl, m_alias_Escapes x.1 hx.1 hp⟩
def L_A18 : List (FuncId × FSpec) := [(f_alias_Escapes, k_alias_Escapes.spec)] ++ L_A17
theorem L_A18_ok : ∀ x ∈ L_A18, SpecOK (ctx []) x.1 x.2 := by
  unfold L_A18
  simp only [List.cons_append, List.nil_append, List.forall_mem_cons]
  exact ⟨c_alias_Escapes, L_A17_ok⟩
end Burn.M27Q
namespace Burn.M27Q
open Go Go.BE Go.Proofs
set_option maxRecDepth 100000
set_option linter.unusedVariables false
set_option linter.unusedSimpArgs false
open Burn.Cfg Burn.Intn Burn.Ref
noncomputable abbrev E_A19 : Ctx := ctx L_A18
theorem E_A19_ok : EOK E_A19 := ctx_ok L_A18_ok
def cuts_A19 : CutL := [([], 42, 0, [1, 2, 3, 17, 18, 19], [], []),
  ([], 42, 2, [1, 2, 3, 8, 17, 18, 19, 24, 25, 26], [], []),
  ([], 42, 4, [1, 2, 3, 17, 18, 19, 55, 56, 57], [], []),
  ([], 42, 6, [1, 2, 3, 13, 17, 18, 19, 55, 56, 57, 78, 79, 80], [], [])]
def rets_A19 : FuncId → List (Option Fx)
  | _ => []
def H_A19 : Hints := { cut := cutOf cuts_A19, ret := rets_A19 }
noncomputable def r27_escapes_L0 (bases : List (Den s_alias_Base)) (r : Int) (f : Den s_api_Func) (t17 : List (Den s_api_Block)) (t18 : Int) (t19 : Int) : Cfg := hcfg E_A19 f_r27_escapes 0 [(1, (.tv (.sl 32 s_alias_Base) bases)), (2, (vi r)), (3, (.rtp s_api_Func f)), (17, (.tv (.sl 136 s_api_Block) t17)), (18, (vi t18)), (19, (vi t19))] [] 0
noncomputable def r27_escapes_L2 (bases : List (Den s_alias_Base)) (r : Int) (f : Den s_api_Func) (t17 : List (Den s_api_Block)) (t18 : Int) (t19 : Int) (t24 : List (Den s_api_Instr)) (t25 : Int) (t26 : Int) (b_0 : List (Den I)) (b_1 : List (Den s_api_Instr)) (b_2 : Int) (b_3 : List (Den I)) (b_4 : List (Den I)) (b_5 : List (Den s_api_Edge)) (b_6 : Int) : Cfg := hcfg E_A19 f_r27_escapes 2 [(1, (.tv (.sl 32 s_alias_Base) bases)), (2, (vi r)), (3, (.rtp s_api_Func f)), (8, (.ref 0 0)), (17, (.tv (.sl 136 s_api_Block) t17)), (18, (vi t18)), (19, (vi t19)), (24, (.tv (.sl 80 s_api_Instr) t24)), (25, (vi t25)), (26, (vi t26))] [(0, ⟨(.cells [(.tv (.sl 8 I) b_0), (.tv (.sl 80 s_api_Instr) b_1), (vi b_2), (.tv (.sl 8 I) b_3), (.tv (.sl 8 I) b_4), (.tv (.sl 32 s_api_Edge) b_5), (vi b_6)]), 0, [], false, none⟩)] 1
noncomputable def r27_escapes_L4 (bases : List (Den s_alias_Base)) (r : Int) (f : Den s_api_Func) (t17 : List (Den s_api_Block)) (t18 : Int) (t19 : Int) (t55 : List (Den s_api_Edge)) (t56 : Int) (t57 : Int) : Cfg := hcfg E_A19 f_r27_escapes 4 [(1, (.tv (.sl 32 s_alias_Base) bases)), (2, (vi r)), (3, (.rtp s_api_Func f)), (17, (.tv (.sl 136 s_api_Block) t17)), (18, (vi t18)), (19, (vi t19)), (55, (.tv (.sl 32 s_api_Edge) t55)), (56, (vi t56)), (57, (vi t57))] [] 0
noncomputable def r27_escapes_L6 (bases : List (Den s_alias_Base)) (r : Int) (f : Den s_api_Func) (t17 : List (Den s_api_Block)) (t18 : Int) (t19 : Int) (t55 : List (Den s_api_Edge)) (t56 : Int) (t57 : Int) (t78 : List (Den I)) (t79 : Int) (t80 : Int) (e_0 : Int) (e_1 : List (Den I)) : Cfg := hcfg E_A19 f_r27_escapes 6 [(1, (.tv (.sl 32 s_alias_Base) bases)), (2, (vi r)), (3, (.rtp s_api_Func f)), (13, (.ref 0 0)), (17, (.tv (.sl 136 s_api_Block) t17)), (18, (vi t18)), (19, (vi t19)), (55, (.tv (.sl 32 s_api_Edge) t55)), (56, (vi t56)), (57, (vi t57)), (78, (.tv (.sl 8 I) t78)), (79, (vi t79)), (80, (vi t80))] [(0, ⟨(.cells [(vi e_0), (.tv (.sl 8 I) e_1)]), 0, [], false, none⟩)] 1
theorem r27_escapes_t (f : Den s_api_Func) (bases : List (Den s_alias_Base)) (r : Int) : run E_A19 H_A19 f_r27_escapes 3000 (start E_A19 f_r27_escapes [(.tv s_api_Func f), (.tv (.sl 32 s_alias_Base) bases), (vi r)]) = (hd (r27_escapes_L0 bases r f f.2.2.2.2.1 ((ln s_api_Block f.2.2.2.2.1) : Int) (0 : Int))) := by kernel_rfl
theorem r27_escapes_L0_t (bases : List (Den s_alias_Base)) (r : Int) (f : Den s_api_Func) (t17 : List (Den s_api_Block)) (t18 : Int) (t19 : Int) : run E_A19 H_A19 f_r27_escapes 3000 (r27_escapes_L0 bases r f t17 t18 t19) = (cond (decide (t19 < t18)) (.chk (0 ≤ t19 ∧ t19 < (ln s_api_Block t17)) (hd (r27_escapes_L2 bases r f t17 t18 t19 (((gd s_api_Block t17 ((t19).toNat)).2).1) ((ln s_api_Instr (((gd s_api_Block t17 ((t19).toNat)).2).1)) : Int) (0 : Int) ((gd s_api_Block t17 ((t19).toNat)).1) (((gd s_api_Block t17 ((t19).toNat)).2).1) (z (((((gd s_api_Block t17 ((t19).toNat)).2).2).1).1)) ((((((gd s_api_Block t17 ((t19).toNat)).2).2).1).2).1) (((((((gd s_api_Block t17 ((t19).toNat)).2).2).1).2).2).1) ((((((((gd s_api_Block t17 ((t19).toNat)).2).2).1).2).2).2).1) (z (((((((((gd s_api_Block t17 ((t19).toNat)).2).2).1).2).2).2).2).1))))) (rt (vb false) [])) := by kernel_rfl
theorem r27_escapes_L2_t (bases : List (Den s_alias_Base)) (r : Int) (f : Den s_api_Func) (t17 : List (Den s_api_Block)) (t18 : Int) (t19 : Int) (t24 : List (Den s_api_Instr)) (t25 : Int) (t26 : Int) (b_0 : List (Den I)) (b_1 : List (Den s_api_Instr)) (b_2 : Int) (b_3 : List (Den I)) (b_4 : List (Den I)) (b_5 : List (Den s_api_Edge)) (b_6 : Int) : run E_A19 H_A19 f_r27_escapes 3000 (r27_escapes_L2 bases r f t17 t18 t19 t24 t25 t26 b_0 b_1 b_2 b_3 b_4 b_5 b_6) = (cond (decide (t26 < t25)) (.chk (0 ≤ t26 ∧ t26 < (ln s_api_Instr t24)) (.chk (ln s_alias_Base bases = ln I f.2.2.2.1) (.know True (cond (leavR f bases (gd s_api_Instr t24 ((t26).toNat)) r) (rt (vb true) []) (hd (r27_escapes_L2 bases r f t17 t18 t19 t24 t25 (IntKind.wrap .i64 (t26 + (1 : Int))) b_0 b_1 b_2 b_3 b_4 b_5 b_6)))))) (cond (b_2 == (4 : Int)) (.chk (ln s_alias_Base bases = ln I f.2.2.2.1) (.know True (cond (anyF f bases b_3 r) (rt (vb true) []) (hd (r27_escapes_L4 bases r f t17 t18 t19 b_5 ((ln s_api_Edge b_5) : Int) (0 : Int)))))) (cond (b_2 == (6 : Int)) (.chk (ln s_alias_Base bases = ln I f.2.2.2.1) (.know True (cond (anyF f bases b_3 r) (rt (vb true) []) (hd (r27_escapes_L4 bases r f t17 t18 t19 b_5 ((ln s_api_Edge b_5) : Int) (0 : Int)))))) (hd (r27_escapes_L4 bases r f t17 t18 t19 b_5 ((ln s_api_Edge b_5) : Int) (0 : Int)))))) := by kernel_rfl
theorem r27_escapes_L4_t (bases : List (Den s_alias_Base)) (r : Int) (f : Den s_api_Func) (t17 : List (Den s_api_Block)) (t18 : Int) (t19 : Int) (t55 : List (Den s_api_Edge)) (t56 : Int) (t57 : Int) : run E_A19 H_A19 f_r27_escapes 3000 (r27_escapes_L4 bases r f t17 t18 t19 t55 t56 t57) = (cond (decide (t57 < t56)) (.chk (0 ≤ t57 ∧ t57 < (ln s_api_Edge t55)) (cond (decide ((z ((gd s_api_Edge t55 ((t57).toNat)).1)) < (0 : Int))) (hd (r27_escapes_L4 bases r f t17 t18 t19 t55 t56 (IntKind.wrap .i64 (t57 + (1 : Int))))) (cond (decide ((z ((gd s_api_Edge t55 ((t57).toNat)).1)) ≥ ((ln s_api_Block f.2.2.2.2.1) : Int))) (hd (r27_escapes_L4 bases r f t17 t18 t19 t55 t56 (IntKind.wrap .i64 (t57 + (1 : Int))))) (.chk (0 ≤ (z ((gd s_api_Edge t55 ((t57).toNat)).1)) ∧ (z ((gd s_api_Edge t55 ((t57).toNat)).1)) < (ln s_api_Block f.2.2.2.2.1)) (hd (r27_escapes_L6 bases r f t17 t18 t19 t55 t56 t57 ((gd s_api_Block f.2.2.2.2.1 (((z ((gd s_api_Edge t55 ((t57).toNat)).1))).toNat)).1) ((ln I ((gd s_api_Block f.2.2.2.2.1 (((z ((gd s_api_Edge t55 ((t57).toNat)).1))).toNat)).1)) : Int) (0 : Int) (z ((gd s_api_Edge t55 ((t57).toNat)).1)) (((gd s_api_Edge t55 ((t57).toNat)).2).1))))))) (hd (r27_escapes_L0 bases r f t17 t18 (IntKind.wrap .i64 (t19 + (1 : Int)))))) := by kernel_rfl
theorem r27_escapes_L6_t (bases : List (Den s_alias_Base)) (r : Int) (f : Den s_api_Func) (t17 : List (Den s_api_Block)) (t18 : Int) (t19 : Int) (t55 : List (Den s_api_Edge)) (t56 : Int) (t57 : Int) (t78 : List (Den I)) (t79 : Int) (t80 : Int) (e_0 : Int) (e_1 : List (Den I)) : run E_A19 H_A19 f_r27_escapes 3000 (r27_escapes_L6 bases r f t17 t18 t19 t55 t56 t57 t78 t79 t80 e_0 e_1) = (cond (decide (t80 < t79)) (.chk (0 ≤ t80 ∧ t80 < (ln I t78)) (cond (decide (t80 < ((ln I e_1) : Int))) (.chk (0 ≤ t80 ∧ t80 < (ln I e_1)) (.chk (ln s_alias_Base bases = ln I f.2.2.2.1) (cond (pntF f bases (gd I e_1 ((t80).toNat)) r) (.chk (ln s_alias_Base bases = ln I f.2.2.2.1) (.know True (.know True (cond (!(pntF f bases (gd I t78 ((t80).toNat)) r)) (rt (vb true) []) (hd (r27_escapes_L6 bases r f t17 t18 t19 t55 t56 t57 t78 t79 (IntKind.wrap .i64 (t80 + (1 : Int))) e_0 e_1)))))) (.know True (hd (r27_escapes_L6 bases r f t17 t18 t19 t55 t56 t57 t78 t79 (IntKind.wrap .i64 (t80 + (1 : Int))) e_0 e_1)))))) (hd (r27_escapes_L6 bases r f t17 t18 t19 t55 t56 t57 t78 t79 (IntKind.wrap .i64 (t80 + (1 : Int))) e_0 e_1)))) (hd (r27_escapes_L4 bases r f t17 t18 t19 t55 t56 (IntKind.wrap .i64 (t57 + (1 : Int)))))) := by kernel_rfl
theorem pt_neg {f : Fn} {j : Int} : pt f (-1) j = false := by
  cases h : pt f (-1) j with
  | false => rfl
  | true => have := (pt_iff.1 h).1.1; omega
theorem hit_iff {f : Fn} {j : Int} {q : Int × Int} : hit f j q = true ↔ pt f q.1 j = true ∧ pt f q.2 j = false := by
  unfold hit
  simp
theorem insG_iff {f : Fn} {j : Int} {x : Den s_api_Instr} : ∀ {l : List (Den I)} {i : Nat}, (insG x l i).any (hit f j) = true ↔ ∃ k, k < ln I l ∧ ∃ r, insQ x (i + k) = some r ∧ hit f j (z (gd I l k), r) = true
  | [], i => by
    constructor
    · intro h; simp [insG] at h
    · intro ⟨k, hk, _⟩; exact absurd hk (Nat.not_lt_zero _)
  | p :: l, i => by
    rw [insG, List.any_append, Bool.or_eq_true, insG_iff (l := l) (i := i + 1)]
    constructor
    · intro h
      rcases h with h | ⟨k, hk, r, h1, h2⟩
      · cases hq : insQ x i with
        | none => rw [hq] at h; simp at h
        | some r =>
          rw [hq] at h
          simp only [List.any_cons, List.any_nil, Bool.or_false] at h
          exact ⟨0, Nat.succ_pos _, r, hq, h⟩
      · exact ⟨k + 1, Nat.succ_lt_succ hk, r, by rw [show i + (k + 1) = i + 1 + k by omega]; exact h1, h2⟩
    · intro ⟨k, hk, r, h1, h2⟩
      cases k with
      | zero =>
        left
        rw [show i + 0 = i from rfl] at h1
        rw [h1]
        simp only [List.any_cons, List.any_nil, Bool.or_false]
        exact h2
      | succ k => exact .inr ⟨k, Nat.lt_of_succ_lt_succ hk, r, by rw [show i + 1 + k = i + (k + 1) by omega]; exact h1, h2⟩
theorem any_iff_ {f : Fn} {j : Int} : ∀ {l : List (Den I)}, anyF f (basesF f) l j = true ↔ ∃ k, k < ln I l ∧ pt f (z (gd I l k)) j = true
  | [] => by
    constructor
    · intro h; simp [anyF] at h
    · intro ⟨k, hk, _⟩; exact absurd hk (Nat.not_lt_zero _)
  | p :: l => by
    have e : anyF f (basesF f) (p :: l) j = (pt f (z p) j || anyF f (basesF f) l j) := rfl
    rw [e, Bool.or_eq_true, any_iff_ (l := l)]
    constructor
    · intro h
      rcases h with h | ⟨k, hk, h⟩
      · exact ⟨0, Nat.succ_pos _, h⟩
      · exact ⟨k + 1, Nat.succ_lt_succ hk, h⟩
    · intro ⟨k, hk, h⟩
      cases k with
      | zero => exact .inl h
      | succ k => exact .inr ⟨k, Nat.lt_of_succ_lt_succ hk, h⟩
theorem gd_wn {l : List (Den I)} {lo n k : Nat} (hk : k < n) : gd I (wn I l lo n) k = gd I l (lo + k) := by
  unfold gd wn
  rw [List.getD_eq_getElem?_getD, List.getD_eq_getElem?_getD, List.getElem?_take_of_lt hk, List.getElem?_drop]
theorem ln_wn {l : List (Den I)} {lo n : Nat} : ln I (wn I l lo n) = min n (ln I l - lo) := by
  unfold ln wn
  rw [List.length_take, List.length_drop]
theorem leav_eq (f : Fn) (x : Den s_api_Instr) (j : Int) : leavR f (basesF f) x j = (insG x x.2.2.2.1 0).any (hit f j) := by
  rw [Bool.eq_iff_iff, insG_iff]
  simp only [Nat.zero_add]
  have hn := @pt_neg f j
  unfold leavR
  simp only [Bool.cond_eq_ite]
  by_cases h1 : z x.1 = 29
  · rw [if_pos (beq_iff_eq.2 h1)]
    have q : ∀ i, insQ x i = if i = 1 then some (-1) else none := fun i => if_pos h1
    simp only [q]
    by_cases h2 : (ln I x.2.2.2.1 : Int) > 1
    · rw [if_pos (decide_eq_true h2)]
      constructor
      · intro h
        exact ⟨1, by omega, -1, rfl, hit_iff.2 ⟨h, hn⟩⟩
      · intro ⟨k, hk, r, e, h⟩
        by_cases hk1 : k = 1
        · subst hk1
          exact (hit_iff.1 h).1
        · rw [if_neg hk1] at e; cases e
    · rw [if_neg (by simpa using h2)]
      constructor
      · intro h; cases h
      · intro ⟨k, hk, r, e, h⟩
        rw [if_neg (by omega)] at e; cases e
  · rw [if_neg (by simpa using h1)]
    by_cases h2 : z x.1 = 30 ∨ z x.1 = 31
    · have q : ∀ i, insQ x i = some (-1) := fun i => (if_neg h1).trans (if_pos h2)
      have key : anyF f (basesF f) x.2.2.2.1 j = true ↔ ∃ k, k < ln I x.2.2.2.1 ∧ ∃ r, insQ x k = some r ∧ hit f j (z (gd I x.2.2.2.1 k), r) = true := by
        rw [any_iff_]
        simp only [q]
        constructor
        · intro ⟨k, hk, h⟩; exact ⟨k, hk, -1, rfl, hit_iff.2 ⟨h, hn⟩⟩
        · intro ⟨k, hk, r, e, h⟩; exact ⟨k, hk, (hit_iff.1 h).1⟩
      by_cases h3 : z x.1 = 30
      · rw [if_pos (beq_iff_eq.2 h3)]; exact key
      · rw [if_neg (by simpa using h3), if_pos (beq_iff_eq.2 (h2.resolve_left h3))]; exact key
    · rw [if_neg (by simp; intro h; exact h2 (.inl h)), if_neg (by simp; intro h; exact h2 (.inr h))]
      by_cases h3 : z x.1 = 21
      · rw [if_pos (beq_iff_eq.2 h3)]
        have q : ∀ i, insQ x i = if i = 1 ∨ i = 2 then some (z x.2.2.1) else none := fun i => (if_neg h1).trans ((if_neg h2).trans (if_pos h3))
        simp only [q]
        by_cases h4 : (ln I x.2.2.2.1 : Int) > 1
        · rw [if_pos (decide_eq_true h4)]
          generalize hm : (if (3 : Int) < (ln I x.2.2.2.1 : Int) then (3 : Int) else (ln I x.2.2.2.1 : Int)).toNat - 1 = m
          have hm' : m = min 2 (ln I x.2.2.2.1 - 1) := by
            rw [← hm]
            split <;> omega
          have hw : anyF f (basesF f) (wn I x.2.2.2.1 1 m) j = true ↔ ∃ k, k < ln I x.2.2.2.1 ∧ (k = 1 ∨ k = 2) ∧ pt f (z (gd I x.2.2.2.1 k)) j = true := by
            rw [any_iff_, ln_wn]
            constructor
            · intro ⟨k, hk, h⟩
              rw [gd_wn (by omega)] at h
              exact ⟨1 + k, by omega, by omega, h⟩
            · intro ⟨k, hk, hc, h⟩
              refine ⟨k - 1, by omega, ?_⟩
              rw [gd_wn (by omega), show 1 + (k - 1) = k by omega]
              exact h
          constructor
          · intro h
            split at h
            · rename_i ha
              obtain ⟨k, hk, hc, hp⟩ := hw.1 ha
              exact ⟨k, hk, z x.2.2.1, if_pos hc, hit_iff.2 ⟨hp, (show pntF f (basesF f) x.2.2.1 j = false by simpa using h)⟩⟩
            · cases h
          · intro ⟨k, hk, r, e, h⟩
            by_cases hc : k = 1 ∨ k = 2
            · rw [if_pos hc] at e
              injection e with e
              subst e
              have hh := hit_iff.1 h
              rw [if_pos (hw.2 ⟨k, hk, hc, hh.1⟩)]
              have : pt f (z x.2.2.1) j = false := hh.2
              simp only [Bool.not_eq_true']
              exact this
            · rw [if_neg hc] at e; cases e
        · rw [if_neg (by simpa using h4)]
          constructor
          · intro h; cases h
          · intro ⟨k, hk, r, e, h⟩
            rw [if_neg (by omega)] at e; cases e
      · rw [if_neg (by simpa using h3)]
        have q : ∀ i, insQ x i = none := fun i => (if_neg h1).trans ((if_neg h2).trans (if_neg h3))
        constructor
        · intro h; cases h
        · intro ⟨k, hk, r, e, h⟩
          rw [q] at e; cases e
theorem argG_eq (f : Fn) (l : List (Den I)) (j : Int) : anyF f (basesF f) l j = (argG l).any (hit f j) := by
  induction l with
  | nil => rfl
  | cons p l ih =>
    have e : anyF f (basesF f) (p :: l) j = (pt f (z p) j || anyF f (basesF f) l j) := rfl
    rw [e, ih, argG, List.any_cons]
    congr 1
    unfold hit
    simp only [pt_neg, Bool.not_false, Bool.and_true]
def escR (f : Fn) (_ : List Bs) (r : Int) : Bool := (leaks f).any (hit f r)
section
variable {f : Fn} {r : Int} {bl : List Blk} {n i : Int}
theorem er_6 (es : List (Den s_api_Edge)) (m k : Int) (rest : Bool) (e0 : Int) (a q : List (Den I)) (hq : ln I q < 9223372036854775807) (h : Runs E_A19 (r27_escapes_L4 (basesF f) r f bl n i es m (IntKind.wrap .i64 (k + 1))) (fun x h => x = vb rest ∧ h = [])) :
    ∀ j, j ≤ ln I q → Runs E_A19 (r27_escapes_L6 (basesF f) r f bl n i es m k q (ln I q : Nat) j e0 a) (fun x h => x = vb ((edgG a (q.drop j) j).any (hit f r) || rest) ∧ h = []) :=
  up_ind (.tree E_A19_ok (r27_escapes_L6_t _ _ _ _ _ _ _ _ _ _ _ _ _ _) (by
    rw [drop_ln, edgG, List.any_nil, Bool.false_or]
    exact wp_cond (fun c => absurd (of_decide_eq_true c) (by omega)) fun _ => h))
    fun j hj ih => .tree E_A19_ok (r27_escapes_L6_t _ _ _ _ _ _ _ _ _ _ _ _ _ _) (by
      rw [drop_gd hj, edgG, List.any_append, Bool.or_assoc]
      refine wp_cond (fun _ => ⟨⟨by omega, by omega⟩, fun _ => ?_⟩) fun c => absurd (of_decide_eq_false c) (by omega)
      rw [wrapS hj hq]
      refine wp_cond (fun c => ?_) fun c => ?_
      · have c' : j < ln I a := by have := of_decide_eq_true c; omega
        rw [if_pos c', List.any_cons, List.any_nil, Bool.or_false]
        refine ⟨⟨by omega, of_decide_eq_true c⟩, fun _ => ⟨ln_bases f, fun _ => wp_cond (fun d => ⟨ln_bases f, fun _ _ _ => wp_cond (fun e => ?_) fun e => ?_⟩) fun d _ => ?_⟩⟩
        · have hh : hit f r (z (gd I a j), z (gd I q j)) = true := hit_iff.2 ⟨d, (show pntF f (basesF f) (gd I q j) r = false by simpa using e)⟩
          rw [hh]
          exact ⟨rfl, rfl⟩
        · have hh : hit f r (z (gd I a j), z (gd I q j)) = false := by
            cases hx : hit f r (z (gd I a j), z (gd I q j)) with
            | false => rfl
            | true =>
              have h2 : pt f (z (gd I q j)) r = false := (hit_iff.1 hx).2
              have h3 : pt f (z (gd I q j)) r = true := (show pntF f (basesF f) (gd I q j) r = true by simpa using e)
              rw [h2] at h3; cases h3
          rw [hh, Bool.false_or]
          exact ih
        · have hh : hit f r (z (gd I a j), z (gd I q j)) = false := by
            cases hx : hit f r (z (gd I a j), z (gd I q j)) with
            | false => rfl
            | true =>
              have h2 : pt f (z (gd I a j)) r = true := (hit_iff.1 hx).1
              have h3 : pt f (z (gd I a j)) r = false := d
              rw [h2] at h3; cases h3
          rw [hh, Bool.false_or]
          exact ih
      · have c' : ¬ j < ln I a := by have := of_decide_eq_false c; omega
        rw [if_neg c', List.any_nil, Bool.false_or]
        exact ih)
theorem er_4 (hf : okB (blocks f)) (l : List (Den s_api_Edge)) (hl : ln s_api_Edge l < 9223372036854775807) (rest : Bool) (h : Runs E_A19 (r27_escapes_L0 (basesF f) r f bl n (IntKind.wrap .i64 (i + 1))) (fun x h => x = vb rest ∧ h = [])) :
    ∀ j, j ≤ ln s_api_Edge l → Runs E_A19 (r27_escapes_L4 (basesF f) r f bl n i l (ln s_api_Edge l : Nat) j) (fun x h => x = vb ((edgB f (l.drop j)).any (hit f r) || rest) ∧ h = []) :=
  up_ind (.tree E_A19_ok (r27_escapes_L4_t _ _ _ _ _ _ _ _ _) (by
    rw [drop_ln, edgB, List.any_nil, Bool.false_or]
    exact wp_cond (fun c => absurd (of_decide_eq_true c) (by omega)) fun _ => h))
    fun j hj ih => .tree E_A19_ok (r27_escapes_L4_t _ _ _ _ _ _ _ _ _) (by
      rw [drop_gd hj, edgB, List.any_append, Bool.or_assoc]
      unfold edgP
      have hw := wrapS hj hl
      refine wp_cond (fun _ => ⟨⟨by omega, by omega⟩, fun _ => ?_⟩) fun c => absurd (of_decide_eq_false c) (by omega)
      refine wp_cond (fun c => ?_) fun c => wp_cond (fun d => ?_) fun d => ?_
      · rw [hw, if_pos (.inl (of_decide_eq_true c)), List.any_nil, Bool.false_or]
        exact ih
      · rw [hw, if_pos (.inr (of_decide_eq_true d)), List.any_nil, Bool.false_or]
        exact ih
      · have c' : ¬ z (gd s_api_Edge l j).1 < 0 := of_decide_eq_false c
        have d' : ¬ z (gd s_api_Edge l j).1 ≥ (ln s_api_Block f.2.2.2.2.1 : Int) := of_decide_eq_false d
        have hbn : (z (gd s_api_Edge l j).1).toNat < ln s_api_Block f.2.2.2.2.1 := by omega
        rw [if_neg (fun h => h.elim c' d')]
        refine ⟨⟨Int.not_lt.1 c', Int.not_le.1 d'⟩, fun _ => ?_⟩
        exact er_6 l (ln s_api_Edge l : Nat) (j : Nat) _ (z (gd s_api_Edge l j).1) (gd s_api_Edge l j).2.1 (bPar (blk f (z (gd s_api_Edge l j).1))) (room_lt (hf.2 _ hbn).1.1) (by rw [hw]; exact ih) 0 (Nat.zero_le _))
theorem er_2 (hf : okB (blocks f)) (b : Blk) (hb : okD s_api_Block b) (rest : Bool) (l : List (Den s_api_Instr)) (hl : okD (.sl 80 s_api_Instr) l) (h : Runs E_A19 (r27_escapes_L0 (basesF f) r f bl n (IntKind.wrap .i64 (i + 1))) (fun x h => x = vb rest ∧ h = [])) :
    ∀ j, j ≤ ln s_api_Instr l → Runs E_A19 (r27_escapes_L2 (basesF f) r f bl n i l (ln s_api_Instr l : Nat) j b.1 b.2.1 (z b.2.2.1.1) b.2.2.1.2.1 b.2.2.1.2.2.1 b.2.2.1.2.2.2.1 (z b.2.2.1.2.2.2.2.1)) (fun x h => x = vb ((insB (l.drop j)).any (hit f r) || ((trmP b).any (hit f r) || ((edgB f (tSuc b)).any (hit f r) || rest))) ∧ h = []) := by
  have h4 := er_4 (r := r) (bl := bl) (n := n) (i := i) hf (tSuc b) (room_lt hb.2.2.1.2.2.2.1.1) rest h 0 (Nat.zero_le _)
  refine up_ind (.tree E_A19_ok (r27_escapes_L2_t _ _ _ _ _ _ _ _ _ _ _ _ _ _ _ _) (by
    rw [drop_ln, insB, List.any_nil, Bool.false_or]
    refine wp_cond (fun c => absurd (of_decide_eq_true c) (by omega)) fun _ => ?_
    unfold trmP
    refine wp_cond (fun c => ?_) fun c => wp_cond (fun d => ?_) fun d => ?_
    · rw [if_pos (.inl (beq_t c)), ← argG_eq]
      refine ⟨ln_bases f, fun _ _ => wp_cond (fun e => ?_) fun e => ?_⟩
      · rw [show anyF f (basesF f) (tArgs b) r = true from e]
        exact ⟨rfl, rfl⟩
      · rw [show anyF f (basesF f) (tArgs b) r = false from e, Bool.false_or]
        exact h4
    · rw [if_pos (.inr (beq_t d)), ← argG_eq]
      refine ⟨ln_bases f, fun _ _ => wp_cond (fun e => ?_) fun e => ?_⟩
      · rw [show anyF f (basesF f) (tArgs b) r = true from e]
        exact ⟨rfl, rfl⟩
      · rw [show anyF f (basesF f) (tArgs b) r = false from e, Bool.false_or]
        exact h4
    · rw [if_neg (fun h => h.elim (beq_f c) (beq_f d)), List.any_nil, Bool.false_or]
      exact h4))
    fun j hj ih => .tree E_A19_ok (r27_escapes_L2_t _ _ _ _ _ _ _ _ _ _ _ _ _ _ _ _) (by
      rw [drop_gd hj, insB, List.any_append, Bool.or_assoc, ← leav_eq]
      refine wp_cond (fun _ => ⟨⟨by omega, by omega⟩, fun _ => ⟨ln_bases f, fun _ _ => ?_⟩⟩) fun c => absurd (of_decide_eq_false c) (by omega)
      rw [wrapS hj (room_lt hl.1)]
      refine wp_cond (fun e => ?_) fun e => ?_
      · rw [show leavR f (basesF f) (gd s_api_Instr l j) r = true from e]
        exact ⟨rfl, rfl⟩
      · rw [show leavR f (basesF f) (gd s_api_Instr l j) r = false from e, Bool.false_or]
        exact ih)
end
theorem er_0 (f : Fn) (r : Int) (hf : okB (blocks f)) (bl : List Blk) (ho : okB bl) : ∀ i, i ≤ ln s_api_Block bl → Runs E_A19 (r27_escapes_L0 (basesF f) r f bl (ln s_api_Block bl : Nat) i) (fun x h => x = vb ((blkP f (bl.drop i)).any (hit f r)) ∧ h = []) :=
  up_ind (.tree E_A19_ok (r27_escapes_L0_t _ _ _ _ _ _) (by
    rw [drop_ln, blkP, List.any_nil]
    exact wp_cond (fun c => absurd (of_decide_eq_true c) (by omega)) fun _ => ⟨rfl, rfl⟩))
    fun i hi ih => .tree E_A19_ok (r27_escapes_L0_t _ _ _ _ _ _) (by
      rw [drop_gd hi, blkP, List.any_append, List.any_append, List.any_append]
      refine wp_cond (fun _ => ⟨⟨by omega, by omega⟩, fun _ => ?_⟩) fun c => absurd (of_decide_eq_false c) (by omega)
      have hb := ho.2 i hi
      exact er_2 hf (gd s_api_Block bl i) hb _ (bIns (gd s_api_Block bl i)) hb.2.1 (by rw [wrapS hi (room_lt ho.1)]; exact ih) 0 (Nat.zero_le _))
def k_r27_escapes : Con := con [.d s_api_Func, .d (.sl 32 s_alias_Base), .d I] .bool (fun x => x.2.1 = basesF x.1) fun x => escR x.1 x.2.1 x.2.2.1
theorem m_r27_escapes (f : Den s_api_Func) (bases : List (Den s_alias_Base)) (r : Int) (h_f : okD s_api_Func f) (h_bases : okD (.sl 32 s_alias_Base) bases) (h_r : okD I r) (hp : bases = basesF f) : Runs E_A19 (start E_A19 f_r27_escapes [(.tv s_api_Func f), (.tv (.sl 32 s_alias_Base) bases), (vi r)]) (fun r_ h_ => r_ = (vb (escR f bases r)) ∧ h_ = []) := .tree E_A19_ok (r27_escapes_t f bases r) (by
  subst hp
  exact er_0 f r (okB_of h_f) (blocks f) (okB_of h_f) 0 (Nat.zero_le _))
theorem c_r27_escapes : SpecOK E_A19 f_r27_escapes k_r27_escapes.spec := spec_of fun x hx hp => ⟨rfl, m_r27_escapes x.1 x.2.1 x.2.2.1 hx.1 hx.2.1 hx.2.2.1 hp⟩
def L_A19 : List (FuncId × FSpec) := [(f_r27_escapes, k_r27_escapes.spec)] ++ L_A18
theorem L_A19_ok : ∀ x ∈ L_A19, SpecOK (ctx []) x.1 x.2 := by
  unfold L_A19
  simp only [List.cons_append, List.nil_append, List.forall_mem_cons]
  exact ⟨c_r27_escapes, L_A18_ok⟩
end Burn.M27Q
namespace Burn.M27Q
open Go Go.BE Go.Proofs
set_option maxRecDepth 100000
set_option linter.unusedVariables false
set_option linter.unusedSimpArgs false
open Burn.Cfg Burn.Intn Burn.Ref
noncomputable abbrev E_A20 : Ctx := ctx L_A19
theorem E_A20_ok : EOK E_A20 := ctx_ok L_A19_ok
def cuts_A20 : CutL := []
def rets_A20 : FuncId → List (Option Fx)
  | _ => []
def H_A20 : Hints := { cut := cutOf cuts_A20, ret := rets_A20 }
theorem local2_t (f : Den s_api_Func) (object : Den s_alias_Base) (other : Den s_alias_Base) : run E_A20 H_A20 f_alias_local 3000 (start E_A20 f_alias_local [(.tv s_api_Func f), (.tv s_alias_Base object), (.tv s_alias_Base other)]) = (.chk (True) (.know (okD (.int .i64) (idxF f.2.1 other.2.1)) (cond (decide ((idxF f.2.1 other.2.1) ≥ (0 : Int))) (rt (vb true) []) (cond (decide ((z object.2.1) ≥ (0 : Int))) (cond (decide ((z object.2.1) < ((ln I f.2.2.2.1) : Int))) (.chk (smallF f) (.chk (0 ≤ (z object.2.1) ∧ (z object.2.1) < (ln .bool (allocsF f))) (cond (bOf (gd .bool (allocsF f) (((z object.2.1)).toNat))) (.chk (smallF f) (.chk (0 ≤ (z object.2.1) ∧ (z object.2.1) < (ln .bool (escF f))) (.know (okD (.sl 1 .bool) (allocsF f)) (.know (okD (.sl 1 .bool) (escF f)) (rt (vb (!(bOf (gd .bool (escF f) (((z object.2.1)).toNat))))) []))))) (.know (okD (.sl 1 .bool) (allocsF f)) (rt (vb false) []))))) (rt (vb false) [])) (rt (vb false) []))))) := by kernel_rfl
theorem r27_confined_t (f : Den s_api_Func) (x : Den s_alias_Base) (y : Den s_alias_Base) : run E_A20 H_A20 f_r27_confined 3000 (start E_A20 f_r27_confined [(.tv s_api_Func f), (.tv s_alias_Base x), (.tv s_alias_Base y)]) = (cond ((z x.1) != (2 : Int)) (rt (vb false) []) (cond ((z y.1) != (3 : Int)) (rt (vb false) []) (.chk (True) (.know True (cond (hasF f y.2.1) (rt (vb true) []) (.chk (smallF f) (.chk (goodD f (rDefs f)) (cond (alcR f (rDefs f) x.2.1) (.chk (smallF f) (.chk ((basesF f) = basesF f) (.know (okD (.sl 24 (.sl 16 s_api_Pos)) (rDefs f)) (.know True (.know (okD (.sl 32 s_alias_Base) (basesF f)) (.know True (rt (vb (!(escR f (basesF f) x.2.1))) []))))))) (.know (okD (.sl 24 (.sl 16 s_api_Pos)) (rDefs f)) (.know True (rt (vb false) []))))))))))) := by kernel_rfl
theorem ln_allocs (f : Fn) : ln .bool (allocsF f) = ln I f.2.2.2.1 := tab_ln
theorem ln_esc (f : Fn) : ln .bool (escF f) = ln I f.2.2.2.1 := tab_ln
def locF (f : Den s_api_Func) (object : Den s_alias_Base) (other : Den s_alias_Base) : Bool := (cond (decide ((idxF f.2.1 other.2.1) ≥ (0 : Int))) true (cond (decide ((z object.2.1) ≥ (0 : Int))) (cond (decide ((z object.2.1) < ((ln I f.2.2.2.1) : Int))) (cond (bOf (gd .bool (allocsF f) (((z object.2.1)).toNat))) (!(bOf (gd .bool (escF f) (((z object.2.1)).toNat)))) false) false) false))

def k_local2 : Con := con [.d s_api_Func, .d s_alias_Base, .d s_alias_Base] .bool (fun x => smallF x.1) fun x => locF x.1 x.2.1 x.2.2.1
theorem m_local2 (f : Den s_api_Func) (object : Den s_alias_Base) (other : Den s_alias_Base) (h_f : okD s_api_Func f) (h_object : okD s_alias_Base object) (h_other : okD s_alias_Base other) (hp : smallF f) : Runs E_A20 (start E_A20 f_alias_local [(.tv s_api_Func f), (.tv s_alias_Base object), (.tv s_alias_Base other)]) (fun r_ h_ => r_ = (vb (locF f object other)) ∧ h_ = []) := .tree E_A20_ok (local2_t f object other) (by
  have hp_ := hp
  try simp only [z] at hp_
  refine ⟨trivial, fun _ => ?_⟩
  refine fun _ => ?_
  refine wp_cond (fun h1 => ?_) (fun h1 => ?_)
  · have h1_ := of_decide_eq_true h1
    exact ⟨by simp only [locF, h1, cond_true, cond_false], rfl⟩
  · have h1_ := of_decide_eq_false h1
    refine wp_cond (fun h2 => ?_) (fun h2 => ?_)
    · have h2_ := of_decide_eq_true h2
      refine wp_cond (fun h3 => ?_) (fun h3 => ?_)
      · have h3_ := of_decide_eq_true h3
        refine ⟨by first | omega | exact (ln_allocs f) | (have g_ := ln_allocs f; omega) | exact (ln_esc f) | (have g_ := ln_esc f; omega) | assumption | exact hp.1 | exact hp.2 | exact hp.2.1 | (simp_all; done) | (simp_all; omega), fun _ => ?_⟩
        refine ⟨by first | omega | exact (ln_allocs f) | (have g_ := ln_allocs f; omega) | exact (ln_esc f) | (have g_ := ln_esc f; omega) | assumption | exact hp.1 | exact hp.2 | exact hp.2.1 | (simp_all; done) | (simp_all; omega), fun _ => ?_⟩
        refine wp_cond (fun h4 => ?_) (fun h4 => ?_)
        · refine ⟨by first | omega | exact (ln_allocs f) | (have g_ := ln_allocs f; omega) | exact (ln_esc f) | (have g_ := ln_esc f; omega) | assumption | exact hp.1 | exact hp.2 | exact hp.2.1 | (simp_all; done) | (simp_all; omega), fun _ => ?_⟩
          refine ⟨by first | omega | exact (ln_allocs f) | (have g_ := ln_allocs f; omega) | exact (ln_esc f) | (have g_ := ln_esc f; omega) | assumption | exact hp.1 | exact hp.2 | exact hp.2.1 | (simp_all; done) | (simp_all; omega), fun _ => ?_⟩
          refine fun _ => ?_
          refine fun _ => ?_
          exact ⟨by simp only [locF, h1, h2, h3, h4, cond_true, cond_false], rfl⟩
        · refine fun _ => ?_
          exact ⟨by simp only [locF, h1, h2, h3, h4, cond_true, cond_false], rfl⟩
      · have h3_ := of_decide_eq_false h3
        exact ⟨by simp only [locF, h1, h2, h3, cond_true, cond_false], rfl⟩
    · have h2_ := of_decide_eq_false h2
      exact ⟨by simp only [locF, h1, h2, cond_true, cond_false], rfl⟩)
theorem c_local2 : SpecOK E_A20 f_alias_local k_local2.spec := spec_of fun x hx hp => ⟨rfl, m_local2 x.1 x.2.1 x.2.2.1 hx.1 hx.2.1 hx.2.2.1 hp⟩
def confF (f : Den s_api_Func) (x : Den s_alias_Base) (y : Den s_alias_Base) : Bool := (cond ((z x.1) != (2 : Int)) false (cond ((z y.1) != (3 : Int)) false (cond (hasF f y.2.1) true (cond (alcR f (rDefs f) x.2.1) (!(escR f (basesF f) x.2.1)) false))))

def k_r27_confined : Con := con [.d s_api_Func, .d s_alias_Base, .d s_alias_Base] .bool (fun x => smallF x.1) fun x => confF x.1 x.2.1 x.2.2.1
theorem m_r27_confined (f : Den s_api_Func) (x : Den s_alias_Base) (y : Den s_alias_Base) (h_f : okD s_api_Func f) (h_x : okD s_alias_Base x) (h_y : okD s_alias_Base y) (hp : smallF f) : Runs E_A20 (start E_A20 f_r27_confined [(.tv s_api_Func f), (.tv s_alias_Base x), (.tv s_alias_Base y)]) (fun r_ h_ => r_ = (vb (confF f x y)) ∧ h_ = []) := .tree E_A20_ok (r27_confined_t f x y) (by
  have hp_ := hp
  try simp only [z] at hp_
  refine wp_cond (fun h1 => ?_) (fun h1 => ?_)
  · have h1_ := bne_t h1
    exact ⟨by simp only [confF, h1, cond_true, cond_false], rfl⟩
  · have h1_ := bne_f h1
    refine wp_cond (fun h2 => ?_) (fun h2 => ?_)
    · have h2_ := bne_t h2
      exact ⟨by simp only [confF, h1, h2, cond_true, cond_false], rfl⟩
    · have h2_ := bne_f h2
      refine ⟨trivial, fun _ => ?_⟩
      refine fun _ => ?_
      refine wp_cond (fun h3 => ?_) (fun h3 => ?_)
      · exact ⟨by simp only [confF, h1, h2, h3, cond_true, cond_false], rfl⟩
      · refine ⟨by first | omega | exact (good_defs f) | (have g_ := good_defs f; omega) | assumption | exact hp.1 | exact hp.2 | exact hp.2.1 | (simp_all; done) | (simp_all; omega), fun _ => ?_⟩
        refine ⟨by first | omega | exact (good_defs f) | (have g_ := good_defs f; omega) | assumption | exact hp.1 | exact hp.2 | exact hp.2.1 | (simp_all; done) | (simp_all; omega), fun _ => ?_⟩
        refine wp_cond (fun h4 => ?_) (fun h4 => ?_)
        · refine ⟨by first | omega | exact (good_defs f) | (have g_ := good_defs f; omega) | assumption | exact hp.1 | exact hp.2 | exact hp.2.1 | (simp_all; done) | (simp_all; omega), fun _ => ?_⟩
          refine ⟨by first | omega | exact (good_defs f) | (have g_ := good_defs f; omega) | assumption | exact hp.1 | exact hp.2 | exact hp.2.1 | (simp_all; done) | (simp_all; omega), fun _ => ?_⟩
          refine fun _ => ?_
          refine fun _ => ?_
          refine fun _ => ?_
          refine fun _ => ?_
          exact ⟨by simp only [confF, h1, h2, h3, h4, cond_true, cond_false], rfl⟩
        · refine fun _ => ?_
          refine fun _ => ?_
          exact ⟨by simp only [confF, h1, h2, h3, h4, cond_true, cond_false], rfl⟩)
theorem c_r27_confined : SpecOK E_A20 f_r27_confined k_r27_confined.spec := spec_of fun x hx hp => ⟨rfl, m_r27_confined x.1 x.2.1 x.2.2.1 hx.1 hx.2.1 hx.2.2.1 hp⟩
def L_A20 : List (FuncId × FSpec) := [(f_alias_local, k_local2.spec), (f_r27_confined, k_r27_confined.spec)] ++ L_A19
theorem L_A20_ok : ∀ x ∈ L_A20, SpecOK (ctx []) x.1 x.2 := by
  unfold L_A20
  simp only [List.cons_append, List.nil_append, List.forall_mem_cons]
  exact ⟨c_local2, c_r27_confined, L_A19_ok⟩
end Burn.M27Q
namespace Burn.M27Q
open Go Go.BE Go.Proofs
set_option maxRecDepth 100000
set_option linter.unusedVariables false
set_option linter.unusedSimpArgs false
open Burn.Cfg Burn.Intn Burn.Ref
noncomputable abbrev E_A21 : Ctx := ctx L_A20
theorem E_A21_ok : EOK E_A21 := ctx_ok L_A20_ok
def cuts_A21 : CutL := []
def rets_A21 : FuncId → List (Option Fx)
  | _ => []
def H_A21 : Hints := { cut := cutOf cuts_A21, ret := rets_A21 }
theorem relate2_t (f : Den s_api_Func) (a : Den s_alias_Base) (b : Den s_alias_Base) (cellsA : Int) (cellsB : Int) : run E_A21 H_A21 f_alias_Relate 3000 (start E_A21 f_alias_Relate [(.tv s_api_Func f), (.tv s_alias_Base a), (.tv s_alias_Base b), (vi cellsA), (vi cellsB)]) = (cond (decide (cellsA < (1 : Int))) (rt (vi (1 : Int)) []) (cond (decide (cellsB < (1 : Int))) (rt (vi (1 : Int)) []) (.chk ((0 : Nat) < (1 : Nat)) (cond (decide ((z a.1) ≥ (1 : Int))) (cond (!(decide ((z a.1) ≤ (3 : Int)))) (rt (vi (2 : Int)) []) (.chk ((0 : Nat) < (1 : Nat)) (cond (decide ((z b.1) ≥ (1 : Int))) (cond (!(decide ((z b.1) ≤ (3 : Int)))) (rt (vi (2 : Int)) []) (.chk ((0 : Nat) < (1 : Nat)) (.chk ((0 : Nat) < (1 : Nat)) (cond ((z a.1) == (z b.1)) (.chk ((0 : Nat) < (1 : Nat)) (.chk ((0 : Nat) < (1 : Nat)) (cond ((z a.2.1) == (z b.2.1)) (.chk ((0 : Nat) < (1 : Nat)) (cond (bOf a.2.2.2.1) (.chk ((0 : Nat) < (1 : Nat)) (cond (bOf b.2.2.2.1) (.chk ((0 : Nat) < (1 : Nat)) (.chk ((0 : Nat) < (1 : Nat)) (cond ((z a.2.2.1) == (z b.2.2.1)) (cond (cellsA == cellsB) (rt (vi (3 : Int)) []) (.chk ((0 : Nat) < (1 : Nat)) (.chk ((0 : Nat) < (1 : Nat)) (.chk (True) (.know True (cond (!(overP a.2.2.1 b.2.2.1 cellsA cellsB)) (rt (vi (1 : Int)) []) (rt (vi (2 : Int)) []))))))) (.chk ((0 : Nat) < (1 : Nat)) (.chk ((0 : Nat) < (1 : Nat)) (.chk (True) (.know True (cond (!(overP a.2.2.1 b.2.2.1 cellsA cellsB)) (rt (vi (1 : Int)) []) (rt (vi (2 : Int)) []))))))))) (.chk ((0 : Nat) < (1 : Nat)) (.chk ((0 : Nat) < (1 : Nat)) (cond ((z a.1) == (z b.1)) (.chk ((0 : Nat) < (1 : Nat)) (.chk ((0 : Nat) < (1 : Nat)) (cond ((z a.2.1) == (z b.2.1)) (rt (vi (2 : Int)) []) (.chk ((0 : Nat) < (1 : Nat)) (.chk ((0 : Nat) < (1 : Nat)) (.chk ((1 ≤ z a.1 ∧ z a.1 ≤ 3) ∧ 1 ≤ z b.1 ∧ z b.1 ≤ 3) (.know (okD (.int .i64) (kindsP a.1 b.1)) (cond ((kindsP a.1 b.1) != (0 : Int)) (rt (vi (kindsP a.1 b.1)) []) (.chk ((0 : Nat) < (1 : Nat)) (cond ((z a.1) == (3 : Int)) (.chk ((0 : Nat) < (1 : Nat)) (.chk ((0 : Nat) < (1 : Nat)) (.chk ((0 : Nat) < (1 : Nat)) (.chk ((0 : Nat) < (1 : Nat)) (.chk ((0 : Nat) < (1 : Nat)) (.chk ((0 : Nat) < (1 : Nat)) (.chk (smallF f) (.know True (cond (locF f b a) (rt (vi (1 : Int)) []) (rt (vi (2 : Int)) [])))))))))) (.chk ((0 : Nat) < (1 : Nat)) (.chk ((0 : Nat) < (1 : Nat)) (.chk (smallF f) (.know True (cond (locF f a b) (rt (vi (1 : Int)) []) (rt (vi (2 : Int)) [])))))))))))))))) (.chk ((0 : Nat) < (1 : Nat)) (.chk ((0 : Nat) < (1 : Nat)) (.chk ((1 ≤ z a.1 ∧ z a.1 ≤ 3) ∧ 1 ≤ z b.1 ∧ z b.1 ≤ 3) (.know (okD (.int .i64) (kindsP a.1 b.1)) (cond ((kindsP a.1 b.1) != (0 : Int)) (rt (vi (kindsP a.1 b.1)) []) (.chk ((0 : Nat) < (1 : Nat)) (cond ((z a.1) == (3 : Int)) (.chk ((0 : Nat) < (1 : Nat)) (.chk ((0 : Nat) < (1 : Nat)) (.chk ((0 : Nat) < (1 : Nat)) (.chk ((0 : Nat) < (1 : Nat)) (.chk ((0 : Nat) < (1 : Nat)) (.chk ((0 : Nat) < (1 : Nat)) (.chk (smallF f) (.know True (cond (locF f b a) (rt (vi (1 : Int)) []) (rt (vi (2 : Int)) [])))))))))) (.chk ((0 : Nat) < (1 : Nat)) (.chk ((0 : Nat) < (1 : Nat)) (.chk (smallF f) (.know True (cond (locF f a b) (rt (vi (1 : Int)) []) (rt (vi (2 : Int)) [])))))))))))))))))) (.chk ((0 : Nat) < (1 : Nat)) (.chk ((0 : Nat) < (1 : Nat)) (cond ((z a.1) == (z b.1)) (.chk ((0 : Nat) < (1 : Nat)) (.chk ((0 : Nat) < (1 : Nat)) (cond ((z a.2.1) == (z b.2.1)) (rt (vi (2 : Int)) []) (.chk ((0 : Nat) < (1 : Nat)) (.chk ((0 : Nat) < (1 : Nat)) (.chk ((1 ≤ z a.1 ∧ z a.1 ≤ 3) ∧ 1 ≤ z b.1 ∧ z b.1 ≤ 3) (.know (okD (.int .i64) (kindsP a.1 b.1)) (cond ((kindsP a.1 b.1) != (0 : Int)) (rt (vi (kindsP a.1 b.1)) []) (.chk ((0 : Nat) < (1 : Nat)) (cond ((z a.1) == (3 : Int)) (.chk ((0 : Nat) < (1 : Nat)) (.chk ((0 : Nat) < (1 : Nat)) (.chk ((0 : Nat) < (1 : Nat)) (.chk ((0 : Nat) < (1 : Nat)) (.chk ((0 : Nat) < (1 : Nat)) (.chk ((0 : Nat) < (1 : Nat)) (.chk (smallF f) (.know True (cond (locF f b a) (rt (vi (1 : Int)) []) (rt (vi (2 : Int)) [])))))))))) (.chk ((0 : Nat) < (1 : Nat)) (.chk ((0 : Nat) < (1 : Nat)) (.chk (smallF f) (.know True (cond (locF f a b) (rt (vi (1 : Int)) []) (rt (vi (2 : Int)) [])))))))))))))))) (.chk ((0 : Nat) < (1 : Nat)) (.chk ((0 : Nat) < (1 : Nat)) (.chk ((1 ≤ z a.1 ∧ z a.1 ≤ 3) ∧ 1 ≤ z b.1 ∧ z b.1 ≤ 3) (.know (okD (.int .i64) (kindsP a.1 b.1)) (cond ((kindsP a.1 b.1) != (0 : Int)) (rt (vi (kindsP a.1 b.1)) []) (.chk ((0 : Nat) < (1 : Nat)) (cond ((z a.1) == (3 : Int)) (.chk ((0 : Nat) < (1 : Nat)) (.chk ((0 : Nat) < (1 : Nat)) (.chk ((0 : Nat) < (1 : Nat)) (.chk ((0 : Nat) < (1 : Nat)) (.chk ((0 : Nat) < (1 : Nat)) (.chk ((0 : Nat) < (1 : Nat)) (.chk (smallF f) (.know True (cond (locF f b a) (rt (vi (1 : Int)) []) (rt (vi (2 : Int)) [])))))))))) (.chk ((0 : Nat) < (1 : Nat)) (.chk ((0 : Nat) < (1 : Nat)) (.chk (smallF f) (.know True (cond (locF f a b) (rt (vi (1 : Int)) []) (rt (vi (2 : Int)) [])))))))))))))))))) (.chk ((0 : Nat) < (1 : Nat)) (.chk ((0 : Nat) < (1 : Nat)) (cond ((z a.1) == (z b.1)) (.chk ((0 : Nat) < (1 : Nat)) (.chk ((0 : Nat) < (1 : Nat)) (cond ((z a.2.1) == (z b.2.1)) (rt (vi (2 : Int)) []) (.chk ((0 : Nat) < (1 : Nat)) (.chk ((0 : Nat) < (1 : Nat)) (.chk ((1 ≤ z a.1 ∧ z a.1 ≤ 3) ∧ 1 ≤ z b.1 ∧ z b.1 ≤ 3) (.know (okD (.int .i64) (kindsP a.1 b.1)) (cond ((kindsP a.1 b.1) != (0 : Int)) (rt (vi (kindsP a.1 b.1)) []) (.chk ((0 : Nat) < (1 : Nat)) (cond ((z a.1) == (3 : Int)) (.chk ((0 : Nat) < (1 : Nat)) (.chk ((0 : Nat) < (1 : Nat)) (.chk ((0 : Nat) < (1 : Nat)) (.chk ((0 : Nat) < (1 : Nat)) (.chk ((0 : Nat) < (1 : Nat)) (.chk ((0 : Nat) < (1 : Nat)) (.chk (smallF f) (.know True (cond (locF f b a) (rt (vi (1 : Int)) []) (rt (vi (2 : Int)) [])))))))))) (.chk ((0 : Nat) < (1 : Nat)) (.chk ((0 : Nat) < (1 : Nat)) (.chk (smallF f) (.know True (cond (locF f a b) (rt (vi (1 : Int)) []) (rt (vi (2 : Int)) [])))))))))))))))) (.chk ((0 : Nat) < (1 : Nat)) (.chk ((0 : Nat) < (1 : Nat)) (.chk ((1 ≤ z a.1 ∧ z a.1 ≤ 3) ∧ 1 ≤ z b.1 ∧ z b.1 ≤ 3) (.know (okD (.int .i64) (kindsP a.1 b.1)) (cond ((kindsP a.1 b.1) != (0 : Int)) (rt (vi (kindsP a.1 b.1)) []) (.chk ((0 : Nat) < (1 : Nat)) (cond ((z a.1) == (3 : Int)) (.chk ((0 : Nat) < (1 : Nat)) (.chk ((0 : Nat) < (1 : Nat)) (.chk ((0 : Nat) < (1 : Nat)) (.chk ((0 : Nat) < (1 : Nat)) (.chk ((0 : Nat) < (1 : Nat)) (.chk ((0 : Nat) < (1 : Nat)) (.chk (smallF f) (.know True (cond (locF f b a) (rt (vi (1 : Int)) []) (rt (vi (2 : Int)) [])))))))))) (.chk ((0 : Nat) < (1 : Nat)) (.chk ((0 : Nat) < (1 : Nat)) (.chk (smallF f) (.know True (cond (locF f a b) (rt (vi (1 : Int)) []) (rt (vi (2 : Int)) []))))))))))))))))))) (.chk ((0 : Nat) < (1 : Nat)) (.chk ((0 : Nat) < (1 : Nat)) (cond ((z a.1) == (z b.1)) (.chk ((0 : Nat) < (1 : Nat)) (.chk ((0 : Nat) < (1 : Nat)) (cond ((z a.2.1) == (z b.2.1)) (rt (vi (2 : Int)) []) (.chk ((0 : Nat) < (1 : Nat)) (.chk ((0 : Nat) < (1 : Nat)) (.chk ((1 ≤ z a.1 ∧ z a.1 ≤ 3) ∧ 1 ≤ z b.1 ∧ z b.1 ≤ 3) (.know (okD (.int .i64) (kindsP a.1 b.1)) (cond ((kindsP a.1 b.1) != (0 : Int)) (rt (vi (kindsP a.1 b.1)) []) (.chk ((0 : Nat) < (1 : Nat)) (cond ((z a.1) == (3 : Int)) (.chk ((0 : Nat) < (1 : Nat)) (.chk ((0 : Nat) < (1 : Nat)) (.chk ((0 : Nat) < (1 : Nat)) (.chk ((0 : Nat) < (1 : Nat)) (.chk ((0 : Nat) < (1 : Nat)) (.chk ((0 : Nat) < (1 : Nat)) (.chk (smallF f) (.know True (cond (locF f b a) (rt (vi (1 : Int)) []) (rt (vi (2 : Int)) [])))))))))) (.chk ((0 : Nat) < (1 : Nat)) (.chk ((0 : Nat) < (1 : Nat)) (.chk (smallF f) (.know True (cond (locF f a b) (rt (vi (1 : Int)) []) (rt (vi (2 : Int)) [])))))))))))))))) (.chk ((0 : Nat) < (1 : Nat)) (.chk ((0 : Nat) < (1 : Nat)) (.chk ((1 ≤ z a.1 ∧ z a.1 ≤ 3) ∧ 1 ≤ z b.1 ∧ z b.1 ≤ 3) (.know (okD (.int .i64) (kindsP a.1 b.1)) (cond ((kindsP a.1 b.1) != (0 : Int)) (rt (vi (kindsP a.1 b.1)) []) (.chk ((0 : Nat) < (1 : Nat)) (cond ((z a.1) == (3 : Int)) (.chk ((0 : Nat) < (1 : Nat)) (.chk ((0 : Nat) < (1 : Nat)) (.chk ((0 : Nat) < (1 : Nat)) (.chk ((0 : Nat) < (1 : Nat)) (.chk ((0 : Nat) < (1 : Nat)) (.chk ((0 : Nat) < (1 : Nat)) (.chk (smallF f) (.know True (cond (locF f b a) (rt (vi (1 : Int)) []) (rt (vi (2 : Int)) [])))))))))) (.chk ((0 : Nat) < (1 : Nat)) (.chk ((0 : Nat) < (1 : Nat)) (.chk (smallF f) (.know True (cond (locF f a b) (rt (vi (1 : Int)) []) (rt (vi (2 : Int)) [])))))))))))))))))))) (rt (vi (2 : Int)) [])))) (rt (vi (2 : Int)) []))))) := by kernel_rfl
theorem r27_Relate_t (f : Den s_api_Func) (a : Den s_alias_Base) (b : Den s_alias_Base) (cellsA : Int) (cellsB : Int) : run E_A21 H_A21 f_r27_Relate 3000 (start E_A21 f_r27_Relate [(.tv s_api_Func f), (.tv s_alias_Base a), (.tv s_alias_Base b), (vi cellsA), (vi cellsB)]) = (cond (decide (cellsA < (1 : Int))) (rt (vi (1 : Int)) []) (cond (decide (cellsB < (1 : Int))) (rt (vi (1 : Int)) []) (cond (decide ((z a.1) < (1 : Int))) (rt (vi (2 : Int)) []) (cond (decide ((z a.1) > (3 : Int))) (rt (vi (2 : Int)) []) (cond (decide ((z b.1) < (1 : Int))) (rt (vi (2 : Int)) []) (cond (decide ((z b.1) > (3 : Int))) (rt (vi (2 : Int)) []) (cond ((z a.1) == (z b.1)) (cond ((z a.2.1) == (z b.2.1)) (cond (!(bOf a.2.2.2.1)) (rt (vi (2 : Int)) []) (cond (!(bOf b.2.2.2.1)) (rt (vi (2 : Int)) []) (cond ((z a.2.2.1) == (z b.2.2.1)) (cond (cellsA == cellsB) (rt (vi (3 : Int)) []) (.chk (True) (.know True (cond (apartR a b cellsA cellsB) (rt (vi (1 : Int)) []) (rt (vi (2 : Int)) []))))) (.chk (True) (.know True (cond (apartR a b cellsA cellsB) (rt (vi (1 : Int)) []) (rt (vi (2 : Int)) []))))))) (cond ((z a.1) != (3 : Int)) (cond ((z b.1) != (3 : Int)) (rt (vi (1 : Int)) []) (.chk (smallF f) (.know True (cond (confF f a b) (rt (vi (1 : Int)) []) (.chk (smallF f) (.know True (cond (confF f b a) (rt (vi (1 : Int)) []) (rt (vi (2 : Int)) [])))))))) (.chk (smallF f) (.know True (cond (confF f a b) (rt (vi (1 : Int)) []) (.chk (smallF f) (.know True (cond (confF f b a) (rt (vi (1 : Int)) []) (rt (vi (2 : Int)) []))))))))) (cond ((z a.1) != (3 : Int)) (cond ((z b.1) != (3 : Int)) (rt (vi (1 : Int)) []) (.chk (smallF f) (.know True (cond (confF f a b) (rt (vi (1 : Int)) []) (.chk (smallF f) (.know True (cond (confF f b a) (rt (vi (1 : Int)) []) (rt (vi (2 : Int)) [])))))))) (.chk (smallF f) (.know True (cond (confF f a b) (rt (vi (1 : Int)) []) (.chk (smallF f) (.know True (cond (confF f b a) (rt (vi (1 : Int)) []) (rt (vi (2 : Int)) []))))))))))))))) := by kernel_rfl
def relF (f : Den s_api_Func) (a : Den s_alias_Base) (b : Den s_alias_Base) (cellsA : Int) (cellsB : Int) : Int := (cond (decide (cellsA < (1 : Int))) (1 : Int) (cond (decide (cellsB < (1 : Int))) (1 : Int) (cond (decide ((z a.1) ≥ (1 : Int))) (cond (!(decide ((z a.1) ≤ (3 : Int)))) (2 : Int) (cond (decide ((z b.1) ≥ (1 : Int))) (cond (!(decide ((z b.1) ≤ (3 : Int)))) (2 : Int) (cond ((z a.1) == (z b.1)) (cond ((z a.2.1) == (z b.2.1)) (cond (bOf a.2.2.2.1) (cond (bOf b.2.2.2.1) (cond ((z a.2.2.1) == (z b.2.2.1)) (cond (cellsA == cellsB) (3 : Int) (cond (!(overP a.2.2.1 b.2.2.1 cellsA cellsB)) (1 : Int) (2 : Int))) (cond (!(overP a.2.2.1 b.2.2.1 cellsA cellsB)) (1 : Int) (2 : Int))) (cond ((z a.1) == (z b.1)) (cond ((z a.2.1) == (z b.2.1)) (2 : Int) (cond ((kindsP a.1 b.1) != (0 : Int)) (kindsP a.1 b.1) (cond ((z a.1) == (3 : Int)) (cond (locF f b a) (1 : Int) (2 : Int)) (cond (locF f a b) (1 : Int) (2 : Int))))) (cond ((kindsP a.1 b.1) != (0 : Int)) (kindsP a.1 b.1) (cond ((z a.1) == (3 : Int)) (cond (locF f b a) (1 : Int) (2 : Int)) (cond (locF f a b) (1 : Int) (2 : Int)))))) (cond ((z a.1) == (z b.1)) (cond ((z a.2.1) == (z b.2.1)) (2 : Int) (cond ((kindsP a.1 b.1) != (0 : Int)) (kindsP a.1 b.1) (cond ((z a.1) == (3 : Int)) (cond (locF f b a) (1 : Int) (2 : Int)) (cond (locF f a b) (1 : Int) (2 : Int))))) (cond ((kindsP a.1 b.1) != (0 : Int)) (kindsP a.1 b.1) (cond ((z a.1) == (3 : Int)) (cond (locF f b a) (1 : Int) (2 : Int)) (cond (locF f a b) (1 : Int) (2 : Int)))))) (cond ((z a.1) == (z b.1)) (cond ((z a.2.1) == (z b.2.1)) (2 : Int) (cond ((kindsP a.1 b.1) != (0 : Int)) (kindsP a.1 b.1) (cond ((z a.1) == (3 : Int)) (cond (locF f b a) (1 : Int) (2 : Int)) (cond (locF f a b) (1 : Int) (2 : Int))))) (cond ((kindsP a.1 b.1) != (0 : Int)) (kindsP a.1 b.1) (cond ((z a.1) == (3 : Int)) (cond (locF f b a) (1 : Int) (2 : Int)) (cond (locF f a b) (1 : Int) (2 : Int)))))) (cond ((z a.1) == (z b.1)) (cond ((z a.2.1) == (z b.2.1)) (2 : Int) (cond ((kindsP a.1 b.1) != (0 : Int)) (kindsP a.1 b.1) (cond ((z a.1) == (3 : Int)) (cond (locF f b a) (1 : Int) (2 : Int)) (cond (locF f a b) (1 : Int) (2 : Int))))) (cond ((kindsP a.1 b.1) != (0 : Int)) (kindsP a.1 b.1) (cond ((z a.1) == (3 : Int)) (cond (locF f b a) (1 : Int) (2 : Int)) (cond (locF f a b) (1 : Int) (2 : Int))))))) (2 : Int))) (2 : Int))))

def k_relate2 : Con := con [.d s_api_Func, .d s_alias_Base, .d s_alias_Base, .d I, .d I] I (fun x => smallF x.1) fun x => relF x.1 x.2.1 x.2.2.1 x.2.2.2.1 x.2.2.2.2.1
theorem m_relate2 (f : Den s_api_Func) (a : Den s_alias_Base) (b : Den s_alias_Base) (cellsA : Int) (cellsB : Int) (h_f : okD s_api_Func f) (h_a : okD s_alias_Base a) (h_b : okD s_alias_Base b) (h_cellsA : okD I cellsA) (h_cellsB : okD I cellsB) (hp : smallF f) : Runs E_A21 (start E_A21 f_alias_Relate [(.tv s_api_Func f), (.tv s_alias_Base a), (.tv s_alias_Base b), (vi cellsA), (vi cellsB)]) (fun r_ h_ => r_ = (vi (relF f a b cellsA cellsB)) ∧ h_ = []) := .tree E_A21_ok (relate2_t f a b cellsA cellsB) (by
  have hp_ := hp
  try simp only [z] at hp_
  refine wp_cond (fun h1 => ?_) (fun h1 => ?_)
  · have h1_ := of_decide_eq_true h1
    exact ⟨by simp only [relF, h1, cond_true, cond_false], rfl⟩
  · have h1_ := of_decide_eq_false h1
    refine wp_cond (fun h2 => ?_) (fun h2 => ?_)
    · have h2_ := of_decide_eq_true h2
      exact ⟨by simp only [relF, h1, h2, cond_true, cond_false], rfl⟩
    · have h2_ := of_decide_eq_false h2
      refine ⟨Nat.zero_lt_one, fun _ => ?_⟩
      refine wp_cond (fun h3 => ?_) (fun h3 => ?_)
      · have h3_ := of_decide_eq_true h3
        refine wp_cond (fun h4 => ?_) (fun h4 => ?_)
        · have h4_ := of_decide_eq_false (by simpa only [Bool.not_eq_true', Bool.not_eq_false'] using h4)
          exact ⟨by simp only [relF, h1, h2, h3, h4, cond_true, cond_false], rfl⟩
        · have h4_ := of_decide_eq_true (by simpa only [Bool.not_eq_true', Bool.not_eq_false'] using h4)
          refine ⟨Nat.zero_lt_one, fun _ => ?_⟩
          refine wp_cond (fun h5 => ?_) (fun h5 => ?_)
          · have h5_ := of_decide_eq_true h5
            refine wp_cond (fun h6 => ?_) (fun h6 => ?_)
            · have h6_ := of_decide_eq_false (by simpa only [Bool.not_eq_true', Bool.not_eq_false'] using h6)
              exact ⟨by simp only [relF, h1, h2, h3, h4, h5, h6, cond_true, cond_false], rfl⟩
            · have h6_ := of_decide_eq_true (by simpa only [Bool.not_eq_true', Bool.not_eq_false'] using h6)
              refine ⟨Nat.zero_lt_one, fun _ => ?_⟩
              refine ⟨Nat.zero_lt_one, fun _ => ?_⟩
              refine wp_cond (fun h7 => ?_) (fun h7 => ?_)
              · have h7_ := beq_t h7
                refine ⟨Nat.zero_lt_one, fun _ => ?_⟩
                refine ⟨Nat.zero_lt_one, fun _ => ?_⟩
                refine wp_cond (fun h8 => ?_) (fun h8 => ?_)
                · have h8_ := beq_t h8
                  refine ⟨Nat.zero_lt_one, fun _ => ?_⟩
                  refine wp_cond (fun h9 => ?_) (fun h9 => ?_)
                  · refine ⟨Nat.zero_lt_one, fun _ => ?_⟩
                    refine wp_cond (fun h10 => ?_) (fun h10 => ?_)
                    · refine ⟨Nat.zero_lt_one, fun _ => ?_⟩
                      refine ⟨Nat.zero_lt_one, fun _ => ?_⟩
                      refine wp_cond (fun h11 => ?_) (fun h11 => ?_)
                      · have h11_ := beq_t h11
                        refine wp_cond (fun h12 => ?_) (fun h12 => ?_)
                        · have h12_ := beq_t h12
                          exact ⟨by simp only [relF, h1, h2, h3, h4, h5, h6, h7, h8, h9, h10, h11, h12, cond_true, cond_false], rfl⟩
                        · have h12_ := beq_f h12
                          refine ⟨Nat.zero_lt_one, fun _ => ?_⟩
                          refine ⟨Nat.zero_lt_one, fun _ => ?_⟩
                          refine ⟨trivial, fun _ => ?_⟩
                          refine fun _ => ?_
                          refine wp_cond (fun h13 => ?_) (fun h13 => ?_)
                          · exact ⟨by simp only [relF, h1, h2, h3, h4, h5, h6, h7, h8, h9, h10, h11, h12, h13, cond_true, cond_false], rfl⟩
                          · exact ⟨by simp only [relF, h1, h2, h3, h4, h5, h6, h7, h8, h9, h10, h11, h12, h13, cond_true, cond_false], rfl⟩
                      · have h11_ := beq_f h11
                        refine ⟨Nat.zero_lt_one, fun _ => ?_⟩
                        refine ⟨Nat.zero_lt_one, fun _ => ?_⟩
                        refine ⟨trivial, fun _ => ?_⟩
                        refine fun _ => ?_
                        refine wp_cond (fun h14 => ?_) (fun h14 => ?_)
                        · exact ⟨by simp only [relF, h1, h2, h3, h4, h5, h6, h7, h8, h9, h10, h11, h14, cond_true, cond_false], rfl⟩
                        · exact ⟨by simp only [relF, h1, h2, h3, h4, h5, h6, h7, h8, h9, h10, h11, h14, cond_true, cond_false], rfl⟩
                    · refine ⟨Nat.zero_lt_one, fun _ => ?_⟩
                      refine ⟨Nat.zero_lt_one, fun _ => ?_⟩
                      refine wp_cond (fun _ => ?_) (fun h15 => absurd (h7.symm.trans h15) (by decide))
                      refine ⟨Nat.zero_lt_one, fun _ => ?_⟩
                      refine ⟨Nat.zero_lt_one, fun _ => ?_⟩
                      refine wp_cond (fun _ => ?_) (fun h16 => absurd (h8.symm.trans h16) (by decide))
                      exact ⟨by simp only [relF, h1, h2, h3, h4, h5, h6, h7, h8, h9, h10, cond_true, cond_false], rfl⟩
                  · refine ⟨Nat.zero_lt_one, fun _ => ?_⟩
                    refine ⟨Nat.zero_lt_one, fun _ => ?_⟩
                    refine wp_cond (fun _ => ?_) (fun h17 => absurd (h7.symm.trans h17) (by decide))
                    refine ⟨Nat.zero_lt_one, fun _ => ?_⟩
                    refine ⟨Nat.zero_lt_one, fun _ => ?_⟩
                    refine wp_cond (fun _ => ?_) (fun h18 => absurd (h8.symm.trans h18) (by decide))
                    exact ⟨by simp only [relF, h1, h2, h3, h4, h5, h6, h7, h8, h9, cond_true, cond_false], rfl⟩
                · have h8_ := beq_f h8
                  refine ⟨Nat.zero_lt_one, fun _ => ?_⟩
                  refine ⟨Nat.zero_lt_one, fun _ => ?_⟩
                  refine wp_cond (fun _ => ?_) (fun h19 => absurd (h7.symm.trans h19) (by decide))
                  refine ⟨Nat.zero_lt_one, fun _ => ?_⟩
                  refine ⟨Nat.zero_lt_one, fun _ => ?_⟩
                  refine wp_cond (fun h20 => absurd (h8.symm.trans h20) (by decide)) (fun _ => ?_)
                  refine ⟨Nat.zero_lt_one, fun _ => ?_⟩
                  refine ⟨Nat.zero_lt_one, fun _ => ?_⟩
                  refine ⟨by first | omega | exact (hp) | (have g_ := hp; omega) | assumption | exact hp.1 | exact hp.2 | exact hp.2.1 | (simp_all; done) | (simp_all; omega), fun _ => ?_⟩
                  refine fun _ => ?_
                  refine wp_cond (fun h21 => ?_) (fun h21 => ?_)
                  · have h21_ := bne_t h21
                    exact ⟨by simp only [relF, h1, h2, h3, h4, h5, h6, h7, h8, h21, cond_true, cond_false], rfl⟩
                  · have h21_ := bne_f h21
                    refine ⟨Nat.zero_lt_one, fun _ => ?_⟩
                    refine wp_cond (fun h22 => ?_) (fun h22 => ?_)
                    · have h22_ := beq_t h22
                      refine ⟨Nat.zero_lt_one, fun _ => ?_⟩
                      refine ⟨Nat.zero_lt_one, fun _ => ?_⟩
                      refine ⟨Nat.zero_lt_one, fun _ => ?_⟩
                      refine ⟨Nat.zero_lt_one, fun _ => ?_⟩
                      refine ⟨Nat.zero_lt_one, fun _ => ?_⟩
                      refine ⟨Nat.zero_lt_one, fun _ => ?_⟩
                      refine ⟨by first | omega | exact (hp) | (have g_ := hp; omega) | assumption | exact hp.1 | exact hp.2 | exact hp.2.1 | (simp_all; done) | (simp_all; omega), fun _ => ?_⟩
                      refine fun _ => ?_
                      refine wp_cond (fun h23 => ?_) (fun h23 => ?_)
                      · exact ⟨by simp only [relF, h1, h2, h3, h4, h5, h6, h7, h8, h21, h22, h23, cond_true, cond_false], rfl⟩
                      · exact ⟨by simp only [relF, h1, h2, h3, h4, h5, h6, h7, h8, h21, h22, h23, cond_true, cond_false], rfl⟩
                    · have h22_ := beq_f h22
                      refine ⟨Nat.zero_lt_one, fun _ => ?_⟩
                      refine ⟨Nat.zero_lt_one, fun _ => ?_⟩
                      refine ⟨by first | omega | exact (hp) | (have g_ := hp; omega) | assumption | exact hp.1 | exact hp.2 | exact hp.2.1 | (simp_all; done) | (simp_all; omega), fun _ => ?_⟩
                      refine fun _ => ?_
                      refine wp_cond (fun h24 => ?_) (fun h24 => ?_)
                      · exact ⟨by simp only [relF, h1, h2, h3, h4, h5, h6, h7, h8, h21, h22, h24, cond_true, cond_false], rfl⟩
                      · exact ⟨by simp only [relF, h1, h2, h3, h4, h5, h6, h7, h8, h21, h22, h24, cond_true, cond_false], rfl⟩
              · have h7_ := beq_f h7
                refine ⟨Nat.zero_lt_one, fun _ => ?_⟩
                refine ⟨Nat.zero_lt_one, fun _ => ?_⟩
                refine wp_cond (fun h25 => absurd (h7.symm.trans h25) (by decide)) (fun _ => ?_)
                refine ⟨Nat.zero_lt_one, fun _ => ?_⟩
                refine ⟨Nat.zero_lt_one, fun _ => ?_⟩
                refine ⟨by first | omega | exact (hp) | (have g_ := hp; omega) | assumption | exact hp.1 | exact hp.2 | exact hp.2.1 | (simp_all; done) | (simp_all; omega), fun _ => ?_⟩
                refine fun _ => ?_
                refine wp_cond (fun h26 => ?_) (fun h26 => ?_)
                · have h26_ := bne_t h26
                  exact ⟨by simp only [relF, h1, h2, h3, h4, h5, h6, h7, h26, cond_true, cond_false], rfl⟩
                · have h26_ := bne_f h26
                  refine ⟨Nat.zero_lt_one, fun _ => ?_⟩
                  refine wp_cond (fun h27 => ?_) (fun h27 => ?_)
                  · have h27_ := beq_t h27
                    refine ⟨Nat.zero_lt_one, fun _ => ?_⟩
                    refine ⟨Nat.zero_lt_one, fun _ => ?_⟩
                    refine ⟨Nat.zero_lt_one, fun _ => ?_⟩
                    refine ⟨Nat.zero_lt_one, fun _ => ?_⟩
                    refine ⟨Nat.zero_lt_one, fun _ => ?_⟩
                    refine ⟨Nat.zero_lt_one, fun _ => ?_⟩
                    refine ⟨by first | omega | exact (hp) | (have g_ := hp; omega) | assumption | exact hp.1 | exact hp.2 | exact hp.2.1 | (simp_all; done) | (simp_all; omega), fun _ => ?_⟩
                    refine fun _ => ?_
                    refine wp_cond (fun h28 => ?_) (fun h28 => ?_)
                    · exact ⟨by simp only [relF, h1, h2, h3, h4, h5, h6, h7, h26, h27, h28, cond_true, cond_false], rfl⟩
                    · exact ⟨by simp only [relF, h1, h2, h3, h4, h5, h6, h7, h26, h27, h28, cond_true, cond_false], rfl⟩
                  · have h27_ := beq_f h27
                    refine ⟨Nat.zero_lt_one, fun _ => ?_⟩
                    refine ⟨Nat.zero_lt_one, fun _ => ?_⟩
                    refine ⟨by first | omega | exact (hp) | (have g_ := hp; omega) | assumption | exact hp.1 | exact hp.2 | exact hp.2.1 | (simp_all; done) | (simp_all; omega), fun _ => ?_⟩
                    refine fun _ => ?_
                    refine wp_cond (fun h29 => ?_) (fun h29 => ?_)
                    · exact ⟨by simp only [relF, h1, h2, h3, h4, h5, h6, h7, h26, h27, h29, cond_true, cond_false], rfl⟩
                    · exact ⟨by simp only [relF, h1, h2, h3, h4, h5, h6, h7, h26, h27, h29, cond_true, cond_false], rfl⟩
          · have h5_ := of_decide_eq_false h5
            exact ⟨by simp only [relF, h1, h2, h3, h4, h5, cond_true, cond_false], rfl⟩
      · have h3_ := of_decide_eq_false h3
        exact ⟨by simp only [relF, h1, h2, h3, cond_true, cond_false], rfl⟩)
theorem c_relate2 : SpecOK E_A21 f_alias_Relate k_relate2.spec := spec_of fun x hx hp => ⟨rfl, m_relate2 x.1 x.2.1 x.2.2.1 x.2.2.2.1 x.2.2.2.2.1 hx.1 hx.2.1 hx.2.2.1 hx.2.2.2.1 hx.2.2.2.2.1 hp⟩
def relQ (f : Den s_api_Func) (a : Den s_alias_Base) (b : Den s_alias_Base) (cellsA : Int) (cellsB : Int) : Int := (cond (decide (cellsA < (1 : Int))) (1 : Int) (cond (decide (cellsB < (1 : Int))) (1 : Int) (cond (decide ((z a.1) < (1 : Int))) (2 : Int) (cond (decide ((z a.1) > (3 : Int))) (2 : Int) (cond (decide ((z b.1) < (1 : Int))) (2 : Int) (cond (decide ((z b.1) > (3 : Int))) (2 : Int) (cond ((z a.1) == (z b.1)) (cond ((z a.2.1) == (z b.2.1)) (cond (!(bOf a.2.2.2.1)) (2 : Int) (cond (!(bOf b.2.2.2.1)) (2 : Int) (cond ((z a.2.2.1) == (z b.2.2.1)) (cond (cellsA == cellsB) (3 : Int) (cond (apartR a b cellsA cellsB) (1 : Int) (2 : Int))) (cond (apartR a b cellsA cellsB) (1 : Int) (2 : Int))))) (cond ((z a.1) != (3 : Int)) (cond ((z b.1) != (3 : Int)) (1 : Int) (cond (confF f a b) (1 : Int) (cond (confF f b a) (1 : Int) (2 : Int)))) (cond (confF f a b) (1 : Int) (cond (confF f b a) (1 : Int) (2 : Int))))) (cond ((z a.1) != (3 : Int)) (cond ((z b.1) != (3 : Int)) (1 : Int) (cond (confF f a b) (1 : Int) (cond (confF f b a) (1 : Int) (2 : Int)))) (cond (confF f a b) (1 : Int) (cond (confF f b a) (1 : Int) (2 : Int)))))))))))

def k_r27_Relate : Con := con [.d s_api_Func, .d s_alias_Base, .d s_alias_Base, .d I, .d I] I (fun x => smallF x.1) fun x => relQ x.1 x.2.1 x.2.2.1 x.2.2.2.1 x.2.2.2.2.1
theorem m_r27_Relate (f : Den s_api_Func) (a : Den s_alias_Base) (b : Den s_alias_Base) (cellsA : Int) (cellsB : Int) (h_f : okD s_api_Func f) (h_a : okD s_alias_Base a) (h_b : okD s_alias_Base b) (h_cellsA : okD I cellsA) (h_cellsB : okD I cellsB) (hp : smallF f) : Runs E_A21 (start E_A21 f_r27_Relate [(.tv s_api_Func f), (.tv s_alias_Base a), (.tv s_alias_Base b), (vi cellsA), (vi cellsB)]) (fun r_ h_ => r_ = (vi (relQ f a b cellsA cellsB)) ∧ h_ = []) := .tree E_A21_ok (r27_Relate_t f a b cellsA cellsB) (by
  have hp_ := hp
  try simp only [z] at hp_
  refine wp_cond (fun h1 => ?_) (fun h1 => ?_)
  · have h1_ := of_decide_eq_true h1
    exact ⟨by simp only [relQ, h1, cond_true, cond_false], rfl⟩
  · have h1_ := of_decide_eq_false h1
    refine wp_cond (fun h2 => ?_) (fun h2 => ?_)
    · have h2_ := of_decide_eq_true h2
      exact ⟨by simp only [relQ, h1, h2, cond_true, cond_false], rfl⟩
    · have h2_ := of_decide_eq_false h2
      refine wp_cond (fun h3 => ?_) (fun h3 => ?_)
      · have h3_ := of_decide_eq_true h3
        exact ⟨by simp only [relQ, h1, h2, h3, cond_true, cond_false], rfl⟩
      · have h3_ := of_decide_eq_false h3
        refine wp_cond (fun h4 => ?_) (fun h4 => ?_)
        · have h4_ := of_decide_eq_true h4
          exact ⟨by simp only [relQ, h1, h2, h3, h4, cond_true, cond_false], rfl⟩
        · have h4_ := of_decide_eq_false h4
          refine wp_cond (fun h5 => ?_) (fun h5 => ?_)
          · have h5_ := of_decide_eq_true h5
            exact ⟨by simp only [relQ, h1, h2, h3, h4, h5, cond_true, cond_false], rfl⟩
          · have h5_ := of_decide_eq_false h5
            refine wp_cond (fun h6 => ?_) (fun h6 => ?_)
            · have h6_ := of_decide_eq_true h6
              exact ⟨by simp only [relQ, h1, h2, h3, h4, h5, h6, cond_true, cond_false], rfl⟩
            · have h6_ := of_decide_eq_false h6
              refine wp_cond (fun h7 => ?_) (fun h7 => ?_)
              · have h7_ := beq_t h7
                refine wp_cond (fun h8 => ?_) (fun h8 => ?_)
                · have h8_ := beq_t h8
                  refine wp_cond (fun h9 => ?_) (fun h9 => ?_)
                  · exact ⟨by simp only [relQ, h1, h2, h3, h4, h5, h6, h7, h8, h9, cond_true, cond_false], rfl⟩
                  · refine wp_cond (fun h10 => ?_) (fun h10 => ?_)
                    · exact ⟨by simp only [relQ, h1, h2, h3, h4, h5, h6, h7, h8, h9, h10, cond_true, cond_false], rfl⟩
                    · refine wp_cond (fun h11 => ?_) (fun h11 => ?_)
                      · have h11_ := beq_t h11
                        refine wp_cond (fun h12 => ?_) (fun h12 => ?_)
                        · have h12_ := beq_t h12
                          exact ⟨by simp only [relQ, h1, h2, h3, h4, h5, h6, h7, h8, h9, h10, h11, h12, cond_true, cond_false], rfl⟩
                        · have h12_ := beq_f h12
                          refine ⟨trivial, fun _ => ?_⟩
                          refine fun _ => ?_
                          refine wp_cond (fun h13 => ?_) (fun h13 => ?_)
                          · exact ⟨by simp only [relQ, h1, h2, h3, h4, h5, h6, h7, h8, h9, h10, h11, h12, h13, cond_true, cond_false], rfl⟩
                          · exact ⟨by simp only [relQ, h1, h2, h3, h4, h5, h6, h7, h8, h9, h10, h11, h12, h13, cond_true, cond_false], rfl⟩
                      · have h11_ := beq_f h11
                        refine ⟨trivial, fun _ => ?_⟩
                        refine fun _ => ?_
                        refine wp_cond (fun h14 => ?_) (fun h14 => ?_)
                        · exact ⟨by simp only [relQ, h1, h2, h3, h4, h5, h6, h7, h8, h9, h10, h11, h14, cond_true, cond_false], rfl⟩
                        · exact ⟨by simp only [relQ, h1, h2, h3, h4, h5, h6, h7, h8, h9, h10, h11, h14, cond_true, cond_false], rfl⟩
                · have h8_ := beq_f h8
                  refine wp_cond (fun h15 => ?_) (fun h15 => ?_)
                  · have h15_ := bne_t h15
                    refine wp_cond (fun h16 => ?_) (fun h16 => ?_)
                    · have h16_ := bne_t h16
                      exact ⟨by simp only [relQ, h1, h2, h3, h4, h5, h6, h7, h8, h15, h16, cond_true, cond_false], rfl⟩
                    · have h16_ := bne_f h16
                      refine ⟨by first | omega | exact (hp) | (have g_ := hp; omega) | assumption | exact hp.1 | exact hp.2 | exact hp.2.1 | (simp_all; done) | (simp_all; omega), fun _ => ?_⟩
                      refine fun _ => ?_
                      refine wp_cond (fun h17 => ?_) (fun h17 => ?_)
                      · exact ⟨by simp only [relQ, h1, h2, h3, h4, h5, h6, h7, h8, h15, h16, h17, cond_true, cond_false], rfl⟩
                      · refine ⟨by first | omega | exact (hp) | (have g_ := hp; omega) | assumption | exact hp.1 | exact hp.2 | exact hp.2.1 | (simp_all; done) | (simp_all; omega), fun _ => ?_⟩
                        refine fun _ => ?_
                        refine wp_cond (fun h18 => ?_) (fun h18 => ?_)
                        · exact ⟨by simp only [relQ, h1, h2, h3, h4, h5, h6, h7, h8, h15, h16, h17, h18, cond_true, cond_false], rfl⟩
                        · exact ⟨by simp only [relQ, h1, h2, h3, h4, h5, h6, h7, h8, h15, h16, h17, h18, cond_true, cond_false], rfl⟩
                  · have h15_ := bne_f h15
                    refine ⟨by first | omega | exact (hp) | (have g_ := hp; omega) | assumption | exact hp.1 | exact hp.2 | exact hp.2.1 | (simp_all; done) | (simp_all; omega), fun _ => ?_⟩
                    refine fun _ => ?_
                    refine wp_cond (fun h19 => ?_) (fun h19 => ?_)
                    · exact ⟨by simp only [relQ, h1, h2, h3, h4, h5, h6, h7, h8, h15, h19, cond_true, cond_false], rfl⟩
                    · refine ⟨by first | omega | exact (hp) | (have g_ := hp; omega) | assumption | exact hp.1 | exact hp.2 | exact hp.2.1 | (simp_all; done) | (simp_all; omega), fun _ => ?_⟩
                      refine fun _ => ?_
                      refine wp_cond (fun h20 => ?_) (fun h20 => ?_)
                      · exact ⟨by simp only [relQ, h1, h2, h3, h4, h5, h6, h7, h8, h15, h19, h20, cond_true, cond_false], rfl⟩
                      · exact ⟨by simp only [relQ, h1, h2, h3, h4, h5, h6, h7, h8, h15, h19, h20, cond_true, cond_false], rfl⟩
              · have h7_ := beq_f h7
                refine wp_cond (fun h21 => ?_) (fun h21 => ?_)
                · have h21_ := bne_t h21
                  refine wp_cond (fun h22 => ?_) (fun h22 => ?_)
                  · have h22_ := bne_t h22
                    exact ⟨by simp only [relQ, h1, h2, h3, h4, h5, h6, h7, h21, h22, cond_true, cond_false], rfl⟩
                  · have h22_ := bne_f h22
                    refine ⟨by first | omega | exact (hp) | (have g_ := hp; omega) | assumption | exact hp.1 | exact hp.2 | exact hp.2.1 | (simp_all; done) | (simp_all; omega), fun _ => ?_⟩
                    refine fun _ => ?_
                    refine wp_cond (fun h23 => ?_) (fun h23 => ?_)
                    · exact ⟨by simp only [relQ, h1, h2, h3, h4, h5, h6, h7, h21, h22, h23, cond_true, cond_false], rfl⟩
                    · refine ⟨by first | omega | exact (hp) | (have g_ := hp; omega) | assumption | exact hp.1 | exact hp.2 | exact hp.2.1 | (simp_all; done) | (simp_all; omega), fun _ => ?_⟩
                      refine fun _ => ?_
                      refine wp_cond (fun h24 => ?_) (fun h24 => ?_)
                      · exact ⟨by simp only [relQ, h1, h2, h3, h4, h5, h6, h7, h21, h22, h23, h24, cond_true, cond_false], rfl⟩
                      · exact ⟨by simp only [relQ, h1, h2, h3, h4, h5, h6, h7, h21, h22, h23, h24, cond_true, cond_false], rfl⟩
                · have h21_ := bne_f h21
                  refine ⟨by first | omega | exact (hp) | (have g_ := hp; omega) | assumption | exact hp.1 | exact hp.2 | exact hp.2.1 | (simp_all; done) | (simp_all; omega), fun _ => ?_⟩
                  refine fun _ => ?_
                  refine wp_cond (fun h25 => ?_) (fun h25 => ?_)
                  · exact ⟨by simp only [relQ, h1, h2, h3, h4, h5, h6, h7, h21, h25, cond_true, cond_false], rfl⟩
                  · refine ⟨by first | omega | exact (hp) | (have g_ := hp; omega) | assumption | exact hp.1 | exact hp.2 | exact hp.2.1 | (simp_all; done) | (simp_all; omega), fun _ => ?_⟩
                    refine fun _ => ?_
                    refine wp_cond (fun h26 => ?_) (fun h26 => ?_)
                    · exact ⟨by simp only [relQ, h1, h2, h3, h4, h5, h6, h7, h21, h25, h26, cond_true, cond_false], rfl⟩
                    · exact ⟨by simp only [relQ, h1, h2, h3, h4, h5, h6, h7, h21, h25, h26, cond_true, cond_false], rfl⟩)
theorem c_r27_Relate : SpecOK E_A21 f_r27_Relate k_r27_Relate.spec := spec_of fun x hx hp => ⟨rfl, m_r27_Relate x.1 x.2.1 x.2.2.1 x.2.2.2.1 x.2.2.2.2.1 hx.1 hx.2.1 hx.2.2.1 hx.2.2.2.1 hx.2.2.2.2.1 hp⟩
def L_A21 : List (FuncId × FSpec) := [(f_alias_Relate, k_relate2.spec), (f_r27_Relate, k_r27_Relate.spec)] ++ L_A20
theorem L_A21_ok : ∀ x ∈ L_A21, SpecOK (ctx []) x.1 x.2 := by
  unfold L_A21
  simp only [List.cons_append, List.nil_append, List.forall_mem_cons]
  exact ⟨c_relate2, c_r27_Relate, L_A20_ok⟩
end Burn.M27Q

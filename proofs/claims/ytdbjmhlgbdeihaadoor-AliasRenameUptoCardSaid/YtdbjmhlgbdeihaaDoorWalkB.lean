/- What the functions that the law reaches compute, one contract each. No conditions beyond those written. -/
import Derived.Test.YtdbjmhlgbdeihaaDoorWalkA
namespace Burn.M27N
open Go Go.BE Go.Proofs
set_option maxRecDepth 100000
set_option linter.unusedVariables false
set_option linter.unusedSimpArgs false
open Burn.Cfg Burn.Intn Burn.Ref
noncomputable abbrev E_A4 : Ctx := ctx L_A3
theorem E_A4_ok : EOK E_A4 := ctx_ok L_A3_ok
def cuts_A4 : CutL := [([], 36, 0, [1, 7, 8, 9], [], []),
  ([], 77, 0, [0, 4, 5, 9, 10, 11], [], [])]
def rets_A4 : FuncId → List (Option Fx)
  | 56 => [some (.dat s_api_Instr), none]
  | 75 => [some (.dat s_alias_Base)]
  | 77 => [some (.dat s_alias_Base)]
  | 79 => [some (.dat s_api_Instr), none]
  | _ => []
def H_A4 : Hints := { cut := cutOf cuts_A4, ret := rets_A4 }
noncomputable def alias_index_L0 (x : Int) (t7 : List (Den I)) (t8 : Int) (t9 : Int) : Cfg := hcfg E_A4 f_alias_index 0 [(1, (vi x)), (7, (.tv (.sl 8 I) t7)), (8, (vi t8)), (9, (vi t9))] [] 0
theorem alias_index_t (l : List (Den I)) (x : Int) : run E_A4 H_A4 f_alias_index 3000 (start E_A4 f_alias_index [(.tv (.sl 8 I) l), (vi x)]) = (hd (alias_index_L0 x l ((ln I l) : Int) (0 : Int))) := by kernel_rfl
theorem alias_index_L0_t (x : Int) (t7 : List (Den I)) (t8 : Int) (t9 : Int) : run E_A4 H_A4 f_alias_index 3000 (alias_index_L0 x t7 t8 t9) = (cond (decide (t9 < t8)) (.chk (0 ≤ t9 ∧ t9 < (ln I t7)) (cond ((z (gd I t7 ((t9).toNat))) == x) (rt (vi t9) []) (hd (alias_index_L0 x t7 t8 (IntKind.wrap .i64 (t9 + (1 : Int))))))) (rt (vi (-1 : Int)) [])) := by kernel_rfl
noncomputable def alias_join_L0 (r : Int) (t9 : List (Den s_alias_Base)) (t10 : Int) (t11 : Int) (t4 : Den s_alias_Base) (out : Den s_alias_Base) : Cfg := hcfg E_A4 f_alias_join 0 [(0, (vi r)), (4, (.tref 0 0 [] (0 : Nat) [])), (5, (.tref 1 1 [] (0 : Nat) [])), (9, (.tv (.sl 32 s_alias_Base) t9)), (10, (vi t10)), (11, (vi t11))] [(0, ⟨(.arr 0 32 s_alias_Base ([t4] : List (Den s_alias_Base))), 0, [], false, none⟩), (1, ⟨(.arr 0 32 s_alias_Base ([out] : List (Den s_alias_Base))), 1, [], false, none⟩)] 2
theorem alias_join_t (r : Int) (l : List (Den s_alias_Base)) : run E_A4 H_A4 f_alias_join 3000 (start E_A4 f_alias_join [(vi r), (.tv (.sl 32 s_alias_Base) l)]) = (.chk ((0 : Nat) < (1 : Nat)) (hd (alias_join_L0 r l ((ln s_alias_Base l) : Int) (0 : Int) ((0 : Int), (0 : Int), (0 : Int), false, ()) (((0 : Int), (0 : Int), (0 : Int), false, ()))))) := by kernel_rfl
theorem alias_join_L0_t (r : Int) (t9 : List (Den s_alias_Base)) (t10 : Int) (t11 : Int) (t4 : Den s_alias_Base) (out : Den s_alias_Base) : run E_A4 H_A4 f_alias_join 3000 (alias_join_L0 r t9 t10 t11 t4 out) = (cond (decide (t11 < t10)) (.chk (0 ≤ t11 ∧ t11 < (ln s_alias_Base t9)) (.chk ((0 : Nat) < (1 : Nat)) (.chk ((0 : Nat) < (1 : Nat)) (cond (((z ((gd s_alias_Base t9 ((t11).toNat)).1)) == (z ((((0 : Int), (0 : Int), (0 : Int), false, ())).1))) && (((z (((gd s_alias_Base t9 ((t11).toNat)).2).1)) == (z (((((0 : Int), (0 : Int), (0 : Int), false, ())).2).1))) && (((z ((((gd s_alias_Base t9 ((t11).toNat)).2).2).1)) == (z ((((((0 : Int), (0 : Int), (0 : Int), false, ())).2).2).1))) && (((bOf (((((gd s_alias_Base t9 ((t11).toNat)).2).2).2).1)) == (bOf (((((((0 : Int), (0 : Int), (0 : Int), false, ())).2).2).2).1))) && true)))) (hd (alias_join_L0 r t9 t10 (IntKind.wrap .i64 (t11 + (1 : Int))) t4 out)) (.chk ((0 : Nat) < (1 : Nat)) (cond (((z out.1) == (z ((((0 : Int), (0 : Int), (0 : Int), false, ())).1))) && (((z out.2.1) == (z (((((0 : Int), (0 : Int), (0 : Int), false, ())).2).1))) && (((z out.2.2.1) == (z ((((((0 : Int), (0 : Int), (0 : Int), false, ())).2).2).1))) && (((bOf out.2.2.2.1) == (bOf (((((((0 : Int), (0 : Int), (0 : Int), false, ())).2).2).2).1))) && true)))) (.chk ((0 : Nat) < (1 : Nat)) (.chk ((0 : Nat) < (1 : Nat)) (hd (alias_join_L0 r t9 t10 (IntKind.wrap .i64 (t11 + (1 : Int))) t4 (gd s_alias_Base t9 ((t11).toNat)))))) (.chk ((0 : Nat) < (1 : Nat)) (.chk ((0 : Nat) < (1 : Nat)) (.chk (True) (.know (okD s_alias_Base (meetP r out (gd s_alias_Base t9 ((t11).toNat)))) (.chk ((0 : Nat) < (1 : Nat)) (hd (alias_join_L0 r t9 t10 (IntKind.wrap .i64 (t11 + (1 : Int))) t4 (meetP r out (gd s_alias_Base t9 ((t11).toNat)))))))))))))))) (.chk ((0 : Nat) < (1 : Nat)) (.chk ((0 : Nat) < (1 : Nat)) (.chk ((0 : Nat) < (1 : Nat)) (rt (.tv s_alias_Base out) []))))) := by kernel_rfl
theorem alias_solver_def_t (s : Den s_alias_solver) (r : Int) : run E_A4 H_A4 f_alias_solver_def 3000 (start E_A4 f_alias_solver_def [(.rtp s_alias_solver s), (vi r)]) = (cond (decide (r < (0 : Int))) (rt (.tup [(.tv s_api_Instr ((0 : Int), (0 : Int), (0 : Int), ([] : List (Den I)), (0 : Int), (0 : Int), (0 : Int), false, ())), (vb false)]) []) (cond (decide (r ≥ ((ln (.sl 16 s_api_Pos) s.2.1) : Int))) (rt (.tup [(.tv s_api_Instr ((0 : Int), (0 : Int), (0 : Int), ([] : List (Den I)), (0 : Int), (0 : Int), (0 : Int), false, ())), (vb false)]) []) (.chk (0 ≤ r ∧ r < (ln (.sl 16 s_api_Pos) s.2.1)) (cond (((ln s_api_Pos (gd (.sl 16 s_api_Pos) s.2.1 ((r).toNat))) : Int) != (1 : Int)) (rt (.tup [(.tv s_api_Instr ((0 : Int), (0 : Int), (0 : Int), ([] : List (Den I)), (0 : Int), (0 : Int), (0 : Int), false, ())), (vb false)]) []) (.chk (0 ≤ r ∧ r < (ln (.sl 16 s_api_Pos) s.2.1)) (.chk (0 ≤ (0 : Int) ∧ (0 : Int) < (ln s_api_Pos (gd (.sl 16 s_api_Pos) s.2.1 ((r).toNat)))) (.chk ((0 : Nat) < (1 : Nat)) (.chk ((0 : Nat) < (1 : Nat)) (cond (decide ((z (((gd s_api_Pos (gd (.sl 16 s_api_Pos) s.2.1 ((r).toNat)) (0 : Nat)).2).1)) < (0 : Int))) (rt (.tup [(.tv s_api_Instr ((0 : Int), (0 : Int), (0 : Int), ([] : List (Den I)), (0 : Int), (0 : Int), (0 : Int), false, ())), (vb false)]) []) (.chk ((0 : Nat) < (1 : Nat)) (.chk (0 ≤ (z ((gd s_api_Pos (gd (.sl 16 s_api_Pos) s.2.1 ((r).toNat)) (0 : Nat)).1)) ∧ (z ((gd s_api_Pos (gd (.sl 16 s_api_Pos) s.2.1 ((r).toNat)) (0 : Nat)).1)) < (ln s_api_Block s.1.2.2.2.2.1)) (.chk ((0 : Nat) < (1 : Nat)) (.chk (0 ≤ (z (((gd s_api_Pos (gd (.sl 16 s_api_Pos) s.2.1 ((r).toNat)) (0 : Nat)).2).1)) ∧ (z (((gd s_api_Pos (gd (.sl 16 s_api_Pos) s.2.1 ((r).toNat)) (0 : Nat)).2).1)) < (ln s_api_Instr (((gd s_api_Block s.1.2.2.2.2.1 (((z ((gd s_api_Pos (gd (.sl 16 s_api_Pos) s.2.1 ((r).toNat)) (0 : Nat)).1))).toNat)).2).1))) (rt (.tup [(.tv s_api_Instr (gd s_api_Instr (((gd s_api_Block s.1.2.2.2.2.1 (((z ((gd s_api_Pos (gd (.sl 16 s_api_Pos) s.2.1 ((r).toNat)) (0 : Nat)).1))).toNat)).2).1) (((z (((gd s_api_Pos (gd (.sl 16 s_api_Pos) s.2.1 ((r).toNat)) (0 : Nat)).2).1))).toNat))), (vb true)]) [])))))))))))))) := by kernel_rfl
theorem r01_Add_t (t : Int) (a : Int) (b : Int) : run E_A4 H_A4 f_r01_Add 3000 (start E_A4 f_r01_Add [(vi t), (vi a), (vi b)]) = (.chk (True) (.know (okD (.int .i64) (wrapZ t a)) (.chk (True) (.know (okD (.int .i64) (wrapZ t b)) (.chk (True) (.know (okD (.int .i64) (bitsZ t)) (cond ((bitsZ t) == (0 : Int)) (rt (.tup [(vi (0 : Int)), (vb false)]) []) (cond (decide ((wrapZ t b) > (0 : Int))) (.chk (True) (.know (okD (.int .i64) (bitsZ t)) (cond ((bitsZ t) == (1 : Int)) (cond (decide ((wrapZ t a) > (IntKind.wrap .i64 ((1 : Int) - (wrapZ t b))))) (.chk (True) (.know (okD (.int .i64) (wrapZ t (IntKind.wrap .i64 ((wrapZ t a) + (wrapZ t b))))) (rt (.tup [(vi (wrapZ t (IntKind.wrap .i64 ((wrapZ t a) + (wrapZ t b))))), (vb true)]) []))) (cond (decide ((wrapZ t b) < (0 : Int))) (.chk (True) (.know (okD (.int .i64) (bitsZ t)) (cond ((bitsZ t) == (8 : Int)) (.chk (True) (.know (okD (.int .i64) (wrapZ t (IntKind.wrap .i64 ((wrapZ t a) + (wrapZ t b))))) (rt (.tup [(vi (wrapZ t (IntKind.wrap .i64 ((wrapZ t a) + (wrapZ t b))))), (vb (decide ((wrapZ t a) < (IntKind.wrap .i64 ((-128 : Int) - (wrapZ t b))))))]) []))) (cond ((bitsZ t) == (32 : Int)) (.chk (True) (.know (okD (.int .i64) (wrapZ t (IntKind.wrap .i64 ((wrapZ t a) + (wrapZ t b))))) (rt (.tup [(vi (wrapZ t (IntKind.wrap .i64 ((wrapZ t a) + (wrapZ t b))))), (vb (decide ((wrapZ t a) < (IntKind.wrap .i64 ((-2147483648 : Int) - (wrapZ t b))))))]) []))) (cond ((bitsZ t) == (64 : Int)) (.chk (True) (.know (okD (.int .i64) (wrapZ t (IntKind.wrap .i64 ((wrapZ t a) + (wrapZ t b))))) (rt (.tup [(vi (wrapZ t (IntKind.wrap .i64 ((wrapZ t a) + (wrapZ t b))))), (vb (decide ((wrapZ t a) < (IntKind.wrap .i64 ((-9223372036854775808 : Int) - (wrapZ t b))))))]) []))) (.chk (True) (.know (okD (.int .i64) (wrapZ t (IntKind.wrap .i64 ((wrapZ t a) + (wrapZ t b))))) (rt (.tup [(vi (wrapZ t (IntKind.wrap .i64 ((wrapZ t a) + (wrapZ t b))))), (vb (decide ((wrapZ t a) < (IntKind.wrap .i64 ((0 : Int) - (wrapZ t b))))))]) [])))))))) (.chk (True) (.know (okD (.int .i64) (wrapZ t (IntKind.wrap .i64 ((wrapZ t a) + (wrapZ t b))))) (rt (.tup [(vi (wrapZ t (IntKind.wrap .i64 ((wrapZ t a) + (wrapZ t b))))), (vb false)]) []))))) (.chk (True) (.know (okD (.int .i64) (bitsZ t)) (cond ((bitsZ t) == (0 : Int)) (cond (decide ((wrapZ t a) > (IntKind.wrap .i64 ((0 : Int) - (wrapZ t b))))) (.chk (True) (.know (okD (.int .i64) (wrapZ t (IntKind.wrap .i64 ((wrapZ t a) + (wrapZ t b))))) (rt (.tup [(vi (wrapZ t (IntKind.wrap .i64 ((wrapZ t a) + (wrapZ t b))))), (vb true)]) []))) (cond (decide ((wrapZ t b) < (0 : Int))) (.chk (True) (.know (okD (.int .i64) (bitsZ t)) (cond ((bitsZ t) == (8 : Int)) (.chk (True) (.know (okD (.int .i64) (wrapZ t (IntKind.wrap .i64 ((wrapZ t a) + (wrapZ t b))))) (rt (.tup [(vi (wrapZ t (IntKind.wrap .i64 ((wrapZ t a) + (wrapZ t b))))), (vb (decide ((wrapZ t a) < (IntKind.wrap .i64 ((-128 : Int) - (wrapZ t b))))))]) []))) (cond ((bitsZ t) == (32 : Int)) (.chk (True) (.know (okD (.int .i64) (wrapZ t (IntKind.wrap .i64 ((wrapZ t a) + (wrapZ t b))))) (rt (.tup [(vi (wrapZ t (IntKind.wrap .i64 ((wrapZ t a) + (wrapZ t b))))), (vb (decide ((wrapZ t a) < (IntKind.wrap .i64 ((-2147483648 : Int) - (wrapZ t b))))))]) []))) (cond ((bitsZ t) == (64 : Int)) (.chk (True) (.know (okD (.int .i64) (wrapZ t (IntKind.wrap .i64 ((wrapZ t a) + (wrapZ t b))))) (rt (.tup [(vi (wrapZ t (IntKind.wrap .i64 ((wrapZ t a) + (wrapZ t b))))), (vb (decide ((wrapZ t a) < (IntKind.wrap .i64 ((-9223372036854775808 : Int) - (wrapZ t b))))))]) []))) (.chk (True) (.know (okD (.int .i64) (wrapZ t (IntKind.wrap .i64 ((wrapZ t a) + (wrapZ t b))))) (rt (.tup [(vi (wrapZ t (IntKind.wrap .i64 ((wrapZ t a) + (wrapZ t b))))), (vb (decide ((wrapZ t a) < (IntKind.wrap .i64 ((0 : Int) - (wrapZ t b))))))]) [])))))))) (.chk (True) (.know (okD (.int .i64) (wrapZ t (IntKind.wrap .i64 ((wrapZ t a) + (wrapZ t b))))) (rt (.tup [(vi (wrapZ t (IntKind.wrap .i64 ((wrapZ t a) + (wrapZ t b))))), (vb false)]) []))))) (.chk (True) (.know (okD (.int .i64) (bitsZ t)) (cond ((bitsZ t) == (8 : Int)) (cond (decide ((wrapZ t a) > (IntKind.wrap .i64 ((127 : Int) - (wrapZ t b))))) (.chk (True) (.know (okD (.int .i64) (wrapZ t (IntKind.wrap .i64 ((wrapZ t a) + (wrapZ t b))))) (rt (.tup [(vi (wrapZ t (IntKind.wrap .i64 ((wrapZ t a) + (wrapZ t b))))), (vb true)]) []))) (cond (decide ((wrapZ t b) < (0 : Int))) (.chk (True) (.know (okD (.int .i64) (bitsZ t)) (cond ((bitsZ t) == (8 : Int)) (.chk (True) (.know (okD (.int .i64) (wrapZ t (IntKind.wrap .i64 ((wrapZ t a) + (wrapZ t b))))) (rt (.tup [(vi (wrapZ t (IntKind.wrap .i64 ((wrapZ t a) + (wrapZ t b))))), (vb (decide ((wrapZ t a) < (IntKind.wrap .i64 ((-128 : Int) - (wrapZ t b))))))]) []))) (cond ((bitsZ t) == (32 : Int)) (.chk (True) (.know (okD (.int .i64) (wrapZ t (IntKind.wrap .i64 ((wrapZ t a) + (wrapZ t b))))) (rt (.tup [(vi (wrapZ t (IntKind.wrap .i64 ((wrapZ t a) + (wrapZ t b))))), (vb (decide ((wrapZ t a) < (IntKind.wrap .i64 ((-2147483648 : Int) - (wrapZ t b))))))]) []))) (cond ((bitsZ t) == (64 : Int)) (.chk (True) (.know (okD (.int .i64) (wrapZ t (IntKind.wrap .i64 ((wrapZ t a) + (wrapZ t b))))) (rt (.tup [(vi (wrapZ t (IntKind.wrap .i64 ((wrapZ t a) + (wrapZ t b))))), (vb (decide ((wrapZ t a) < (IntKind.wrap .i64 ((-9223372036854775808 : Int) - (wrapZ t b))))))]) []))) (.chk (True) (.know (okD (.int .i64) (wrapZ t (IntKind.wrap .i64 ((wrapZ t a) + (wrapZ t b))))) (rt (.tup [(vi (wrapZ t (IntKind.wrap .i64 ((wrapZ t a) + (wrapZ t b))))), (vb (decide ((wrapZ t a) < (IntKind.wrap .i64 ((0 : Int) - (wrapZ t b))))))]) [])))))))) (.chk (True) (.know (okD (.int .i64) (wrapZ t (IntKind.wrap .i64 ((wrapZ t a) + (wrapZ t b))))) (rt (.tup [(vi (wrapZ t (IntKind.wrap .i64 ((wrapZ t a) + (wrapZ t b))))), (vb false)]) []))))) (cond ((bitsZ t) == (32 : Int)) (cond (decide ((wrapZ t a) > (IntKind.wrap .i64 ((2147483647 : Int) - (wrapZ t b))))) (.chk (True) (.know (okD (.int .i64) (wrapZ t (IntKind.wrap .i64 ((wrapZ t a) + (wrapZ t b))))) (rt (.tup [(vi (wrapZ t (IntKind.wrap .i64 ((wrapZ t a) + (wrapZ t b))))), (vb true)]) []))) (cond (decide ((wrapZ t b) < (0 : Int))) (.chk (True) (.know (okD (.int .i64) (bitsZ t)) (cond ((bitsZ t) == (8 : Int)) (.chk (True) (.know (okD (.int .i64) (wrapZ t (IntKind.wrap .i64 ((wrapZ t a) + (wrapZ t b))))) (rt (.tup [(vi (wrapZ t (IntKind.wrap .i64 ((wrapZ t a) + (wrapZ t b))))), (vb (decide ((wrapZ t a) < (IntKind.wrap .i64 ((-128 : Int) - (wrapZ t b))))))]) []))) (cond ((bitsZ t) == (32 : Int)) (.chk (True) (.know (okD (.int .i64) (wrapZ t (IntKind.wrap .i64 ((wrapZ t a) + (wrapZ t b))))) (rt (.tup [(vi (wrapZ t (IntKind.wrap .i64 ((wrapZ t a) + (wrapZ t b))))), (vb (decide ((wrapZ t a) < (IntKind.wrap .i64 ((-2147483648 : Int) - (wrapZ t b))))))]) []))) (cond ((bitsZ t) == (64 : Int)) (.chk (True) (.know (okD (.int .i64) (wrapZ t (IntKind.wrap .i64 ((wrapZ t a) + (wrapZ t b))))) (rt (.tup [(vi (wrapZ t (IntKind.wrap .i64 ((wrapZ t a) + (wrapZ t b))))), (vb (decide ((wrapZ t a) < (IntKind.wrap .i64 ((-9223372036854775808 : Int) - (wrapZ t b))))))]) []))) (.chk (True) (.know (okD (.int .i64) (wrapZ t (IntKind.wrap .i64 ((wrapZ t a) + (wrapZ t b))))) (rt (.tup [(vi (wrapZ t (IntKind.wrap .i64 ((wrapZ t a) + (wrapZ t b))))), (vb (decide ((wrapZ t a) < (IntKind.wrap .i64 ((0 : Int) - (wrapZ t b))))))]) [])))))))) (.chk (True) (.know (okD (.int .i64) (wrapZ t (IntKind.wrap .i64 ((wrapZ t a) + (wrapZ t b))))) (rt (.tup [(vi (wrapZ t (IntKind.wrap .i64 ((wrapZ t a) + (wrapZ t b))))), (vb false)]) []))))) (cond ((bitsZ t) == (64 : Int)) (cond (decide ((wrapZ t a) > (IntKind.wrap .i64 ((9223372036854775807 : Int) - (wrapZ t b))))) (.chk (True) (.know (okD (.int .i64) (wrapZ t (IntKind.wrap .i64 ((wrapZ t a) + (wrapZ t b))))) (rt (.tup [(vi (wrapZ t (IntKind.wrap .i64 ((wrapZ t a) + (wrapZ t b))))), (vb true)]) []))) (cond (decide ((wrapZ t b) < (0 : Int))) (.chk (True) (.know (okD (.int .i64) (bitsZ t)) (cond ((bitsZ t) == (8 : Int)) (.chk (True) (.know (okD (.int .i64) (wrapZ t (IntKind.wrap .i64 ((wrapZ t a) + (wrapZ t b))))) (rt (.tup [(vi (wrapZ t (IntKind.wrap .i64 ((wrapZ t a) + (wrapZ t b))))), (vb (decide ((wrapZ t a) < (IntKind.wrap .i64 ((-128 : Int) - (wrapZ t b))))))]) []))) (cond ((bitsZ t) == (32 : Int)) (.chk (True) (.know (okD (.int .i64) (wrapZ t (IntKind.wrap .i64 ((wrapZ t a) + (wrapZ t b))))) (rt (.tup [(vi (wrapZ t (IntKind.wrap .i64 ((wrapZ t a) + (wrapZ t b))))), (vb (decide ((wrapZ t a) < (IntKind.wrap .i64 ((-2147483648 : Int) - (wrapZ t b))))))]) []))) (cond ((bitsZ t) == (64 : Int)) (.chk (True) (.know (okD (.int .i64) (wrapZ t (IntKind.wrap .i64 ((wrapZ t a) + (wrapZ t b))))) (rt (.tup [(vi (wrapZ t (IntKind.wrap .i64 ((wrapZ t a) + (wrapZ t b))))), (vb (decide ((wrapZ t a) < (IntKind.wrap .i64 ((-9223372036854775808 : Int) - (wrapZ t b))))))]) []))) (.chk (True) (.know (okD (.int .i64) (wrapZ t (IntKind.wrap .i64 ((wrapZ t a) + (wrapZ t b))))) (rt (.tup [(vi (wrapZ t (IntKind.wrap .i64 ((wrapZ t a) + (wrapZ t b))))), (vb (decide ((wrapZ t a) < (IntKind.wrap .i64 ((0 : Int) - (wrapZ t b))))))]) [])))))))) (.chk (True) (.know (okD (.int .i64) (wrapZ t (IntKind.wrap .i64 ((wrapZ t a) + (wrapZ t b))))) (rt (.tup [(vi (wrapZ t (IntKind.wrap .i64 ((wrapZ t a) + (wrapZ t b))))), (vb false)]) []))))) (cond (decide ((wrapZ t a) > (IntKind.wrap .i64 ((-1 : Int) - (wrapZ t b))))) (.chk (True) (.know (okD (.int .i64) (wrapZ t (IntKind.wrap .i64 ((wrapZ t a) + (wrapZ t b))))) (rt (.tup [(vi (wrapZ t (IntKind.wrap .i64 ((wrapZ t a) + (wrapZ t b))))), (vb true)]) []))) (cond (decide ((wrapZ t b) < (0 : Int))) (.chk (True) (.know (okD (.int .i64) (bitsZ t)) (cond ((bitsZ t) == (8 : Int)) (.chk (True) (.know (okD (.int .i64) (wrapZ t (IntKind.wrap .i64 ((wrapZ t a) + (wrapZ t b))))) (rt (.tup [(vi (wrapZ t (IntKind.wrap .i64 ((wrapZ t a) + (wrapZ t b))))), (vb (decide ((wrapZ t a) < (IntKind.wrap .i64 ((-128 : Int) - (wrapZ t b))))))]) []))) (cond ((bitsZ t) == (32 : Int)) (.chk (True) (.know (okD (.int .i64) (wrapZ t (IntKind.wrap .i64 ((wrapZ t a) + (wrapZ t b))))) (rt (.tup [(vi (wrapZ t (IntKind.wrap .i64 ((wrapZ t a) + (wrapZ t b))))), (vb (decide ((wrapZ t a) < (IntKind.wrap .i64 ((-2147483648 : Int) - (wrapZ t b))))))]) []))) (cond ((bitsZ t) == (64 : Int)) (.chk (True) (.know (okD (.int .i64) (wrapZ t (IntKind.wrap .i64 ((wrapZ t a) + (wrapZ t b))))) (rt (.tup [(vi (wrapZ t (IntKind.wrap .i64 ((wrapZ t a) + (wrapZ t b))))), (vb (decide ((wrapZ t a) < (IntKind.wrap .i64 ((-9223372036854775808 : Int) - (wrapZ t b))))))]) []))) (.chk (True) (.know (okD (.int .i64) (wrapZ t (IntKind.wrap .i64 ((wrapZ t a) + (wrapZ t b))))) (rt (.tup [(vi (wrapZ t (IntKind.wrap .i64 ((wrapZ t a) + (wrapZ t b))))), (vb (decide ((wrapZ t a) < (IntKind.wrap .i64 ((0 : Int) - (wrapZ t b))))))]) [])))))))) (.chk (True) (.know (okD (.int .i64) (wrapZ t (IntKind.wrap .i64 ((wrapZ t a) + (wrapZ t b))))) (rt (.tup [(vi (wrapZ t (IntKind.wrap .i64 ((wrapZ t a) + (wrapZ t b))))), (vb false)]) [])))))))))))))))) (cond (decide ((wrapZ t b) < (0 : Int))) (.chk (True) (.know (okD (.int .i64) (bitsZ t)) (cond ((bitsZ t) == (8 : Int)) (.chk (True) (.know (okD (.int .i64) (wrapZ t (IntKind.wrap .i64 ((wrapZ t a) + (wrapZ t b))))) (rt (.tup [(vi (wrapZ t (IntKind.wrap .i64 ((wrapZ t a) + (wrapZ t b))))), (vb (decide ((wrapZ t a) < (IntKind.wrap .i64 ((-128 : Int) - (wrapZ t b))))))]) []))) (cond ((bitsZ t) == (32 : Int)) (.chk (True) (.know (okD (.int .i64) (wrapZ t (IntKind.wrap .i64 ((wrapZ t a) + (wrapZ t b))))) (rt (.tup [(vi (wrapZ t (IntKind.wrap .i64 ((wrapZ t a) + (wrapZ t b))))), (vb (decide ((wrapZ t a) < (IntKind.wrap .i64 ((-2147483648 : Int) - (wrapZ t b))))))]) []))) (cond ((bitsZ t) == (64 : Int)) (.chk (True) (.know (okD (.int .i64) (wrapZ t (IntKind.wrap .i64 ((wrapZ t a) + (wrapZ t b))))) (rt (.tup [(vi (wrapZ t (IntKind.wrap .i64 ((wrapZ t a) + (wrapZ t b))))), (vb (decide ((wrapZ t a) < (IntKind.wrap .i64 ((-9223372036854775808 : Int) - (wrapZ t b))))))]) []))) (.chk (True) (.know (okD (.int .i64) (wrapZ t (IntKind.wrap .i64 ((wrapZ t a) + (wrapZ t b))))) (rt (.tup [(vi (wrapZ t (IntKind.wrap .i64 ((wrapZ t a) + (wrapZ t b))))), (vb (decide ((wrapZ t a) < (IntKind.wrap .i64 ((0 : Int) - (wrapZ t b))))))]) [])))))))) (.chk (True) (.know (okD (.int .i64) (wrapZ t (IntKind.wrap .i64 ((wrapZ t a) + (wrapZ t b))))) (rt (.tup [(vi (wrapZ t (IntKind.wrap .i64 ((wrapZ t a) + (wrapZ t b))))), (vb false)]) [])))))))))))) := by kernel_rfl
theorem r27_instr_t (f : Den s_api_Func) (defs : List (Den (.sl 16 s_api_Pos))) (r : Int) : run E_A4 H_A4 f_r27_instr 3000 (start E_A4 f_r27_instr [(.tv s_api_Func f), (.tv (.sl 24 (.sl 16 s_api_Pos)) defs), (vi r)]) = (cond (decide (r < (0 : Int))) (rt (.tup [(.tv s_api_Instr ((0 : Int), (0 : Int), (0 : Int), ([] : List (Den I)), (0 : Int), (0 : Int), (0 : Int), false, ())), (vb false)]) []) (cond (decide (r ≥ ((ln (.sl 16 s_api_Pos) defs) : Int))) (rt (.tup [(.tv s_api_Instr ((0 : Int), (0 : Int), (0 : Int), ([] : List (Den I)), (0 : Int), (0 : Int), (0 : Int), false, ())), (vb false)]) []) (.chk (0 ≤ r ∧ r < (ln (.sl 16 s_api_Pos) defs)) (cond (((ln s_api_Pos (gd (.sl 16 s_api_Pos) defs ((r).toNat))) : Int) != (1 : Int)) (rt (.tup [(.tv s_api_Instr ((0 : Int), (0 : Int), (0 : Int), ([] : List (Den I)), (0 : Int), (0 : Int), (0 : Int), false, ())), (vb false)]) []) (.chk (0 ≤ r ∧ r < (ln (.sl 16 s_api_Pos) defs)) (.chk (0 ≤ (0 : Int) ∧ (0 : Int) < (ln s_api_Pos (gd (.sl 16 s_api_Pos) defs ((r).toNat)))) (.chk ((0 : Nat) < (1 : Nat)) (.chk ((0 : Nat) < (1 : Nat)) (cond (decide ((z (((gd s_api_Pos (gd (.sl 16 s_api_Pos) defs ((r).toNat)) (0 : Nat)).2).1)) < (0 : Int))) (rt (.tup [(.tv s_api_Instr ((0 : Int), (0 : Int), (0 : Int), ([] : List (Den I)), (0 : Int), (0 : Int), (0 : Int), false, ())), (vb false)]) []) (.chk ((0 : Nat) < (1 : Nat)) (.chk (0 ≤ (z ((gd s_api_Pos (gd (.sl 16 s_api_Pos) defs ((r).toNat)) (0 : Nat)).1)) ∧ (z ((gd s_api_Pos (gd (.sl 16 s_api_Pos) defs ((r).toNat)) (0 : Nat)).1)) < (ln s_api_Block f.2.2.2.2.1)) (.chk ((0 : Nat) < (1 : Nat)) (.chk (0 ≤ (z (((gd s_api_Pos (gd (.sl 16 s_api_Pos) defs ((r).toNat)) (0 : Nat)).2).1)) ∧ (z (((gd s_api_Pos (gd (.sl 16 s_api_Pos) defs ((r).toNat)) (0 : Nat)).2).1)) < (ln s_api_Instr (((gd s_api_Block f.2.2.2.2.1 (((z ((gd s_api_Pos (gd (.sl 16 s_api_Pos) defs ((r).toNat)) (0 : Nat)).1))).toNat)).2).1))) (rt (.tup [(.tv s_api_Instr (gd s_api_Instr (((gd s_api_Block f.2.2.2.2.1 (((z ((gd s_api_Pos (gd (.sl 16 s_api_Pos) defs ((r).toNat)) (0 : Nat)).1))).toNat)).2).1) (((z (((gd s_api_Pos (gd (.sl 16 s_api_Pos) defs ((r).toNat)) (0 : Nat)).2).1))).toNat))), (vb true)]) [])))))))))))))) := by kernel_rfl
theorem alias_solver_operand_t (s : Den s_alias_solver) (r : Int) (in_ : Den s_api_Instr) (i : Int) : run E_A4 H_A4 f_alias_solver_operand 3000 (start E_A4 f_alias_solver_operand [(.rtp s_alias_solver s), (vi r), (.tv s_api_Instr in_), (vi i)]) = (.chk (0 ≤ z i) (.know (okD (.int .i64) (argP in_ i)) (.chk (True) (.know True (cond (!(ptrP s (argP in_ i))) (.chk (True) (.know (okD s_alias_Base (ownP r)) (.chk ((0 : Nat) < (1 : Nat)) (.chk ((0 : Nat) < (1 : Nat)) (rt (.tv s_alias_Base (ownP r)) []))))) (.chk (0 ≤ (argP in_ i) ∧ (argP in_ i) < (ln s_alias_Base s.2.2.1)) (.chk ((0 : Nat) < (1 : Nat)) (.chk ((0 : Nat) < (1 : Nat)) (rt (.tv s_alias_Base (gd s_alias_Base s.2.2.1 (((argP in_ i)).toNat))) []))))))))) := by kernel_rfl
abbrev Bs := Den s_alias_Base
abbrev DL := List (Den (.sl 16 s_api_Pos))
abbrev Sv := Den s_alias_solver
def zB : Bs := ((0 : Int), (0 : Int), (0 : Int), false, ())
def eqBs (a b : Bs) : Bool := (z a.1 == z b.1) && ((z a.2.1 == z b.2.1) && ((z a.2.2.1 == z b.2.2.1) && ((bOf a.2.2.2.1 == bOf b.2.2.2.1) && true)))
theorem eqBs_iff {a b : Bs} : eqBs a b = true ↔ a = b := by
  obtain ⟨a1, a2, a3, a4, a5⟩ : Int × Int × Int × Bool × Unit := a
  obtain ⟨b1, b2, b3, b4, b5⟩ : Int × Int × Int × Bool × Unit := b
  unfold eqBs
  simp
theorem eqBs_ne {a b : Bs} (h : eqBs a b = false) : a ≠ b := fun e => by rw [eqBs_iff.2 e] at h; cases h
def okZ (b : Bs) : Prop := z b.1 = 0 → b = zB
theorem okZ_own (r : Int) : okZ (ownP r) := fun h => by cases h
theorem okZ_z : okZ zB := fun _ => rfl
theorem meetP_kind {r : Int} {a b : Bs} (h : z a.1 ≠ 0) : z (meetP r a b).1 ≠ 0 := by
  unfold meetP
  cases (z a.1 != z b.1) <;> cases (z a.2.1 != z b.2.1) <;> cases bOf a.2.2.2.1 <;> cases bOf b.2.2.2.1 <;> cases (z a.2.2.1 == z b.2.2.1) <;> first | exact h | exact (by decide : (3 : Int) ≠ 0)
theorem meetR_eq {r : Int} {a b : Bs} : meetR r a b = if z a.1 = 0 then b else if z b.1 = 0 then a else meetP r a b := by
  unfold meetR meetP
  by_cases h1 : z a.1 = 0
  · rw [if_pos h1, show (z a.1 == 0) = true by simpa using h1]; rfl
  · rw [if_neg h1, show (z a.1 == 0) = false by simpa using h1]
    by_cases h2 : z b.1 = 0
    · rw [if_pos h2, show (z b.1 == 0) = true by simpa using h2]; rfl
    · rw [if_neg h2, show (z b.1 == 0) = false by simpa using h2]; rfl
theorem okZ_meet {r : Int} {a b : Bs} (ha : okZ a) (hb : okZ b) : okZ (meetR r a b) := by
  rw [meetR_eq]
  split
  · exact hb
  · split
    · exact ha
    · rename_i h _
      exact fun e => absurd e (meetP_kind h)
def jstep (r : Int) (out b : Bs) : Bs := if eqBs b zB = true then out else if eqBs out zB = true then b else meetP r out b
theorem jstep_eq {r : Int} {out b : Bs} (ho : okZ out) (hb : okZ b) : jstep r out b = meetR r out b := by
  unfold jstep
  rw [meetR_eq]
  by_cases h1 : z b.1 = 0
  · rw [if_pos (eqBs_iff.2 (hb h1))]
    by_cases h2 : z out.1 = 0
    · rw [if_pos h2, hb h1, ho h2]
    · rw [if_neg h2, if_pos h1]
  · rw [if_neg (fun h => h1 (by rw [eqBs_iff.1 h]; rfl))]
    by_cases h2 : z out.1 = 0
    · rw [if_pos (eqBs_iff.2 (ho h2)), if_pos h2]
    · rw [if_neg (fun h => h2 (by rw [eqBs_iff.1 h]; rfl)), if_neg h2, if_neg h1]
def joinF (r : Int) (l : List Bs) : Bs := l.foldl (jstep r) zB
theorem joinM_ok {r : Int} : ∀ {l : List Bs} {o : Bs}, okZ o → (∀ b ∈ l, okZ b) → l.foldl (jstep r) o = l.foldl (meetR r) o ∧ okZ (l.foldl (meetR r) o)
  | [], o, ho, _ => ⟨rfl, ho⟩
  | b :: l, o, ho, hl => by
    have hb := hl b List.mem_cons_self
    have := joinM_ok (r := r) (l := l) (okZ_meet (r := r) ho hb) fun x hx => hl x (List.mem_cons_of_mem _ hx)
    simp only [List.foldl_cons]
    rw [jstep_eq ho hb]
    exact this
def idxGo (x : Int) : List (Den I) → Nat → Int
  | [], _ => -1
  | y :: l, i => if z y = x then (i : Int) else idxGo x l (i + 1)
def idxF (l : List (Den I)) (x : Int) : Int := idxGo x l 0
theorem idxGo_sp {x : Int} : ∀ {l : List (Den I)} {i : Nat}, (idxGo x l i = -1 ∧ ∀ k, k < ln I l → z (gd I l k) ≠ x) ∨ ∃ k, k < ln I l ∧ idxGo x l i = ((i + k : Nat) : Int) ∧ z (gd I l k) = x ∧ ∀ j, j < k → z (gd I l j) ≠ x
  | [], i => .inl ⟨rfl, fun k hk => absurd hk (Nat.not_lt_zero _)⟩
  | y :: l, i => by
    unfold idxGo
    by_cases h : z y = x
    · rw [if_pos h]
      exact .inr ⟨0, Nat.succ_pos _, rfl, h, fun j hj => absurd hj (Nat.not_lt_zero _)⟩
    · rw [if_neg h]
      rcases idxGo_sp (x := x) (l := l) (i := i + 1) with ⟨a, b⟩ | ⟨k, k1, k2, k3, k4⟩
      · refine .inl ⟨a, fun k hk => ?_⟩
        cases k with
        | zero => exact h
        | succ k => exact b k (Nat.lt_of_succ_lt_succ hk)
      · refine .inr ⟨k + 1, Nat.succ_lt_succ k1, by rw [k2]; congr 1; omega, k3, fun j hj => ?_⟩
        cases j with
        | zero => exact h
        | succ j => exact k4 j (Nat.lt_of_succ_lt_succ hj)
def goodP (f : Fn) (r : Nat) (p : Den s_api_Pos) : Prop := (0 ≤ z p.1 ∧ z p.1 < (ln s_api_Block (blocks f) : Int)) ∧ z p.2.1 < (ln s_api_Instr (bIns (blk f (z p.1))) : Int) ∧
  (z p.2.1 < 0 → (z p.1 = 0 ∧ ∃ j, j < ln I f.2.1 ∧ z (gd I f.2.1 j) = (r : Int)) ∨ ∃ j, j < ln I (bPar (blk f (z p.1))) ∧ z (gd I (bPar (blk f (z p.1))) j) = (r : Int))
def goodD (f : Fn) (D : DL) : Prop := ln (.sl 16 s_api_Pos) D = ln I f.2.2.2.1 ∧ ∀ r, r < ln (.sl 16 s_api_Pos) D → ∀ k, k < ln s_api_Pos (gd (.sl 16 s_api_Pos) D r) → goodP f r (gd s_api_Pos (gd (.sl 16 s_api_Pos) D r) k)
def okNow (f : Fn) (now : List Bs) : Prop := ln s_alias_Base now = ln I f.2.2.2.1 ∧ ∀ j, j < ln s_alias_Base now → okZ (gd s_alias_Base now j)
theorem ptrR_in {f : Fn} {x : Int} (h : ptrR f x = true) : 0 ≤ x ∧ x < (ln I f.2.2.2.1 : Int) := by
  unfold ptrR at h
  cases h1 : decide (x ≥ 0) with
  | false => rw [h1] at h; cases h
  | true =>
    cases h2 : decide (x < (ln I f.2.2.2.1 : Int)) with
    | false => rw [h1, h2] at h; cases h
    | true => exact ⟨of_decide_eq_true h1, of_decide_eq_true h2⟩
theorem good_raw {f : Fn} {D : DL} (h : goodD f D) {r : Nat} (hr : r < ln (.sl 16 s_api_Pos) D) (h0 : 0 < ln s_api_Pos (gd (.sl 16 s_api_Pos) D r)) : (0 ≤ z (gd s_api_Pos (gd (.sl 16 s_api_Pos) D r) 0).1 ∧ z (gd s_api_Pos (gd (.sl 16 s_api_Pos) D r) 0).1 < (ln s_api_Block f.2.2.2.2.1 : Int)) ∧
    z (gd s_api_Pos (gd (.sl 16 s_api_Pos) D r) 0).2.1 < (ln s_api_Instr (gd s_api_Block f.2.2.2.2.1 (z (gd s_api_Pos (gd (.sl 16 s_api_Pos) D r) 0).1).toNat).2.1 : Int) :=
  have g := h.2 r hr 0 h0
  ⟨g.1, g.2.1⟩
theorem ptr_raw {s : Sv} {x : Int} (h : (!(ptrP s x)) = false) (hn : okNow s.1 s.2.2.1) : 0 ≤ x ∧ x < (ln s_alias_Base s.2.2.1 : Int) := by
  have := ptrR_in (f := s.1) (x := x) (show ptrP s x = true by simpa using h)
  rw [hn.1]
  exact this
theorem ptr_raw2 {f : Fn} {now : List Bs} {x : Int} (h : (!(ptrR f x)) = false) (hn : okNow f now) : 0 ≤ x ∧ x < (ln s_alias_Base now : Int) := by
  have := ptrR_in (f := f) (x := x) (by simpa using h)
  rw [hn.1]
  exact this
theorem ptrP_eq (s : Sv) (x : Int) : ptrP s x = ptrR s.1 x := rfl
theorem idx_l (l : List (Den I)) (x : Int) (hl : ln I l < 9223372036854775807) : ∀ i, i ≤ ln I l → Runs E_A4 (alias_index_L0 x l (ln I l : Nat) i) (fun r h => r = vi (idxGo x (l.drop i) i) ∧ h = []) :=
  up_ind (.tree E_A4_ok (alias_index_L0_t _ _ _ _) (by
    rw [drop_ln]
    simp only [wp_iff, chk_iff, know_iff, any_iff, rt_iff, hd_iff, true_imp_iff, true_and, and_true, and_self, lt01, Int.ofNat_lt, Int.ofNat_le, Int.natCast_nonneg, Int.toNat_natCast, decide_true, decide_false, Bool.true_eq_false, Bool.false_eq_true, false_imp_iff, Nat.lt_irrefl, imp_self, implies_true,  idxGo]))
    fun i hi ih => .tree E_A4_ok (alias_index_L0_t _ _ _ _) (by
      rw [drop_gd hi, idxGo]
      simp only [wp_iff, chk_iff, know_iff, any_iff, rt_iff, hd_iff, true_imp_iff, true_and, and_true, and_self, lt01, Int.ofNat_lt, Int.ofNat_le, Int.natCast_nonneg, Int.toNat_natCast, decide_true, decide_false, Bool.true_eq_false, Bool.false_eq_true, false_imp_iff, Nat.lt_irrefl, imp_self, implies_true,  hi, wrapS hi hl]
      refine ⟨fun h => ?_, fun h => ?_⟩
      · rw [if_pos (by simpa using h)]
      · rw [if_neg (by simpa using h)]
        exact ih)
def k_alias_index : Con := con [.d (.sl 8 I), .d I] I (fun x => True) fun x => idxF x.1 x.2.1
theorem m_alias_index (l : List (Den I)) (x : Int) (h_l : okD (.sl 8 I) l) (h_x : okD I x) (hp : True) : Runs E_A4 (start E_A4 f_alias_index [(.tv (.sl 8 I) l), (vi x)]) (fun r_ h_ => r_ = (vi (idxF l x)) ∧ h_ = []) := .tree E_A4_ok (alias_index_t l x) (by
  simp only [wp_iff, chk_iff, know_iff, any_iff, rt_iff, hd_iff, true_imp_iff, true_and, and_true, and_self, lt01]
  exact idx_l l x (room_lt h_l.1) 0 (Nat.zero_le _))
theorem c_alias_index : SpecOK E_A4 f_alias_index k_alias_index.spec := spec_of fun x hx hp => ⟨rfl, m_alias_index x.1 x.2.1 hx.1 hx.2.1 hp⟩
theorem join_l (r : Int) (l : List Bs) (hl : ln s_alias_Base l < 9223372036854775807) (t : Bs) : ∀ i, i ≤ ln s_alias_Base l → ∀ out, Runs E_A4 (alias_join_L0 r l (ln s_alias_Base l : Nat) i t out) (fun x h => x = .tv s_alias_Base ((l.drop i).foldl (jstep r) out) ∧ h = []) :=
  up_ind (fun out => .tree E_A4_ok (alias_join_L0_t _ _ _ _ _ _) (by
    rw [drop_ln]
    simp only [wp_iff, chk_iff, know_iff, any_iff, rt_iff, hd_iff, true_imp_iff, true_and, and_true, and_self, lt01, Int.ofNat_lt, Int.ofNat_le, Int.natCast_nonneg, Int.toNat_natCast, decide_true, decide_false, Bool.true_eq_false, Bool.false_eq_true, false_imp_iff, Nat.lt_irrefl, imp_self, implies_true,  List.foldl_nil]))
    fun i hi ih out => .tree E_A4_ok (alias_join_L0_t _ _ _ _ _ _) (by
      rw [drop_gd hi, List.foldl_cons]
      simp only [wp_iff, chk_iff, know_iff, any_iff, rt_iff, hd_iff, true_imp_iff, true_and, and_true, and_self, lt01, Int.ofNat_lt, Int.ofNat_le, Int.natCast_nonneg, Int.toNat_natCast, decide_true, decide_false, Bool.true_eq_false, Bool.false_eq_true, false_imp_iff, Nat.lt_irrefl, imp_self, implies_true,  hi, wrapS hi hl]
      refine ⟨fun h => ?_, fun h => ⟨fun h2 => ?_, fun h2 _ => ?_⟩⟩
      · rw [show jstep r out (gd s_alias_Base l i) = out from if_pos h]
        exact ih out
      · rw [show jstep r out (gd s_alias_Base l i) = gd s_alias_Base l i from (if_neg (by rw [show eqBs (gd s_alias_Base l i) zB = false from h]; decide)).trans (if_pos h2)]
        exact ih _
      · rw [show jstep r out (gd s_alias_Base l i) = meetP r out (gd s_alias_Base l i) from (if_neg (by rw [show eqBs (gd s_alias_Base l i) zB = false from h]; decide)).trans (if_neg (by rw [show eqBs out zB = false from h2]; decide))]
        exact ih _)
def k_alias_join : Con := con [.d I, .d (.sl 32 s_alias_Base)] s_alias_Base (fun x => True) fun x => joinF x.1 x.2.1
theorem m_alias_join (r : Int) (l : List (Den s_alias_Base)) (h_r : okD I r) (h_l : okD (.sl 32 s_alias_Base) l) (hp : True) : Runs E_A4 (start E_A4 f_alias_join [(vi r), (.tv (.sl 32 s_alias_Base) l)]) (fun r_ h_ => r_ = (.tv s_alias_Base (joinF r l)) ∧ h_ = []) := .tree E_A4_ok (alias_join_t r l) (by
  simp only [wp_iff, chk_iff, know_iff, any_iff, rt_iff, hd_iff, true_imp_iff, true_and, and_true, and_self, lt01]
  exact join_l r l (room_lt h_l.1) _ 0 (Nat.zero_le _) _)
theorem c_alias_join : SpecOK E_A4 f_alias_join k_alias_join.spec := spec_of fun x hx hp => ⟨rfl, m_alias_join x.1 x.2.1 hx.1 hx.2.1 hp⟩
def defA (s : Den s_alias_solver) (r : Int) : Den s_api_Instr × Den .bool := (cond (decide (r < (0 : Int))) (((0 : Int), (0 : Int), (0 : Int), ([] : List (Den I)), (0 : Int), (0 : Int), (0 : Int), false, ()), false) (cond (decide (r ≥ ((ln (.sl 16 s_api_Pos) s.2.1) : Int))) (((0 : Int), (0 : Int), (0 : Int), ([] : List (Den I)), (0 : Int), (0 : Int), (0 : Int), false, ()), false) (cond (((ln s_api_Pos (gd (.sl 16 s_api_Pos) s.2.1 ((r).toNat))) : Int) != (1 : Int)) (((0 : Int), (0 : Int), (0 : Int), ([] : List (Den I)), (0 : Int), (0 : Int), (0 : Int), false, ()), false) (cond (decide ((z (((gd s_api_Pos (gd (.sl 16 s_api_Pos) s.2.1 ((r).toNat)) (0 : Nat)).2).1)) < (0 : Int))) (((0 : Int), (0 : Int), (0 : Int), ([] : List (Den I)), (0 : Int), (0 : Int), (0 : Int), false, ()), false) ((gd s_api_Instr (((gd s_api_Block s.1.2.2.2.2.1 (((z ((gd s_api_Pos (gd (.sl 16 s_api_Pos) s.2.1 ((r).toNat)) (0 : Nat)).1))).toNat)).2).1) (((z (((gd s_api_Pos (gd (.sl 16 s_api_Pos) s.2.1 ((r).toNat)) (0 : Nat)).2).1))).toNat)), true)))))

def k_alias_solver_def : Con := conT2 [.cap s_alias_solver, .d I] s_api_Instr .bool (fun x => goodD x.1.1 x.1.2.1) fun x => defA x.1 x.2.1
theorem m_alias_solver_def (s : Den s_alias_solver) (r : Int) (h_s : okD s_alias_solver s) (h_r : okD I r) (hp : goodD s.1 s.2.1) : Runs E_A4 (start E_A4 f_alias_solver_def [(.rtp s_alias_solver s), (vi r)]) (fun r_ h_ => r_ = (.tup [(.tv s_api_Instr ((defA s r).1)), (vb (bOf ((defA s r).2)))]) ∧ h_ = []) := .tree E_A4_ok (alias_solver_def_t s r) (by
  have hp_ := hp
  try simp only [z] at hp_
  refine wp_cond (fun h1 => ?_) (fun h1 => ?_)
  · have h1_ := of_decide_eq_true h1
    exact ⟨by simp only [defA, h1, cond_true, cond_false], rfl⟩
  · have h1_ := of_decide_eq_false h1
    refine wp_cond (fun h2 => ?_) (fun h2 => ?_)
    · have h2_ := of_decide_eq_true h2
      exact ⟨by simp only [defA, h1, h2, cond_true, cond_false], rfl⟩
    · have h2_ := of_decide_eq_false h2
      refine ⟨by first | omega | exact (good_raw hp (r := r.toNat) (by omega) (by omega)) | (have g_ := good_raw hp (r := r.toNat) (by omega) (by omega); omega) | assumption | exact hp.1 | exact hp.2 | exact hp.2.1 | (simp_all; done) | (simp_all; omega), fun _ => ?_⟩
      refine wp_cond (fun h3 => ?_) (fun h3 => ?_)
      · have h3_ := bne_t h3
        exact ⟨by simp only [defA, h1, h2, h3, cond_true, cond_false], rfl⟩
      · have h3_ := bne_f h3
        refine ⟨by first | omega | exact (good_raw hp (r := r.toNat) (by omega) (by omega)) | (have g_ := good_raw hp (r := r.toNat) (by omega) (by omega); omega) | assumption | exact hp.1 | exact hp.2 | exact hp.2.1 | (simp_all; done) | (simp_all; omega), fun _ => ?_⟩
        refine ⟨by first | omega | exact (good_raw hp (r := r.toNat) (by omega) (by omega)) | (have g_ := good_raw hp (r := r.toNat) (by omega) (by omega); omega) | assumption | exact hp.1 | exact hp.2 | exact hp.2.1 | (simp_all; done) | (simp_all; omega), fun _ => ?_⟩
        refine ⟨Nat.zero_lt_one, fun _ => ?_⟩
        refine ⟨Nat.zero_lt_one, fun _ => ?_⟩
        refine wp_cond (fun h4 => ?_) (fun h4 => ?_)
        · have h4_ := of_decide_eq_true h4
          exact ⟨by simp only [defA, h1, h2, h3, h4, cond_true, cond_false], rfl⟩
        · have h4_ := of_decide_eq_false h4
          refine ⟨Nat.zero_lt_one, fun _ => ?_⟩
          refine ⟨by first | omega | exact (good_raw hp (r := r.toNat) (by omega) (by omega)) | (have g_ := good_raw hp (r := r.toNat) (by omega) (by omega); omega) | assumption | exact hp.1 | exact hp.2 | exact hp.2.1 | (simp_all; done) | (simp_all; omega), fun _ => ?_⟩
          refine ⟨Nat.zero_lt_one, fun _ => ?_⟩
          refine ⟨by first | omega | exact (good_raw hp (r := r.toNat) (by omega) (by omega)) | (have g_ := good_raw hp (r := r.toNat) (by omega) (by omega); omega) | assumption | exact hp.1 | exact hp.2 | exact hp.2.1 | (simp_all; done) | (simp_all; omega), fun _ => ?_⟩
          exact ⟨by simp only [defA, h1, h2, h3, h4, cond_true, cond_false], rfl⟩)
theorem c_alias_solver_def : SpecOK E_A4 f_alias_solver_def k_alias_solver_def.spec := spec_of fun x hx hp => ⟨rfl, m_alias_solver_def x.1 x.2.1 hx.1 hx.2.1 hp⟩
def addR (t : Int) (a : Int) (b : Int) : Den I × Den .bool := (cond ((bitsZ t) == (0 : Int)) ((0 : Int), false) (cond (decide ((wrapZ t b) > (0 : Int))) (cond ((bitsZ t) == (1 : Int)) (cond (decide ((wrapZ t a) > (IntKind.wrap .i64 ((1 : Int) - (wrapZ t b))))) ((wrapZ t (IntKind.wrap .i64 ((wrapZ t a) + (wrapZ t b)))), true) (cond (decide ((wrapZ t b) < (0 : Int))) (cond ((bitsZ t) == (8 : Int)) ((wrapZ t (IntKind.wrap .i64 ((wrapZ t a) + (wrapZ t b)))), (decide ((wrapZ t a) < (IntKind.wrap .i64 ((-128 : Int) - (wrapZ t b)))))) (cond ((bitsZ t) == (32 : Int)) ((wrapZ t (IntKind.wrap .i64 ((wrapZ t a) + (wrapZ t b)))), (decide ((wrapZ t a) < (IntKind.wrap .i64 ((-2147483648 : Int) - (wrapZ t b)))))) (cond ((bitsZ t) == (64 : Int)) ((wrapZ t (IntKind.wrap .i64 ((wrapZ t a) + (wrapZ t b)))), (decide ((wrapZ t a) < (IntKind.wrap .i64 ((-9223372036854775808 : Int) - (wrapZ t b)))))) ((wrapZ t (IntKind.wrap .i64 ((wrapZ t a) + (wrapZ t b)))), (decide ((wrapZ t a) < (IntKind.wrap .i64 ((0 : Int) - (wrapZ t b))))))))) ((wrapZ t (IntKind.wrap .i64 ((wrapZ t a) + (wrapZ t b)))), false))) (cond ((bitsZ t) == (0 : Int)) (cond (decide ((wrapZ t a) > (IntKind.wrap .i64 ((0 : Int) - (wrapZ t b))))) ((wrapZ t (IntKind.wrap .i64 ((wrapZ t a) + (wrapZ t b)))), true) (cond (decide ((wrapZ t b) < (0 : Int))) (cond ((bitsZ t) == (8 : Int)) ((wrapZ t (IntKind.wrap .i64 ((wrapZ t a) + (wrapZ t b)))), (decide ((wrapZ t a) < (IntKind.wrap .i64 ((-128 : Int) - (wrapZ t b)))))) (cond ((bitsZ t) == (32 : Int)) ((wrapZ t (IntKind.wrap .i64 ((wrapZ t a) + (wrapZ t b)))), (decide ((wrapZ t a) < (IntKind.wrap .i64 ((-2147483648 : Int) - (wrapZ t b)))))) (cond ((bitsZ t) == (64 : Int)) ((wrapZ t (IntKind.wrap .i64 ((wrapZ t a) + (wrapZ t b)))), (decide ((wrapZ t a) < (IntKind.wrap .i64 ((-9223372036854775808 : Int) - (wrapZ t b)))))) ((wrapZ t (IntKind.wrap .i64 ((wrapZ t a) + (wrapZ t b)))), (decide ((wrapZ t a) < (IntKind.wrap .i64 ((0 : Int) - (wrapZ t b))))))))) ((wrapZ t (IntKind.wrap .i64 ((wrapZ t a) + (wrapZ t b)))), false))) (cond ((bitsZ t) == (8 : Int)) (cond (decide ((wrapZ t a) > (IntKind.wrap .i64 ((127 : Int) - (wrapZ t b))))) ((wrapZ t (IntKind.wrap .i64 ((wrapZ t a) + (wrapZ t b)))), true) (cond (decide ((wrapZ t b) < (0 : Int))) (cond ((bitsZ t) == (8 : Int)) ((wrapZ t (IntKind.wrap .i64 ((wrapZ t a) + (wrapZ t b)))), (decide ((wrapZ t a) < (IntKind.wrap .i64 ((-128 : Int) - (wrapZ t b)))))) (cond ((bitsZ t) == (32 : Int)) ((wrapZ t (IntKind.wrap .i64 ((wrapZ t a) + (wrapZ t b)))), (decide ((wrapZ t a) < (IntKind.wrap .i64 ((-2147483648 : Int) - (wrapZ t b)))))) (cond ((bitsZ t) == (64 : Int)) ((wrapZ t (IntKind.wrap .i64 ((wrapZ t a) + (wrapZ t b)))), (decide ((wrapZ t a) < (IntKind.wrap .i64 ((-9223372036854775808 : Int) - (wrapZ t b)))))) ((wrapZ t (IntKind.wrap .i64 ((wrapZ t a) + (wrapZ t b)))), (decide ((wrapZ t a) < (IntKind.wrap .i64 ((0 : Int) - (wrapZ t b))))))))) ((wrapZ t (IntKind.wrap .i64 ((wrapZ t a) + (wrapZ t b)))), false))) (cond ((bitsZ t) == (32 : Int)) (cond (decide ((wrapZ t a) > (IntKind.wrap .i64 ((2147483647 : Int) - (wrapZ t b))))) ((wrapZ t (IntKind.wrap .i64 ((wrapZ t a) + (wrapZ t b)))), true) (cond (decide ((wrapZ t b) < (0 : Int))) (cond ((bitsZ t) == (8 : Int)) ((wrapZ t (IntKind.wrap .i64 ((wrapZ t a) + (wrapZ t b)))), (decide ((wrapZ t a) < (IntKind.wrap .i64 ((-128 : Int) - (wrapZ t b)))))) (cond ((bitsZ t) == (32 : Int)) ((wrapZ t (IntKind.wrap .i64 ((wrapZ t a) + (wrapZ t b)))), (decide ((wrapZ t a) < (IntKind.wrap .i64 ((-2147483648 : Int) - (wrapZ t b)))))) (cond ((bitsZ t) == (64 : Int)) ((wrapZ t (IntKind.wrap .i64 ((wrapZ t a) + (wrapZ t b)))), (decide ((wrapZ t a) < (IntKind.wrap .i64 ((-9223372036854775808 : Int) - (wrapZ t b)))))) ((wrapZ t (IntKind.wrap .i64 ((wrapZ t a) + (wrapZ t b)))), (decide ((wrapZ t a) < (IntKind.wrap .i64 ((0 : Int) - (wrapZ t b))))))))) ((wrapZ t (IntKind.wrap .i64 ((wrapZ t a) + (wrapZ t b)))), false))) (cond ((bitsZ t) == (64 : Int)) (cond (decide ((wrapZ t a) > (IntKind.wrap .i64 ((9223372036854775807 : Int) - (wrapZ t b))))) ((wrapZ t (IntKind.wrap .i64 ((wrapZ t a) + (wrapZ t b)))), true) (cond (decide ((wrapZ t b) < (0 : Int))) (cond ((bitsZ t) == (8 : Int)) ((wrapZ t (IntKind.wrap .i64 ((wrapZ t a) + (wrapZ t b)))), (decide ((wrapZ t a) < (IntKind.wrap .i64 ((-128 : Int) - (wrapZ t b)))))) (cond ((bitsZ t) == (32 : Int)) ((wrapZ t (IntKind.wrap .i64 ((wrapZ t a) + (wrapZ t b)))), (decide ((wrapZ t a) < (IntKind.wrap .i64 ((-2147483648 : Int) - (wrapZ t b)))))) (cond ((bitsZ t) == (64 : Int)) ((wrapZ t (IntKind.wrap .i64 ((wrapZ t a) + (wrapZ t b)))), (decide ((wrapZ t a) < (IntKind.wrap .i64 ((-9223372036854775808 : Int) - (wrapZ t b)))))) ((wrapZ t (IntKind.wrap .i64 ((wrapZ t a) + (wrapZ t b)))), (decide ((wrapZ t a) < (IntKind.wrap .i64 ((0 : Int) - (wrapZ t b))))))))) ((wrapZ t (IntKind.wrap .i64 ((wrapZ t a) + (wrapZ t b)))), false))) (cond (decide ((wrapZ t a) > (IntKind.wrap .i64 ((-1 : Int) - (wrapZ t b))))) ((wrapZ t (IntKind.wrap .i64 ((wrapZ t a) + (wrapZ t b)))), true) (cond (decide ((wrapZ t b) < (0 : Int))) (cond ((bitsZ t) == (8 : Int)) ((wrapZ t (IntKind.wrap .i64 ((wrapZ t a) + (wrapZ t b)))), (decide ((wrapZ t a) < (IntKind.wrap .i64 ((-128 : Int) - (wrapZ t b)))))) (cond ((bitsZ t) == (32 : Int)) ((wrapZ t (IntKind.wrap .i64 ((wrapZ t a) + (wrapZ t b)))), (decide ((wrapZ t a) < (IntKind.wrap .i64 ((-2147483648 : Int) - (wrapZ t b)))))) (cond ((bitsZ t) == (64 : Int)) ((wrapZ t (IntKind.wrap .i64 ((wrapZ t a) + (wrapZ t b)))), (decide ((wrapZ t a) < (IntKind.wrap .i64 ((-9223372036854775808 : Int) - (wrapZ t b)))))) ((wrapZ t (IntKind.wrap .i64 ((wrapZ t a) + (wrapZ t b)))), (decide ((wrapZ t a) < (IntKind.wrap .i64 ((0 : Int) - (wrapZ t b))))))))) ((wrapZ t (IntKind.wrap .i64 ((wrapZ t a) + (wrapZ t b)))), false)))))))) (cond (decide ((wrapZ t b) < (0 : Int))) (cond ((bitsZ t) == (8 : Int)) ((wrapZ t (IntKind.wrap .i64 ((wrapZ t a) + (wrapZ t b)))), (decide ((wrapZ t a) < (IntKind.wrap .i64 ((-128 : Int) - (wrapZ t b)))))) (cond ((bitsZ t) == (32 : Int)) ((wrapZ t (IntKind.wrap .i64 ((wrapZ t a) + (wrapZ t b)))), (decide ((wrapZ t a) < (IntKind.wrap .i64 ((-2147483648 : Int) - (wrapZ t b)))))) (cond ((bitsZ t) == (64 : Int)) ((wrapZ t (IntKind.wrap .i64 ((wrapZ t a) + (wrapZ t b)))), (decide ((wrapZ t a) < (IntKind.wrap .i64 ((-9223372036854775808 : Int) - (wrapZ t b)))))) ((wrapZ t (IntKind.wrap .i64 ((wrapZ t a) + (wrapZ t b)))), (decide ((wrapZ t a) < (IntKind.wrap .i64 ((0 : Int) - (wrapZ t b))))))))) ((wrapZ t (IntKind.wrap .i64 ((wrapZ t a) + (wrapZ t b)))), false))))

def k_r01_Add : Con := conT2 [.d I, .d I, .d I] I .bool (fun x => True) fun x => addR x.1 x.2.1 x.2.2.1
theorem m_r01_Add (t : Int) (a : Int) (b : Int) (h_t : okD I t) (h_a : okD I a) (h_b : okD I b) (hp : True) : Runs E_A4 (start E_A4 f_r01_Add [(vi t), (vi a), (vi b)]) (fun r_ h_ => r_ = (.tup [(vi (z ((addR t a b).1))), (vb (bOf ((addR t a b).2)))]) ∧ h_ = []) := .tree E_A4_ok (r01_Add_t t a b) (by
  refine ⟨trivial, fun _ => ?_⟩
  refine fun _ => ?_
  refine ⟨trivial, fun _ => ?_⟩
  refine fun _ => ?_
  refine ⟨trivial, fun _ => ?_⟩
  refine fun _ => ?_
  refine wp_cond (fun h1 => ?_) (fun h1 => ?_)
  · have h1_ := beq_t h1
    exact ⟨by simp only [addR, h1, cond_true, cond_false], rfl⟩
  · have h1_ := beq_f h1
    refine wp_cond (fun h2 => ?_) (fun h2 => ?_)
    · have h2_ := of_decide_eq_true h2
      refine ⟨trivial, fun _ => ?_⟩
      refine fun _ => ?_
      refine wp_cond (fun h3 => ?_) (fun h3 => ?_)
      · have h3_ := beq_t h3
        refine wp_cond (fun h4 => ?_) (fun h4 => ?_)
        · have h4_ := of_decide_eq_true h4
          refine ⟨trivial, fun _ => ?_⟩
          refine fun _ => ?_
          exact ⟨by simp only [addR, h1, h2, h3, h4, cond_true, cond_false], rfl⟩
        · have h4_ := of_decide_eq_false h4
          refine wp_cond (fun h5 => ?_) (fun h5 => ?_)
          · have h5_ := of_decide_eq_true h5
            refine ⟨trivial, fun _ => ?_⟩
            refine fun _ => ?_
            refine wp_cond (fun h6 => ?_) (fun h6 => ?_)
            · have h6_ := beq_t h6
              refine ⟨trivial, fun _ => ?_⟩
              refine fun _ => ?_
              exact ⟨by simp only [addR, h1, h2, h3, h4, h5, h6, cond_true, cond_false], rfl⟩
            · have h6_ := beq_f h6
              refine wp_cond (fun h7 => ?_) (fun h7 => ?_)
              · have h7_ := beq_t h7
                refine ⟨trivial, fun _ => ?_⟩
                refine fun _ => ?_
                exact ⟨by simp only [addR, h1, h2, h3, h4, h5, h6, h7, cond_true, cond_false], rfl⟩
              · have h7_ := beq_f h7
                refine wp_cond (fun h8 => ?_) (fun h8 => ?_)
                · have h8_ := beq_t h8
                  refine ⟨trivial, fun _ => ?_⟩
                  refine fun _ => ?_
                  exact ⟨by simp only [addR, h1, h2, h3, h4, h5, h6, h7, h8, cond_true, cond_false], rfl⟩
                · have h8_ := beq_f h8
                  refine ⟨trivial, fun _ => ?_⟩
                  refine fun _ => ?_
                  exact ⟨by simp only [addR, h1, h2, h3, h4, h5, h6, h7, h8, cond_true, cond_false], rfl⟩
          · have h5_ := of_decide_eq_false h5
            refine ⟨trivial, fun _ => ?_⟩
            refine fun _ => ?_
            exact ⟨by simp only [addR, h1, h2, h3, h4, h5, cond_true, cond_false], rfl⟩
      · have h3_ := beq_f h3
        refine ⟨trivial, fun _ => ?_⟩
        refine fun _ => ?_
        refine wp_cond (fun h9 => absurd (h1.symm.trans h9) (by decide)) (fun _ => ?_)
        refine ⟨trivial, fun _ => ?_⟩
        refine fun _ => ?_
        refine wp_cond (fun h10 => ?_) (fun h10 => ?_)
        · have h10_ := beq_t h10
          refine wp_cond (fun h11 => ?_) (fun h11 => ?_)
          · have h11_ := of_decide_eq_true h11
            refine ⟨trivial, fun _ => ?_⟩
            refine fun _ => ?_
            exact ⟨by simp only [addR, h1, h2, h3, h10, h11, cond_true, cond_false], rfl⟩
          · have h11_ := of_decide_eq_false h11
            refine wp_cond (fun h12 => ?_) (fun h12 => ?_)
            · have h12_ := of_decide_eq_true h12
              refine ⟨trivial, fun _ => ?_⟩
              refine fun _ => ?_
              refine wp_cond (fun _ => ?_) (fun h13 => absurd (h10.symm.trans h13) (by decide))
              refine ⟨trivial, fun _ => ?_⟩
              refine fun _ => ?_
              exact ⟨by simp only [addR, h1, h2, h3, h10, h11, h12, cond_true, cond_false], rfl⟩
            · have h12_ := of_decide_eq_false h12
              refine ⟨trivial, fun _ => ?_⟩
              refine fun _ => ?_
              exact ⟨by simp only [addR, h1, h2, h3, h10, h11, h12, cond_true, cond_false], rfl⟩
        · have h10_ := beq_f h10
          refine wp_cond (fun h14 => ?_) (fun h14 => ?_)
          · have h14_ := beq_t h14
            refine wp_cond (fun h15 => ?_) (fun h15 => ?_)
            · have h15_ := of_decide_eq_true h15
              refine ⟨trivial, fun _ => ?_⟩
              refine fun _ => ?_
              exact ⟨by simp only [addR, h1, h2, h3, h10, h14, h15, cond_true, cond_false], rfl⟩
            · have h15_ := of_decide_eq_false h15
              refine wp_cond (fun h16 => ?_) (fun h16 => ?_)
              · have h16_ := of_decide_eq_true h16
                refine ⟨trivial, fun _ => ?_⟩
                refine fun _ => ?_
                refine wp_cond (fun h17 => absurd (h10.symm.trans h17) (by decide)) (fun _ => ?_)
                refine wp_cond (fun _ => ?_) (fun h18 => absurd (h14.symm.trans h18) (by decide))
                refine ⟨trivial, fun _ => ?_⟩
                refine fun _ => ?_
                exact ⟨by simp only [addR, h1, h2, h3, h10, h14, h15, h16, cond_true, cond_false], rfl⟩
              · have h16_ := of_decide_eq_false h16
                refine ⟨trivial, fun _ => ?_⟩
                refine fun _ => ?_
                exact ⟨by simp only [addR, h1, h2, h3, h10, h14, h15, h16, cond_true, cond_false], rfl⟩
          · have h14_ := beq_f h14
            refine wp_cond (fun h19 => ?_) (fun h19 => ?_)
            · have h19_ := beq_t h19
              refine wp_cond (fun h20 => ?_) (fun h20 => ?_)
              · have h20_ := of_decide_eq_true h20
                refine ⟨trivial, fun _ => ?_⟩
                refine fun _ => ?_
                exact ⟨by simp only [addR, h1, h2, h3, h10, h14, h19, h20, cond_true, cond_false], rfl⟩
              · have h20_ := of_decide_eq_false h20
                refine wp_cond (fun h21 => ?_) (fun h21 => ?_)
                · have h21_ := of_decide_eq_true h21
                  refine ⟨trivial, fun _ => ?_⟩
                  refine fun _ => ?_
                  refine wp_cond (fun h22 => absurd (h10.symm.trans h22) (by decide)) (fun _ => ?_)
                  refine wp_cond (fun h23 => absurd (h14.symm.trans h23) (by decide)) (fun _ => ?_)
                  refine wp_cond (fun _ => ?_) (fun h24 => absurd (h19.symm.trans h24) (by decide))
                  refine ⟨trivial, fun _ => ?_⟩
                  refine fun _ => ?_
                  exact ⟨by simp only [addR, h1, h2, h3, h10, h14, h19, h20, h21, cond_true, cond_false], rfl⟩
                · have h21_ := of_decide_eq_false h21
                  refine ⟨trivial, fun _ => ?_⟩
                  refine fun _ => ?_
                  exact ⟨by simp only [addR, h1, h2, h3, h10, h14, h19, h20, h21, cond_true, cond_false], rfl⟩
            · have h19_ := beq_f h19
              refine wp_cond (fun h25 => ?_) (fun h25 => ?_)
              · have h25_ := of_decide_eq_true h25
                refine ⟨trivial, fun _ => ?_⟩
                refine fun _ => ?_
                exact ⟨by simp only [addR, h1, h2, h3, h10, h14, h19, h25, cond_true, cond_false], rfl⟩
              · have h25_ := of_decide_eq_false h25
                refine wp_cond (fun h26 => ?_) (fun h26 => ?_)
                · have h26_ := of_decide_eq_true h26
                  refine ⟨trivial, fun _ => ?_⟩
                  refine fun _ => ?_
                  refine wp_cond (fun h27 => absurd (h10.symm.trans h27) (by decide)) (fun _ => ?_)
                  refine wp_cond (fun h28 => absurd (h14.symm.trans h28) (by decide)) (fun _ => ?_)
                  refine wp_cond (fun h29 => absurd (h19.symm.trans h29) (by decide)) (fun _ => ?_)
                  refine ⟨trivial, fun _ => ?_⟩
                  refine fun _ => ?_
                  exact ⟨by simp only [addR, h1, h2, h3, h10, h14, h19, h25, h26, cond_true, cond_false], rfl⟩
                · have h26_ := of_decide_eq_false h26
                  refine ⟨trivial, fun _ => ?_⟩
                  refine fun _ => ?_
                  exact ⟨by simp only [addR, h1, h2, h3, h10, h14, h19, h25, h26, cond_true, cond_false], rfl⟩
    · have h2_ := of_decide_eq_false h2
      refine wp_cond (fun h30 => ?_) (fun h30 => ?_)
      · have h30_ := of_decide_eq_true h30
        refine ⟨trivial, fun _ => ?_⟩
        refine fun _ => ?_
        refine wp_cond (fun h31 => ?_) (fun h31 => ?_)
        · have h31_ := beq_t h31
          refine ⟨trivial, fun _ => ?_⟩
          refine fun _ => ?_
          exact ⟨by simp only [addR, h1, h2, h30, h31, cond_true, cond_false], rfl⟩
        · have h31_ := beq_f h31
          refine wp_cond (fun h32 => ?_) (fun h32 => ?_)
          · have h32_ := beq_t h32
            refine ⟨trivial, fun _ => ?_⟩
            refine fun _ => ?_
            exact ⟨by simp only [addR, h1, h2, h30, h31, h32, cond_true, cond_false], rfl⟩
          · have h32_ := beq_f h32
            refine wp_cond (fun h33 => ?_) (fun h33 => ?_)
            · have h33_ := beq_t h33
              refine ⟨trivial, fun _ => ?_⟩
              refine fun _ => ?_
              exact ⟨by simp only [addR, h1, h2, h30, h31, h32, h33, cond_true, cond_false], rfl⟩
            · have h33_ := beq_f h33
              refine ⟨trivial, fun _ => ?_⟩
              refine fun _ => ?_
              exact ⟨by simp only [addR, h1, h2, h30, h31, h32, h33, cond_true, cond_false], rfl⟩
      · have h30_ := of_decide_eq_false h30
        refine ⟨trivial, fun _ => ?_⟩
        refine fun _ => ?_
        exact ⟨by simp only [addR, h1, h2, h30, cond_true, cond_false], rfl⟩)
theorem c_r01_Add : SpecOK E_A4 f_r01_Add k_r01_Add.spec := spec_of fun x hx hp => ⟨rfl, m_r01_Add x.1 x.2.1 x.2.2.1 hx.1 hx.2.1 hx.2.2.1 hp⟩
def defR (f : Den s_api_Func) (defs : List (Den (.sl 16 s_api_Pos))) (r : Int) : Den s_api_Instr × Den .bool := (cond (decide (r < (0 : Int))) (((0 : Int), (0 : Int), (0 : Int), ([] : List (Den I)), (0 : Int), (0 : Int), (0 : Int), false, ()), false) (cond (decide (r ≥ ((ln (.sl 16 s_api_Pos) defs) : Int))) (((0 : Int), (0 : Int), (0 : Int), ([] : List (Den I)), (0 : Int), (0 : Int), (0 : Int), false, ()), false) (cond (((ln s_api_Pos (gd (.sl 16 s_api_Pos) defs ((r).toNat))) : Int) != (1 : Int)) (((0 : Int), (0 : Int), (0 : Int), ([] : List (Den I)), (0 : Int), (0 : Int), (0 : Int), false, ()), false) (cond (decide ((z (((gd s_api_Pos (gd (.sl 16 s_api_Pos) defs ((r).toNat)) (0 : Nat)).2).1)) < (0 : Int))) (((0 : Int), (0 : Int), (0 : Int), ([] : List (Den I)), (0 : Int), (0 : Int), (0 : Int), false, ()), false) ((gd s_api_Instr (((gd s_api_Block f.2.2.2.2.1 (((z ((gd s_api_Pos (gd (.sl 16 s_api_Pos) defs ((r).toNat)) (0 : Nat)).1))).toNat)).2).1) (((z (((gd s_api_Pos (gd (.sl 16 s_api_Pos) defs ((r).toNat)) (0 : Nat)).2).1))).toNat)), true)))))

def k_r27_instr : Con := conT2 [.d s_api_Func, .d (.sl 24 (.sl 16 s_api_Pos)), .d I] s_api_Instr .bool (fun x => goodD x.1 x.2.1) fun x => defR x.1 x.2.1 x.2.2.1
theorem m_r27_instr (f : Den s_api_Func) (defs : List (Den (.sl 16 s_api_Pos))) (r : Int) (h_f : okD s_api_Func f) (h_defs : okD (.sl 24 (.sl 16 s_api_Pos)) defs) (h_r : okD I r) (hp : goodD f defs) : Runs E_A4 (start E_A4 f_r27_instr [(.tv s_api_Func f), (.tv (.sl 24 (.sl 16 s_api_Pos)) defs), (vi r)]) (fun r_ h_ => r_ = (.tup [(.tv s_api_Instr ((defR f defs r).1)), (vb (bOf ((defR f defs r).2)))]) ∧ h_ = []) := .tree E_A4_ok (r27_instr_t f defs r) (by
  have hp_ := hp
  try simp only [z] at hp_
  refine wp_cond (fun h1 => ?_) (fun h1 => ?_)
  · have h1_ := of_decide_eq_true h1
    exact ⟨by simp only [defR, h1, cond_true, cond_false], rfl⟩
  · have h1_ := of_decide_eq_false h1
    refine wp_cond (fun h2 => ?_) (fun h2 => ?_)
    · have h2_ := of_decide_eq_true h2
      exact ⟨by simp only [defR, h1, h2, cond_true, cond_false], rfl⟩
    · have h2_ := of_decide_eq_false h2
      refine ⟨by first | omega | exact (good_raw hp (r := r.toNat) (by omega) (by omega)) | (have g_ := good_raw hp (r := r.toNat) (by omega) (by omega); omega) | assumption | exact hp.1 | exact hp.2 | exact hp.2.1 | (simp_all; done) | (simp_all; omega), fun _ => ?_⟩
      refine wp_cond (fun h3 => ?_) (fun h3 => ?_)
      · have h3_ := bne_t h3
        exact ⟨by simp only [defR, h1, h2, h3, cond_true, cond_false], rfl⟩
      · have h3_ := bne_f h3
        refine ⟨by first | omega | exact (good_raw hp (r := r.toNat) (by omega) (by omega)) | (have g_ := good_raw hp (r := r.toNat) (by omega) (by omega); omega) | assumption | exact hp.1 | exact hp.2 | exact hp.2.1 | (simp_all; done) | (simp_all; omega), fun _ => ?_⟩
        refine ⟨by first | omega | exact (good_raw hp (r := r.toNat) (by omega) (by omega)) | (have g_ := good_raw hp (r := r.toNat) (by omega) (by omega); omega) | assumption | exact hp.1 | exact hp.2 | exact hp.2.1 | (simp_all; done) | (simp_all; omega), fun _ => ?_⟩
        refine ⟨Nat.zero_lt_one, fun _ => ?_⟩
        refine ⟨Nat.zero_lt_one, fun _ => ?_⟩
        refine wp_cond (fun h4 => ?_) (fun h4 => ?_)
        · have h4_ := of_decide_eq_true h4
          exact ⟨by simp only [defR, h1, h2, h3, h4, cond_true, cond_false], rfl⟩
        · have h4_ := of_decide_eq_false h4
          refine ⟨Nat.zero_lt_one, fun _ => ?_⟩
          refine ⟨by first | omega | exact (good_raw hp (r := r.toNat) (by omega) (by omega)) | (have g_ := good_raw hp (r := r.toNat) (by omega) (by omega); omega) | assumption | exact hp.1 | exact hp.2 | exact hp.2.1 | (simp_all; done) | (simp_all; omega), fun _ => ?_⟩
          refine ⟨Nat.zero_lt_one, fun _ => ?_⟩
          refine ⟨by first | omega | exact (good_raw hp (r := r.toNat) (by omega) (by omega)) | (have g_ := good_raw hp (r := r.toNat) (by omega) (by omega); omega) | assumption | exact hp.1 | exact hp.2 | exact hp.2.1 | (simp_all; done) | (simp_all; omega), fun _ => ?_⟩
          exact ⟨by simp only [defR, h1, h2, h3, h4, cond_true, cond_false], rfl⟩)
theorem c_r27_instr : SpecOK E_A4 f_r27_instr k_r27_instr.spec := spec_of fun x hx hp => ⟨rfl, m_r27_instr x.1 x.2.1 x.2.2.1 hx.1 hx.2.1 hx.2.2.1 hp⟩
def operF (s : Den s_alias_solver) (r : Int) (in_ : Den s_api_Instr) (i : Int) : Den s_alias_Base := (cond (!(ptrP s (argP in_ i))) (ownP r) (gd s_alias_Base s.2.2.1 (((argP in_ i)).toNat)))

def k_alias_solver_operand : Con := con [.cap s_alias_solver, .d I, .d s_api_Instr, .d I] s_alias_Base (fun x => okNow x.1.1 x.1.2.2.1 ∧ 0 ≤ z x.2.2.2.1) fun x => operF x.1 x.2.1 x.2.2.1 x.2.2.2.1
theorem m_alias_solver_operand (s : Den s_alias_solver) (r : Int) (in_ : Den s_api_Instr) (i : Int) (h_s : okD s_alias_solver s) (h_r : okD I r) (h_in_ : okD s_api_Instr in_) (h_i : okD I i) (hp : okNow s.1 s.2.2.1 ∧ 0 ≤ z i) : Runs E_A4 (start E_A4 f_alias_solver_operand [(.rtp s_alias_solver s), (vi r), (.tv s_api_Instr in_), (vi i)]) (fun r_ h_ => r_ = (.tv s_alias_Base (operF s r in_ i)) ∧ h_ = []) := .tree E_A4_ok (alias_solver_operand_t s r in_ i) (by
  have hp_ := hp
  try simp only [z] at hp_
  refine ⟨by first | omega | exact (hp_.2) | (have g_ := hp_.2; omega) | exact (ptr_raw (s := s) (x := argP in_ i) (by assumption) hp.1) | (have g_ := ptr_raw (s := s) (x := argP in_ i) (by assumption) hp.1; omega) | assumption | exact hp.1 | exact hp.2 | exact hp.2.1 | (simp_all; done) | (simp_all; omega), fun _ => ?_⟩
  refine fun _ => ?_
  refine ⟨trivial, fun _ => ?_⟩
  refine fun _ => ?_
  refine wp_cond (fun h1 => ?_) (fun h1 => ?_)
  · refine ⟨trivial, fun _ => ?_⟩
    refine fun _ => ?_
    refine ⟨Nat.zero_lt_one, fun _ => ?_⟩
    refine ⟨Nat.zero_lt_one, fun _ => ?_⟩
    exact ⟨by simp only [operF, h1, cond_true, cond_false], rfl⟩
  · refine ⟨by first | omega | exact (hp_.2) | (have g_ := hp_.2; omega) | exact (ptr_raw (s := s) (x := argP in_ i) (by assumption) hp.1) | (have g_ := ptr_raw (s := s) (x := argP in_ i) (by assumption) hp.1; omega) | assumption | exact hp.1 | exact hp.2 | exact hp.2.1 | (simp_all; done) | (simp_all; omega), fun _ => ?_⟩
    refine ⟨Nat.zero_lt_one, fun _ => ?_⟩
    refine ⟨Nat.zero_lt_one, fun _ => ?_⟩
    exact ⟨by simp only [operF, h1, cond_true, cond_false], rfl⟩)
theorem c_alias_solver_operand : SpecOK E_A4 f_alias_solver_operand k_alias_solver_operand.spec := spec_of fun x hx hp => ⟨rfl, m_alias_solver_operand x.1 x.2.1 x.2.2.1 x.2.2.2.1 hx.1 hx.2.1 hx.2.2.1 hx.2.2.2.1 hp⟩
def L_A4 : List (FuncId × FSpec) := [(f_alias_index, k_alias_index.spec), (f_alias_join, k_alias_join.spec), (f_alias_solver_def, k_alias_solver_def.spec), (f_r01_Add, k_r01_Add.spec), (f_r27_instr, k_r27_instr.spec), (f_alias_solver_operand, k_alias_solver_operand.spec)] ++ L_A3
theorem L_A4_ok : ∀ x ∈ L_A4, SpecOK (ctx []) x.1 x.2 := by
  unfold L_A4
  simp only [List.cons_append, List.nil_append, List.forall_mem_cons]
  exact ⟨c_alias_index, c_alias_join, c_alias_solver_def, c_r01_Add, c_r27_instr, c_alias_solver_operand, L_A3_ok⟩
end Burn.M27N
namespace Burn.M27N
open Go Go.BE Go.Proofs
set_option maxRecDepth 100000
set_option linter.unusedVariables false
set_option linter.unusedSimpArgs false
open Burn.Cfg Burn.Intn Burn.Ref
noncomputable abbrev E_A5 : Ctx := ctx L_A4
theorem E_A5_ok : EOK E_A5 := ctx_ok L_A4_ok
def cuts_A5 : CutL := [([], 68, 0, [0, 1, 2, 6, 7, 8, 36, 37, 38], [], []),
  ([], 68, 2, [0, 1, 2, 6, 7, 8, 36, 37, 38, 44, 45, 46], [], [])]
def rets_A5 : FuncId → List (Option Fx)
  | 68 => [some (.dat s_alias_Base)]
  | 76 => [some (.dat s_alias_Base)]
  | _ => []
def H_A5 : Hints := { cut := cutOf cuts_A5, ret := rets_A5 }
def H_A5_u_alias_solver_moved : Hints := { H_A5 with unr := fun f _ => [82].contains f }
theorem alias_solver_moved_t (s : Den s_alias_solver) (b : Den s_alias_Base) (amount : Int) : run E_A5 H_A5_u_alias_solver_moved f_alias_solver_moved 1000000 (start E_A5 f_alias_solver_moved [(.rtp s_alias_solver s), (.tv s_alias_Base b), (vi amount)]) = (.chk (goodD s.1 s.2.1) (.know (okAVs [(.tv s_api_Instr ((defA s amount).1)), (vb (bOf ((defA s amount).2)))]) (cond (!(bOf ((defA s amount).2))) (.chk ((0 : Nat) < (1 : Nat)) (.chk ((0 : Nat) < (1 : Nat)) (.chk ((0 : Nat) < (1 : Nat)) (.chk ((0 : Nat) < (1 : Nat)) (rt (.tv s_alias_Base (b.1, b.2.1, (0 : Int), false, ())) []))))) (cond ((z (((defA s amount).1).1)) != (1 : Int)) (.chk ((0 : Nat) < (1 : Nat)) (.chk ((0 : Nat) < (1 : Nat)) (.chk ((0 : Nat) < (1 : Nat)) (.chk ((0 : Nat) < (1 : Nat)) (rt (.tv s_alias_Base (b.1, b.2.1, (0 : Int), false, ())) []))))) (.chk ((0 : Nat) < (1 : Nat)) (cond (!(bOf b.2.2.2.1)) (.chk ((0 : Nat) < (1 : Nat)) (.chk ((0 : Nat) < (1 : Nat)) (.chk ((0 : Nat) < (1 : Nat)) (.chk ((0 : Nat) < (1 : Nat)) (rt (.tv s_alias_Base (b.1, b.2.1, (0 : Int), false, ())) []))))) (.chk ((0 : Nat) < (1 : Nat)) (.chk (0 ≤ (0 : Int) ∧ (0 : Int) < (2 : Nat)) (.chk (True) (.know (okD (.int .i64) (wrapZ (4 : Int) b.2.2.1)) (.chk (0 ≤ (1 : Int) ∧ (1 : Int) < (2 : Nat)) (.chk (True) (.know (okD (.int .i64) (wrapZ (4 : Int) ((((((defA s amount).1).2).2).2).2).1)) (.chk (True) (.know (okD (.int .i64) (bitsZ (4 : Int))) (cond ((bitsZ (4 : Int)) == (0 : Int)) (.chk ((0 : Nat) < (1 : Nat)) (.chk ((0 : Nat) < (1 : Nat)) (.chk ((0 : Nat) < (1 : Nat)) (.chk ((0 : Nat) < (1 : Nat)) (rt (.tv s_alias_Base (b.1, b.2.1, (0 : Int), b.2.2.2)) []))))) (.chk (True) (.know (okD (.int .i64) (wrapZ (4 : Int) (IntKind.wrap .i64 ((wrapZ (4 : Int) b.2.2.1) + (wrapZ (4 : Int) ((((((defA s amount).1).2).2).2).2).1))))) (cond (decide ((IntKind.wrap .i64 (bvand .i64 (IntKind.wrap .i64 (bvxor .i64 (wrapZ (4 : Int) b.2.2.1) (IntKind.wrap .i64 ((wrapZ (4 : Int) b.2.2.1) + (wrapZ (4 : Int) ((((((defA s amount).1).2).2).2).2).1))))) (IntKind.wrap .i64 (bvxor .i64 (wrapZ (4 : Int) ((((((defA s amount).1).2).2).2).2).1) (IntKind.wrap .i64 ((wrapZ (4 : Int) b.2.2.1) + (wrapZ (4 : Int) ((((((defA s amount).1).2).2).2).2).1))))))) < (0 : Int))) (.chk ((0 : Nat) < (1 : Nat)) (.chk ((0 : Nat) < (1 : Nat)) (.chk ((0 : Nat) < (1 : Nat)) (.chk ((0 : Nat) < (1 : Nat)) (rt (.tv s_alias_Base (b.1, b.2.1, (wrapZ (4 : Int) (IntKind.wrap .i64 ((wrapZ (4 : Int) b.2.2.1) + (wrapZ (4 : Int) ((((((defA s amount).1).2).2).2).2).1)))), b.2.2.2)) []))))) (.chk ((0 : Nat) < (1 : Nat)) (.chk ((0 : Nat) < (1 : Nat)) (.chk ((0 : Nat) < (1 : Nat)) (.chk ((0 : Nat) < (1 : Nat)) (rt (.tv s_alias_Base (b.1, b.2.1, (wrapZ (4 : Int) (IntKind.wrap .i64 ((wrapZ (4 : Int) b.2.2.1) + (wrapZ (4 : Int) ((((((defA s amount).1).2).2).2).2).1)))), b.2.2.2)) [])))))))))))))))))))))))) := by kernel_rfl
noncomputable def alias_solver_param_L0 (s : Den s_alias_solver) (r : Int) (block : Int) (k : Int) (t36 : List (Den s_api_Block)) (t37 : Int) (t38 : Int) (t6 : Den s_alias_Base) (l : List (Den s_alias_Base)) : Cfg := hcfg E_A5 f_alias_solver_param 0 [(0, (.rtp s_alias_solver s)), (1, (vi r)), (2, (vi block)), (6, (.tref 0 0 [] (0 : Nat) [])), (7, (.osl 1 1 [] none)), (8, (vi k)), (36, (.tv (.sl 136 s_api_Block) t36)), (37, (vi t37)), (38, (vi t38))] [(0, ⟨(.arr 0 32 s_alias_Base ([t6] : List (Den s_alias_Base))), 0, [], false, none⟩), (1, ⟨(.arr 0 32 s_alias_Base l), 1, [], false, none⟩)] 2
noncomputable def alias_solver_param_L2 (s : Den s_alias_solver) (r : Int) (block : Int) (k : Int) (t36 : List (Den s_api_Block)) (t37 : Int) (t38 : Int) (t44 : List (Den s_api_Edge)) (t45 : Int) (t46 : Int) (t6 : Den s_alias_Base) (l : List (Den s_alias_Base)) : Cfg := hcfg E_A5 f_alias_solver_param 2 [(0, (.rtp s_alias_solver s)), (1, (vi r)), (2, (vi block)), (6, (.tref 0 0 [] (0 : Nat) [])), (7, (.osl 1 1 [] none)), (8, (vi k)), (36, (.tv (.sl 136 s_api_Block) t36)), (37, (vi t37)), (38, (vi t38)), (44, (.tv (.sl 32 s_api_Edge) t44)), (45, (vi t45)), (46, (vi t46))] [(0, ⟨(.arr 0 32 s_alias_Base ([t6] : List (Den s_alias_Base))), 0, [], false, none⟩), (1, ⟨(.arr 0 32 s_alias_Base l), 1, [], false, none⟩)] 2
theorem alias_solver_param_t (s : Den s_alias_solver) (r : Int) (block : Int) : run E_A5 H_A5 f_alias_solver_param 3000 (start E_A5 f_alias_solver_param [(.rtp s_alias_solver s), (vi r), (vi block)]) = (.chk (0 ≤ r ∧ r < (ln s_alias_Base s.2.2.1)) (.chk (0 ≤ block ∧ block < (ln s_api_Block s.1.2.2.2.2.1)) (.chk (True) (.know (okD (.int .i64) (idxF (gd s_api_Block s.1.2.2.2.2.1 ((block).toNat)).1 r)) (hd (alias_solver_param_L0 s r block (idxF (gd s_api_Block s.1.2.2.2.2.1 ((block).toNat)).1 r) s.1.2.2.2.2.1 ((ln s_api_Block s.1.2.2.2.2.1) : Int) (0 : Int) ((0 : Int), (0 : Int), (0 : Int), false, ()) ([(gd s_alias_Base s.2.2.1 ((r).toNat))] : List (Den s_alias_Base)))))))) := by kernel_rfl
theorem alias_solver_param_L0_t (s : Den s_alias_solver) (r : Int) (block : Int) (k : Int) (t36 : List (Den s_api_Block)) (t37 : Int) (t38 : Int) (t6 : Den s_alias_Base) (l : List (Den s_alias_Base)) : run E_A5 H_A5 f_alias_solver_param 3000 (alias_solver_param_L0 s r block k t36 t37 t38 t6 l) = (cond (decide (t38 < t37)) (.chk (0 ≤ t38 ∧ t38 < (ln s_api_Block t36)) (hd (alias_solver_param_L2 s r block k t36 t37 t38 ((((((((gd s_api_Block t36 ((t38).toNat)).2).2).1).2).2).2).1) ((ln s_api_Edge ((((((((gd s_api_Block t36 ((t38).toNat)).2).2).1).2).2).2).1)) : Int) (0 : Int) t6 l))) (.chk (True) (.know (okD s_alias_Base (joinF r l)) (.chk ((0 : Nat) < (1 : Nat)) (.chk ((0 : Nat) < (1 : Nat)) (rt (.tv s_alias_Base (joinF r l)) [])))))) := by kernel_rfl
theorem alias_solver_param_L2_t (s : Den s_alias_solver) (r : Int) (block : Int) (k : Int) (t36 : List (Den s_api_Block)) (t37 : Int) (t38 : Int) (t44 : List (Den s_api_Edge)) (t45 : Int) (t46 : Int) (t6 : Den s_alias_Base) (l : List (Den s_alias_Base)) : run E_A5 H_A5 f_alias_solver_param 3000 (alias_solver_param_L2 s r block k t36 t37 t38 t44 t45 t46 t6 l) = (cond (decide (t46 < t45)) (.chk (0 ≤ t46 ∧ t46 < (ln s_api_Edge t44)) (cond ((z ((gd s_api_Edge t44 ((t46).toNat)).1)) != block) (hd (alias_solver_param_L2 s r block k t36 t37 t38 t44 t45 (IntKind.wrap .i64 (t46 + (1 : Int))) t6 l)) (cond (decide (k ≥ ((ln I (((gd s_api_Edge t44 ((t46).toNat)).2).1)) : Int))) (.chk (True) (.know (okD s_alias_Base (ownP r)) (.chk (((ln s_alias_Base l) + (1 : Nat)) * 32 ≤ roomB) (hd (alias_solver_param_L2 s r block k t36 t37 t38 t44 t45 (IntKind.wrap .i64 (t46 + (1 : Int))) t6 (ap s_alias_Base l ([(ownP r)] : List (Den s_alias_Base)))))))) (.chk (0 ≤ k ∧ k < (ln I (((gd s_api_Edge t44 ((t46).toNat)).2).1))) (cond ((z (gd I (((gd s_api_Edge t44 ((t46).toNat)).2).1) ((k).toNat))) == r) (hd (alias_solver_param_L2 s r block k t36 t37 t38 t44 t45 (IntKind.wrap .i64 (t46 + (1 : Int))) t6 l)) (.chk (0 ≤ k ∧ k < (ln I (((gd s_api_Edge t44 ((t46).toNat)).2).1))) (.chk (True) (.know True (cond (!(ptrP s (gd I (((gd s_api_Edge t44 ((t46).toNat)).2).1) ((k).toNat)))) (.chk (True) (.know (okD s_alias_Base (ownP r)) (.chk (((ln s_alias_Base l) + (1 : Nat)) * 32 ≤ roomB) (hd (alias_solver_param_L2 s r block k t36 t37 t38 t44 t45 (IntKind.wrap .i64 (t46 + (1 : Int))) t6 (ap s_alias_Base l ([(ownP r)] : List (Den s_alias_Base)))))))) (.chk (0 ≤ k ∧ k < (ln I (((gd s_api_Edge t44 ((t46).toNat)).2).1))) (.chk (0 ≤ (z (gd I (((gd s_api_Edge t44 ((t46).toNat)).2).1) ((k).toNat))) ∧ (z (gd I (((gd s_api_Edge t44 ((t46).toNat)).2).1) ((k).toNat))) < (ln s_alias_Base s.2.2.1)) (.chk (((ln s_alias_Base l) + (1 : Nat)) * 32 ≤ roomB) (hd (alias_solver_param_L2 s r block k t36 t37 t38 t44 t45 (IntKind.wrap .i64 (t46 + (1 : Int))) t6 (ap s_alias_Base l ([(gd s_alias_Base s.2.2.1 (((z (gd I (((gd s_api_Edge t44 ((t46).toNat)).2).1) ((k).toNat)))).toNat))] : List (Den s_alias_Base))))))))))))))))) (hd (alias_solver_param_L0 s r block k t36 t37 (IntKind.wrap .i64 (t38 + (1 : Int))) t6 l))) := by kernel_rfl
def exE (f : Fn) (now : List Bs) (r bk k : Int) (e : Den s_api_Edge) : Option Bs :=
  if z e.1 ≠ bk then none else if k ≥ (ln I e.2.1 : Int) then some (ownP r) else if z (gd I e.2.1 k.toNat) = r then none else if ptrR f (z (gd I e.2.1 k.toNat)) = false then some (ownP r) else some (gd s_alias_Base now (z (gd I e.2.1 k.toNat)).toNat)
def exS (f : Fn) (now : List Bs) (r bk k : Int) : List (Den s_api_Edge) → List Bs
  | [] => []
  | e :: l => match exE f now r bk k e with | none => exS f now r bk k l | some b => b :: exS f now r bk k l
def exB (f : Fn) (now : List Bs) (r bk k : Int) : List Blk → List Bs
  | [] => []
  | b :: l => exS f now r bk k (tSuc b) ++ exB f now r bk k l
def cntB : List Blk → Nat
  | [] => 0
  | b :: l => ln s_api_Edge (tSuc b) + cntB l
theorem sz_edges : ∀ l : List (Den s_api_Edge), ln s_api_Edge l ≤ szD (.sl 32 s_api_Edge) l
  | [] => Nat.le_refl _
  | e :: l => by
    have h := sz_edges l
    rw [sz_cons]
    show l.length + 1 ≤ _
    have : l.length = ln s_api_Edge l := rfl
    omega
theorem cnt_sz : ∀ l : List Blk, cntB l ≤ szD (.sl 136 s_api_Block) l
  | [] => Nat.le_refl _
  | b :: l => by
    have h := cnt_sz l
    have h1 := sz_blk b
    have h2 := sz_edges b.2.2.1.2.2.2.1
    have h3 : tSuc b = b.2.2.1.2.2.2.1 := rfl
    rw [sz_cons, cntB, h3]
    omega
theorem cnt_small {f : Fn} (h : smallF f) : cntB (blocks f) ≤ 1048576 := by
  have h1 := sz_func f
  have h2 := cnt_sz (blocks f)
  have e : blocks f = f.2.2.2.2.1 := rfl
  unfold smallF at h
  rw [e] at h2 ⊢
  omega
theorem exE_ok {f : Fn} {now : List Bs} {r bk k : Int} {e : Den s_api_Edge} {b : Bs} (hn : okNow f now) (h : exE f now r bk k e = some b) : okZ b := by
  unfold exE at h
  split at h
  · cases h
  · split at h
    · injection h with h; subst h; exact okZ_own r
    · split at h
      · cases h
      · split at h
        · injection h with h; subst h; exact okZ_own r
        · rename_i hp
          injection h with h
          subst h
          have := ptrR_in (f := f) (x := z (gd I e.2.1 k.toNat)) (by cases hq : ptrR f (z (gd I e.2.1 k.toNat)) with | true => rfl | false => exact absurd hq hp)
          exact hn.2 _ (by rw [hn.1]; omega)
theorem exS_ok {f : Fn} {now : List Bs} {r bk k : Int} (hn : okNow f now) : ∀ {l : List (Den s_api_Edge)}, ∀ b ∈ exS f now r bk k l, okZ b
  | [], b, hb => absurd hb (by simp [exS])
  | e :: l, b, hb => by
    unfold exS at hb
    split at hb
    · exact exS_ok hn b hb
    · rename_i c hc
      rcases List.mem_cons.1 hb with rfl | hb
      · exact exE_ok hn hc
      · exact exS_ok hn b hb
theorem exB_ok {f : Fn} {now : List Bs} {r bk k : Int} (hn : okNow f now) : ∀ {l : List Blk}, ∀ b ∈ exB f now r bk k l, okZ b
  | [], b, hb => absurd hb (by simp [exB])
  | e :: l, b, hb => by
    unfold exB at hb
    rcases List.mem_append.1 hb with hb | hb
    · exact exS_ok hn b hb
    · exact exB_ok hn b hb
def parG (f : Fn) (now : List Bs) (r bk k : Int) : Bs := (exB f now r bk k (blocks f)).foldl (meetR r) (gd s_alias_Base now r.toNat)
def parF (s : Sv) (r bk : Int) : Bs := parG s.1 s.2.2.1 r bk (idxF (bPar (blk s.1 bk)) r)
theorem join_par {f : Fn} {now : List Bs} {r bk k : Int} (hn : okNow f now) (hr : 0 ≤ r ∧ r < (ln I f.2.2.2.1 : Int)) : joinF r (gd s_alias_Base now r.toNat :: exB f now r bk k (blocks f)) = parG f now r bk k := by
  have h0 : okZ (gd s_alias_Base now r.toNat) := hn.2 _ (by rw [hn.1]; omega)
  unfold joinF parG
  rw [(joinM_ok okZ_z fun b hb => ?_).1, List.foldl_cons, meetR_eq, if_pos (by rfl)]
  rcases List.mem_cons.1 hb with rfl | hb
  · exact h0
  · exact exB_ok hn b hb
def preP (s : Sv) (r bk : Int) : Prop := smallF s.1 ∧ okNow s.1 s.2.2.1 ∧ ptrR s.1 r = true ∧ (0 ≤ bk ∧ bk < (ln s_api_Block (blocks s.1) : Int)) ∧ ∃ j, j < ln I (bPar (blk s.1 bk)) ∧ z (gd I (bPar (blk s.1 bk)) j) = r
theorem idx_pos {l : List (Den I)} {r : Int} (h : ∃ j, j < ln I l ∧ z (gd I l j) = r) : 0 ≤ idxF l r ∧ idxF l r < (ln I l : Int) := by
  obtain ⟨j, h1, h2⟩ := h
  rcases idxGo_sp (x := r) (l := l) (i := 0) with ⟨_, b⟩ | ⟨k, k1, k2, _⟩
  · exact absurd h2 (b j h1)
  · unfold idxF
    rw [k2]
    omega
def movF (s : Den s_alias_solver) (b : Den s_alias_Base) (amount : Int) : Den s_alias_Base := (cond (!(bOf ((defA s amount).2))) (b.1, b.2.1, (0 : Int), false, ()) (cond ((z (((defA s amount).1).1)) != (1 : Int)) (b.1, b.2.1, (0 : Int), false, ()) (cond (!(bOf b.2.2.2.1)) (b.1, b.2.1, (0 : Int), false, ()) (cond ((bitsZ (4 : Int)) == (0 : Int)) (b.1, b.2.1, (0 : Int), b.2.2.2) (cond (decide ((IntKind.wrap .i64 (bvand .i64 (IntKind.wrap .i64 (bvxor .i64 (wrapZ (4 : Int) b.2.2.1) (IntKind.wrap .i64 ((wrapZ (4 : Int) b.2.2.1) + (wrapZ (4 : Int) ((((((defA s amount).1).2).2).2).2).1))))) (IntKind.wrap .i64 (bvxor .i64 (wrapZ (4 : Int) ((((((defA s amount).1).2).2).2).2).1) (IntKind.wrap .i64 ((wrapZ (4 : Int) b.2.2.1) + (wrapZ (4 : Int) ((((((defA s amount).1).2).2).2).2).1))))))) < (0 : Int))) (b.1, b.2.1, (wrapZ (4 : Int) (IntKind.wrap .i64 ((wrapZ (4 : Int) b.2.2.1) + (wrapZ (4 : Int) ((((((defA s amount).1).2).2).2).2).1)))), b.2.2.2) (b.1, b.2.1, (wrapZ (4 : Int) (IntKind.wrap .i64 ((wrapZ (4 : Int) b.2.2.1) + (wrapZ (4 : Int) ((((((defA s amount).1).2).2).2).2).1)))), b.2.2.2))))))

def k_alias_solver_moved : Con := con [.cap s_alias_solver, .d s_alias_Base, .d I] s_alias_Base (fun x => goodD x.1.1 x.1.2.1) fun x => movF x.1 x.2.1 x.2.2.1
theorem m_alias_solver_moved (s : Den s_alias_solver) (b : Den s_alias_Base) (amount : Int) (h_s : okD s_alias_solver s) (h_b : okD s_alias_Base b) (h_amount : okD I amount) (hp : goodD s.1 s.2.1) : Runs E_A5 (start E_A5 f_alias_solver_moved [(.rtp s_alias_solver s), (.tv s_alias_Base b), (vi amount)]) (fun r_ h_ => r_ = (.tv s_alias_Base (movF s b amount)) ∧ h_ = []) := .tree E_A5_ok (alias_solver_moved_t s b amount) (by
  have hp_ := hp
  try simp only [z] at hp_
  refine ⟨by first | omega | assumption | exact hp.1 | exact hp.2 | exact hp.2.1 | (simp_all; done) | (simp_all; omega), fun _ => ?_⟩
  refine fun _ => ?_
  refine wp_cond (fun h1 => ?_) (fun h1 => ?_)
  · refine ⟨Nat.zero_lt_one, fun _ => ?_⟩
    refine ⟨Nat.zero_lt_one, fun _ => ?_⟩
    refine ⟨Nat.zero_lt_one, fun _ => ?_⟩
    refine ⟨Nat.zero_lt_one, fun _ => ?_⟩
    exact ⟨by simp only [movF, h1, cond_true, cond_false], rfl⟩
  · refine wp_cond (fun h2 => ?_) (fun h2 => ?_)
    · have h2_ := bne_t h2
      refine ⟨Nat.zero_lt_one, fun _ => ?_⟩
      refine ⟨Nat.zero_lt_one, fun _ => ?_⟩
      refine ⟨Nat.zero_lt_one, fun _ => ?_⟩
      refine ⟨Nat.zero_lt_one, fun _ => ?_⟩
      exact ⟨by simp only [movF, h1, h2, cond_true, cond_false], rfl⟩
    · have h2_ := bne_f h2
      refine ⟨Nat.zero_lt_one, fun _ => ?_⟩
      refine wp_cond (fun h3 => ?_) (fun h3 => ?_)
      · refine ⟨Nat.zero_lt_one, fun _ => ?_⟩
        refine ⟨Nat.zero_lt_one, fun _ => ?_⟩
        refine ⟨Nat.zero_lt_one, fun _ => ?_⟩
        refine ⟨Nat.zero_lt_one, fun _ => ?_⟩
        exact ⟨by simp only [movF, h1, h2, h3, cond_true, cond_false], rfl⟩
      · refine ⟨Nat.zero_lt_one, fun _ => ?_⟩
        refine ⟨by first | omega | assumption | exact hp.1 | exact hp.2 | exact hp.2.1 | (simp_all; done) | (simp_all; omega), fun _ => ?_⟩
        refine ⟨trivial, fun _ => ?_⟩
        refine fun _ => ?_
        refine ⟨by first | omega | assumption | exact hp.1 | exact hp.2 | exact hp.2.1 | (simp_all; done) | (simp_all; omega), fun _ => ?_⟩
        refine ⟨trivial, fun _ => ?_⟩
        refine fun _ => ?_
        refine ⟨trivial, fun _ => ?_⟩
        refine fun _ => ?_
        refine wp_cond (fun h4 => ?_) (fun h4 => ?_)
        · have h4_ := beq_t h4
          refine ⟨Nat.zero_lt_one, fun _ => ?_⟩
          refine ⟨Nat.zero_lt_one, fun _ => ?_⟩
          refine ⟨Nat.zero_lt_one, fun _ => ?_⟩
          refine ⟨Nat.zero_lt_one, fun _ => ?_⟩
          exact ⟨by simp only [movF, h1, h2, h3, h4, cond_true, cond_false], rfl⟩
        · have h4_ := beq_f h4
          refine ⟨trivial, fun _ => ?_⟩
          refine fun _ => ?_
          refine wp_cond (fun h5 => ?_) (fun h5 => ?_)
          · have h5_ := of_decide_eq_true h5
            refine ⟨Nat.zero_lt_one, fun _ => ?_⟩
            refine ⟨Nat.zero_lt_one, fun _ => ?_⟩
            refine ⟨Nat.zero_lt_one, fun _ => ?_⟩
            refine ⟨Nat.zero_lt_one, fun _ => ?_⟩
            exact ⟨by simp only [movF, h1, h2, h3, h4, h5, cond_true, cond_false], rfl⟩
          · have h5_ := of_decide_eq_false h5
            refine ⟨Nat.zero_lt_one, fun _ => ?_⟩
            refine ⟨Nat.zero_lt_one, fun _ => ?_⟩
            refine ⟨Nat.zero_lt_one, fun _ => ?_⟩
            refine ⟨Nat.zero_lt_one, fun _ => ?_⟩
            exact ⟨by simp only [movF, h1, h2, h3, h4, h5, cond_true, cond_false], rfl⟩)
theorem c_alias_solver_moved : SpecOK E_A5 f_alias_solver_moved k_alias_solver_moved.spec := spec_of fun x hx hp => ⟨rfl, m_alias_solver_moved x.1 x.2.1 x.2.2.1 hx.1 hx.2.1 hx.2.2.1 hp⟩
theorem par_l2 (s : Sv) (r bk k : Int) (bl : List Blk) (n i : Int) (t6 : Bs) (es : List (Den s_api_Edge)) (hes : ln s_api_Edge es < 9223372036854775807) (hn : okNow s.1 s.2.2.1) (hk : 0 ≤ k) (rest : List Bs) (c : Nat) (hc : c ≤ 2097152)
    (h : ∀ l, ln s_alias_Base l + ln s_alias_Base rest ≤ c + ln s_alias_Base rest → Runs E_A5 (alias_solver_param_L0 s r bk k bl n (IntKind.wrap .i64 (i + 1)) t6 l) (fun x h => x = .tv s_alias_Base (joinF r (l ++ rest)) ∧ h = [])) :
    ∀ j, j ≤ ln s_api_Edge es → ∀ l, ln s_alias_Base l + (ln s_api_Edge es - j) ≤ c → Runs E_A5 (alias_solver_param_L2 s r bk k bl n i es (ln s_api_Edge es : Nat) j t6 l) (fun x h => x = .tv s_alias_Base (joinF r (l ++ (exS s.1 s.2.2.1 r bk k (es.drop j) ++ rest))) ∧ h = []) :=
  up_ind (fun l hl => .tree E_A5_ok (alias_solver_param_L2_t _ _ _ _ _ _ _ _ _ _ _ _) (by
    rw [drop_ln]
    simp only [wp_iff, chk_iff, know_iff, any_iff, rt_iff, hd_iff, true_imp_iff, true_and, and_true, and_self, lt01, Int.ofNat_lt, Int.ofNat_le, Int.natCast_nonneg, Int.toNat_natCast, decide_true, decide_false, Bool.true_eq_false, Bool.false_eq_true, false_imp_iff, Nat.lt_irrefl, imp_self, implies_true,  exS, List.nil_append]
    exact h l (by omega)))
    fun j hj ih l hl => .tree E_A5_ok (alias_solver_param_L2_t _ _ _ _ _ _ _ _ _ _ _ _) (by
      have skip : exE s.1 s.2.2.1 r bk k (gd s_api_Edge es j) = none → Runs E_A5 (alias_solver_param_L2 s r bk k bl n i es (ln s_api_Edge es : Nat) (j + 1 : Nat) t6 l) (fun x h => x = .tv s_alias_Base (joinF r (l ++ (exS s.1 s.2.2.1 r bk k (es.drop j) ++ rest))) ∧ h = []) := fun e => by
        rw [drop_gd hj, exS, e]
        exact ih l (by omega)
      have add : ∀ b, exE s.1 s.2.2.1 r bk k (gd s_api_Edge es j) = some b → (ln s_alias_Base l + 1) * 32 ≤ roomB ∧ Runs E_A5 (alias_solver_param_L2 s r bk k bl n i es (ln s_api_Edge es : Nat) (j + 1 : Nat) t6 (ap s_alias_Base l [b])) (fun x h => x = .tv s_alias_Base (joinF r (l ++ (exS s.1 s.2.2.1 r bk k (es.drop j) ++ rest))) ∧ h = []) := fun b e => by
        refine ⟨by unfold roomB; omega, ?_⟩
        have := ih (ap s_alias_Base l [b]) (by rw [ln_ap1]; omega)
        rw [drop_gd hj, exS, e]
        unfold ap at this ⊢
        rw [List.append_assoc] at this
        exact this
      unfold exE at skip add
      simp only [wp_iff, chk_iff, know_iff, any_iff, rt_iff, hd_iff, true_imp_iff, true_and, and_true, and_self, lt01, Int.ofNat_lt, Int.ofNat_le, Int.natCast_nonneg, Int.toNat_natCast, decide_true, decide_false, Bool.true_eq_false, Bool.false_eq_true, false_imp_iff, Nat.lt_irrefl, imp_self, implies_true,  hj, wrapS hj hes]
      refine ⟨fun h1 => ?_, fun h1 => ?_⟩
      · have e1 := bne_t h1
        rw [if_pos e1] at skip
        exact skip rfl
      · have e1 := bne_f h1
        rw [if_neg (by omega)] at skip add
        refine ⟨fun h2 _ => ?_, fun h2 => ?_⟩
        · have e2 := of_decide_eq_true h2
          rw [if_pos e2] at add
          exact ⟨(add _ rfl).1, fun _ => (add _ rfl).2⟩
        · have e2 := of_decide_eq_false h2
          rw [if_neg e2] at skip add
          refine ⟨⟨hk, by omega⟩, fun hrg => ⟨fun h3 => ?_, fun h3 => ⟨hrg, fun _ => ⟨fun h4 _ => ?_, fun h4 => ⟨hrg, fun _ => ?_⟩⟩⟩⟩⟩
          · rw [if_pos (beq_t h3)] at skip
            exact skip rfl
          · rw [if_neg (beq_f h3), if_pos (show ptrR s.1 (z (gd I (gd s_api_Edge es j).2.1 k.toNat)) = false by rw [← ptrP_eq]; simpa using h4)] at add
            exact ⟨(add _ rfl).1, fun _ => (add _ rfl).2⟩
          · have hp : ptrR s.1 (z (gd I (gd s_api_Edge es j).2.1 k.toNat)) = true := by rw [← ptrP_eq]; simpa using h4
            have hb := ptrR_in hp
            rw [← hn.1] at hb
            rw [if_neg (beq_f h3), if_neg (by rw [hp]; decide)] at add
            exact ⟨hb, fun _ => ⟨(add _ rfl).1, fun _ => (add _ rfl).2⟩⟩)
theorem par_l0 (s : Sv) (r bk k : Int) (bl : List Blk) (ho : okB bl) (t6 : Bs) (hn : okNow s.1 s.2.2.1) (hk : 0 ≤ k) : ∀ i, i ≤ ln s_api_Block bl → ∀ l, ln s_alias_Base l + cntB (bl.drop i) ≤ 2097152 → Runs E_A5 (alias_solver_param_L0 s r bk k bl (ln s_api_Block bl : Nat) i t6 l) (fun x h => x = .tv s_alias_Base (joinF r (l ++ exB s.1 s.2.2.1 r bk k (bl.drop i))) ∧ h = []) :=
  up_ind (fun l hl => .tree E_A5_ok (alias_solver_param_L0_t _ _ _ _ _ _ _ _ _) (by
    rw [drop_ln]
    simp only [wp_iff, chk_iff, know_iff, any_iff, rt_iff, hd_iff, true_imp_iff, true_and, and_true, and_self, lt01, Int.ofNat_lt, Int.ofNat_le, Int.natCast_nonneg, Int.toNat_natCast, decide_true, decide_false, Bool.true_eq_false, Bool.false_eq_true, false_imp_iff, Nat.lt_irrefl, imp_self, implies_true,  exB, List.append_nil]))
    fun i hi ih l hl => .tree E_A5_ok (alias_solver_param_L0_t _ _ _ _ _ _ _ _ _) (by
      rw [drop_gd hi, cntB] at hl
      have hro := (okB_suc ho hi).1
      have := par_l2 s r bk k bl (ln s_api_Block bl : Nat) i t6 (tSuc (gd s_api_Block bl i)) (room_lt hro) hn hk (exB s.1 s.2.2.1 r bk k (bl.drop (i + 1))) (2097152 - cntB (bl.drop (i + 1))) (by omega) (fun l' hl' => by
        rw [wrapS hi (room_lt ho.1)]
        exact ih l' (by omega)) 0 (Nat.zero_le _) l (by omega)
      rw [drop_gd hi, exB]
      simp only [wp_iff, chk_iff, know_iff, any_iff, rt_iff, hd_iff, true_imp_iff, true_and, and_true, and_self, lt01, Int.ofNat_lt, Int.ofNat_le, Int.natCast_nonneg, Int.toNat_natCast, decide_true, decide_false, Bool.true_eq_false, Bool.false_eq_true, false_imp_iff, Nat.lt_irrefl, imp_self, implies_true,  hi]
      exact this)
def k_alias_solver_param : Con := con [.cap s_alias_solver, .d I, .d I] s_alias_Base (fun x => preP x.1 (z x.2.1) (z x.2.2.1)) fun x => parF x.1 x.2.1 x.2.2.1
theorem m_alias_solver_param (s : Den s_alias_solver) (r : Int) (block : Int) (h_s : okD s_alias_solver s) (h_r : okD I r) (h_block : okD I block) (hp : preP s (z r) (z block)) : Runs E_A5 (start E_A5 f_alias_solver_param [(.rtp s_alias_solver s), (vi r), (vi block)]) (fun r_ h_ => r_ = (.tv s_alias_Base (parF s r block)) ∧ h_ = []) := .tree E_A5_ok (alias_solver_param_t s r block) (by
  obtain ⟨p1, p2, p3, p4, p5⟩ := hp
  have hr := ptrR_in p3
  have hi := idx_pos p5
  have hr' : 0 ≤ r ∧ r < (ln s_alias_Base s.2.2.1 : Int) := by rw [p2.1]; exact hr
  have hx := par_l0 s r block (idxF (bPar (blk s.1 block)) r) _ (okB_of h_s.1) ((0 : Int), (0 : Int), (0 : Int), false, ()) p2 hi.1 0 (Nat.zero_le _) [gd s_alias_Base s.2.2.1 r.toNat] (by have := cnt_small p1; show 1 + _ ≤ _; have e : List.drop 0 (blocks s.1) = blocks s.1 := rfl; rw [e]; omega)
  rw [show parF s r block = joinF r ([gd s_alias_Base s.2.2.1 r.toNat] ++ exB s.1 s.2.2.1 r block (idxF (bPar (blk s.1 block)) r) (blocks s.1)) from (join_par p2 hr).symm]
  simp only [wp_iff, chk_iff, know_iff, any_iff, rt_iff, hd_iff, true_imp_iff, true_and, and_true, and_self, lt01]
  exact ⟨hr', fun _ => ⟨p4, fun _ _ => hx⟩⟩)
theorem c_alias_solver_param : SpecOK E_A5 f_alias_solver_param k_alias_solver_param.spec := spec_of fun x hx hp => ⟨rfl, m_alias_solver_param x.1 x.2.1 x.2.2.1 hx.1 hx.2.1 hx.2.2.1 hp⟩
def L_A5 : List (FuncId × FSpec) := [(f_alias_solver_moved, k_alias_solver_moved.spec), (f_alias_solver_param, k_alias_solver_param.spec)] ++ L_A4
theorem L_A5_ok : ∀ x ∈ L_A5, SpecOK (ctx []) x.1 x.2 := by
  unfold L_A5
  simp only [List.cons_append, List.nil_append, List.forall_mem_cons]
  exact ⟨c_alias_solver_moved, c_alias_solver_param, L_A4_ok⟩
end Burn.M27N
namespace Burn.M27N
open Go Go.BE Go.Proofs
set_option maxRecDepth 100000
set_option linter.unusedVariables false
set_option linter.unusedSimpArgs false
open Burn.Cfg Burn.Intn Burn.Ref
noncomputable abbrev E_A6 : Ctx := ctx L_A5
theorem E_A6_ok : EOK E_A6 := ctx_ok L_A5_ok
def cuts_A6 : CutL := []
def rets_A6 : FuncId → List (Option Fx)
  | 67 => [some (.dat s_alias_Base)]
  | _ => []
def H_A6 : Hints := { cut := cutOf cuts_A6, ret := rets_A6 }
theorem alias_solver_instr_t (s : Den s_alias_solver) (r : Int) (in_ : Den s_api_Instr) : run E_A6 H_A6 f_alias_solver_instr 3000 (start E_A6 f_alias_solver_instr [(.rtp s_alias_solver s), (vi r), (.tv s_api_Instr in_)]) = (cond ((z in_.1) == (25 : Int)) (.chk ((0 : Nat) < (1 : Nat)) (.chk ((0 : Nat) < (1 : Nat)) (rt (.tv s_alias_Base ((1 : Int), in_.2.2.2.2.2.1, (0 : Int), true, ())) []))) (cond ((z in_.1) == (26 : Int)) (.chk ((0 : Nat) < (1 : Nat)) (.chk ((0 : Nat) < (1 : Nat)) (rt (.tv s_alias_Base ((2 : Int), r, (0 : Int), true, ())) []))) (cond ((z in_.1) == (4 : Int)) (.chk (okNow s.1 s.2.2.1 ∧ 0 ≤ z (0 : Int)) (.know (okD s_alias_Base (operF s r in_ (0 : Int))) (.chk ((0 : Nat) < (1 : Nat)) (.chk ((0 : Nat) < (1 : Nat)) (rt (.tv s_alias_Base (operF s r in_ (0 : Int))) []))))) (cond ((z in_.1) == (27 : Int)) (.chk (okNow s.1 s.2.2.1 ∧ 0 ≤ z (0 : Int)) (.know (okD s_alias_Base (operF s r in_ (0 : Int))) (.chk ((0 : Nat) < (1 : Nat)) (.chk ((0 : Nat) < (1 : Nat)) (cond (((z ((operF s r in_ (0 : Int)).1)) == (z ((((0 : Int), (0 : Int), (0 : Int), false, ())).1))) && (((z (((operF s r in_ (0 : Int)).2).1)) == (z (((((0 : Int), (0 : Int), (0 : Int), false, ())).2).1))) && (((z ((((operF s r in_ (0 : Int)).2).2).1)) == (z ((((((0 : Int), (0 : Int), (0 : Int), false, ())).2).2).1))) && (((bOf (((((operF s r in_ (0 : Int)).2).2).2).1)) == (bOf (((((((0 : Int), (0 : Int), (0 : Int), false, ())).2).2).2).1))) && true)))) (.chk ((0 : Nat) < (1 : Nat)) (.chk ((0 : Nat) < (1 : Nat)) (rt (.tv s_alias_Base (((0 : Int), (0 : Int), (0 : Int), false, ()))) []))) (.chk ((0 : Nat) < (1 : Nat)) (.chk (0 ≤ z (1 : Int)) (.chk (goodD s.1 s.2.1) (.chk ((0 : Nat) < (1 : Nat)) (.know (okD (.int .i64) (argP in_ (1 : Int))) (.know (okD s_alias_Base (movF s (operF s r in_ (0 : Int)) (argP in_ (1 : Int)))) (.chk ((0 : Nat) < (1 : Nat)) (rt (.tv s_alias_Base (movF s (operF s r in_ (0 : Int)) (argP in_ (1 : Int)))) []))))))))))))) (cond ((z in_.1) == (21 : Int)) (.chk (okNow s.1 s.2.2.1 ∧ 0 ≤ z (1 : Int)) (.chk (okNow s.1 s.2.2.1 ∧ 0 ≤ z (2 : Int)) (.chk (True) (.chk ((0 : Nat) < (1 : Nat)) (.know (okD s_alias_Base (operF s r in_ (1 : Int))) (.know (okD s_alias_Base (operF s r in_ (2 : Int))) (.know (okD s_alias_Base (joinF r ([(operF s r in_ (1 : Int)), (operF s r in_ (2 : Int))] : List (Den s_alias_Base)))) (.chk ((0 : Nat) < (1 : Nat)) (rt (.tv s_alias_Base (joinF r ([(operF s r in_ (1 : Int)), (operF s r in_ (2 : Int))] : List (Den s_alias_Base)))) []))))))))) (.chk (True) (.know (okD s_alias_Base (ownP r)) (.chk ((0 : Nat) < (1 : Nat)) (.chk ((0 : Nat) < (1 : Nat)) (rt (.tv s_alias_Base (ownP r)) [])))))))))) := by kernel_rfl
def insF (s : Den s_alias_solver) (r : Int) (in_ : Den s_api_Instr) : Den s_alias_Base := (cond ((z in_.1) == (25 : Int)) ((1 : Int), in_.2.2.2.2.2.1, (0 : Int), true, ()) (cond ((z in_.1) == (26 : Int)) ((2 : Int), r, (0 : Int), true, ()) (cond ((z in_.1) == (4 : Int)) (operF s r in_ (0 : Int)) (cond ((z in_.1) == (27 : Int)) (cond (((z ((operF s r in_ (0 : Int)).1)) == (z ((((0 : Int), (0 : Int), (0 : Int), false, ())).1))) && (((z (((operF s r in_ (0 : Int)).2).1)) == (z (((((0 : Int), (0 : Int), (0 : Int), false, ())).2).1))) && (((z ((((operF s r in_ (0 : Int)).2).2).1)) == (z ((((((0 : Int), (0 : Int), (0 : Int), false, ())).2).2).1))) && (((bOf (((((operF s r in_ (0 : Int)).2).2).2).1)) == (bOf (((((((0 : Int), (0 : Int), (0 : Int), false, ())).2).2).2).1))) && true)))) (((0 : Int), (0 : Int), (0 : Int), false, ())) (movF s (operF s r in_ (0 : Int)) (argP in_ (1 : Int)))) (cond ((z in_.1) == (21 : Int)) (joinF r ([(operF s r in_ (1 : Int)), (operF s r in_ (2 : Int))] : List (Den s_alias_Base))) (ownP r))))))

def k_alias_solver_instr : Con := con [.cap s_alias_solver, .d I, .d s_api_Instr] s_alias_Base (fun x => okNow x.1.1 x.1.2.2.1 ∧ goodD x.1.1 x.1.2.1) fun x => insF x.1 x.2.1 x.2.2.1
theorem m_alias_solver_instr (s : Den s_alias_solver) (r : Int) (in_ : Den s_api_Instr) (h_s : okD s_alias_solver s) (h_r : okD I r) (h_in_ : okD s_api_Instr in_) (hp : okNow s.1 s.2.2.1 ∧ goodD s.1 s.2.1) : Runs E_A6 (start E_A6 f_alias_solver_instr [(.rtp s_alias_solver s), (vi r), (.tv s_api_Instr in_)]) (fun r_ h_ => r_ = (.tv s_alias_Base (insF s r in_)) ∧ h_ = []) := .tree E_A6_ok (alias_solver_instr_t s r in_) (by
  have hp_ := hp
  try simp only [z] at hp_
  refine wp_cond (fun h1 => ?_) (fun h1 => ?_)
  · have h1_ := beq_t h1
    refine ⟨Nat.zero_lt_one, fun _ => ?_⟩
    refine ⟨Nat.zero_lt_one, fun _ => ?_⟩
    exact ⟨by simp only [insF, h1, cond_true, cond_false], rfl⟩
  · have h1_ := beq_f h1
    refine wp_cond (fun h2 => ?_) (fun h2 => ?_)
    · have h2_ := beq_t h2
      refine ⟨Nat.zero_lt_one, fun _ => ?_⟩
      refine ⟨Nat.zero_lt_one, fun _ => ?_⟩
      exact ⟨by simp only [insF, h1, h2, cond_true, cond_false], rfl⟩
    · have h2_ := beq_f h2
      refine wp_cond (fun h3 => ?_) (fun h3 => ?_)
      · have h3_ := beq_t h3
        refine ⟨by first | omega | exact (⟨hp.1, by decide⟩) | (have g_ := ⟨hp.1, by decide⟩; omega) | assumption | exact hp.1 | exact hp.2 | exact hp.2.1 | (simp_all; done) | (simp_all; omega), fun _ => ?_⟩
        refine fun _ => ?_
        refine ⟨Nat.zero_lt_one, fun _ => ?_⟩
        refine ⟨Nat.zero_lt_one, fun _ => ?_⟩
        exact ⟨by simp only [insF, h1, h2, h3, cond_true, cond_false], rfl⟩
      · have h3_ := beq_f h3
        refine wp_cond (fun h4 => ?_) (fun h4 => ?_)
        · have h4_ := beq_t h4
          refine ⟨by first | omega | exact (⟨hp.1, by decide⟩) | (have g_ := ⟨hp.1, by decide⟩; omega) | assumption | exact hp.1 | exact hp.2 | exact hp.2.1 | (simp_all; done) | (simp_all; omega), fun _ => ?_⟩
          refine fun _ => ?_
          refine ⟨Nat.zero_lt_one, fun _ => ?_⟩
          refine ⟨Nat.zero_lt_one, fun _ => ?_⟩
          refine wp_cond (fun h5 => ?_) (fun h5 => ?_)
          · refine ⟨Nat.zero_lt_one, fun _ => ?_⟩
            refine ⟨Nat.zero_lt_one, fun _ => ?_⟩
            exact ⟨by simp only [insF, h1, h2, h3, h4, h5, cond_true, cond_false], rfl⟩
          · refine ⟨Nat.zero_lt_one, fun _ => ?_⟩
            refine ⟨by first | omega | exact (⟨hp.1, by decide⟩) | (have g_ := ⟨hp.1, by decide⟩; omega) | assumption | exact hp.1 | exact hp.2 | exact hp.2.1 | (simp_all; done) | (simp_all; omega), fun _ => ?_⟩
            refine ⟨by first | omega | exact (⟨hp.1, by decide⟩) | (have g_ := ⟨hp.1, by decide⟩; omega) | assumption | exact hp.1 | exact hp.2 | exact hp.2.1 | (simp_all; done) | (simp_all; omega), fun _ => ?_⟩
            refine ⟨Nat.zero_lt_one, fun _ => ?_⟩
            refine fun _ => ?_
            refine fun _ => ?_
            refine ⟨Nat.zero_lt_one, fun _ => ?_⟩
            exact ⟨by simp only [insF, h1, h2, h3, h4, h5, cond_true, cond_false], rfl⟩
        · have h4_ := beq_f h4
          refine wp_cond (fun h6 => ?_) (fun h6 => ?_)
          · have h6_ := beq_t h6
            refine ⟨by first | omega | exact (⟨hp.1, by decide⟩) | (have g_ := ⟨hp.1, by decide⟩; omega) | assumption | exact hp.1 | exact hp.2 | exact hp.2.1 | (simp_all; done) | (simp_all; omega), fun _ => ?_⟩
            refine ⟨by first | omega | exact (⟨hp.1, by decide⟩) | (have g_ := ⟨hp.1, by decide⟩; omega) | assumption | exact hp.1 | exact hp.2 | exact hp.2.1 | (simp_all; done) | (simp_all; omega), fun _ => ?_⟩
            refine ⟨trivial, fun _ => ?_⟩
            refine ⟨Nat.zero_lt_one, fun _ => ?_⟩
            refine fun _ => ?_
            refine fun _ => ?_
            refine fun _ => ?_
            refine ⟨Nat.zero_lt_one, fun _ => ?_⟩
            exact ⟨by simp only [insF, h1, h2, h3, h4, h6, cond_true, cond_false], rfl⟩
          · have h6_ := beq_f h6
            refine ⟨trivial, fun _ => ?_⟩
            refine fun _ => ?_
            refine ⟨Nat.zero_lt_one, fun _ => ?_⟩
            refine ⟨Nat.zero_lt_one, fun _ => ?_⟩
            exact ⟨by simp only [insF, h1, h2, h3, h4, h6, cond_true, cond_false], rfl⟩)
theorem c_alias_solver_instr : SpecOK E_A6 f_alias_solver_instr k_alias_solver_instr.spec := spec_of fun x hx hp => ⟨rfl, m_alias_solver_instr x.1 x.2.1 x.2.2.1 hx.1 hx.2.1 hx.2.2.1 hp⟩
def L_A6 : List (FuncId × FSpec) := [(f_alias_solver_instr, k_alias_solver_instr.spec)] ++ L_A5
theorem L_A6_ok : ∀ x ∈ L_A6, SpecOK (ctx []) x.1 x.2 := by
  unfold L_A6
  simp only [List.cons_append, List.nil_append, List.forall_mem_cons]
  exact ⟨c_alias_solver_instr, L_A5_ok⟩
end Burn.M27N
namespace Burn.M27N
open Go Go.BE Go.Proofs
set_option maxRecDepth 100000
set_option linter.unusedVariables false
set_option linter.unusedSimpArgs false
open Burn.Cfg Burn.Intn Burn.Ref
noncomputable abbrev E_A7 : Ctx := ctx L_A6
theorem E_A7_ok : EOK E_A7 := ctx_ok L_A6_ok
def cuts_A7 : CutL := []
def rets_A7 : FuncId → List (Option Fx)
  | 51 => [some (.dat s_alias_Base)]
  | _ => []
def H_A7 : Hints := { cut := cutOf cuts_A7, ret := rets_A7 }
theorem alias_solver_next_t (s : Den s_alias_solver) (r : Int) : run E_A7 H_A7 f_alias_solver_next 3000 (start E_A7 f_alias_solver_next [(.rtp s_alias_solver s), (vi r)]) = (.chk (0 ≤ r ∧ r < (ln (.sl 16 s_api_Pos) s.2.1)) (cond (((ln s_api_Pos (gd (.sl 16 s_api_Pos) s.2.1 ((r).toNat))) : Int) != (1 : Int)) (.chk (True) (.know (okD s_alias_Base (ownP r)) (.chk ((0 : Nat) < (1 : Nat)) (.chk ((0 : Nat) < (1 : Nat)) (rt (.tv s_alias_Base (ownP r)) []))))) (.chk (0 ≤ r ∧ r < (ln (.sl 16 s_api_Pos) s.2.1)) (.chk (0 ≤ (0 : Int) ∧ (0 : Int) < (ln s_api_Pos (gd (.sl 16 s_api_Pos) s.2.1 ((r).toNat)))) (.chk ((0 : Nat) < (1 : Nat)) (.chk ((0 : Nat) < (1 : Nat)) (cond (decide ((z (((gd s_api_Pos (gd (.sl 16 s_api_Pos) s.2.1 ((r).toNat)) (0 : Nat)).2).1)) ≥ (0 : Int))) (.chk ((0 : Nat) < (1 : Nat)) (.chk (0 ≤ (z ((gd s_api_Pos (gd (.sl 16 s_api_Pos) s.2.1 ((r).toNat)) (0 : Nat)).1)) ∧ (z ((gd s_api_Pos (gd (.sl 16 s_api_Pos) s.2.1 ((r).toNat)) (0 : Nat)).1)) < (ln s_api_Block s.1.2.2.2.2.1)) (.chk ((0 : Nat) < (1 : Nat)) (.chk (0 ≤ (z (((gd s_api_Pos (gd (.sl 16 s_api_Pos) s.2.1 ((r).toNat)) (0 : Nat)).2).1)) ∧ (z (((gd s_api_Pos (gd (.sl 16 s_api_Pos) s.2.1 ((r).toNat)) (0 : Nat)).2).1)) < (ln s_api_Instr (((gd s_api_Block s.1.2.2.2.2.1 (((z ((gd s_api_Pos (gd (.sl 16 s_api_Pos) s.2.1 ((r).toNat)) (0 : Nat)).1))).toNat)).2).1))) (.chk (okNow s.1 s.2.2.1 ∧ goodD s.1 s.2.1) (.chk ((0 : Nat) < (1 : Nat)) (.know (okD s_alias_Base (insF s r (gd s_api_Instr (((gd s_api_Block s.1.2.2.2.2.1 (((z ((gd s_api_Pos (gd (.sl 16 s_api_Pos) s.2.1 ((r).toNat)) (0 : Nat)).1))).toNat)).2).1) (((z (((gd s_api_Pos (gd (.sl 16 s_api_Pos) s.2.1 ((r).toNat)) (0 : Nat)).2).1))).toNat)))) (.chk ((0 : Nat) < (1 : Nat)) (rt (.tv s_alias_Base (insF s r (gd s_api_Instr (((gd s_api_Block s.1.2.2.2.2.1 (((z ((gd s_api_Pos (gd (.sl 16 s_api_Pos) s.2.1 ((r).toNat)) (0 : Nat)).1))).toNat)).2).1) (((z (((gd s_api_Pos (gd (.sl 16 s_api_Pos) s.2.1 ((r).toNat)) (0 : Nat)).2).1))).toNat)))) []))))))))) (.chk (True) (.know (okD (.int .i64) (idxF s.1.2.1 r)) (cond (decide ((idxF s.1.2.1 r) ≥ (0 : Int))) (.chk ((0 : Nat) < (1 : Nat)) (cond ((z ((gd s_api_Pos (gd (.sl 16 s_api_Pos) s.2.1 ((r).toNat)) (0 : Nat)).1)) == (0 : Int)) (.chk (True) (.know (okD s_alias_Base (ownP r)) (.chk ((0 : Nat) < (1 : Nat)) (.chk ((0 : Nat) < (1 : Nat)) (rt (.tv s_alias_Base (ownP r)) []))))) (.chk ((0 : Nat) < (1 : Nat)) (.chk (preP s (z r) (z ((gd s_api_Pos (gd (.sl 16 s_api_Pos) s.2.1 ((r).toNat)) (0 : Nat)).1))) (.know (okD s_alias_Base (parF s r (gd s_api_Pos (gd (.sl 16 s_api_Pos) s.2.1 ((r).toNat)) (0 : Nat)).1)) (.chk ((0 : Nat) < (1 : Nat)) (.chk ((0 : Nat) < (1 : Nat)) (rt (.tv s_alias_Base (parF s r (gd s_api_Pos (gd (.sl 16 s_api_Pos) s.2.1 ((r).toNat)) (0 : Nat)).1)) [])))))))) (.chk ((0 : Nat) < (1 : Nat)) (.chk (preP s (z r) (z ((gd s_api_Pos (gd (.sl 16 s_api_Pos) s.2.1 ((r).toNat)) (0 : Nat)).1))) (.know (okD s_alias_Base (parF s r (gd s_api_Pos (gd (.sl 16 s_api_Pos) s.2.1 ((r).toNat)) (0 : Nat)).1)) (.chk ((0 : Nat) < (1 : Nat)) (.chk ((0 : Nat) < (1 : Nat)) (rt (.tv s_alias_Base (parF s r (gd s_api_Pos (gd (.sl 16 s_api_Pos) s.2.1 ((r).toNat)) (0 : Nat)).1)) [])))))))))))))))) := by kernel_rfl
def preN (s : Sv) (r : Int) : Prop := smallF s.1 ∧ okNow s.1 s.2.2.1 ∧ goodD s.1 s.2.1 ∧ ptrR s.1 r = true
theorem preN_r {s : Sv} {r : Int} (h : preN s r) : 0 ≤ r ∧ r < (ln (.sl 16 s_api_Pos) s.2.1 : Int) := by
  have := ptrR_in h.2.2.2
  rw [h.2.2.1.1]
  exact this
theorem idx_neg {l : List (Den I)} {r : Int} (h : ¬ idxF l r ≥ 0) : ¬ ∃ j, j < ln I l ∧ z (gd I l j) = r := fun hx => h (idx_pos hx).1
theorem preP_of {s : Sv} {r : Int} (hp : preN s r) (h1 : (ln s_api_Pos (gd (.sl 16 s_api_Pos) s.2.1 r.toNat) : Int) = 1) (h2 : ¬ z (gd s_api_Pos (gd (.sl 16 s_api_Pos) s.2.1 r.toNat) 0).2.1 ≥ 0) (h3 : ¬ idxF s.1.2.1 r ≥ 0 ∨ ¬ z (gd s_api_Pos (gd (.sl 16 s_api_Pos) s.2.1 r.toNat) 0).1 = 0) : preP s (z r) (z (gd s_api_Pos (gd (.sl 16 s_api_Pos) s.2.1 r.toNat) 0).1) := by
  have hr := preN_r hp
  have g := hp.2.2.1.2 r.toNat (by omega) 0 (by omega)
  refine ⟨hp.1, hp.2.1, hp.2.2.2, g.1, ?_⟩
  have e : ((r.toNat : Nat) : Int) = r := by omega
  rcases g.2.2 (by omega) with ⟨a, b⟩ | b
  · rw [e] at b
    rcases h3 with h3 | h3
    · exact absurd b (idx_neg h3)
    · exact absurd a h3
  · rw [e] at b
    exact b
def nextF (s : Den s_alias_solver) (r : Int) : Den s_alias_Base := (cond (((ln s_api_Pos (gd (.sl 16 s_api_Pos) s.2.1 ((r).toNat))) : Int) != (1 : Int)) (ownP r) (cond (decide ((z (((gd s_api_Pos (gd (.sl 16 s_api_Pos) s.2.1 ((r).toNat)) (0 : Nat)).2).1)) ≥ (0 : Int))) (insF s r (gd s_api_Instr (((gd s_api_Block s.1.2.2.2.2.1 (((z ((gd s_api_Pos (gd (.sl 16 s_api_Pos) s.2.1 ((r).toNat)) (0 : Nat)).1))).toNat)).2).1) (((z (((gd s_api_Pos (gd (.sl 16 s_api_Pos) s.2.1 ((r).toNat)) (0 : Nat)).2).1))).toNat))) (cond (decide ((idxF s.1.2.1 r) ≥ (0 : Int))) (cond ((z ((gd s_api_Pos (gd (.sl 16 s_api_Pos) s.2.1 ((r).toNat)) (0 : Nat)).1)) == (0 : Int)) (ownP r) (parF s r (gd s_api_Pos (gd (.sl 16 s_api_Pos) s.2.1 ((r).toNat)) (0 : Nat)).1)) (parF s r (gd s_api_Pos (gd (.sl 16 s_api_Pos) s.2.1 ((r).toNat)) (0 : Nat)).1))))

def k_alias_solver_next : Con := con [.cap s_alias_solver, .d I] s_alias_Base (fun x => preN x.1 (z x.2.1)) fun x => nextF x.1 x.2.1
theorem m_alias_solver_next (s : Den s_alias_solver) (r : Int) (h_s : okD s_alias_solver s) (h_r : okD I r) (hp : preN s (z r)) : Runs E_A7 (start E_A7 f_alias_solver_next [(.rtp s_alias_solver s), (vi r)]) (fun r_ h_ => r_ = (.tv s_alias_Base (nextF s r)) ∧ h_ = []) := .tree E_A7_ok (alias_solver_next_t s r) (by
  have hp_ := hp
  try simp only [z] at hp_
  refine ⟨by first | omega | exact (preN_r hp) | (have g_ := preN_r hp; omega) | exact (good_raw hp.2.2.1 (r := r.toNat) (by have := preN_r hp; omega) (by omega)) | (have g_ := good_raw hp.2.2.1 (r := r.toNat) (by have := preN_r hp; omega) (by omega); omega) | exact (⟨hp.2.1, hp.2.2.1⟩) | (have g_ := ⟨hp.2.1, hp.2.2.1⟩; omega) | exact (preP_of hp (by omega) (by omega) (by omega)) | (have g_ := preP_of hp (by omega) (by omega) (by omega); omega) | assumption | exact hp.1 | exact hp.2 | exact hp.2.1 | (simp_all; done) | (simp_all; omega), fun _ => ?_⟩
  refine wp_cond (fun h1 => ?_) (fun h1 => ?_)
  · have h1_ := bne_t h1
    refine ⟨trivial, fun _ => ?_⟩
    refine fun _ => ?_
    refine ⟨Nat.zero_lt_one, fun _ => ?_⟩
    refine ⟨Nat.zero_lt_one, fun _ => ?_⟩
    exact ⟨by simp only [nextF, h1, cond_true, cond_false], rfl⟩
  · have h1_ := bne_f h1
    refine ⟨by first | omega | exact (preN_r hp) | (have g_ := preN_r hp; omega) | exact (good_raw hp.2.2.1 (r := r.toNat) (by have := preN_r hp; omega) (by omega)) | (have g_ := good_raw hp.2.2.1 (r := r.toNat) (by have := preN_r hp; omega) (by omega); omega) | exact (⟨hp.2.1, hp.2.2.1⟩) | (have g_ := ⟨hp.2.1, hp.2.2.1⟩; omega) | exact (preP_of hp (by omega) (by omega) (by omega)) | (have g_ := preP_of hp (by omega) (by omega) (by omega); omega) | assumption | exact hp.1 | exact hp.2 | exact hp.2.1 | (simp_all; done) | (simp_all; omega), fun _ => ?_⟩
    refine ⟨by first | omega | exact (preN_r hp) | (have g_ := preN_r hp; omega) | exact (good_raw hp.2.2.1 (r := r.toNat) (by have := preN_r hp; omega) (by omega)) | (have g_ := good_raw hp.2.2.1 (r := r.toNat) (by have := preN_r hp; omega) (by omega); omega) | exact (⟨hp.2.1, hp.2.2.1⟩) | (have g_ := ⟨hp.2.1, hp.2.2.1⟩; omega) | exact (preP_of hp (by omega) (by omega) (by omega)) | (have g_ := preP_of hp (by omega) (by omega) (by omega); omega) | assumption | exact hp.1 | exact hp.2 | exact hp.2.1 | (simp_all; done) | (simp_all; omega), fun _ => ?_⟩
    refine ⟨Nat.zero_lt_one, fun _ => ?_⟩
    refine ⟨Nat.zero_lt_one, fun _ => ?_⟩
    refine wp_cond (fun h2 => ?_) (fun h2 => ?_)
    · have h2_ := of_decide_eq_true h2
      refine ⟨Nat.zero_lt_one, fun _ => ?_⟩
      refine ⟨by first | omega | exact (preN_r hp) | (have g_ := preN_r hp; omega) | exact (good_raw hp.2.2.1 (r := r.toNat) (by have := preN_r hp; omega) (by omega)) | (have g_ := good_raw hp.2.2.1 (r := r.toNat) (by have := preN_r hp; omega) (by omega); omega) | exact (⟨hp.2.1, hp.2.2.1⟩) | (have g_ := ⟨hp.2.1, hp.2.2.1⟩; omega) | exact (preP_of hp (by omega) (by omega) (by omega)) | (have g_ := preP_of hp (by omega) (by omega) (by omega); omega) | assumption | exact hp.1 | exact hp.2 | exact hp.2.1 | (simp_all; done) | (simp_all; omega), fun _ => ?_⟩
      refine ⟨Nat.zero_lt_one, fun _ => ?_⟩
      refine ⟨by first | omega | exact (preN_r hp) | (have g_ := preN_r hp; omega) | exact (good_raw hp.2.2.1 (r := r.toNat) (by have := preN_r hp; omega) (by omega)) | (have g_ := good_raw hp.2.2.1 (r := r.toNat) (by have := preN_r hp; omega) (by omega); omega) | exact (⟨hp.2.1, hp.2.2.1⟩) | (have g_ := ⟨hp.2.1, hp.2.2.1⟩; omega) | exact (preP_of hp (by omega) (by omega) (by omega)) | (have g_ := preP_of hp (by omega) (by omega) (by omega); omega) | assumption | exact hp.1 | exact hp.2 | exact hp.2.1 | (simp_all; done) | (simp_all; omega), fun _ => ?_⟩
      refine ⟨by first | omega | exact (preN_r hp) | (have g_ := preN_r hp; omega) | exact (good_raw hp.2.2.1 (r := r.toNat) (by have := preN_r hp; omega) (by omega)) | (have g_ := good_raw hp.2.2.1 (r := r.toNat) (by have := preN_r hp; omega) (by omega); omega) | exact (⟨hp.2.1, hp.2.2.1⟩) | (have g_ := ⟨hp.2.1, hp.2.2.1⟩; omega) | exact (preP_of hp (by omega) (by omega) (by omega)) | (have g_ := preP_of hp (by omega) (by omega) (by omega); omega) | assumption | exact hp.1 | exact hp.2 | exact hp.2.1 | (simp_all; done) | (simp_all; omega), fun _ => ?_⟩
      refine ⟨Nat.zero_lt_one, fun _ => ?_⟩
      refine fun _ => ?_
      refine ⟨Nat.zero_lt_one, fun _ => ?_⟩
      exact ⟨by simp only [nextF, h1, h2, cond_true, cond_false], rfl⟩
    · have h2_ := of_decide_eq_false h2
      refine ⟨trivial, fun _ => ?_⟩
      refine fun _ => ?_
      refine wp_cond (fun h3 => ?_) (fun h3 => ?_)
      · have h3_ := of_decide_eq_true h3
        refine ⟨Nat.zero_lt_one, fun _ => ?_⟩
        refine wp_cond (fun h4 => ?_) (fun h4 => ?_)
        · have h4_ := beq_t h4
          refine ⟨trivial, fun _ => ?_⟩
          refine fun _ => ?_
          refine ⟨Nat.zero_lt_one, fun _ => ?_⟩
          refine ⟨Nat.zero_lt_one, fun _ => ?_⟩
          exact ⟨by simp only [nextF, h1, h2, h3, h4, cond_true, cond_false], rfl⟩
        · have h4_ := beq_f h4
          refine ⟨Nat.zero_lt_one, fun _ => ?_⟩
          refine ⟨by first | omega | exact (preN_r hp) | (have g_ := preN_r hp; omega) | exact (good_raw hp.2.2.1 (r := r.toNat) (by have := preN_r hp; omega) (by omega)) | (have g_ := good_raw hp.2.2.1 (r := r.toNat) (by have := preN_r hp; omega) (by omega); omega) | exact (⟨hp.2.1, hp.2.2.1⟩) | (have g_ := ⟨hp.2.1, hp.2.2.1⟩; omega) | exact (preP_of hp (by omega) (by omega) (by omega)) | (have g_ := preP_of hp (by omega) (by omega) (by omega); omega) | assumption | exact hp.1 | exact hp.2 | exact hp.2.1 | (simp_all; done) | (simp_all; omega), fun _ => ?_⟩
          refine fun _ => ?_
          refine ⟨Nat.zero_lt_one, fun _ => ?_⟩
          refine ⟨Nat.zero_lt_one, fun _ => ?_⟩
          exact ⟨by simp only [nextF, h1, h2, h3, h4, cond_true, cond_false], rfl⟩
      · have h3_ := of_decide_eq_false h3
        refine ⟨Nat.zero_lt_one, fun _ => ?_⟩
        refine ⟨by first | omega | exact (preN_r hp) | (have g_ := preN_r hp; omega) | exact (good_raw hp.2.2.1 (r := r.toNat) (by have := preN_r hp; omega) (by omega)) | (have g_ := good_raw hp.2.2.1 (r := r.toNat) (by have := preN_r hp; omega) (by omega); omega) | exact (⟨hp.2.1, hp.2.2.1⟩) | (have g_ := ⟨hp.2.1, hp.2.2.1⟩; omega) | exact (preP_of hp (by omega) (by omega) (by omega)) | (have g_ := preP_of hp (by omega) (by omega) (by omega); omega) | assumption | exact hp.1 | exact hp.2 | exact hp.2.1 | (simp_all; done) | (simp_all; omega), fun _ => ?_⟩
        refine fun _ => ?_
        refine ⟨Nat.zero_lt_one, fun _ => ?_⟩
        refine ⟨Nat.zero_lt_one, fun _ => ?_⟩
        exact ⟨by simp only [nextF, h1, h2, h3, cond_true, cond_false], rfl⟩)
theorem c_alias_solver_next : SpecOK E_A7 f_alias_solver_next k_alias_solver_next.spec := spec_of fun x hx hp => ⟨rfl, m_alias_solver_next x.1 x.2.1 hx.1 hx.2.1 hp⟩
def L_A7 : List (FuncId × FSpec) := [(f_alias_solver_next, k_alias_solver_next.spec)] ++ L_A6
theorem L_A7_ok : ∀ x ∈ L_A7, SpecOK (ctx []) x.1 x.2 := by
  unfold L_A7
  simp only [List.cons_append, List.nil_append, List.forall_mem_cons]
  exact ⟨c_alias_solver_next, L_A6_ok⟩
end Burn.M27N
namespace Burn.M27N
open Go Go.BE Go.Proofs
set_option maxRecDepth 100000
set_option linter.unusedVariables false
set_option linter.unusedSimpArgs false
open Burn.Cfg Burn.Intn Burn.Ref
noncomputable abbrev E_A8 : Ctx := ctx L_A7
theorem E_A8_ok : EOK E_A8 := ctx_ok L_A7_ok
def cuts_A8 : CutL := [([], 14, 0, [3, 6, 29, 30], [], []),
  ([(14, 1473)], 29, 0, [0, 1], [], [[3]]),
  ([(29, 449), (14, 1473)], 30, 0, [0, 3, 4, 13, 14], [], [[0, 1], [3]])]
def rets_A8 : FuncId → List (Option Fx)
  | 14 => [some (.dat (.sl 32 s_alias_Base))]
  | _ => []
def H_A8 : Hints := { cut := cutOf cuts_A8, ret := rets_A8 }
noncomputable def alias_Bases_cl1_L0 (t0_0 : Int) (t1_0_0 : ByteArray) (t1_0_1 : List (Den I)) (t1_0_2 : Int) (t1_0_3 : List (Den I)) (t1_0_4 : List (Den s_api_Block)) (t1_0_5 : List (Den (.sl 16 s_api_Pos))) (t1_0_6 : List (Den s_alias_Base)) : Cfg := hcfgx E_A8 f_alias_Bases_cl1 0 [(0, (.ref 0 0)), (1, (.ref 1 0))] [(0, ⟨(.cells [(vi t0_0)]), 0, [], false, none⟩), (1, ⟨(.cells [(.ref 2 0)]), 1, [], false, none⟩), (2, ⟨(.cells [(vs t1_0_0), (.tv (.sl 8 I) t1_0_1), (vi t1_0_2), (.tv (.sl 8 I) t1_0_3), (.tv (.sl 136 s_api_Block) t1_0_4), (.tv (.sl 24 (.sl 16 s_api_Pos)) t1_0_5), (.osl 3 3 [] none)]), 2, [], false, none⟩), (3, ⟨(.arr 0 32 s_alias_Base t1_0_6), 3, [], false, none⟩)] 4 [cfr E_A8 f_alias_Bases 1 [(3, (.ref 1 0))]]
noncomputable def alias_Bases_round_L0 (changed : Bool) (t13 : Int) (t14 : Int) (s_0 : ByteArray) (s_1 : List (Den I)) (s_2 : Int) (s_3 : List (Den I)) (s_4 : List (Den s_api_Block)) (s_5 : List (Den (.sl 16 s_api_Pos))) (out : List (Den s_alias_Base)) (t0_0 : Int) (s_6 : List (Den s_alias_Base)) : Cfg := hcfgx E_A8 f_alias_solver_round 0 [(0, (.ref 0 0)), (3, (.osl 1 1 [] none)), (4, (vb changed)), (13, (vi t13)), (14, (vi t14))] [(0, ⟨(.cells [(vs s_0), (.tv (.sl 8 I) s_1), (vi s_2), (.tv (.sl 8 I) s_3), (.tv (.sl 136 s_api_Block) s_4), (.tv (.sl 24 (.sl 16 s_api_Pos)) s_5), (.osl 4 4 [] none)]), 0, [], false, none⟩), (1, ⟨(.arr 0 32 s_alias_Base out), 1, [], false, none⟩), (2, ⟨(.cells [(vi t0_0)]), 2, [], false, none⟩), (3, ⟨(.cells [(.ref 0 0)]), 3, [], false, none⟩), (4, ⟨(.arr 0 32 s_alias_Base s_6), 4, [], false, none⟩)] 5 [cfr E_A8 f_alias_Bases_cl1 0 [(0, (.ref 2 0)), (1, (.ref 3 0))], cfr E_A8 f_alias_Bases 1 [(3, (.ref 3 0))]]
noncomputable def alias_Bases_L0 (done : Bool) (t29 : Int) (t30 : Int) (s_0_0 : ByteArray) (s_0_1 : List (Den I)) (s_0_2 : Int) (s_0_3 : List (Den I)) (s_0_4 : List (Den s_api_Block)) (s_0_5 : List (Den (.sl 16 s_api_Pos))) (s_0_6 : List (Den s_alias_Base)) : Cfg := hcfg E_A8 f_alias_Bases 0 [(3, (.ref 0 0)), (6, (vb done)), (29, (vi t29)), (30, (vi t30))] [(0, ⟨(.cells [(.ref 1 0)]), 0, [], false, none⟩), (1, ⟨(.cells [(vs s_0_0), (.tv (.sl 8 I) s_0_1), (vi s_0_2), (.tv (.sl 8 I) s_0_3), (.tv (.sl 136 s_api_Block) s_0_4), (.tv (.sl 24 (.sl 16 s_api_Pos)) s_0_5), (.osl 2 2 [] none)]), 1, [], false, none⟩), (2, ⟨(.arr 0 32 s_alias_Base s_0_6), 2, [], false, none⟩)] 3
theorem alias_Bases_t (f : Den s_api_Func) : run E_A8 H_A8 f_alias_Bases 3000 (start E_A8 f_alias_Bases [(.tv s_api_Func f)]) = (.chk (smallF f) (.chk (((ln I f.2.2.2.1) : Int) = ((ln I f.2.2.2.1) : Int)) (.chk (0 ≤ ((ln I f.2.2.2.1) : Int)) (.chk ((ln I f.2.2.2.1) * 32 ≤ roomB) (.know (okD (.sl 24 (.sl 16 s_api_Pos)) (defsF f)) (hd (alias_Bases_cl1_L0 (IntKind.wrap .i64 ((8 : Int) * (IntKind.wrap .i64 (((ln I f.2.2.2.1) : Int) + (1 : Int))))) (tOf f.1) f.2.1 (z f.2.2.1) f.2.2.2.1 f.2.2.2.2.1 (defsF f) (List.replicate (ln I f.2.2.2.1) (dz s_alias_Base))))))))) := by kernel_rfl
theorem alias_Bases_cl1_L0_t (t0_0 : Int) (t1_0_0 : ByteArray) (t1_0_1 : List (Den I)) (t1_0_2 : Int) (t1_0_3 : List (Den I)) (t1_0_4 : List (Den s_api_Block)) (t1_0_5 : List (Den (.sl 16 s_api_Pos))) (t1_0_6 : List (Den s_alias_Base)) : run E_A8 H_A8 f_alias_Bases 3000 (alias_Bases_cl1_L0 t0_0 t1_0_0 t1_0_1 t1_0_2 t1_0_3 t1_0_4 t1_0_5 t1_0_6) = (cond (decide (t0_0 > (0 : Int))) (.chk (((ln s_alias_Base t1_0_6) : Int) = ((ln s_alias_Base t1_0_6) : Int)) (.chk (0 ≤ ((ln s_alias_Base t1_0_6) : Int)) (.chk ((ln s_alias_Base t1_0_6) * 32 ≤ roomB) (hd (alias_Bases_round_L0 false ((ln s_alias_Base (List.replicate (ln s_alias_Base t1_0_6) (dz s_alias_Base))) : Int) (0 : Int) t1_0_0 t1_0_1 t1_0_2 t1_0_3 t1_0_4 t1_0_5 (List.replicate (ln s_alias_Base t1_0_6) (dz s_alias_Base)) t0_0 t1_0_6))))) (hd (alias_Bases_L0 false ((ln s_alias_Base t1_0_6) : Int) (0 : Int) t1_0_0 t1_0_1 t1_0_2 t1_0_3 t1_0_4 t1_0_5 t1_0_6))) := by kernel_rfl
theorem alias_Bases_round_L0_t (changed : Bool) (t13 : Int) (t14 : Int) (s_0 : ByteArray) (s_1 : List (Den I)) (s_2 : Int) (s_3 : List (Den I)) (s_4 : List (Den s_api_Block)) (s_5 : List (Den (.sl 16 s_api_Pos))) (out : List (Den s_alias_Base)) (t0_0 : Int) (s_6 : List (Den s_alias_Base)) : run E_A8 H_A8 f_alias_Bases 3000 (alias_Bases_round_L0 changed t13 t14 s_0 s_1 s_2 s_3 s_4 s_5 out t0_0 s_6) = (cond (decide (t14 < t13)) (.chk (True) (.know True (cond (ptrP ((s_0, s_1, s_2, s_3, s_4, ()), s_5, s_6, ()) t14) (.chk (preN ((s_0, s_1, s_2, s_3, s_4, ()), s_5, s_6, ()) (z t14)) (.know (okD s_alias_Base (nextF ((s_0, s_1, s_2, s_3, s_4, ()), s_5, s_6, ()) t14)) (.chk (0 ≤ t14 ∧ t14 < (ln s_alias_Base out)) (.chk ((t14).toNat < (ln s_alias_Base out)) (cond changed (hd (alias_Bases_round_L0 true t13 (IntKind.wrap .i64 (t14 + (1 : Int))) s_0 s_1 s_2 s_3 s_4 s_5 (st s_alias_Base out ((t14).toNat) (nextF ((s_0, s_1, s_2, s_3, s_4, ()), s_5, s_6, ()) t14)) t0_0 s_6)) (.chk (0 ≤ t14 ∧ t14 < (ln s_alias_Base (st s_alias_Base out ((t14).toNat) (nextF ((s_0, s_1, s_2, s_3, s_4, ()), s_5, s_6, ()) t14)))) (.chk ((t14).toNat < (ln s_alias_Base (st s_alias_Base out ((t14).toNat) (nextF ((s_0, s_1, s_2, s_3, s_4, ()), s_5, s_6, ()) t14)))) (.chk (0 ≤ t14 ∧ t14 < (ln s_alias_Base s_6)) (.chk ((t14).toNat < (ln s_alias_Base s_6)) (hd (alias_Bases_round_L0 (!(((z ((gd s_alias_Base (st s_alias_Base out ((t14).toNat) (nextF ((s_0, s_1, s_2, s_3, s_4, ()), s_5, s_6, ()) t14)) ((t14).toNat)).1)) == (z ((gd s_alias_Base s_6 ((t14).toNat)).1))) && (((z (((gd s_alias_Base (st s_alias_Base out ((t14).toNat) (nextF ((s_0, s_1, s_2, s_3, s_4, ()), s_5, s_6, ()) t14)) ((t14).toNat)).2).1)) == (z (((gd s_alias_Base s_6 ((t14).toNat)).2).1))) && (((z ((((gd s_alias_Base (st s_alias_Base out ((t14).toNat) (nextF ((s_0, s_1, s_2, s_3, s_4, ()), s_5, s_6, ()) t14)) ((t14).toNat)).2).2).1)) == (z ((((gd s_alias_Base s_6 ((t14).toNat)).2).2).1))) && (((bOf (((((gd s_alias_Base (st s_alias_Base out ((t14).toNat) (nextF ((s_0, s_1, s_2, s_3, s_4, ()), s_5, s_6, ()) t14)) ((t14).toNat)).2).2).2).1)) == (bOf (((((gd s_alias_Base s_6 ((t14).toNat)).2).2).2).1))) && true))))) t13 (IntKind.wrap .i64 (t14 + (1 : Int))) s_0 s_1 s_2 s_3 s_4 s_5 (st s_alias_Base out ((t14).toNat) (nextF ((s_0, s_1, s_2, s_3, s_4, ()), s_5, s_6, ()) t14)) t0_0 s_6))))))))))) (cond changed (hd (alias_Bases_round_L0 true t13 (IntKind.wrap .i64 (t14 + (1 : Int))) s_0 s_1 s_2 s_3 s_4 s_5 out t0_0 s_6)) (.chk (0 ≤ t14 ∧ t14 < (ln s_alias_Base out)) (.chk ((t14).toNat < (ln s_alias_Base out)) (.chk (0 ≤ t14 ∧ t14 < (ln s_alias_Base s_6)) (.chk ((t14).toNat < (ln s_alias_Base s_6)) (hd (alias_Bases_round_L0 (!(((z ((gd s_alias_Base out ((t14).toNat)).1)) == (z ((gd s_alias_Base s_6 ((t14).toNat)).1))) && (((z (((gd s_alias_Base out ((t14).toNat)).2).1)) == (z (((gd s_alias_Base s_6 ((t14).toNat)).2).1))) && (((z ((((gd s_alias_Base out ((t14).toNat)).2).2).1)) == (z ((((gd s_alias_Base s_6 ((t14).toNat)).2).2).1))) && (((bOf (((((gd s_alias_Base out ((t14).toNat)).2).2).2).1)) == (bOf (((((gd s_alias_Base s_6 ((t14).toNat)).2).2).2).1))) && true))))) t13 (IntKind.wrap .i64 (t14 + (1 : Int))) s_0 s_1 s_2 s_3 s_4 s_5 out t0_0 s_6)))))))))) (cond (!changed) (hd (alias_Bases_L0 true ((ln s_alias_Base out) : Int) (0 : Int) s_0 s_1 s_2 s_3 s_4 s_5 out)) (hd (alias_Bases_cl1_L0 (IntKind.wrap .i64 (t0_0 - (1 : Int))) s_0 s_1 s_2 s_3 s_4 s_5 out)))) := by kernel_rfl
theorem alias_Bases_L0_t (done : Bool) (t29 : Int) (t30 : Int) (s_0_0 : ByteArray) (s_0_1 : List (Den I)) (s_0_2 : Int) (s_0_3 : List (Den I)) (s_0_4 : List (Den s_api_Block)) (s_0_5 : List (Den (.sl 16 s_api_Pos))) (s_0_6 : List (Den s_alias_Base)) : run E_A8 H_A8 f_alias_Bases 3000 (alias_Bases_L0 done t29 t30 s_0_0 s_0_1 s_0_2 s_0_3 s_0_4 s_0_5 s_0_6) = (cond (decide (t30 < t29)) (.chk (True) (cond (ptrP ((s_0_0, s_0_1, s_0_2, s_0_3, s_0_4, ()), s_0_5, s_0_6, ()) t30) (cond (!done) (.know True (.chk (True) (.chk (0 ≤ t30 ∧ t30 < (ln s_alias_Base s_0_6)) (.chk ((t30).toNat < (ln s_alias_Base s_0_6)) (.know (okD s_alias_Base (ownP t30)) (hd (alias_Bases_L0 done t29 (IntKind.wrap .i64 (t30 + (1 : Int))) s_0_0 s_0_1 s_0_2 s_0_3 s_0_4 s_0_5 (st s_alias_Base s_0_6 ((t30).toNat) (ownP t30))))))))) (.chk (0 ≤ t30 ∧ t30 < (ln s_alias_Base s_0_6)) (.chk ((t30).toNat < (ln s_alias_Base s_0_6)) (.know True (cond (((z ((gd s_alias_Base s_0_6 ((t30).toNat)).1)) == (z ((((0 : Int), (0 : Int), (0 : Int), false, ())).1))) && (((z (((gd s_alias_Base s_0_6 ((t30).toNat)).2).1)) == (z (((((0 : Int), (0 : Int), (0 : Int), false, ())).2).1))) && (((z ((((gd s_alias_Base s_0_6 ((t30).toNat)).2).2).1)) == (z ((((((0 : Int), (0 : Int), (0 : Int), false, ())).2).2).1))) && (((bOf (((((gd s_alias_Base s_0_6 ((t30).toNat)).2).2).2).1)) == (bOf (((((((0 : Int), (0 : Int), (0 : Int), false, ())).2).2).2).1))) && true)))) (.chk (True) (.chk (0 ≤ t30 ∧ t30 < (ln s_alias_Base s_0_6)) (.chk ((t30).toNat < (ln s_alias_Base s_0_6)) (.know (okD s_alias_Base (ownP t30)) (hd (alias_Bases_L0 done t29 (IntKind.wrap .i64 (t30 + (1 : Int))) s_0_0 s_0_1 s_0_2 s_0_3 s_0_4 s_0_5 (st s_alias_Base s_0_6 ((t30).toNat) (ownP t30)))))))) (hd (alias_Bases_L0 done t29 (IntKind.wrap .i64 (t30 + (1 : Int))) s_0_0 s_0_1 s_0_2 s_0_3 s_0_4 s_0_5 s_0_6))))))) (.know True (hd (alias_Bases_L0 done t29 (IntKind.wrap .i64 (t30 + (1 : Int))) s_0_0 s_0_1 s_0_2 s_0_3 s_0_4 s_0_5 s_0_6))))) (rt (.tv (.sl 32 s_alias_Base) s_0_6) [])) := by kernel_rfl
def tab (S : Sh) (n : Nat) (g : Nat → Den S) : List (Den S) := (List.range n).map g
theorem tab_ln {S : Sh} {n : Nat} {g : Nat → Den S} : ln S (tab S n g) = n := by unfold ln tab; simp
theorem tab_gd {S : Sh} {n : Nat} {g : Nat → Den S} {i : Nat} (h : i < n) : gd S (tab S n g) i = g i := by
  unfold gd tab
  rw [List.getD_eq_getElem?_getD]
  simp [h]
theorem tab_ext {S : Sh} {n : Nat} {g k : Nat → Den S} (h : ∀ j, j < n → g j = k j) : tab S n g = tab S n k := List.map_congr_left fun j hj => h j (List.mem_range.1 hj)
theorem ext_gd {S : Sh} {a b : List (Den S)} (hl : ln S a = ln S b) (h : ∀ i, i < ln S a → gd S a i = gd S b i) : a = b := by
  apply List.ext_getElem hl
  intro i h1 h2
  have := h i h1
  unfold gd at this
  rw [List.getD_eq_getElem?_getD, List.getD_eq_getElem?_getD, List.getElem?_eq_getElem h1, List.getElem?_eq_getElem h2] at this
  exact this
theorem tab_st {S : Sh} {n : Nat} {g : Nat → Den S} {i : Nat} {x : Den S} : st S (tab S n g) i x = tab S n fun j => if j = i then x else g j := by
  refine ext_gd (by rw [ln_st, tab_ln, tab_ln]) fun j hj => ?_
  have hj' : j < n := by rw [ln_st, tab_ln] at hj; exact hj
  rw [gd_st_any, tab_gd hj', tab_gd hj', tab_ln]
  by_cases h : i = j
  · rw [if_pos ⟨h, by omega⟩, if_pos h.symm]
  · rw [if_neg (fun e => h e.1), if_neg (fun e => h e.symm)]
theorem tab_rep {S : Sh} {n : Nat} {x : Den S} : List.replicate n x = tab S n fun _ => x := by
  unfold tab
  rw [List.map_const']
  simp
def mkS (f : Fn) (now : List Bs) : Sv := (f, defsF f, now, ())
abbrev nR (f : Fn) : Nat := ln I f.2.2.2.1
def outB (f : Fn) (now : List Bs) (j : Nat) : Bs := if ptrR f (j : Int) = true then nextF (mkS f now) (j : Int) else zB
def rndF (f : Fn) (now : List Bs) : List Bs := tab s_alias_Base (nR f) (outB f now)
def chG (f : Fn) (now : List Bs) : Nat → Bool
  | 0 => false
  | i + 1 => chG f now i || !(eqBs (outB f now i) (gd s_alias_Base now i))
def basesGo (f : Fn) : Nat → List Bs → Bool × List Bs
  | 0, now => (false, now)
  | k + 1, now => if chG f now (nR f) = true then basesGo f k (rndF f now) else (true, rndF f now)
def finB (f : Fn) (done : Bool) (now : List Bs) (j : Nat) : Bs := if ptrR f (j : Int) = true ∧ (done = false ∨ gd s_alias_Base now j = zB) then ownP (j : Int) else gd s_alias_Base now j
def zeros (f : Fn) : List Bs := List.replicate (nR f) zB
def basesF (f : Fn) : Den (.sl 32 s_alias_Base) := tab s_alias_Base (nR f) (finB f (basesGo f (8 * (nR f + 1)) (zeros f)).1 (basesGo f (8 * (nR f + 1)) (zeros f)).2)
theorem okZ_oper {s : Sv} {r i : Int} {x : Den s_api_Instr} (h : okNow s.1 s.2.2.1) : okZ (operF s r x i) := by
  unfold operF
  cases hc : (!(ptrP s (argP x i))) with
  | true => exact okZ_own r
  | false =>
    have := ptr_raw hc h
    exact h.2 _ (by omega)
theorem okZ_mov {s : Sv} {b : Bs} {a : Int} (h : z b.1 ≠ 0) : okZ (movF s b a) := by
  unfold movF
  simp only [Bool.cond_eq_ite]
  repeat' split
  all_goals exact fun e => absurd e h
theorem okZ_ins {s : Sv} {r : Int} {x : Den s_api_Instr} (h : okNow s.1 s.2.2.1) : okZ (insF s r x) := by
  unfold insF
  cases (z x.1 == 25) with
  | true => exact fun e => absurd e (by decide : (1 : Int) ≠ 0)
  | false =>
    cases (z x.1 == 26) with
    | true => exact fun e => absurd e (by decide : (2 : Int) ≠ 0)
    | false =>
      cases (z x.1 == 4) with
      | true => exact okZ_oper h
      | false =>
        cases (z x.1 == 27) with
        | true =>
          show okZ (cond (eqBs (operF s r x 0) zB) zB (movF s (operF s r x 0) (argP x 1)))
          cases hq : eqBs (operF s r x 0) zB with
          | true => exact okZ_z
          | false => exact okZ_mov fun e => eqBs_ne hq (okZ_oper h e)
        | false =>
          cases (z x.1 == 21) with
          | true =>
            have hl : ∀ b ∈ ([operF s r x 1, operF s r x 2] : List Bs), okZ b := fun b hb => by
              rcases List.mem_cons.1 hb with rfl | hb
              · exact okZ_oper h
              · rcases List.mem_cons.1 hb with rfl | hb
                · exact okZ_oper h
                · cases hb
            have := joinM_ok (r := r) okZ_z hl
            show okZ (joinF r _)
            unfold joinF
            rw [this.1]
            exact this.2
          | false => exact okZ_own r
theorem okZ_par {s : Sv} {r bk : Int} (h : okNow s.1 s.2.2.1) (hr : 0 ≤ r ∧ r < (ln I s.1.2.2.2.1 : Int)) : okZ (parF s r bk) := by
  unfold parF parG
  exact (joinM_ok (h.2 _ (by rw [h.1]; omega)) fun b hb => exB_ok h b hb).2
theorem okZ_next {s : Sv} {r : Int} (h : okNow s.1 s.2.2.1) (hr : 0 ≤ r ∧ r < (ln I s.1.2.2.2.1 : Int)) : okZ (nextF s r) := by
  unfold nextF
  simp only [Bool.cond_eq_ite]
  repeat' split
  all_goals first | exact okZ_own r | exact okZ_ins h | exact okZ_par h hr
theorem okNow_rnd {f : Fn} {now : List Bs} (h : okNow f now) : okNow f (rndF f now) := by
  refine ⟨tab_ln, fun j hj => ?_⟩
  have hj' : j < nR f := by unfold rndF at hj; rw [tab_ln] at hj; exact hj
  unfold rndF
  rw [tab_gd hj']
  unfold outB
  split
  · rename_i hp
    exact okZ_next (s := mkS f now) h (ptrR_in hp)
  · exact okZ_z
theorem okNow_zeros (f : Fn) : okNow f (zeros f) := by
  unfold zeros
  rw [tab_rep (S := s_alias_Base)]
  refine ⟨tab_ln, fun j hj => ?_⟩
  rw [tab_ln] at hj
  rw [tab_gd hj]
  exact okZ_z
def goodO (f : Fn) (D : DL) : Prop := ln (.sl 16 s_api_Pos) D = ln I f.2.2.2.1 ∧ ∀ r, r < ln I f.2.2.2.1 → ∀ k, k < ln s_api_Pos (gd (.sl 16 s_api_Pos) D r) → goodP f r (gd s_api_Pos (gd (.sl 16 s_api_Pos) D r) k)
theorem good_step1 {f : Fn} {p : Den s_api_Pos} {D : DL} {r : Int} (h : goodO f D) (hr : 0 ≤ r → r < (ln I f.2.2.2.1 : Int) → goodP f r.toNat p) : goodO f (step1 p D r) := by
  unfold step1
  split
  · exact h
  · rename_i hrg
    split
    · exact h
    · rw [h.1] at hrg
      refine ⟨ln_st.trans h.1, fun q hq k hk => ?_⟩
      rw [gd_st_any] at hk ⊢
      split at hk
      · rename_i hc
        rw [if_pos hc]
        obtain ⟨e, _⟩ := hc
        rw [ln_ap1] at hk
        rcases Nat.lt_or_eq_of_le (Nat.le_of_lt_succ hk) with h' | rfl
        · rw [gd_ap h']
          have := h.2 q hq k (by rw [← e]; exact h')
          rw [← e] at this ⊢
          exact this
        · rw [gd_last]
          have := hr (by omega) (by omega)
          rw [e] at this
          exact this
      · rename_i hc
        rw [if_neg hc]
        exact h.2 q hq k hk
theorem good_stepL {f : Fn} {p : Den s_api_Pos} : ∀ {rs : List (Den I)} {D : DL}, goodO f D → (∀ r ∈ rs, 0 ≤ z r → z r < (ln I f.2.2.2.1 : Int) → goodP f (z r).toNat p) → goodO f (stepL p rs D)
  | [], _, h, _ => h
  | r :: rs, D, h, hr => good_stepL (rs := rs) (D := step1 p D (z r)) (good_step1 h (hr r List.mem_cons_self)) fun x hx => hr x (List.mem_cons_of_mem _ hx)
theorem mem_gd {S : Sh} {l : List (Den S)} {x : Den S} (h : x ∈ l) : ∃ j, j < ln S l ∧ gd S l j = x := by
  obtain ⟨j, hj⟩ := List.mem_iff_getElem?.1 h
  have hlt := (List.getElem?_eq_some_iff.1 hj).1
  exact ⟨j, hlt, by unfold gd; rw [List.getD_eq_getElem?_getD, hj]; rfl⟩
theorem writes_good {f : Fn} {b k : Nat} (hb : b < ln s_api_Block (blocks f)) : ∀ r ∈ writesF f (posA b k), 0 ≤ z r → z r < (ln I f.2.2.2.1 : Int) → goodP f (z r).toNat (posA b k) := by
  intro r hr h0 _
  have e0 : (((z r).toNat : Nat) : Int) = z r := by omega
  have hb0 : 0 ≤ z (posA b k).1 ∧ z (posA b k).1 < (ln s_api_Block (blocks f) : Int) := by
    show 0 ≤ (b : Int) ∧ (b : Int) < _
    omega
  unfold writesF at hr
  cases hin : (!insideF f (posA b k)) with
  | true => rw [hin] at hr; exact absurd hr (by simp)
  | false =>
    rw [hin] at hr
    simp only [cond_false] at hr
    cases h1 : decide (z (posA b k).2.1 < 0) with
    | true =>
      have a1 := of_decide_eq_true h1
      rw [h1] at hr
      simp only [cond_true] at hr
      refine ⟨hb0, by omega, fun _ => ?_⟩
      rw [e0]
      cases h2 : (z (posA b k).1 == 0) with
      | true =>
        rw [h2] at hr
        simp only [cond_true] at hr
        unfold ap at hr
        rcases List.mem_append.1 hr with hm | hm
        · obtain ⟨j, j1, j2⟩ := mem_gd hm
          exact .inl ⟨beq_t h2, j, j1, by rw [j2]⟩
        · obtain ⟨j, j1, j2⟩ := mem_gd hm
          exact .inr ⟨j, j1, by rw [j2]⟩
      | false =>
        rw [h2] at hr
        simp only [cond_false] at hr
        obtain ⟨j, j1, j2⟩ := mem_gd hr
        exact .inr ⟨j, j1, by rw [j2]⟩
    | false =>
      have a1 := of_decide_eq_false h1
      rw [h1] at hr
      simp only [cond_false] at hr
      cases h2 : decide (z (posA b k).2.1 < (ln s_api_Instr (bIns (blk f (z (posA b k).1))) : Int)) with
      | true => exact ⟨hb0, of_decide_eq_true h2, fun h => absurd h a1⟩
      | false => rw [h2] at hr; exact absurd hr (by simp)
theorem good_colB {f : Fn} {b : Nat} (hb : b < ln s_api_Block (blocks f)) : ∀ {n k : Nat} {D : DL}, goodO f D → goodO f (colB writesF f b n k D)
  | 0, _, _, h => h
  | n + 1, k, D, h => good_colB hb (n := n) (good_stepL h (writes_good hb))
theorem good_colF {f : Fn} : ∀ {n b : Nat} {D : DL}, b + n ≤ ln s_api_Block (blocks f) → goodO f D → goodO f (colF writesF f n b D)
  | 0, _, _, _, h => h
  | n + 1, b, D, hb, h => good_colF (n := n) (by omega) (good_colB (by omega) h)
theorem good_defs (f : Fn) : goodD f (defsF f) := by
  have : goodO f (defsF f) := good_colF (by omega) ⟨by show (List.replicate _ _).length = _; simp, fun r hr k hk => by
    have e : gd (.sl 16 s_api_Pos) (List.replicate (ln I f.2.2.2.1) ([] : List (Den s_api_Pos))) r = ([] : List (Den s_api_Pos)) := by
      show (List.replicate _ _).getD _ _ = _
      rw [List.getD_eq_getElem?_getD, List.getElem?_replicate]
      split <;> rfl
    rw [e] at hk
    exact absurd hk (Nat.not_lt_zero _)⟩
  exact ⟨this.1, fun r hr => this.2 r (by rw [← this.1]; exact hr)⟩
def outT (f : Fn) (now : List Bs) (i : Nat) : List Bs := tab s_alias_Base (nR f) fun j => if j < i then outB f now j else zB
theorem outT_ln {f : Fn} {now : List Bs} {i : Nat} : ln s_alias_Base (outT f now i) = nR f := tab_ln
theorem outT_st {f : Fn} {now : List Bs} {i : Nat} : st s_alias_Base (outT f now i) i (outB f now i) = outT f now (i + 1) := by
  unfold outT
  rw [tab_st]
  refine tab_ext fun j _ => ?_
  by_cases h : j = i
  · rw [if_pos h, if_pos (by omega), h]
  · rw [if_neg h]
    by_cases h2 : j < i
    · rw [if_pos h2, if_pos (by omega)]
    · rw [if_neg h2, if_neg (by omega)]
theorem outT_z {f : Fn} {now : List Bs} {i : Nat} (h : outB f now i = zB) : outT f now i = outT f now (i + 1) := by
  refine tab_ext fun j _ => ?_
  by_cases h2 : j < i
  · rw [if_pos h2, if_pos (by omega)]
  · rw [if_neg h2]
    by_cases h3 : j = i
    · rw [if_pos (by omega), h3, h]
    · rw [if_neg (by omega)]
theorem outT_gd {f : Fn} {now : List Bs} {i : Nat} (hi : i < nR f) : gd s_alias_Base (outT f now (i + 1)) i = outB f now i := by
  unfold outT
  rw [tab_gd hi, if_pos (by omega)]
theorem outT_0 {f : Fn} {now : List Bs} : List.replicate (nR f) (dz s_alias_Base) = outT f now 0 := by
  rw [tab_rep (S := s_alias_Base)]
  exact tab_ext fun j _ => by rw [if_neg (by omega)]; rfl
theorem outT_n {f : Fn} {now : List Bs} : outT f now (nR f) = rndF f now := tab_ext fun j hj => by rw [if_pos hj]
def finT (f : Fn) (done : Bool) (now : List Bs) (i : Nat) : List Bs := tab s_alias_Base (nR f) fun j => if j < i then finB f done now j else gd s_alias_Base now j
theorem finT_ln {f : Fn} {done : Bool} {now : List Bs} {i : Nat} : ln s_alias_Base (finT f done now i) = nR f := tab_ln
theorem finT_gd {f : Fn} {done : Bool} {now : List Bs} {i : Nat} (hi : i < nR f) : gd s_alias_Base (finT f done now i) i = gd s_alias_Base now i := by
  unfold finT
  rw [tab_gd hi, if_neg (by omega)]
theorem finT_st {f : Fn} {done : Bool} {now : List Bs} {i : Nat} {x : Bs} (h : finB f done now i = x) : st s_alias_Base (finT f done now i) i x = finT f done now (i + 1) := by
  unfold finT
  rw [tab_st]
  refine tab_ext fun j _ => ?_
  by_cases h1 : j = i
  · rw [if_pos h1, if_pos (by omega), h1, h]
  · rw [if_neg h1]
    by_cases h2 : j < i
    · rw [if_pos h2, if_pos (by omega)]
    · rw [if_neg h2, if_neg (by omega)]
theorem finT_same {f : Fn} {done : Bool} {now : List Bs} {i : Nat} (h : finB f done now i = gd s_alias_Base now i) : finT f done now i = finT f done now (i + 1) := by
  refine tab_ext fun j _ => ?_
  by_cases h2 : j < i
  · rw [if_pos h2, if_pos (by omega)]
  · rw [if_neg h2]
    by_cases h3 : j = i
    · rw [if_pos (by omega), h3, h]
    · rw [if_neg (by omega)]
theorem finT_0 {f : Fn} {done : Bool} {now : List Bs} (h : ln s_alias_Base now = nR f) : now = finT f done now 0 := by
  refine ext_gd (by rw [finT_ln, h]) fun i hi => ?_
  rw [h] at hi
  unfold finT
  rw [tab_gd hi, if_neg (by omega)]
theorem finT_n {f : Fn} {done : Bool} {now : List Bs} : finT f done now (nR f) = tab s_alias_Base (nR f) (finB f done now) := tab_ext fun j hj => by rw [if_pos hj]
theorem fin_own {f : Fn} {done : Bool} {now : List Bs} {j : Nat} (h1 : ptrR f (j : Int) = true) (h2 : done = false ∨ gd s_alias_Base now j = zB) : finB f done now j = ownP (j : Int) := if_pos ⟨h1, h2⟩
theorem fin_not {f : Fn} {done : Bool} {now : List Bs} {j : Nat} (h1 : ptrR f (j : Int) = false) : finB f done now j = gd s_alias_Base now j := if_neg fun h => by rw [h1] at h; cases h.1
theorem fin_keep {f : Fn} {done : Bool} {now : List Bs} {j : Nat} (h1 : done = true) (h2 : gd s_alias_Base now j ≠ zB) : finB f done now j = gd s_alias_Base now j := if_neg fun h => by
  rcases h.2 with h | h
  · rw [h1] at h; cases h
  · exact h2 h
theorem fin_l (f : Fn) (hl : nR f < 9223372036854775807) (done : Bool) (now : List Bs) : ∀ i, i ≤ nR f → Runs E_A8 (alias_Bases_L0 done (nR f : Nat) i (tOf f.1) f.2.1 (z f.2.2.1) f.2.2.2.1 f.2.2.2.2.1 (defsF f) (finT f done now i)) (fun x h => x = .tv (.sl 32 s_alias_Base) (tab s_alias_Base (nR f) (finB f done now)) ∧ h = []) :=
  up_ind (.tree E_A8_ok (alias_Bases_L0_t _ _ _ _ _ _ _ _ _ _) (by
    rw [finT_n]
    simp only [wp_iff, chk_iff, know_iff, any_iff, rt_iff, hd_iff, true_imp_iff, true_and, and_true, and_self, lt01, Int.ofNat_lt, Int.ofNat_le, Int.natCast_nonneg, Int.toNat_natCast, decide_true, decide_false, Bool.true_eq_false, Bool.false_eq_true, false_imp_iff, Nat.lt_irrefl, imp_self, implies_true,  true_and]))
    fun i hi ih => .tree E_A8_ok (alias_Bases_L0_t _ _ _ _ _ _ _ _ _ _) (by
      have hP : ptrP ((tOf f.1, f.2.1, z f.2.2.1, f.2.2.2.1, f.2.2.2.2.1, ()), defsF f, finT f done now i, ()) (i : Int) = ptrR f (i : Int) := rfl
      simp only [wp_iff, chk_iff, know_iff, any_iff, rt_iff, hd_iff, true_imp_iff, true_and, and_true, and_self, lt01, Int.ofNat_lt, Int.ofNat_le, Int.natCast_nonneg, Int.toNat_natCast, decide_true, decide_false, Bool.true_eq_false, Bool.false_eq_true, false_imp_iff, Nat.lt_irrefl, imp_self, implies_true,  hi, finT_ln, hP, wrapS hi hl, finT_gd hi]
      refine ⟨fun h1 => ⟨fun h2 _ => ?_, fun h2 => ⟨fun h3 _ => ?_, fun h3 => ?_⟩⟩, fun h1 => ?_⟩
      · rw [finT_st (fin_own h1 (.inl (by simpa using h2)))]
        exact ih
      · rw [finT_st (fin_own h1 (.inr (eqBs_iff.1 h3)))]
        exact ih
      · rw [finT_same (fin_keep (by simpa using h2) (eqBs_ne h3))]
        exact ih
      · rw [finT_same (fin_not h1)]
        exact ih)
theorem rnd_l (f : Fn) (hs : smallF f) (hl : nR f < 9223372036854775807) (now : List Bs) (hn : okNow f now) (left : Int) (Q : AV → Heap → Prop)
    (h1 : chG f now (nR f) = true → Runs E_A8 (alias_Bases_cl1_L0 (IntKind.wrap .i64 (left - 1)) (tOf f.1) f.2.1 (z f.2.2.1) f.2.2.2.1 f.2.2.2.2.1 (defsF f) (rndF f now)) Q)
    (h2 : chG f now (nR f) = false → Runs E_A8 (alias_Bases_L0 true (nR f : Nat) 0 (tOf f.1) f.2.1 (z f.2.2.1) f.2.2.2.1 f.2.2.2.2.1 (defsF f) (rndF f now)) Q) :
    ∀ i, i ≤ nR f → Runs E_A8 (alias_Bases_round_L0 (chG f now i) (nR f : Nat) i (tOf f.1) f.2.1 (z f.2.2.1) f.2.2.2.1 f.2.2.2.2.1 (defsF f) (outT f now i) left now) Q :=
  up_ind (.tree E_A8_ok (alias_Bases_round_L0_t _ _ _ _ _ _ _ _ _ _ _ _) (by
    rw [outT_n]
    have : ln s_alias_Base (rndF f now) = nR f := tab_ln
    simp only [wp_iff, chk_iff, know_iff, any_iff, rt_iff, hd_iff, true_imp_iff, true_and, and_true, and_self, lt01, Int.ofNat_lt, Int.ofNat_le, Int.natCast_nonneg, Int.toNat_natCast, decide_true, decide_false, Bool.true_eq_false, Bool.false_eq_true, false_imp_iff, Nat.lt_irrefl, imp_self, implies_true,  this]
    exact ⟨fun h => h2 (by simpa using h), fun h => h1 (by simpa using h)⟩))
    fun i hi ih => .tree E_A8_ok (alias_Bases_round_L0_t _ _ _ _ _ _ _ _ _ _ _ _) (by
      have hP : ptrP ((tOf f.1, f.2.1, z f.2.2.1, f.2.2.2.1, f.2.2.2.2.1, ()), defsF f, now, ()) (i : Int) = ptrR f (i : Int) := rfl
      have hin : i < ln s_alias_Base now := by rw [hn.1]; exact hi
      have t1 : chG f now i = true → chG f now (i + 1) = true := fun h => by rw [chG, h, Bool.true_or]
      have t2 : chG f now i = false → chG f now (i + 1) = !(eqBs (outB f now i) (gd s_alias_Base now i)) := fun h => by rw [chG, h, Bool.false_or]
      by_cases hp : ptrR f (i : Int) = true
      · have hN : nextF ((tOf f.1, f.2.1, z f.2.2.1, f.2.2.2.1, f.2.2.2.2.1, ()), defsF f, now, ()) (i : Int) = outB f now i := (if_pos hp).symm
        have hpre : preN ((tOf f.1, f.2.1, z f.2.2.1, f.2.2.2.1, f.2.2.2.2.1, ()), defsF f, now, ()) (z (i : Int)) := ⟨hs, hn, good_defs f, hp⟩
        simp only [wp_iff, chk_iff, know_iff, any_iff, rt_iff, hd_iff, true_imp_iff, true_and, and_true, and_self, lt01, Int.ofNat_lt, Int.ofNat_le, Int.natCast_nonneg, Int.toNat_natCast, decide_true, decide_false, Bool.true_eq_false, Bool.false_eq_true, false_imp_iff, Nat.lt_irrefl, imp_self, implies_true,  hi, outT_ln, hP, hp, hN, hpre, outT_st, outT_gd hi, hin, wrapS hi hl]
        refine fun _ => ⟨fun h => ?_, fun h => ?_⟩
        · rw [t1 h] at ih
          exact ih
        · rw [t2 h] at ih
          exact ih
      · have hp' : ptrR f (i : Int) = false := by cases hq : ptrR f (i : Int) with | true => exact absurd hq hp | false => rfl
        have hO : outB f now i = zB := if_neg hp
        have hT := outT_z hO
        rw [hT]
        simp only [wp_iff, chk_iff, know_iff, any_iff, rt_iff, hd_iff, true_imp_iff, true_and, and_true, and_self, lt01, Int.ofNat_lt, Int.ofNat_le, Int.natCast_nonneg, Int.toNat_natCast, decide_true, decide_false, Bool.true_eq_false, Bool.false_eq_true, false_imp_iff, Nat.lt_irrefl, imp_self, implies_true,  hi, outT_ln, hP, hp', outT_gd hi, hin, wrapS hi hl]
        refine ⟨fun h => ?_, fun h => ?_⟩
        · rw [t1 h] at ih
          exact ih
        · rw [t2 h] at ih
          exact ih)
def finL (f : Fn) (p : Bool × List Bs) : List Bs := tab s_alias_Base (nR f) (finB f p.1 p.2)
theorem cl_l (f : Fn) (hs : smallF f) (hl : nR f ≤ 4194304) : ∀ k, k ≤ 8 * (nR f + 1) → ∀ now, okNow f now → Runs E_A8 (alias_Bases_cl1_L0 (k : Nat) (tOf f.1) f.2.1 (z f.2.2.1) f.2.2.2.1 f.2.2.2.2.1 (defsF f) now) (fun x h => x = .tv (.sl 32 s_alias_Base) (finL f (basesGo f k now)) ∧ h = [])
  | 0, _, now, hn => .tree E_A8_ok (alias_Bases_cl1_L0_t _ _ _ _ _ _ _ _) (by
    have h0 := fin_l f (by omega) false now 0 (Nat.zero_le _)
    rw [← finT_0 hn.1] at h0
    refine wp_cond (fun h => absurd (of_decide_eq_true h) (by omega)) (fun _ => ?_)
    rw [hn.1]
    exact h0)
  | k + 1, hk, now, hn => .tree E_A8_ok (alias_Bases_cl1_L0_t _ _ _ _ _ _ _ _) (by
    refine wp_cond (fun _ => ?_) (fun h => absurd (of_decide_eq_false h) (by omega))
    have ih := cl_l f hs hl k (by omega) (rndF f now) (okNow_rnd hn)
    have h0 := fin_l f (by omega) true (rndF f now) 0 (Nat.zero_le _)
    rw [← finT_0 (okNow_rnd hn).1] at h0
    have hr := rnd_l f hs (by omega) now hn ((k + 1 : Nat) : Int) (fun x h => x = .tv (.sl 32 s_alias_Base) (finL f (basesGo f (k + 1) now)) ∧ h = []) (fun h => by
      rw [show IntKind.wrap .i64 (((k + 1 : Nat) : Int) - 1) = ((k : Nat) : Int) by rw [wrap64 _ (by omega) (by omega)]; omega]
      have e : basesGo f (k + 1) now = basesGo f k (rndF f now) := if_pos h
      rw [e]
      exact ih) (fun h => by
      have e : basesGo f (k + 1) now = (true, rndF f now) := if_neg (by rw [h]; decide)
      rw [e]
      exact h0) 0 (Nat.zero_le _)
    rw [← outT_0] at hr
    have e1 : ln s_alias_Base (List.replicate (nR f) (dz s_alias_Base)) = nR f := by show (List.replicate _ _).length = _; simp
    rw [hn.1]
    have e2 : ln I f.2.2.2.1 = nR f := rfl
    simp only [wp_iff, chk_iff, know_iff, any_iff, rt_iff, hd_iff, true_imp_iff, true_and, and_true, and_self, lt01, Int.ofNat_lt, Int.ofNat_le, Int.natCast_nonneg, Int.toNat_natCast, decide_true, decide_false, Bool.true_eq_false, Bool.false_eq_true, false_imp_iff, Nat.lt_irrefl, imp_self, implies_true,  e1]
    exact ⟨by unfold roomB; omega, fun _ => hr⟩)
def k_alias_Bases : Con := con [.d s_api_Func] (.sl 32 s_alias_Base) (fun x => smallF x.1) fun x => basesF x.1
theorem m_alias_Bases (f : Den s_api_Func) (h_f : okD s_api_Func f) (hp : smallF f) : Runs E_A8 (start E_A8 f_alias_Bases [(.tv s_api_Func f)]) (fun r_ h_ => r_ = (.tv (.sl 32 s_alias_Base) (basesF f)) ∧ h_ = []) := .tree E_A8_ok (alias_Bases_t f) (by
  simp only [wp_iff, chk_iff, know_iff, any_iff, rt_iff, hd_iff, true_imp_iff, true_and, and_true, and_self, lt01]
  have h1 := sz_func f
  have h2 := sz_I f.2.2.2.1
  have e2 : ln I f.2.2.2.1 = nR f := rfl
  have hl : nR f ≤ 1048576 := by
    unfold smallF at hp
    omega
  refine ⟨hp, fun _ => ⟨by omega, fun _ => ⟨by unfold roomB; omega, fun _ _ => ?_⟩⟩⟩
  have := cl_l f hp (by omega) (8 * (nR f + 1)) (Nat.le_refl _) (zeros f) (okNow_zeros f)
  rw [show IntKind.wrap .i64 (8 * IntKind.wrap .i64 ((ln I f.2.2.2.1 : Int) + 1)) = ((8 * (nR f + 1) : Nat) : Int) by
    rw [show IntKind.wrap .i64 ((ln I f.2.2.2.1 : Int) + 1) = (ln I f.2.2.2.1 : Int) + 1 from wrap64 _ (by omega) (by omega), wrap64 _ (by omega) (by omega)]
    omega]
  exact this)
theorem c_alias_Bases : SpecOK E_A8 f_alias_Bases k_alias_Bases.spec := spec_of fun x hx hp => ⟨rfl, m_alias_Bases x.1 hx.1 hp⟩
def L_A8 : List (FuncId × FSpec) := [(f_alias_Bases, k_alias_Bases.spec)] ++ L_A7
theorem L_A8_ok : ∀ x ∈ L_A8, SpecOK (ctx []) x.1 x.2 := by
  unfold L_A8
  simp only [List.cons_append, List.nil_append, List.forall_mem_cons]
  exact ⟨c_alias_Bases, L_A7_ok⟩
end Burn.M27N
namespace Burn.M27N
open Go Go.BE Go.Proofs
set_option maxRecDepth 100000
set_option linter.unusedVariables false
set_option linter.unusedSimpArgs false
open Burn.Cfg Burn.Intn Burn.Ref
noncomputable abbrev E_A9 : Ctx := ctx L_A8
def noneL (_ : Fn) (_ _ : Bs) : Bool := false

def k_alias_local : Con := con [.d s_api_Func, .d s_alias_Base, .d s_alias_Base] .bool (fun x => False) fun x => noneL x.1 x.2.1 x.2.2.1
theorem c_alias_local : SpecOK E_A9 f_alias_local k_alias_local.spec := spec_of fun x hx hp => hp.elim
def L_A9 : List (FuncId × FSpec) := [(f_alias_local, k_alias_local.spec)] ++ L_A8
theorem L_A9_ok : ∀ x ∈ L_A9, SpecOK (ctx []) x.1 x.2 := by
  unfold L_A9
  simp only [List.cons_append, List.nil_append, List.forall_mem_cons]
  exact ⟨c_alias_local, L_A8_ok⟩
end Burn.M27N
namespace Burn.M27N
open Go Go.BE Go.Proofs
set_option maxRecDepth 100000
set_option linter.unusedVariables false
set_option linter.unusedSimpArgs false
open Burn.Cfg Burn.Intn Burn.Ref
noncomputable abbrev E_A10 : Ctx := ctx L_A9
theorem E_A10_ok : EOK E_A10 := ctx_ok L_A9_ok
def cuts_A10 : CutL := []
def rets_A10 : FuncId → List (Option Fx)
  | _ => []
def H_A10 : Hints := { cut := cutOf cuts_A10, ret := rets_A10 }
theorem alias_Relate_t (f : Den s_api_Func) (a : Den s_alias_Base) (b : Den s_alias_Base) (cellsA : Int) (cellsB : Int) : run E_A10 H_A10 f_alias_Relate 3000 (start E_A10 f_alias_Relate [(.tv s_api_Func f), (.tv s_alias_Base a), (.tv s_alias_Base b), (vi cellsA), (vi cellsB)]) = (cond (decide (cellsA < (1 : Int))) (rt (vi (1 : Int)) []) (cond (decide (cellsB < (1 : Int))) (rt (vi (1 : Int)) []) (.chk ((0 : Nat) < (1 : Nat)) (cond (decide ((z a.1) ≥ (1 : Int))) (cond (!(decide ((z a.1) ≤ (3 : Int)))) (rt (vi (2 : Int)) []) (.chk ((0 : Nat) < (1 : Nat)) (cond (decide ((z b.1) ≥ (1 : Int))) (cond (!(decide ((z b.1) ≤ (3 : Int)))) (rt (vi (2 : Int)) []) (.chk ((0 : Nat) < (1 : Nat)) (.chk ((0 : Nat) < (1 : Nat)) (cond ((z a.1) == (z b.1)) (.chk ((0 : Nat) < (1 : Nat)) (.chk ((0 : Nat) < (1 : Nat)) (cond ((z a.2.1) == (z b.2.1)) (.chk ((0 : Nat) < (1 : Nat)) (cond (bOf a.2.2.2.1) (.chk ((0 : Nat) < (1 : Nat)) (cond (bOf b.2.2.2.1) (.chk ((0 : Nat) < (1 : Nat)) (.chk ((0 : Nat) < (1 : Nat)) (cond ((z a.2.2.1) == (z b.2.2.1)) (cond (cellsA == cellsB) (rt (vi (3 : Int)) []) (.chk ((0 : Nat) < (1 : Nat)) (.chk ((0 : Nat) < (1 : Nat)) (.chk (True) (.know True (cond (!(overP a.2.2.1 b.2.2.1 cellsA cellsB)) (rt (vi (1 : Int)) []) (rt (vi (2 : Int)) []))))))) (.chk ((0 : Nat) < (1 : Nat)) (.chk ((0 : Nat) < (1 : Nat)) (.chk (True) (.know True (cond (!(overP a.2.2.1 b.2.2.1 cellsA cellsB)) (rt (vi (1 : Int)) []) (rt (vi (2 : Int)) []))))))))) (.chk ((0 : Nat) < (1 : Nat)) (.chk ((0 : Nat) < (1 : Nat)) (cond ((z a.1) == (z b.1)) (.chk ((0 : Nat) < (1 : Nat)) (.chk ((0 : Nat) < (1 : Nat)) (cond ((z a.2.1) == (z b.2.1)) (rt (vi (2 : Int)) []) (.chk ((0 : Nat) < (1 : Nat)) (.chk ((0 : Nat) < (1 : Nat)) (.chk ((1 ≤ z a.1 ∧ z a.1 ≤ 3) ∧ 1 ≤ z b.1 ∧ z b.1 ≤ 3) (.know (okD (.int .i64) (kindsP a.1 b.1)) (cond ((kindsP a.1 b.1) != (0 : Int)) (rt (vi (kindsP a.1 b.1)) []) (.chk ((0 : Nat) < (1 : Nat)) (cond ((z a.1) == (3 : Int)) (.chk ((0 : Nat) < (1 : Nat)) (.chk ((0 : Nat) < (1 : Nat)) (.chk ((0 : Nat) < (1 : Nat)) (.chk ((0 : Nat) < (1 : Nat)) (.chk ((0 : Nat) < (1 : Nat)) (.chk ((0 : Nat) < (1 : Nat)) (.chk (False) (.know True (cond (noneL f b a) (rt (vi (1 : Int)) []) (rt (vi (2 : Int)) [])))))))))) (.chk ((0 : Nat) < (1 : Nat)) (.chk ((0 : Nat) < (1 : Nat)) (.chk (False) (.know True (cond (noneL f a b) (rt (vi (1 : Int)) []) (rt (vi (2 : Int)) [])))))))))))))))) (.chk ((0 : Nat) < (1 : Nat)) (.chk ((0 : Nat) < (1 : Nat)) (.chk ((1 ≤ z a.1 ∧ z a.1 ≤ 3) ∧ 1 ≤ z b.1 ∧ z b.1 ≤ 3) (.know (okD (.int .i64) (kindsP a.1 b.1)) (cond ((kindsP a.1 b.1) != (0 : Int)) (rt (vi (kindsP a.1 b.1)) []) (.chk ((0 : Nat) < (1 : Nat)) (cond ((z a.1) == (3 : Int)) (.chk ((0 : Nat) < (1 : Nat)) (.chk ((0 : Nat) < (1 : Nat)) (.chk ((0 : Nat) < (1 : Nat)) (.chk ((0 : Nat) < (1 : Nat)) (.chk ((0 : Nat) < (1 : Nat)) (.chk ((0 : Nat) < (1 : Nat)) (.chk (False) (.know True (cond (noneL f b a) (rt (vi (1 : Int)) []) (rt (vi (2 : Int)) [])))))))))) (.chk ((0 : Nat) < (1 : Nat)) (.chk ((0 : Nat) < (1 : Nat)) (.chk (False) (.know True (cond (noneL f a b) (rt (vi (1 : Int)) []) (rt (vi (2 : Int)) [])))))))))))))))))) (.chk ((0 : Nat) < (1 : Nat)) (.chk ((0 : Nat) < (1 : Nat)) (cond ((z a.1) == (z b.1)) (.chk ((0 : Nat) < (1 : Nat)) (.chk ((0 : Nat) < (1 : Nat)) (cond ((z a.2.1) == (z b.2.1)) (rt (vi (2 : Int)) []) (.chk ((0 : Nat) < (1 : Nat)) (.chk ((0 : Nat) < (1 : Nat)) (.chk ((1 ≤ z a.1 ∧ z a.1 ≤ 3) ∧ 1 ≤ z b.1 ∧ z b.1 ≤ 3) (.know (okD (.int .i64) (kindsP a.1 b.1)) (cond ((kindsP a.1 b.1) != (0 : Int)) (rt (vi (kindsP a.1 b.1)) []) (.chk ((0 : Nat) < (1 : Nat)) (cond ((z a.1) == (3 : Int)) (.chk ((0 : Nat) < (1 : Nat)) (.chk ((0 : Nat) < (1 : Nat)) (.chk ((0 : Nat) < (1 : Nat)) (.chk ((0 : Nat) < (1 : Nat)) (.chk ((0 : Nat) < (1 : Nat)) (.chk ((0 : Nat) < (1 : Nat)) (.chk (False) (.know True (cond (noneL f b a) (rt (vi (1 : Int)) []) (rt (vi (2 : Int)) [])))))))))) (.chk ((0 : Nat) < (1 : Nat)) (.chk ((0 : Nat) < (1 : Nat)) (.chk (False) (.know True (cond (noneL f a b) (rt (vi (1 : Int)) []) (rt (vi (2 : Int)) [])))))))))))))))) (.chk ((0 : Nat) < (1 : Nat)) (.chk ((0 : Nat) < (1 : Nat)) (.chk ((1 ≤ z a.1 ∧ z a.1 ≤ 3) ∧ 1 ≤ z b.1 ∧ z b.1 ≤ 3) (.know (okD (.int .i64) (kindsP a.1 b.1)) (cond ((kindsP a.1 b.1) != (0 : Int)) (rt (vi (kindsP a.1 b.1)) []) (.chk ((0 : Nat) < (1 : Nat)) (cond ((z a.1) == (3 : Int)) (.chk ((0 : Nat) < (1 : Nat)) (.chk ((0 : Nat) < (1 : Nat)) (.chk ((0 : Nat) < (1 : Nat)) (.chk ((0 : Nat) < (1 : Nat)) (.chk ((0 : Nat) < (1 : Nat)) (.chk ((0 : Nat) < (1 : Nat)) (.chk (False) (.know True (cond (noneL f b a) (rt (vi (1 : Int)) []) (rt (vi (2 : Int)) [])))))))))) (.chk ((0 : Nat) < (1 : Nat)) (.chk ((0 : Nat) < (1 : Nat)) (.chk (False) (.know True (cond (noneL f a b) (rt (vi (1 : Int)) []) (rt (vi (2 : Int)) [])))))))))))))))))) (.chk ((0 : Nat) < (1 : Nat)) (.chk ((0 : Nat) < (1 : Nat)) (cond ((z a.1) == (z b.1)) (.chk ((0 : Nat) < (1 : Nat)) (.chk ((0 : Nat) < (1 : Nat)) (cond ((z a.2.1) == (z b.2.1)) (rt (vi (2 : Int)) []) (.chk ((0 : Nat) < (1 : Nat)) (.chk ((0 : Nat) < (1 : Nat)) (.chk ((1 ≤ z a.1 ∧ z a.1 ≤ 3) ∧ 1 ≤ z b.1 ∧ z b.1 ≤ 3) (.know (okD (.int .i64) (kindsP a.1 b.1)) (cond ((kindsP a.1 b.1) != (0 : Int)) (rt (vi (kindsP a.1 b.1)) []) (.chk ((0 : Nat) < (1 : Nat)) (cond ((z a.1) == (3 : Int)) (.chk ((0 : Nat) < (1 : Nat)) (.chk ((0 : Nat) < (1 : Nat)) (.chk ((0 : Nat) < (1 : Nat)) (.chk ((0 : Nat) < (1 : Nat)) (.chk ((0 : Nat) < (1 : Nat)) (.chk ((0 : Nat) < (1 : Nat)) (.chk (False) (.know True (cond (noneL f b a) (rt (vi (1 : Int)) []) (rt (vi (2 : Int)) [])))))))))) (.chk ((0 : Nat) < (1 : Nat)) (.chk ((0 : Nat) < (1 : Nat)) (.chk (False) (.know True (cond (noneL f a b) (rt (vi (1 : Int)) []) (rt (vi (2 : Int)) [])))))))))))))))) (.chk ((0 : Nat) < (1 : Nat)) (.chk ((0 : Nat) < (1 : Nat)) (.chk ((1 ≤ z a.1 ∧ z a.1 ≤ 3) ∧ 1 ≤ z b.1 ∧ z b.1 ≤ 3) (.know (okD (.int .i64) (kindsP a.1 b.1)) (cond ((kindsP a.1 b.1) != (0 : Int)) (rt (vi (kindsP a.1 b.1)) []) (.chk ((0 : Nat) < (1 : Nat)) (cond ((z a.1) == (3 : Int)) (.chk ((0 : Nat) < (1 : Nat)) (.chk ((0 : Nat) < (1 : Nat)) (.chk ((0 : Nat) < (1 : Nat)) (.chk ((0 : Nat) < (1 : Nat)) (.chk ((0 : Nat) < (1 : Nat)) (.chk ((0 : Nat) < (1 : Nat)) (.chk (False) (.know True (cond (noneL f b a) (rt (vi (1 : Int)) []) (rt (vi (2 : Int)) [])))))))))) (.chk ((0 : Nat) < (1 : Nat)) (.chk ((0 : Nat) < (1 : Nat)) (.chk (False) (.know True (cond (noneL f a b) (rt (vi (1 : Int)) []) (rt (vi (2 : Int)) []))))))))))))))))))) (.chk ((0 : Nat) < (1 : Nat)) (.chk ((0 : Nat) < (1 : Nat)) (cond ((z a.1) == (z b.1)) (.chk ((0 : Nat) < (1 : Nat)) (.chk ((0 : Nat) < (1 : Nat)) (cond ((z a.2.1) == (z b.2.1)) (rt (vi (2 : Int)) []) (.chk ((0 : Nat) < (1 : Nat)) (.chk ((0 : Nat) < (1 : Nat)) (.chk ((1 ≤ z a.1 ∧ z a.1 ≤ 3) ∧ 1 ≤ z b.1 ∧ z b.1 ≤ 3) (.know (okD (.int .i64) (kindsP a.1 b.1)) (cond ((kindsP a.1 b.1) != (0 : Int)) (rt (vi (kindsP a.1 b.1)) []) (.chk ((0 : Nat) < (1 : Nat)) (cond ((z a.1) == (3 : Int)) (.chk ((0 : Nat) < (1 : Nat)) (.chk ((0 : Nat) < (1 : Nat)) (.chk ((0 : Nat) < (1 : Nat)) (.chk ((0 : Nat) < (1 : Nat)) (.chk ((0 : Nat) < (1 : Nat)) (.chk ((0 : Nat) < (1 : Nat)) (.chk (False) (.know True (cond (noneL f b a) (rt (vi (1 : Int)) []) (rt (vi (2 : Int)) [])))))))))) (.chk ((0 : Nat) < (1 : Nat)) (.chk ((0 : Nat) < (1 : Nat)) (.chk (False) (.know True (cond (noneL f a b) (rt (vi (1 : Int)) []) (rt (vi (2 : Int)) [])))))))))))))))) (.chk ((0 : Nat) < (1 : Nat)) (.chk ((0 : Nat) < (1 : Nat)) (.chk ((1 ≤ z a.1 ∧ z a.1 ≤ 3) ∧ 1 ≤ z b.1 ∧ z b.1 ≤ 3) (.know (okD (.int .i64) (kindsP a.1 b.1)) (cond ((kindsP a.1 b.1) != (0 : Int)) (rt (vi (kindsP a.1 b.1)) []) (.chk ((0 : Nat) < (1 : Nat)) (cond ((z a.1) == (3 : Int)) (.chk ((0 : Nat) < (1 : Nat)) (.chk ((0 : Nat) < (1 : Nat)) (.chk ((0 : Nat) < (1 : Nat)) (.chk ((0 : Nat) < (1 : Nat)) (.chk ((0 : Nat) < (1 : Nat)) (.chk ((0 : Nat) < (1 : Nat)) (.chk (False) (.know True (cond (noneL f b a) (rt (vi (1 : Int)) []) (rt (vi (2 : Int)) [])))))))))) (.chk ((0 : Nat) < (1 : Nat)) (.chk ((0 : Nat) < (1 : Nat)) (.chk (False) (.know True (cond (noneL f a b) (rt (vi (1 : Int)) []) (rt (vi (2 : Int)) [])))))))))))))))))))) (rt (vi (2 : Int)) [])))) (rt (vi (2 : Int)) []))))) := by kernel_rfl
theorem alias_access_t (f : Den s_api_Func) (at_ : Den s_api_Pos) : run E_A10 H_A10 f_alias_access 3000 (start E_A10 f_alias_access [(.tv s_api_Func f), (.tv s_api_Pos at_)]) = (cond (decide ((z at_.1) < (0 : Int))) (rt (.tup [(vi (0 : Int)), (vi (0 : Int)), (vb false)]) []) (cond (decide ((z at_.1) ≥ ((ln s_api_Block f.2.2.2.2.1) : Int))) (rt (.tup [(vi (0 : Int)), (vi (0 : Int)), (vb false)]) []) (cond (decide ((z at_.2.1) < (0 : Int))) (rt (.tup [(vi (0 : Int)), (vi (0 : Int)), (vb false)]) []) (.chk (0 ≤ (z at_.1) ∧ (z at_.1) < (ln s_api_Block f.2.2.2.2.1)) (cond (decide ((z at_.2.1) ≥ ((ln s_api_Instr (((gd s_api_Block f.2.2.2.2.1 (((z at_.1)).toNat)).2).1)) : Int))) (rt (.tup [(vi (0 : Int)), (vi (0 : Int)), (vb false)]) []) (.chk (0 ≤ (z at_.1) ∧ (z at_.1) < (ln s_api_Block f.2.2.2.2.1)) (.chk (0 ≤ (z at_.2.1) ∧ (z at_.2.1) < (ln s_api_Instr (((gd s_api_Block f.2.2.2.2.1 (((z at_.1)).toNat)).2).1))) (.chk (0 ≤ z (0 : Int)) (.chk (0 ≤ z (1 : Int)) (.know (okD (.int .i64) (argP (gd s_api_Instr (((gd s_api_Block f.2.2.2.2.1 (((z at_.1)).toNat)).2).1) (((z at_.2.1)).toNat)) (0 : Int))) (.know (okD (.int .i64) (argP (gd s_api_Instr (((gd s_api_Block f.2.2.2.2.1 (((z at_.1)).toNat)).2).1) (((z at_.2.1)).toNat)) (1 : Int))) (cond ((z ((gd s_api_Instr (((gd s_api_Block f.2.2.2.2.1 (((z at_.1)).toNat)).2).1) (((z at_.2.1)).toNat)).1)) == (28 : Int)) (.chk (True) (.know (okAVs [(vi (z ((accP ((gd s_api_Instr (((gd s_api_Block f.2.2.2.2.1 (((z at_.1)).toNat)).2).1) (((z at_.2.1)).toNat)).2).1).1))), (vi (z ((accP ((gd s_api_Instr (((gd s_api_Block f.2.2.2.2.1 (((z at_.1)).toNat)).2).1) (((z at_.2.1)).toNat)).2).1).2)))]) (cond (decide ((z ((accP ((gd s_api_Instr (((gd s_api_Block f.2.2.2.2.1 (((z at_.1)).toNat)).2).1) (((z at_.2.1)).toNat)).2).1).2)) > (0 : Int))) (cond (decide ((argP (gd s_api_Instr (((gd s_api_Block f.2.2.2.2.1 (((z at_.1)).toNat)).2).1) (((z at_.2.1)).toNat)) (0 : Int)) ≥ (0 : Int))) (cond (decide ((argP (gd s_api_Instr (((gd s_api_Block f.2.2.2.2.1 (((z at_.1)).toNat)).2).1) (((z at_.2.1)).toNat)) (0 : Int)) < ((ln I f.2.2.2.1) : Int))) (.chk (0 ≤ (argP (gd s_api_Instr (((gd s_api_Block f.2.2.2.2.1 (((z at_.1)).toNat)).2).1) (((z at_.2.1)).toNat)) (0 : Int)) ∧ (argP (gd s_api_Instr (((gd s_api_Block f.2.2.2.2.1 (((z at_.1)).toNat)).2).1) (((z at_.2.1)).toNat)) (0 : Int)) < (ln I f.2.2.2.1)) (rt (.tup [(vi (argP (gd s_api_Instr (((gd s_api_Block f.2.2.2.2.1 (((z at_.1)).toNat)).2).1) (((z at_.2.1)).toNat)) (0 : Int))), (vi (z (((gd s_api_Instr (((gd s_api_Block f.2.2.2.2.1 (((z at_.1)).toNat)).2).1) (((z at_.2.1)).toNat)).2).1))), (vb ((z (gd I f.2.2.2.1 (((argP (gd s_api_Instr (((gd s_api_Block f.2.2.2.2.1 (((z at_.1)).toNat)).2).1) (((z at_.2.1)).toNat)) (0 : Int))).toNat))) == (5 : Int)))]) [])) (rt (.tup [(vi (argP (gd s_api_Instr (((gd s_api_Block f.2.2.2.2.1 (((z at_.1)).toNat)).2).1) (((z at_.2.1)).toNat)) (0 : Int))), (vi (z (((gd s_api_Instr (((gd s_api_Block f.2.2.2.2.1 (((z at_.1)).toNat)).2).1) (((z at_.2.1)).toNat)).2).1))), (vb false)]) [])) (rt (.tup [(vi (argP (gd s_api_Instr (((gd s_api_Block f.2.2.2.2.1 (((z at_.1)).toNat)).2).1) (((z at_.2.1)).toNat)) (0 : Int))), (vi (z (((gd s_api_Instr (((gd s_api_Block f.2.2.2.2.1 (((z at_.1)).toNat)).2).1) (((z at_.2.1)).toNat)).2).1))), (vb false)]) [])) (rt (.tup [(vi (argP (gd s_api_Instr (((gd s_api_Block f.2.2.2.2.1 (((z at_.1)).toNat)).2).1) (((z at_.2.1)).toNat)) (0 : Int))), (vi (z (((gd s_api_Instr (((gd s_api_Block f.2.2.2.2.1 (((z at_.1)).toNat)).2).1) (((z at_.2.1)).toNat)).2).1))), (vb false)]) [])))) (cond ((z ((gd s_api_Instr (((gd s_api_Block f.2.2.2.2.1 (((z at_.1)).toNat)).2).1) (((z at_.2.1)).toNat)).1)) == (29 : Int)) (cond (decide ((argP (gd s_api_Instr (((gd s_api_Block f.2.2.2.2.1 (((z at_.1)).toNat)).2).1) (((z at_.2.1)).toNat)) (1 : Int)) < (0 : Int))) (rt (.tup [(vi (0 : Int)), (vi (0 : Int)), (vb false)]) []) (cond (decide ((argP (gd s_api_Instr (((gd s_api_Block f.2.2.2.2.1 (((z at_.1)).toNat)).2).1) (((z at_.2.1)).toNat)) (1 : Int)) ≥ ((ln I f.2.2.2.1) : Int))) (rt (.tup [(vi (0 : Int)), (vi (0 : Int)), (vb false)]) []) (.chk (0 ≤ (argP (gd s_api_Instr (((gd s_api_Block f.2.2.2.2.1 (((z at_.1)).toNat)).2).1) (((z at_.2.1)).toNat)) (1 : Int)) ∧ (argP (gd s_api_Instr (((gd s_api_Block f.2.2.2.2.1 (((z at_.1)).toNat)).2).1) (((z at_.2.1)).toNat)) (1 : Int)) < (ln I f.2.2.2.1)) (.chk (True) (.know (okAVs [(vi (z ((accP (gd I f.2.2.2.1 (((argP (gd s_api_Instr (((gd s_api_Block f.2.2.2.2.1 (((z at_.1)).toNat)).2).1) (((z at_.2.1)).toNat)) (1 : Int))).toNat))).1))), (vi (z ((accP (gd I f.2.2.2.1 (((argP (gd s_api_Instr (((gd s_api_Block f.2.2.2.2.1 (((z at_.1)).toNat)).2).1) (((z at_.2.1)).toNat)) (1 : Int))).toNat))).2)))]) (cond (decide ((z ((accP (gd I f.2.2.2.1 (((argP (gd s_api_Instr (((gd s_api_Block f.2.2.2.2.1 (((z at_.1)).toNat)).2).1) (((z at_.2.1)).toNat)) (1 : Int))).toNat))).2)) > (0 : Int))) (cond (decide ((argP (gd s_api_Instr (((gd s_api_Block f.2.2.2.2.1 (((z at_.1)).toNat)).2).1) (((z at_.2.1)).toNat)) (0 : Int)) ≥ (0 : Int))) (cond (decide ((argP (gd s_api_Instr (((gd s_api_Block f.2.2.2.2.1 (((z at_.1)).toNat)).2).1) (((z at_.2.1)).toNat)) (0 : Int)) < ((ln I f.2.2.2.1) : Int))) (.chk (0 ≤ (argP (gd s_api_Instr (((gd s_api_Block f.2.2.2.2.1 (((z at_.1)).toNat)).2).1) (((z at_.2.1)).toNat)) (0 : Int)) ∧ (argP (gd s_api_Instr (((gd s_api_Block f.2.2.2.2.1 (((z at_.1)).toNat)).2).1) (((z at_.2.1)).toNat)) (0 : Int)) < (ln I f.2.2.2.1)) (rt (.tup [(vi (argP (gd s_api_Instr (((gd s_api_Block f.2.2.2.2.1 (((z at_.1)).toNat)).2).1) (((z at_.2.1)).toNat)) (0 : Int))), (vi (z (gd I f.2.2.2.1 (((argP (gd s_api_Instr (((gd s_api_Block f.2.2.2.2.1 (((z at_.1)).toNat)).2).1) (((z at_.2.1)).toNat)) (1 : Int))).toNat)))), (vb ((z (gd I f.2.2.2.1 (((argP (gd s_api_Instr (((gd s_api_Block f.2.2.2.2.1 (((z at_.1)).toNat)).2).1) (((z at_.2.1)).toNat)) (0 : Int))).toNat))) == (5 : Int)))]) [])) (rt (.tup [(vi (argP (gd s_api_Instr (((gd s_api_Block f.2.2.2.2.1 (((z at_.1)).toNat)).2).1) (((z at_.2.1)).toNat)) (0 : Int))), (vi (z (gd I f.2.2.2.1 (((argP (gd s_api_Instr (((gd s_api_Block f.2.2.2.2.1 (((z at_.1)).toNat)).2).1) (((z at_.2.1)).toNat)) (1 : Int))).toNat)))), (vb false)]) [])) (rt (.tup [(vi (argP (gd s_api_Instr (((gd s_api_Block f.2.2.2.2.1 (((z at_.1)).toNat)).2).1) (((z at_.2.1)).toNat)) (0 : Int))), (vi (z (gd I f.2.2.2.1 (((argP (gd s_api_Instr (((gd s_api_Block f.2.2.2.2.1 (((z at_.1)).toNat)).2).1) (((z at_.2.1)).toNat)) (1 : Int))).toNat)))), (vb false)]) [])) (rt (.tup [(vi (argP (gd s_api_Instr (((gd s_api_Block f.2.2.2.2.1 (((z at_.1)).toNat)).2).1) (((z at_.2.1)).toNat)) (0 : Int))), (vi (z (gd I f.2.2.2.1 (((argP (gd s_api_Instr (((gd s_api_Block f.2.2.2.2.1 (((z at_.1)).toNat)).2).1) (((z at_.2.1)).toNat)) (1 : Int))).toNat)))), (vb false)]) []))))))) (rt (.tup [(vi (0 : Int)), (vi (0 : Int)), (vb false)]) [])))))))))))))) := by kernel_rfl
def preR (a b : Bs) : Prop := (z a.1 = z b.1 ∧ z a.2.1 = z b.2.1) ∨ (z a.1 ≠ 3 ∧ z b.1 ≠ 3)
theorem kinds_le {a b : Int} (h : (1 ≤ a ∧ a ≤ 3) ∧ 1 ≤ b ∧ b ≤ 3) (h2 : a ≠ 3 ∧ b ≠ 3) : kindsP a b ≠ 0 := by
  obtain ⟨⟨a1, a2⟩, b1, b2⟩ := h
  have ha : a = 1 ∨ a = 2 := by omega
  have hb : b = 1 ∨ b = 2 := by omega
  rcases ha with rfl | rfl <;> rcases hb with rfl | rfl <;> decide
theorem noLocal {a b : Bs} (hp : preR a b) (h1 : (1 ≤ z a.1 ∧ z a.1 ≤ 3) ∧ 1 ≤ z b.1 ∧ z b.1 ≤ 3) (h3 : z a.1 ≠ z b.1 ∨ z a.2.1 ≠ z b.2.1) (h2 : kindsP a.1 b.1 = 0) : False := by
  rcases hp with hp | hp
  · omega
  · exact kinds_le h1 hp h2
def relP (f : Den s_api_Func) (a : Den s_alias_Base) (b : Den s_alias_Base) (cellsA : Int) (cellsB : Int) : Int := (cond (decide (cellsA < (1 : Int))) (1 : Int) (cond (decide (cellsB < (1 : Int))) (1 : Int) (cond (decide ((z a.1) ≥ (1 : Int))) (cond (!(decide ((z a.1) ≤ (3 : Int)))) (2 : Int) (cond (decide ((z b.1) ≥ (1 : Int))) (cond (!(decide ((z b.1) ≤ (3 : Int)))) (2 : Int) (cond ((z a.1) == (z b.1)) (cond ((z a.2.1) == (z b.2.1)) (cond (bOf a.2.2.2.1) (cond (bOf b.2.2.2.1) (cond ((z a.2.2.1) == (z b.2.2.1)) (cond (cellsA == cellsB) (3 : Int) (cond (!(overP a.2.2.1 b.2.2.1 cellsA cellsB)) (1 : Int) (2 : Int))) (cond (!(overP a.2.2.1 b.2.2.1 cellsA cellsB)) (1 : Int) (2 : Int))) (cond ((z a.1) == (z b.1)) (cond ((z a.2.1) == (z b.2.1)) (2 : Int) (cond ((kindsP a.1 b.1) != (0 : Int)) (kindsP a.1 b.1) (cond ((z a.1) == (3 : Int)) (cond (noneL f b a) (1 : Int) (2 : Int)) (cond (noneL f a b) (1 : Int) (2 : Int))))) (cond ((kindsP a.1 b.1) != (0 : Int)) (kindsP a.1 b.1) (cond ((z a.1) == (3 : Int)) (cond (noneL f b a) (1 : Int) (2 : Int)) (cond (noneL f a b) (1 : Int) (2 : Int)))))) (cond ((z a.1) == (z b.1)) (cond ((z a.2.1) == (z b.2.1)) (2 : Int) (cond ((kindsP a.1 b.1) != (0 : Int)) (kindsP a.1 b.1) (cond ((z a.1) == (3 : Int)) (cond (noneL f b a) (1 : Int) (2 : Int)) (cond (noneL f a b) (1 : Int) (2 : Int))))) (cond ((kindsP a.1 b.1) != (0 : Int)) (kindsP a.1 b.1) (cond ((z a.1) == (3 : Int)) (cond (noneL f b a) (1 : Int) (2 : Int)) (cond (noneL f a b) (1 : Int) (2 : Int)))))) (cond ((z a.1) == (z b.1)) (cond ((z a.2.1) == (z b.2.1)) (2 : Int) (cond ((kindsP a.1 b.1) != (0 : Int)) (kindsP a.1 b.1) (cond ((z a.1) == (3 : Int)) (cond (noneL f b a) (1 : Int) (2 : Int)) (cond (noneL f a b) (1 : Int) (2 : Int))))) (cond ((kindsP a.1 b.1) != (0 : Int)) (kindsP a.1 b.1) (cond ((z a.1) == (3 : Int)) (cond (noneL f b a) (1 : Int) (2 : Int)) (cond (noneL f a b) (1 : Int) (2 : Int)))))) (cond ((z a.1) == (z b.1)) (cond ((z a.2.1) == (z b.2.1)) (2 : Int) (cond ((kindsP a.1 b.1) != (0 : Int)) (kindsP a.1 b.1) (cond ((z a.1) == (3 : Int)) (cond (noneL f b a) (1 : Int) (2 : Int)) (cond (noneL f a b) (1 : Int) (2 : Int))))) (cond ((kindsP a.1 b.1) != (0 : Int)) (kindsP a.1 b.1) (cond ((z a.1) == (3 : Int)) (cond (noneL f b a) (1 : Int) (2 : Int)) (cond (noneL f a b) (1 : Int) (2 : Int))))))) (2 : Int))) (2 : Int))))

def k_alias_Relate : Con := con [.d s_api_Func, .d s_alias_Base, .d s_alias_Base, .d I, .d I] I (fun x => preR x.2.1 x.2.2.1) fun x => relP x.1 x.2.1 x.2.2.1 x.2.2.2.1 x.2.2.2.2.1
theorem m_alias_Relate (f : Den s_api_Func) (a : Den s_alias_Base) (b : Den s_alias_Base) (cellsA : Int) (cellsB : Int) (h_f : okD s_api_Func f) (h_a : okD s_alias_Base a) (h_b : okD s_alias_Base b) (h_cellsA : okD I cellsA) (h_cellsB : okD I cellsB) (hp : preR a b) : Runs E_A10 (start E_A10 f_alias_Relate [(.tv s_api_Func f), (.tv s_alias_Base a), (.tv s_alias_Base b), (vi cellsA), (vi cellsB)]) (fun r_ h_ => r_ = (vi (relP f a b cellsA cellsB)) ∧ h_ = []) := .tree E_A10_ok (alias_Relate_t f a b cellsA cellsB) (by
  have hp_ := hp
  try simp only [z] at hp_
  refine wp_cond (fun h1 => ?_) (fun h1 => ?_)
  · have h1_ := of_decide_eq_true h1
    exact ⟨by simp only [relP, h1, cond_true, cond_false], rfl⟩
  · have h1_ := of_decide_eq_false h1
    refine wp_cond (fun h2 => ?_) (fun h2 => ?_)
    · have h2_ := of_decide_eq_true h2
      exact ⟨by simp only [relP, h1, h2, cond_true, cond_false], rfl⟩
    · have h2_ := of_decide_eq_false h2
      refine ⟨Nat.zero_lt_one, fun _ => ?_⟩
      refine wp_cond (fun h3 => ?_) (fun h3 => ?_)
      · have h3_ := of_decide_eq_true h3
        refine wp_cond (fun h4 => ?_) (fun h4 => ?_)
        · have h4_ := of_decide_eq_false (by simpa only [Bool.not_eq_true', Bool.not_eq_false'] using h4)
          exact ⟨by simp only [relP, h1, h2, h3, h4, cond_true, cond_false], rfl⟩
        · have h4_ := of_decide_eq_true (by simpa only [Bool.not_eq_true', Bool.not_eq_false'] using h4)
          refine ⟨Nat.zero_lt_one, fun _ => ?_⟩
          refine wp_cond (fun h5 => ?_) (fun h5 => ?_)
          · have h5_ := of_decide_eq_true h5
            refine wp_cond (fun h6 => ?_) (fun h6 => ?_)
            · have h6_ := of_decide_eq_false (by simpa only [Bool.not_eq_true', Bool.not_eq_false'] using h6)
              exact ⟨by simp only [relP, h1, h2, h3, h4, h5, h6, cond_true, cond_false], rfl⟩
            · have h6_ := of_decide_eq_true (by simpa only [Bool.not_eq_true', Bool.not_eq_false'] using h6)
              refine ⟨Nat.zero_lt_one, fun _ => ?_⟩
              refine ⟨Nat.zero_lt_one, fun _ => ?_⟩
              refine wp_cond (fun h7 => ?_) (fun h7 => ?_)
              · have h7_ := beq_t h7
                refine ⟨Nat.zero_lt_one, fun _ => ?_⟩
                refine ⟨Nat.zero_lt_one, fun _ => ?_⟩
                refine wp_cond (fun h8 => ?_) (fun h8 => ?_)
                · have h8_ := beq_t h8
                  refine ⟨Nat.zero_lt_one, fun _ => ?_⟩
                  refine wp_cond (fun h9 => ?_) (fun h9 => ?_)
                  · refine ⟨Nat.zero_lt_one, fun _ => ?_⟩
                    refine wp_cond (fun h10 => ?_) (fun h10 => ?_)
                    · refine ⟨Nat.zero_lt_one, fun _ => ?_⟩
                      refine ⟨Nat.zero_lt_one, fun _ => ?_⟩
                      refine wp_cond (fun h11 => ?_) (fun h11 => ?_)
                      · have h11_ := beq_t h11
                        refine wp_cond (fun h12 => ?_) (fun h12 => ?_)
                        · have h12_ := beq_t h12
                          exact ⟨by simp only [relP, h1, h2, h3, h4, h5, h6, h7, h8, h9, h10, h11, h12, cond_true, cond_false], rfl⟩
                        · have h12_ := beq_f h12
                          refine ⟨Nat.zero_lt_one, fun _ => ?_⟩
                          refine ⟨Nat.zero_lt_one, fun _ => ?_⟩
                          refine ⟨trivial, fun _ => ?_⟩
                          refine fun _ => ?_
                          refine wp_cond (fun h13 => ?_) (fun h13 => ?_)
                          · exact ⟨by simp only [relP, h1, h2, h3, h4, h5, h6, h7, h8, h9, h10, h11, h12, h13, cond_true, cond_false], rfl⟩
                          · exact ⟨by simp only [relP, h1, h2, h3, h4, h5, h6, h7, h8, h9, h10, h11, h12, h13, cond_true, cond_false], rfl⟩
                      · have h11_ := beq_f h11
                        refine ⟨Nat.zero_lt_one, fun _ => ?_⟩
                        refine ⟨Nat.zero_lt_one, fun _ => ?_⟩
                        refine ⟨trivial, fun _ => ?_⟩
                        refine fun _ => ?_
                        refine wp_cond (fun h14 => ?_) (fun h14 => ?_)
                        · exact ⟨by simp only [relP, h1, h2, h3, h4, h5, h6, h7, h8, h9, h10, h11, h14, cond_true, cond_false], rfl⟩
                        · exact ⟨by simp only [relP, h1, h2, h3, h4, h5, h6, h7, h8, h9, h10, h11, h14, cond_true, cond_false], rfl⟩
                    · refine ⟨Nat.zero_lt_one, fun _ => ?_⟩
                      refine ⟨Nat.zero_lt_one, fun _ => ?_⟩
                      refine wp_cond (fun _ => ?_) (fun h15 => absurd (h7.symm.trans h15) (by decide))
                      refine ⟨Nat.zero_lt_one, fun _ => ?_⟩
                      refine ⟨Nat.zero_lt_one, fun _ => ?_⟩
                      refine wp_cond (fun _ => ?_) (fun h16 => absurd (h8.symm.trans h16) (by decide))
                      exact ⟨by simp only [relP, h1, h2, h3, h4, h5, h6, h7, h8, h9, h10, cond_true, cond_false], rfl⟩
                  · refine ⟨Nat.zero_lt_one, fun _ => ?_⟩
                    refine ⟨Nat.zero_lt_one, fun _ => ?_⟩
                    refine wp_cond (fun _ => ?_) (fun h17 => absurd (h7.symm.trans h17) (by decide))
                    refine ⟨Nat.zero_lt_one, fun _ => ?_⟩
                    refine ⟨Nat.zero_lt_one, fun _ => ?_⟩
                    refine wp_cond (fun _ => ?_) (fun h18 => absurd (h8.symm.trans h18) (by decide))
                    exact ⟨by simp only [relP, h1, h2, h3, h4, h5, h6, h7, h8, h9, cond_true, cond_false], rfl⟩
                · have h8_ := beq_f h8
                  refine ⟨Nat.zero_lt_one, fun _ => ?_⟩
                  refine ⟨Nat.zero_lt_one, fun _ => ?_⟩
                  refine wp_cond (fun _ => ?_) (fun h19 => absurd (h7.symm.trans h19) (by decide))
                  refine ⟨Nat.zero_lt_one, fun _ => ?_⟩
                  refine ⟨Nat.zero_lt_one, fun _ => ?_⟩
                  refine wp_cond (fun h20 => absurd (h8.symm.trans h20) (by decide)) (fun _ => ?_)
                  refine ⟨Nat.zero_lt_one, fun _ => ?_⟩
                  refine ⟨Nat.zero_lt_one, fun _ => ?_⟩
                  refine ⟨by first | omega | exact (noLocal hp (by constructor <;> omega) (by omega) (by omega)) | (have g_ := noLocal hp (by constructor <;> omega) (by omega) (by omega); omega) | assumption | exact hp.1 | exact hp.2 | exact hp.2.1 | (simp_all; done) | (simp_all; omega), fun _ => ?_⟩
                  refine fun _ => ?_
                  refine wp_cond (fun h21 => ?_) (fun h21 => ?_)
                  · have h21_ := bne_t h21
                    exact ⟨by simp only [relP, h1, h2, h3, h4, h5, h6, h7, h8, h21, cond_true, cond_false], rfl⟩
                  · have h21_ := bne_f h21
                    refine ⟨Nat.zero_lt_one, fun _ => ?_⟩
                    refine wp_cond (fun h22 => ?_) (fun h22 => ?_)
                    · have h22_ := beq_t h22
                      refine ⟨Nat.zero_lt_one, fun _ => ?_⟩
                      refine ⟨Nat.zero_lt_one, fun _ => ?_⟩
                      refine ⟨Nat.zero_lt_one, fun _ => ?_⟩
                      refine ⟨Nat.zero_lt_one, fun _ => ?_⟩
                      refine ⟨Nat.zero_lt_one, fun _ => ?_⟩
                      refine ⟨Nat.zero_lt_one, fun _ => ?_⟩
                      refine ⟨by first | omega | exact (noLocal hp (by constructor <;> omega) (by omega) (by omega)) | (have g_ := noLocal hp (by constructor <;> omega) (by omega) (by omega); omega) | assumption | exact hp.1 | exact hp.2 | exact hp.2.1 | (simp_all; done) | (simp_all; omega), fun _ => ?_⟩
                      refine fun _ => ?_
                      refine wp_cond (fun h23 => ?_) (fun h23 => ?_)
                      · exact ⟨by simp only [relP, h1, h2, h3, h4, h5, h6, h7, h8, h21, h22, h23, cond_true, cond_false], rfl⟩
                      · exact ⟨by simp only [relP, h1, h2, h3, h4, h5, h6, h7, h8, h21, h22, h23, cond_true, cond_false], rfl⟩
                    · have h22_ := beq_f h22
                      refine ⟨Nat.zero_lt_one, fun _ => ?_⟩
                      refine ⟨Nat.zero_lt_one, fun _ => ?_⟩
                      refine ⟨by first | omega | exact (noLocal hp (by constructor <;> omega) (by omega) (by omega)) | (have g_ := noLocal hp (by constructor <;> omega) (by omega) (by omega); omega) | assumption | exact hp.1 | exact hp.2 | exact hp.2.1 | (simp_all; done) | (simp_all; omega), fun _ => ?_⟩
                      refine fun _ => ?_
                      refine wp_cond (fun h24 => ?_) (fun h24 => ?_)
                      · exact ⟨by simp only [relP, h1, h2, h3, h4, h5, h6, h7, h8, h21, h22, h24, cond_true, cond_false], rfl⟩
                      · exact ⟨by simp only [relP, h1, h2, h3, h4, h5, h6, h7, h8, h21, h22, h24, cond_true, cond_false], rfl⟩
              · have h7_ := beq_f h7
                refine ⟨Nat.zero_lt_one, fun _ => ?_⟩
                refine ⟨Nat.zero_lt_one, fun _ => ?_⟩
                refine wp_cond (fun h25 => absurd (h7.symm.trans h25) (by decide)) (fun _ => ?_)
                refine ⟨Nat.zero_lt_one, fun _ => ?_⟩
                refine ⟨Nat.zero_lt_one, fun _ => ?_⟩
                refine ⟨by first | omega | exact (noLocal hp (by constructor <;> omega) (by omega) (by omega)) | (have g_ := noLocal hp (by constructor <;> omega) (by omega) (by omega); omega) | assumption | exact hp.1 | exact hp.2 | exact hp.2.1 | (simp_all; done) | (simp_all; omega), fun _ => ?_⟩
                refine fun _ => ?_
                refine wp_cond (fun h26 => ?_) (fun h26 => ?_)
                · have h26_ := bne_t h26
                  exact ⟨by simp only [relP, h1, h2, h3, h4, h5, h6, h7, h26, cond_true, cond_false], rfl⟩
                · have h26_ := bne_f h26
                  refine ⟨Nat.zero_lt_one, fun _ => ?_⟩
                  refine wp_cond (fun h27 => ?_) (fun h27 => ?_)
                  · have h27_ := beq_t h27
                    refine ⟨Nat.zero_lt_one, fun _ => ?_⟩
                    refine ⟨Nat.zero_lt_one, fun _ => ?_⟩
                    refine ⟨Nat.zero_lt_one, fun _ => ?_⟩
                    refine ⟨Nat.zero_lt_one, fun _ => ?_⟩
                    refine ⟨Nat.zero_lt_one, fun _ => ?_⟩
                    refine ⟨Nat.zero_lt_one, fun _ => ?_⟩
                    refine ⟨by first | omega | exact (noLocal hp (by constructor <;> omega) (by omega) (by omega)) | (have g_ := noLocal hp (by constructor <;> omega) (by omega) (by omega); omega) | assumption | exact hp.1 | exact hp.2 | exact hp.2.1 | (simp_all; done) | (simp_all; omega), fun _ => ?_⟩
                    refine fun _ => ?_
                    refine wp_cond (fun h28 => ?_) (fun h28 => ?_)
                    · exact ⟨by simp only [relP, h1, h2, h3, h4, h5, h6, h7, h26, h27, h28, cond_true, cond_false], rfl⟩
                    · exact ⟨by simp only [relP, h1, h2, h3, h4, h5, h6, h7, h26, h27, h28, cond_true, cond_false], rfl⟩
                  · have h27_ := beq_f h27
                    refine ⟨Nat.zero_lt_one, fun _ => ?_⟩
                    refine ⟨Nat.zero_lt_one, fun _ => ?_⟩
                    refine ⟨by first | omega | exact (noLocal hp (by constructor <;> omega) (by omega) (by omega)) | (have g_ := noLocal hp (by constructor <;> omega) (by omega) (by omega); omega) | assumption | exact hp.1 | exact hp.2 | exact hp.2.1 | (simp_all; done) | (simp_all; omega), fun _ => ?_⟩
                    refine fun _ => ?_
                    refine wp_cond (fun h29 => ?_) (fun h29 => ?_)
                    · exact ⟨by simp only [relP, h1, h2, h3, h4, h5, h6, h7, h26, h27, h29, cond_true, cond_false], rfl⟩
                    · exact ⟨by simp only [relP, h1, h2, h3, h4, h5, h6, h7, h26, h27, h29, cond_true, cond_false], rfl⟩
          · have h5_ := of_decide_eq_false h5
            exact ⟨by simp only [relP, h1, h2, h3, h4, h5, cond_true, cond_false], rfl⟩
      · have h3_ := of_decide_eq_false h3
        exact ⟨by simp only [relP, h1, h2, h3, cond_true, cond_false], rfl⟩)
theorem c_alias_Relate : SpecOK E_A10 f_alias_Relate k_alias_Relate.spec := spec_of fun x hx hp => ⟨rfl, m_alias_Relate x.1 x.2.1 x.2.2.1 x.2.2.2.1 x.2.2.2.2.1 hx.1 hx.2.1 hx.2.2.1 hx.2.2.2.1 hx.2.2.2.2.1 hp⟩
def acsP (f : Den s_api_Func) (at_ : Den s_api_Pos) : Den I × Den I × Den .bool := (cond (decide ((z at_.1) < (0 : Int))) ((0 : Int), (0 : Int), false) (cond (decide ((z at_.1) ≥ ((ln s_api_Block f.2.2.2.2.1) : Int))) ((0 : Int), (0 : Int), false) (cond (decide ((z at_.2.1) < (0 : Int))) ((0 : Int), (0 : Int), false) (cond (decide ((z at_.2.1) ≥ ((ln s_api_Instr (((gd s_api_Block f.2.2.2.2.1 (((z at_.1)).toNat)).2).1)) : Int))) ((0 : Int), (0 : Int), false) (cond ((z ((gd s_api_Instr (((gd s_api_Block f.2.2.2.2.1 (((z at_.1)).toNat)).2).1) (((z at_.2.1)).toNat)).1)) == (28 : Int)) (cond (decide ((z ((accP ((gd s_api_Instr (((gd s_api_Block f.2.2.2.2.1 (((z at_.1)).toNat)).2).1) (((z at_.2.1)).toNat)).2).1).2)) > (0 : Int))) (cond (decide ((argP (gd s_api_Instr (((gd s_api_Block f.2.2.2.2.1 (((z at_.1)).toNat)).2).1) (((z at_.2.1)).toNat)) (0 : Int)) ≥ (0 : Int))) (cond (decide ((argP (gd s_api_Instr (((gd s_api_Block f.2.2.2.2.1 (((z at_.1)).toNat)).2).1) (((z at_.2.1)).toNat)) (0 : Int)) < ((ln I f.2.2.2.1) : Int))) ((argP (gd s_api_Instr (((gd s_api_Block f.2.2.2.2.1 (((z at_.1)).toNat)).2).1) (((z at_.2.1)).toNat)) (0 : Int)), (z (((gd s_api_Instr (((gd s_api_Block f.2.2.2.2.1 (((z at_.1)).toNat)).2).1) (((z at_.2.1)).toNat)).2).1)), ((z (gd I f.2.2.2.1 (((argP (gd s_api_Instr (((gd s_api_Block f.2.2.2.2.1 (((z at_.1)).toNat)).2).1) (((z at_.2.1)).toNat)) (0 : Int))).toNat))) == (5 : Int))) ((argP (gd s_api_Instr (((gd s_api_Block f.2.2.2.2.1 (((z at_.1)).toNat)).2).1) (((z at_.2.1)).toNat)) (0 : Int)), (z (((gd s_api_Instr (((gd s_api_Block f.2.2.2.2.1 (((z at_.1)).toNat)).2).1) (((z at_.2.1)).toNat)).2).1)), false)) ((argP (gd s_api_Instr (((gd s_api_Block f.2.2.2.2.1 (((z at_.1)).toNat)).2).1) (((z at_.2.1)).toNat)) (0 : Int)), (z (((gd s_api_Instr (((gd s_api_Block f.2.2.2.2.1 (((z at_.1)).toNat)).2).1) (((z at_.2.1)).toNat)).2).1)), false)) ((argP (gd s_api_Instr (((gd s_api_Block f.2.2.2.2.1 (((z at_.1)).toNat)).2).1) (((z at_.2.1)).toNat)) (0 : Int)), (z (((gd s_api_Instr (((gd s_api_Block f.2.2.2.2.1 (((z at_.1)).toNat)).2).1) (((z at_.2.1)).toNat)).2).1)), false)) (cond ((z ((gd s_api_Instr (((gd s_api_Block f.2.2.2.2.1 (((z at_.1)).toNat)).2).1) (((z at_.2.1)).toNat)).1)) == (29 : Int)) (cond (decide ((argP (gd s_api_Instr (((gd s_api_Block f.2.2.2.2.1 (((z at_.1)).toNat)).2).1) (((z at_.2.1)).toNat)) (1 : Int)) < (0 : Int))) ((0 : Int), (0 : Int), false) (cond (decide ((argP (gd s_api_Instr (((gd s_api_Block f.2.2.2.2.1 (((z at_.1)).toNat)).2).1) (((z at_.2.1)).toNat)) (1 : Int)) ≥ ((ln I f.2.2.2.1) : Int))) ((0 : Int), (0 : Int), false) (cond (decide ((z ((accP (gd I f.2.2.2.1 (((argP (gd s_api_Instr (((gd s_api_Block f.2.2.2.2.1 (((z at_.1)).toNat)).2).1) (((z at_.2.1)).toNat)) (1 : Int))).toNat))).2)) > (0 : Int))) (cond (decide ((argP (gd s_api_Instr (((gd s_api_Block f.2.2.2.2.1 (((z at_.1)).toNat)).2).1) (((z at_.2.1)).toNat)) (0 : Int)) ≥ (0 : Int))) (cond (decide ((argP (gd s_api_Instr (((gd s_api_Block f.2.2.2.2.1 (((z at_.1)).toNat)).2).1) (((z at_.2.1)).toNat)) (0 : Int)) < ((ln I f.2.2.2.1) : Int))) ((argP (gd s_api_Instr (((gd s_api_Block f.2.2.2.2.1 (((z at_.1)).toNat)).2).1) (((z at_.2.1)).toNat)) (0 : Int)), (z (gd I f.2.2.2.1 (((argP (gd s_api_Instr (((gd s_api_Block f.2.2.2.2.1 (((z at_.1)).toNat)).2).1) (((z at_.2.1)).toNat)) (1 : Int))).toNat))), ((z (gd I f.2.2.2.1 (((argP (gd s_api_Instr (((gd s_api_Block f.2.2.2.2.1 (((z at_.1)).toNat)).2).1) (((z at_.2.1)).toNat)) (0 : Int))).toNat))) == (5 : Int))) ((argP (gd s_api_Instr (((gd s_api_Block f.2.2.2.2.1 (((z at_.1)).toNat)).2).1) (((z at_.2.1)).toNat)) (0 : Int)), (z (gd I f.2.2.2.1 (((argP (gd s_api_Instr (((gd s_api_Block f.2.2.2.2.1 (((z at_.1)).toNat)).2).1) (((z at_.2.1)).toNat)) (1 : Int))).toNat))), false)) ((argP (gd s_api_Instr (((gd s_api_Block f.2.2.2.2.1 (((z at_.1)).toNat)).2).1) (((z at_.2.1)).toNat)) (0 : Int)), (z (gd I f.2.2.2.1 (((argP (gd s_api_Instr (((gd s_api_Block f.2.2.2.2.1 (((z at_.1)).toNat)).2).1) (((z at_.2.1)).toNat)) (1 : Int))).toNat))), false)) ((argP (gd s_api_Instr (((gd s_api_Block f.2.2.2.2.1 (((z at_.1)).toNat)).2).1) (((z at_.2.1)).toNat)) (0 : Int)), (z (gd I f.2.2.2.1 (((argP (gd s_api_Instr (((gd s_api_Block f.2.2.2.2.1 (((z at_.1)).toNat)).2).1) (((z at_.2.1)).toNat)) (1 : Int))).toNat))), false)))) ((0 : Int), (0 : Int), false)))))))

def k_alias_access : Con := conT3 [.d s_api_Func, .d s_api_Pos] I I .bool (fun x => True) fun x => acsP x.1 x.2.1
theorem m_alias_access (f : Den s_api_Func) (at_ : Den s_api_Pos) (h_f : okD s_api_Func f) (h_at_ : okD s_api_Pos at_) (hp : True) : Runs E_A10 (start E_A10 f_alias_access [(.tv s_api_Func f), (.tv s_api_Pos at_)]) (fun r_ h_ => r_ = (.tup [(vi (z ((acsP f at_).1))), (vi (z (((acsP f at_).2).1))), (vb (bOf (((acsP f at_).2).2)))]) ∧ h_ = []) := .tree E_A10_ok (alias_access_t f at_) (by
  refine wp_cond (fun h1 => ?_) (fun h1 => ?_)
  · have h1_ := of_decide_eq_true h1
    exact ⟨by simp only [acsP, h1, cond_true, cond_false], rfl⟩
  · have h1_ := of_decide_eq_false h1
    refine wp_cond (fun h2 => ?_) (fun h2 => ?_)
    · have h2_ := of_decide_eq_true h2
      exact ⟨by simp only [acsP, h1, h2, cond_true, cond_false], rfl⟩
    · have h2_ := of_decide_eq_false h2
      refine wp_cond (fun h3 => ?_) (fun h3 => ?_)
      · have h3_ := of_decide_eq_true h3
        exact ⟨by simp only [acsP, h1, h2, h3, cond_true, cond_false], rfl⟩
      · have h3_ := of_decide_eq_false h3
        refine ⟨by first | omega | assumption | exact hp.1 | exact hp.2 | exact hp.2.1 | (simp_all; done) | (simp_all; omega), fun _ => ?_⟩
        refine wp_cond (fun h4 => ?_) (fun h4 => ?_)
        · have h4_ := of_decide_eq_true h4
          exact ⟨by simp only [acsP, h1, h2, h3, h4, cond_true, cond_false], rfl⟩
        · have h4_ := of_decide_eq_false h4
          refine ⟨by first | omega | assumption | exact hp.1 | exact hp.2 | exact hp.2.1 | (simp_all; done) | (simp_all; omega), fun _ => ?_⟩
          refine ⟨by first | omega | assumption | exact hp.1 | exact hp.2 | exact hp.2.1 | (simp_all; done) | (simp_all; omega), fun _ => ?_⟩
          refine ⟨by first | omega | assumption | exact hp.1 | exact hp.2 | exact hp.2.1 | (simp_all; done) | (simp_all; omega), fun _ => ?_⟩
          refine ⟨by first | omega | assumption | exact hp.1 | exact hp.2 | exact hp.2.1 | (simp_all; done) | (simp_all; omega), fun _ => ?_⟩
          refine fun _ => ?_
          refine fun _ => ?_
          refine wp_cond (fun h5 => ?_) (fun h5 => ?_)
          · have h5_ := beq_t h5
            refine ⟨trivial, fun _ => ?_⟩
            refine fun _ => ?_
            refine wp_cond (fun h6 => ?_) (fun h6 => ?_)
            · have h6_ := of_decide_eq_true h6
              refine wp_cond (fun h7 => ?_) (fun h7 => ?_)
              · have h7_ := of_decide_eq_true h7
                refine wp_cond (fun h8 => ?_) (fun h8 => ?_)
                · have h8_ := of_decide_eq_true h8
                  refine ⟨by first | omega | assumption | exact hp.1 | exact hp.2 | exact hp.2.1 | (simp_all; done) | (simp_all; omega), fun _ => ?_⟩
                  exact ⟨by simp only [acsP, h1, h2, h3, h4, h5, h6, h7, h8, cond_true, cond_false], rfl⟩
                · have h8_ := of_decide_eq_false h8
                  exact ⟨by simp only [acsP, h1, h2, h3, h4, h5, h6, h7, h8, cond_true, cond_false], rfl⟩
              · have h7_ := of_decide_eq_false h7
                exact ⟨by simp only [acsP, h1, h2, h3, h4, h5, h6, h7, cond_true, cond_false], rfl⟩
            · have h6_ := of_decide_eq_false h6
              exact ⟨by simp only [acsP, h1, h2, h3, h4, h5, h6, cond_true, cond_false], rfl⟩
          · have h5_ := beq_f h5
            refine wp_cond (fun h9 => ?_) (fun h9 => ?_)
            · have h9_ := beq_t h9
              refine wp_cond (fun h10 => ?_) (fun h10 => ?_)
              · have h10_ := of_decide_eq_true h10
                exact ⟨by simp only [acsP, h1, h2, h3, h4, h5, h9, h10, cond_true, cond_false], rfl⟩
              · have h10_ := of_decide_eq_false h10
                refine wp_cond (fun h11 => ?_) (fun h11 => ?_)
                · have h11_ := of_decide_eq_true h11
                  exact ⟨by simp only [acsP, h1, h2, h3, h4, h5, h9, h10, h11, cond_true, cond_false], rfl⟩
                · have h11_ := of_decide_eq_false h11
                  refine ⟨by first | omega | assumption | exact hp.1 | exact hp.2 | exact hp.2.1 | (simp_all; done) | (simp_all; omega), fun _ => ?_⟩
                  refine ⟨trivial, fun _ => ?_⟩
                  refine fun _ => ?_
                  refine wp_cond (fun h12 => ?_) (fun h12 => ?_)
                  · have h12_ := of_decide_eq_true h12
                    refine wp_cond (fun h13 => ?_) (fun h13 => ?_)
                    · have h13_ := of_decide_eq_true h13
                      refine wp_cond (fun h14 => ?_) (fun h14 => ?_)
                      · have h14_ := of_decide_eq_true h14
                        refine ⟨by first | omega | assumption | exact hp.1 | exact hp.2 | exact hp.2.1 | (simp_all; done) | (simp_all; omega), fun _ => ?_⟩
                        exact ⟨by simp only [acsP, h1, h2, h3, h4, h5, h9, h10, h11, h12, h13, h14, cond_true, cond_false], rfl⟩
                      · have h14_ := of_decide_eq_false h14
                        exact ⟨by simp only [acsP, h1, h2, h3, h4, h5, h9, h10, h11, h12, h13, h14, cond_true, cond_false], rfl⟩
                    · have h13_ := of_decide_eq_false h13
                      exact ⟨by simp only [acsP, h1, h2, h3, h4, h5, h9, h10, h11, h12, h13, cond_true, cond_false], rfl⟩
                  · have h12_ := of_decide_eq_false h12
                    exact ⟨by simp only [acsP, h1, h2, h3, h4, h5, h9, h10, h11, h12, cond_true, cond_false], rfl⟩
            · have h9_ := beq_f h9
              exact ⟨by simp only [acsP, h1, h2, h3, h4, h5, h9, cond_true, cond_false], rfl⟩)
theorem c_alias_access : SpecOK E_A10 f_alias_access k_alias_access.spec := spec_of fun x hx hp => ⟨rfl, m_alias_access x.1 x.2.1 hx.1 hx.2.1 hp⟩
def L_A10 : List (FuncId × FSpec) := [(f_alias_Relate, k_alias_Relate.spec), (f_alias_access, k_alias_access.spec)] ++ L_A9
theorem L_A10_ok : ∀ x ∈ L_A10, SpecOK (ctx []) x.1 x.2 := by
  unfold L_A10
  simp only [List.cons_append, List.nil_append, List.forall_mem_cons]
  exact ⟨c_alias_Relate, c_alias_access, L_A9_ok⟩
end Burn.M27N
namespace Burn.M27N
open Go Go.BE Go.Proofs
set_option maxRecDepth 100000
set_option linter.unusedVariables false
set_option linter.unusedSimpArgs false
open Burn.Cfg Burn.Intn Burn.Ref
noncomputable abbrev E_A11 : Ctx := ctx L_A10
theorem E_A11_ok : EOK E_A11 := ctx_ok L_A10_ok
def cuts_A11 : CutL := []
def rets_A11 : FuncId → List (Option Fx)
  | _ => []
def H_A11 : Hints := { cut := cutOf cuts_A11, ret := rets_A11 }
theorem alias_Query_t (f : Den s_api_Func) (a : Den s_api_Pos) (b : Den s_api_Pos) : run E_A11 H_A11 f_alias_Query 3000 (start E_A11 f_alias_Query [(.tv s_api_Func f), (.tv s_api_Pos a), (.tv s_api_Pos b)]) = (.chk (True) (.know (okAVs [(vi (z ((acsP f a).1))), (vi (z (((acsP f a).2).1))), (vb (bOf (((acsP f a).2).2)))]) (.chk (True) (.know (okAVs [(vi (z ((acsP f b).1))), (vi (z (((acsP f b).2).1))), (vb (bOf (((acsP f b).2).2)))]) (cond (!(bOf (((acsP f a).2).2))) (rt (vi (0 : Int)) []) (cond (!(bOf (((acsP f b).2).2))) (rt (vi (0 : Int)) []) (.chk (True) (.know (okAVs [(vi (z ((accP ((acsP f a).2).1).1))), (vi (z ((accP ((acsP f a).2).1).2)))]) (.chk (True) (.know (okAVs [(vi (z ((accP ((acsP f b).2).1).1))), (vi (z ((accP ((acsP f b).2).1).2)))]) (cond ((z ((accP ((acsP f a).2).1).1)) != (z ((accP ((acsP f b).2).1).1))) (rt (vi (1 : Int)) []) (.chk (smallF f) (.know (okD (.sl 32 s_alias_Base) (basesF f)) (.chk (0 ≤ (z ((acsP f a).1)) ∧ (z ((acsP f a).1)) < (ln s_alias_Base (basesF f))) (.chk (0 ≤ (z ((acsP f b).1)) ∧ (z ((acsP f b).1)) < (ln s_alias_Base (basesF f))) (.chk (preR (gd s_alias_Base (basesF f) (((z ((acsP f a).1))).toNat)) (gd s_alias_Base (basesF f) (((z ((acsP f b).1))).toNat))) (.know (okD (.int .i64) (relP f (gd s_alias_Base (basesF f) (((z ((acsP f a).1))).toNat)) (gd s_alias_Base (basesF f) (((z ((acsP f b).1))).toNat)) (accP ((acsP f a).2).1).2 (accP ((acsP f b).2).1).2)) (rt (vi (relP f (gd s_alias_Base (basesF f) (((z ((acsP f a).1))).toNat)) (gd s_alias_Base (basesF f) (((z ((acsP f b).1))).toNat)) (accP ((acsP f a).2).1).2 (accP ((acsP f b).2).1).2)) [])))))))))))))))))) := by kernel_rfl
def regP (f : Fn) (p : Den s_api_Pos) : Int := z (acsP f p).1
def basP (f : Fn) (p : Den s_api_Pos) : Bs := gd s_alias_Base (basesF f) (regP f p).toNat
def preQ (f : Fn) (p q : Den s_api_Pos) : Prop := smallF f ∧ (0 ≤ regP f p ∧ regP f p < (ln s_alias_Base (basesF f) : Int)) ∧ (0 ≤ regP f q ∧ regP f q < (ln s_alias_Base (basesF f) : Int)) ∧ preR (basP f p) (basP f q)
instance (a b : Bs) : Decidable (preR a b) := inferInstanceAs (Decidable (_ ∨ _))
instance (f : Fn) : Decidable (smallF f) := inferInstanceAs (Decidable (_ ≤ _))
instance (f : Fn) (p q : Den s_api_Pos) : Decidable (preQ f p q) := inferInstanceAs (Decidable (_ ∧ _))
def qryP (f : Den s_api_Func) (a : Den s_api_Pos) (b : Den s_api_Pos) : Int := (cond (!(bOf (((acsP f a).2).2))) (0 : Int) (cond (!(bOf (((acsP f b).2).2))) (0 : Int) (cond ((z ((accP ((acsP f a).2).1).1)) != (z ((accP ((acsP f b).2).1).1))) (1 : Int) (relP f (gd s_alias_Base (basesF f) (((z ((acsP f a).1))).toNat)) (gd s_alias_Base (basesF f) (((z ((acsP f b).1))).toNat)) (accP ((acsP f a).2).1).2 (accP ((acsP f b).2).1).2))))

def k_alias_Query : Con := con [.d s_api_Func, .d s_api_Pos, .d s_api_Pos] I (fun x => preQ x.1 x.2.1 x.2.2.1) fun x => qryP x.1 x.2.1 x.2.2.1
theorem m_alias_Query (f : Den s_api_Func) (a : Den s_api_Pos) (b : Den s_api_Pos) (h_f : okD s_api_Func f) (h_a : okD s_api_Pos a) (h_b : okD s_api_Pos b) (hp : preQ f a b) : Runs E_A11 (start E_A11 f_alias_Query [(.tv s_api_Func f), (.tv s_api_Pos a), (.tv s_api_Pos b)]) (fun r_ h_ => r_ = (vi (qryP f a b)) ∧ h_ = []) := .tree E_A11_ok (alias_Query_t f a b) (by
  have hp_ := hp
  try simp only [z] at hp_
  refine ⟨trivial, fun _ => ?_⟩
  refine fun _ => ?_
  refine ⟨trivial, fun _ => ?_⟩
  refine fun _ => ?_
  refine wp_cond (fun h1 => ?_) (fun h1 => ?_)
  · exact ⟨by simp only [qryP, h1, cond_true, cond_false], rfl⟩
  · refine wp_cond (fun h2 => ?_) (fun h2 => ?_)
    · exact ⟨by simp only [qryP, h1, h2, cond_true, cond_false], rfl⟩
    · refine ⟨trivial, fun _ => ?_⟩
      refine fun _ => ?_
      refine ⟨trivial, fun _ => ?_⟩
      refine fun _ => ?_
      refine wp_cond (fun h3 => ?_) (fun h3 => ?_)
      · have h3_ := bne_t h3
        exact ⟨by simp only [qryP, h1, h2, h3, cond_true, cond_false], rfl⟩
      · have h3_ := bne_f h3
        refine ⟨by first | omega | exact (hp.1) | (have g_ := hp.1; omega) | exact (hp.2.1) | (have g_ := hp.2.1; omega) | exact (hp.2.2.1) | (have g_ := hp.2.2.1; omega) | exact (hp.2.2.2) | (have g_ := hp.2.2.2; omega) | assumption | exact hp.1 | exact hp.2 | exact hp.2.1 | (simp_all; done) | (simp_all; omega), fun _ => ?_⟩
        refine fun _ => ?_
        refine ⟨by first | omega | exact (hp.1) | (have g_ := hp.1; omega) | exact (hp.2.1) | (have g_ := hp.2.1; omega) | exact (hp.2.2.1) | (have g_ := hp.2.2.1; omega) | exact (hp.2.2.2) | (have g_ := hp.2.2.2; omega) | assumption | exact hp.1 | exact hp.2 | exact hp.2.1 | (simp_all; done) | (simp_all; omega), fun _ => ?_⟩
        refine ⟨by first | omega | exact (hp.1) | (have g_ := hp.1; omega) | exact (hp.2.1) | (have g_ := hp.2.1; omega) | exact (hp.2.2.1) | (have g_ := hp.2.2.1; omega) | exact (hp.2.2.2) | (have g_ := hp.2.2.2; omega) | assumption | exact hp.1 | exact hp.2 | exact hp.2.1 | (simp_all; done) | (simp_all; omega), fun _ => ?_⟩
        refine ⟨by first | omega | exact (hp.1) | (have g_ := hp.1; omega) | exact (hp.2.1) | (have g_ := hp.2.1; omega) | exact (hp.2.2.1) | (have g_ := hp.2.2.1; omega) | exact (hp.2.2.2) | (have g_ := hp.2.2.2; omega) | assumption | exact hp.1 | exact hp.2 | exact hp.2.1 | (simp_all; done) | (simp_all; omega), fun _ => ?_⟩
        refine fun _ => ?_
        exact ⟨by simp only [qryP, h1, h2, h3, cond_true, cond_false], rfl⟩)
theorem c_alias_Query : SpecOK E_A11 f_alias_Query k_alias_Query.spec := spec_of fun x hx hp => ⟨rfl, m_alias_Query x.1 x.2.1 x.2.2.1 hx.1 hx.2.1 hx.2.2.1 hp⟩
def L_A11 : List (FuncId × FSpec) := [(f_alias_Query, k_alias_Query.spec)] ++ L_A10
theorem L_A11_ok : ∀ x ∈ L_A11, SpecOK (ctx []) x.1 x.2 := by
  unfold L_A11
  simp only [List.cons_append, List.nil_append, List.forall_mem_cons]
  exact ⟨c_alias_Query, L_A10_ok⟩
end Burn.M27N

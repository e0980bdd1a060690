/- What the functions that the law reaches compute, one contract each. No conditions beyond those written. -/
import Derived.Test.YtfnbbidogehnfaaGreatDoorWalkA
namespace Burn.M24
open Go Go.BE Go.Proofs
set_option maxRecDepth 100000
set_option linter.unusedVariables false
set_option linter.unusedSimpArgs false
noncomputable abbrev E_X10 : Ctx := ctx L_X9 LI_X9
theorem E_X10_ok : EOK E_X10 := qcz L_X9_ok LI_X9_ok
def cuts_X10 : CutL := []
def rets_X10 : FuncId → List (Option Fx)
 | _ => []
def H_X10 : Hints := { cut := cutOf cuts_X10, ret := rets_X10 }
def H_X10_u_eqm : Hints := { H_X10 with unr := fun _ _ => true }
def H_X10_u_chk0 : Hints := { H_X10 with unr := fun _ _ => true }
def H_X10_u_chk1 : Hints := { H_X10 with unr := fun _ _ => true }
theorem eqm_t : run E_X10 H_X10_u_eqm qau 1000000 (start E_X10 qau [(.tv (.sl 8 I) ([(-1 : Int)] : List (Den I))), (.tv (.sl 8 I) ([(-1 : Int)] : List (Den I)))]) = (.chk (0 ≤ (0 : Int) ∧ (0 : Int) < (1 : Nat)) (.chk (0 ≤ (0 : Int) ∧ (0 : Int) < (1 : Nat)) (rt (vb true) []))) := by kernel_rfl
theorem chk0_t : run E_X10 H_X10_u_chk0 qby 1000000 (start E_X10 qby [(.tv qaq (([] : List (Den qar)), ([(⟨#[102]⟩, ([(0 : Int)] : List (Den I)), (3 : Int), ([(3 : Int)] : List (Den I)), ([(([] : List (Den I)), ([] : List (Den qah)), ((4 : Int), ([(0 : Int)] : List (Den I)), ([] : List (Den I)), ([] : List (Den qaf)), (0 : Int), ()), ())] : List (Den qad)), ())] : List (Den qai)), ())), (.tv qaq (([] : List (Den qar)), ([(⟨#[102]⟩, ([(0 : Int)] : List (Den I)), (3 : Int), ([(3 : Int)] : List (Den I)), ([(([] : List (Den I)), ([] : List (Den qah)), ((4 : Int), ([(0 : Int)] : List (Den I)), ([] : List (Den I)), ([] : List (Den qaf)), (0 : Int), ()), ())] : List (Den qad)), ())] : List (Den qai)), ())), (vi (0 : Int)), (.tv qae (([] : List (Den qak)), ([((0 : Int), (0 : Int), ([] : List (Den qab)), ())] : List (Den qac)), ([((0 : Int), ([(-1 : Int)] : List (Den I)), ([(-1 : Int)] : List (Den I)), (-1 : Int), ())] : List (Den qal)), ()))]) = (.chk (True) (.know (okD qay ((0 : Int), (0 : Int), (0 : Int), (0 : Int), (0 : Int), ())) (.chk (True) (.know (okD qay ((0 : Int), (0 : Int), (0 : Int), (0 : Int), (0 : Int), ())) (.chk (0 ≤ (0 : Int) ∧ (0 : Int) < (1 : Nat)) (.chk (0 ≤ (0 : Int) ∧ (0 : Int) < (1 : Nat)) (.chk (True) (.know True (.chk (0 ≤ (0 : Int) ∧ (0 : Int) < (1 : Nat)) (.chk (0 ≤ (0 : Int) ∧ (0 : Int) < (1 : Nat)) (.chk (0 ≤ (0 : Int) ∧ (0 : Int) < (1 : Nat)) (.chk (0 ≤ (0 : Int) ∧ (0 : Int) < (1 : Nat)) (.chk (0 ≤ (0 : Int) ∧ (0 : Int) < (1 : Nat)) (.chk (0 ≤ (0 : Int) ∧ (0 : Int) < (1 : Nat)) (.chk (0 ≤ (0 : Int) ∧ (0 : Int) < (1 : Nat)) (.chk (0 ≤ (0 : Int) ∧ (0 : Int) < (1 : Nat)) (.chk (0 ≤ (0 : Int) ∧ (0 : Int) < (1 : Nat)) (.chk (0 ≤ (0 : Int) ∧ (0 : Int) < (1 : Nat)) (.chk (0 ≤ (0 : Int) ∧ (0 : Int) < (1 : Nat)) (rt (vi (0 : Int)) [])))))))))))))))))))) := by kernel_rfl
theorem chk1_t : run E_X10 H_X10_u_chk1 qby 1000000 (start E_X10 qby [(.tv qaq (([] : List (Den qar)), ([(⟨#[102]⟩, ([(0 : Int)] : List (Den I)), (3 : Int), ([(3 : Int)] : List (Den I)), ([(([] : List (Den I)), ([] : List (Den qah)), ((4 : Int), ([(0 : Int)] : List (Den I)), ([] : List (Den I)), ([] : List (Den qaf)), (0 : Int), ()), ())] : List (Den qad)), ())] : List (Den qai)), ())), (.tv qaq (([] : List (Den qar)), ([(⟨#[102]⟩, ([(0 : Int)] : List (Den I)), (3 : Int), ([(3 : Int)] : List (Den I)), ([(([] : List (Den I)), ([] : List (Den qah)), ((4 : Int), ([(0 : Int)] : List (Den I)), ([] : List (Den I)), ([] : List (Den qaf)), (0 : Int), ()), ())] : List (Den qad)), ())] : List (Den qai)), ())), (vi (1 : Int)), (.tv qae (([] : List (Den qak)), ([((0 : Int), (0 : Int), ([] : List (Den qab)), ())] : List (Den qac)), ([((0 : Int), ([(-1 : Int)] : List (Den I)), ([(-1 : Int)] : List (Den I)), (-1 : Int), ())] : List (Den qal)), ()))]) = (.chk (True) (.know (okD qay ((0 : Int), (0 : Int), (0 : Int), (0 : Int), (0 : Int), ())) (.chk (True) (.know (okD qay ((0 : Int), (0 : Int), (0 : Int), (0 : Int), (0 : Int), ())) (rt (vi (2 : Int)) []))))) := by kernel_rfl
def k_eqm : LitC := { ps := [.d (.sl 8 I), .d (.sl 8 I)], L := (([(-1 : Int)] : List (Den I)), ([(-1 : Int)] : List (Den I)), ()), res := (vb true), roots := [] }
theorem m_eqm : Runs E_X10 (start E_X10 qau [(.tv (.sl 8 I) ([(-1 : Int)] : List (Den I))), (.tv (.sl 8 I) ([(-1 : Int)] : List (Den I)))]) (fun r_ h_ => r_ = (vb true) ∧ h_ = []) := .tree E_X10_ok eqm_t (by
 repeat (first | refine qdb ?_ | refine qev (by first | decide) ?_)
 exact ⟨rfl, rfl⟩)
theorem c_eqm : qat E_X10 qau k_eqm.spec := qfm rfl ⟨rfl, m_eqm⟩
def k_chk0 : LitC := { ps := [.d qaq, .d qaq, .d I, .d qae], L := ((([] : List (Den qar)), ([(⟨#[102]⟩, ([(0 : Int)] : List (Den I)), (3 : Int), ([(3 : Int)] : List (Den I)), ([(([] : List (Den I)), ([] : List (Den qah)), ((4 : Int), ([(0 : Int)] : List (Den I)), ([] : List (Den I)), ([] : List (Den qaf)), (0 : Int), ()), ())] : List (Den qad)), ())] : List (Den qai)), ()), (([] : List (Den qar)), ([(⟨#[102]⟩, ([(0 : Int)] : List (Den I)), (3 : Int), ([(3 : Int)] : List (Den I)), ([(([] : List (Den I)), ([] : List (Den qah)), ((4 : Int), ([(0 : Int)] : List (Den I)), ([] : List (Den I)), ([] : List (Den qaf)), (0 : Int), ()), ())] : List (Den qad)), ())] : List (Den qai)), ()), (0 : Int), (([] : List (Den qak)), ([((0 : Int), (0 : Int), ([] : List (Den qab)), ())] : List (Den qac)), ([((0 : Int), ([(-1 : Int)] : List (Den I)), ([(-1 : Int)] : List (Den I)), (-1 : Int), ())] : List (Den qal)), ()), ()), res := (vi (0 : Int)), roots := [] }
theorem m_chk0 : Runs E_X10 (start E_X10 qby [(.tv qaq (([] : List (Den qar)), ([(⟨#[102]⟩, ([(0 : Int)] : List (Den I)), (3 : Int), ([(3 : Int)] : List (Den I)), ([(([] : List (Den I)), ([] : List (Den qah)), ((4 : Int), ([(0 : Int)] : List (Den I)), ([] : List (Den I)), ([] : List (Den qaf)), (0 : Int), ()), ())] : List (Den qad)), ())] : List (Den qai)), ())), (.tv qaq (([] : List (Den qar)), ([(⟨#[102]⟩, ([(0 : Int)] : List (Den I)), (3 : Int), ([(3 : Int)] : List (Den I)), ([(([] : List (Den I)), ([] : List (Den qah)), ((4 : Int), ([(0 : Int)] : List (Den I)), ([] : List (Den I)), ([] : List (Den qaf)), (0 : Int), ()), ())] : List (Den qad)), ())] : List (Den qai)), ())), (vi (0 : Int)), (.tv qae (([] : List (Den qak)), ([((0 : Int), (0 : Int), ([] : List (Den qab)), ())] : List (Den qac)), ([((0 : Int), ([(-1 : Int)] : List (Den I)), ([(-1 : Int)] : List (Den I)), (-1 : Int), ())] : List (Den qal)), ()))]) (fun r_ h_ => r_ = (vi (0 : Int)) ∧ h_ = []) := .tree E_X10_ok chk0_t (by
 repeat (first | refine qdb ?_ | refine qev (by first | decide) ?_)
 exact ⟨rfl, rfl⟩)
theorem c_chk0 : qat E_X10 qby k_chk0.spec := qfm rfl ⟨rfl, m_chk0⟩
def k_chk1 : LitC := { ps := [.d qaq, .d qaq, .d I, .d qae], L := ((([] : List (Den qar)), ([(⟨#[102]⟩, ([(0 : Int)] : List (Den I)), (3 : Int), ([(3 : Int)] : List (Den I)), ([(([] : List (Den I)), ([] : List (Den qah)), ((4 : Int), ([(0 : Int)] : List (Den I)), ([] : List (Den I)), ([] : List (Den qaf)), (0 : Int), ()), ())] : List (Den qad)), ())] : List (Den qai)), ()), (([] : List (Den qar)), ([(⟨#[102]⟩, ([(0 : Int)] : List (Den I)), (3 : Int), ([(3 : Int)] : List (Den I)), ([(([] : List (Den I)), ([] : List (Den qah)), ((4 : Int), ([(0 : Int)] : List (Den I)), ([] : List (Den I)), ([] : List (Den qaf)), (0 : Int), ()), ())] : List (Den qad)), ())] : List (Den qai)), ()), (1 : Int), (([] : List (Den qak)), ([((0 : Int), (0 : Int), ([] : List (Den qab)), ())] : List (Den qac)), ([((0 : Int), ([(-1 : Int)] : List (Den I)), ([(-1 : Int)] : List (Den I)), (-1 : Int), ())] : List (Den qal)), ()), ()), res := (vi (2 : Int)), roots := [] }
theorem m_chk1 : Runs E_X10 (start E_X10 qby [(.tv qaq (([] : List (Den qar)), ([(⟨#[102]⟩, ([(0 : Int)] : List (Den I)), (3 : Int), ([(3 : Int)] : List (Den I)), ([(([] : List (Den I)), ([] : List (Den qah)), ((4 : Int), ([(0 : Int)] : List (Den I)), ([] : List (Den I)), ([] : List (Den qaf)), (0 : Int), ()), ())] : List (Den qad)), ())] : List (Den qai)), ())), (.tv qaq (([] : List (Den qar)), ([(⟨#[102]⟩, ([(0 : Int)] : List (Den I)), (3 : Int), ([(3 : Int)] : List (Den I)), ([(([] : List (Den I)), ([] : List (Den qah)), ((4 : Int), ([(0 : Int)] : List (Den I)), ([] : List (Den I)), ([] : List (Den qaf)), (0 : Int), ()), ())] : List (Den qad)), ())] : List (Den qai)), ())), (vi (1 : Int)), (.tv qae (([] : List (Den qak)), ([((0 : Int), (0 : Int), ([] : List (Den qab)), ())] : List (Den qac)), ([((0 : Int), ([(-1 : Int)] : List (Den I)), ([(-1 : Int)] : List (Den I)), (-1 : Int), ())] : List (Den qal)), ()))]) (fun r_ h_ => r_ = (vi (2 : Int)) ∧ h_ = []) := .tree E_X10_ok chk1_t (by
 repeat (first | refine qdb ?_ | refine qev (by first | decide) ?_)
 exact ⟨rfl, rfl⟩)
theorem c_chk1 : qat E_X10 qby k_chk1.spec := qfm rfl ⟨rfl, m_chk1⟩
def L_X10 : List (FuncId × FSpec) := [(qau, k_eqm.spec), (qby, k_chk0.spec), (qby, k_chk1.spec)] ++ L_X9
theorem L_X10_ok : ∀ x ∈ L_X10, qat (ctx []) x.1 x.2 := by
 unfold L_X10
 simp only [List.cons_append, List.nil_append, List.forall_mem_cons]
 exact ⟨c_eqm, c_chk0, c_chk1, L_X9_ok⟩
def LI_X10 : List IoT := [] ++ LI_X9
theorem LI_X10_ok : ∀ x ∈ LI_X10, qbg (ctx []) x.1 x.2.1 x.2.2 := by
 unfold LI_X10
 simp only [List.cons_append, List.nil_append, List.forall_mem_cons]
 exact LI_X9_ok
end Burn.M24
namespace Burn.M24
open Go Go.BE Go.Proofs
set_option maxRecDepth 100000
set_option linter.unusedVariables false
set_option linter.unusedSimpArgs false
noncomputable abbrev E_X11 : Ctx := ctx L_X10 LI_X10
theorem E_X11_ok : EOK E_X11 := qcz L_X10_ok LI_X10_ok
def cuts_X11 : CutL := []
def rets_X11 : FuncId → List (Option Fx)
 | _ => []
def H_X11 : Hints := { cut := cutOf cuts_X11, ret := rets_X11 }
def H_X11_u_law24_examples : Hints := { H_X11 with unr := fun _ _ => true }
theorem law24_examples_t : run E_X11 H_X11_u_law24_examples qek 1000000 (start E_X11 qek []) = (.chk (True) (.know (okD qaq (([] : List (Den qar)), ([(⟨#[102]⟩, ([(0 : Int)] : List (Den I)), (3 : Int), ([(3 : Int)] : List (Den I)), ([(([] : List (Den I)), ([] : List (Den qah)), ((4 : Int), ([(0 : Int)] : List (Den I)), ([] : List (Den I)), ([] : List (Den qaf)), (0 : Int), ()), ())] : List (Den qad)), ())] : List (Den qai)), ())) (.chk (0 ≤ (0 : Int) ∧ (0 : Int) < (1 : Nat)) (.chk (True) (.know (okD qde (([([] : List (Den I))] : List (Den (.sl 8 I))), ())) (.chk (True) (.know (okD (.sl 8 I) ([(0 : Int)] : List (Den I))) (.chk (0 ≤ (0 : Int) ∧ (0 : Int) < (1 : Nat)) (.chk ((1 : Nat) * 8 ≤ roomB) (.chk ((1 : Nat) * 8 ≤ roomB) (.chk (0 ≤ (0 : Int) ∧ (0 : Int) < (1 : Nat)) (.chk ((0 : Nat) < (1 : Nat)) (.chk (0 ≤ (0 : Int) ∧ (0 : Int) < (1 : Nat)) (.chk ((0 : Nat) < (1 : Nat)) (.chk (0 ≤ (0 : Int) ∧ (0 : Int) < (1 : Nat)) (.chk ((0 : Nat) < (1 : Nat)) (.chk (0 ≤ (0 : Int) ∧ (0 : Int) < (1 : Nat)) (.chk ((0 : Nat) < (1 : Nat)) (.chk (True) (.chk (qfr (⟨#[102]⟩, ([(0 : Int)] : List (Den I)), (3 : Int), ([(3 : Int)] : List (Den I)), ([(([] : List (Den I)), ([] : List (Den qah)), ((4 : Int), ([(0 : Int)] : List (Den I)), ([] : List (Den I)), ([] : List (Den qaf)), (0 : Int), ()), ())] : List (Den qad)), ()) ∧ nR (⟨#[102]⟩, ([(0 : Int)] : List (Den I)), (3 : Int), ([(3 : Int)] : List (Den I)), ([(([] : List (Den I)), ([] : List (Den qah)), ((4 : Int), ([(0 : Int)] : List (Den I)), ([] : List (Den I)), ([] : List (Den qaf)), (0 : Int), ()), ())] : List (Den qad)), ()) ≤ 65536) (.know (okD qdd ((⟨#[102]⟩, ([(0 : Int)] : List (Den I)), (3 : Int), ([(3 : Int)] : List (Den I)), ([(([] : List (Den I)), ([] : List (Den qah)), ((4 : Int), ([(0 : Int)] : List (Den I)), ([] : List (Den I)), ([] : List (Den qaf)), (0 : Int), ()), ())] : List (Den qad)), ()), ([(0 : Int)] : List (Den I)), ([([((0 : Int), (-1 : Int), ())] : List (Den qak))] : List (Den (.sl 16 qak))), ())) (.know (okD (.sl 24 (.sl 1 .bool)) (InF (⟨#[102]⟩, ([(0 : Int)] : List (Den I)), (3 : Int), ([(3 : Int)] : List (Den I)), ([(([] : List (Den I)), ([] : List (Den qah)), ((4 : Int), ([(0 : Int)] : List (Den I)), ([] : List (Den I)), ([] : List (Den qaf)), (0 : Int), ()), ())] : List (Den qad)), ()))) (.chk (0 ≤ (0 : Int) ∧ (0 : Int) < (1 : Nat)) (.chk ((0 : Nat) < (1 : Nat)) (.chk (0 ≤ (0 : Int) ∧ (0 : Int) < (1 : Nat)) (.chk ((0 : Nat) < (1 : Nat)) (.chk ((1 : Nat) * 40 ≤ roomB) (.chk (0 ≤ (0 : Int) ∧ (0 : Int) < (1 : Nat)) (.chk ((0 : Nat) < (1 : Nat)) (.chk (0 ≤ (0 : Int) ∧ (0 : Int) < (1 : Nat)) (.chk ((1 : Nat) * 64 ≤ roomB) (.chk ((0 : Int) = (0 : Int)) (.chk (0 ≤ (0 : Int)) (.chk ((0 : Nat) * 1 ≤ roomB) (.chk (((0 : Nat) + (0 : Nat)) * 1 ≤ roomB) (.chk (0 ≤ (0 : Int) ∧ (0 : Int) < (1 : Nat)) (.chk ((0 : Nat) < (1 : Nat)) (.chk (True) (.chk (0 ≤ (0 : Int) ∧ (0 : Int) < (1 : Nat)) (.chk ((0 : Nat) < (1 : Nat)) (.chk (True) (.chk (True) (.chk (True) (.chk (True) (.chk (True) (.chk (True) (.know True (.know (okD qaq (([] : List (Den qar)), ([(⟨#[102]⟩, ([(0 : Int)] : List (Den I)), (3 : Int), ([(3 : Int)] : List (Den I)), ([(([] : List (Den I)), ([] : List (Den qah)), ((4 : Int), ([(0 : Int)] : List (Den I)), ([] : List (Den I)), ([] : List (Den qaf)), (0 : Int), ()), ())] : List (Den qad)), ())] : List (Den qai)), ())) (.know (okD qaq (([] : List (Den qar)), ([(⟨#[102]⟩, ([(0 : Int)] : List (Den I)), (3 : Int), ([(3 : Int)] : List (Den I)), ([(([] : List (Den I)), ([] : List (Den qah)), ((4 : Int), ([(0 : Int)] : List (Den I)), ([] : List (Den I)), ([] : List (Den qaf)), (0 : Int), ()), ())] : List (Den qad)), ())] : List (Den qai)), ())) (.know (okD (.int .i64) (0 : Int)) (.know (okD qaq (([] : List (Den qar)), ([(⟨#[102]⟩, ([(0 : Int)] : List (Den I)), (3 : Int), ([(3 : Int)] : List (Den I)), ([(([] : List (Den I)), ([] : List (Den qah)), ((4 : Int), ([(0 : Int)] : List (Den I)), ([] : List (Den I)), ([] : List (Den qaf)), (0 : Int), ()), ())] : List (Den qad)), ())] : List (Den qai)), ())) (.know (okD qaq (([] : List (Den qar)), ([(⟨#[102]⟩, ([(0 : Int)] : List (Den I)), (3 : Int), ([(3 : Int)] : List (Den I)), ([(([] : List (Den I)), ([] : List (Den qah)), ((4 : Int), ([(0 : Int)] : List (Den I)), ([] : List (Den I)), ([] : List (Den qaf)), (0 : Int), ()), ())] : List (Den qad)), ())] : List (Den qai)), ())) (.know (okD (.int .i64) (2 : Int)) (rt (vb true) [])))))))))))))))))))))))))))))))))))))))))))))))))))))) := by kernel_rfl
def k_law24_examples : LitC := { ps := [], L := (()), res := (vb true), roots := [] }
theorem m_law24_examples : Runs E_X11 (start E_X11 qek []) (fun r_ h_ => r_ = (vb true) ∧ h_ = []) := .tree E_X11_ok law24_examples_t (by
 repeat (first | refine qdb ?_ | refine qev (by first | decide | exact ⟨by unfold qfr; decide, by decide⟩) ?_)
 exact ⟨rfl, rfl⟩)
theorem c_law24_examples : qat E_X11 qek k_law24_examples.spec := qfm rfl ⟨rfl, m_law24_examples⟩
def L_X11 : List (FuncId × FSpec) := [(qek, k_law24_examples.spec)] ++ L_X10
theorem L_X11_ok : ∀ x ∈ L_X11, qat (ctx []) x.1 x.2 := by
 unfold L_X11
 simp only [List.cons_append, List.nil_append, List.forall_mem_cons]
 exact ⟨c_law24_examples, L_X10_ok⟩
def LI_X11 : List IoT := [] ++ LI_X10
theorem LI_X11_ok : ∀ x ∈ LI_X11, qbg (ctx []) x.1 x.2.1 x.2.2 := by
 unfold LI_X11
 simp only [List.cons_append, List.nil_append, List.forall_mem_cons]
 exact LI_X10_ok
end Burn.M24
namespace Burn.M24
open Go Go.BE Go.Proofs
set_option maxRecDepth 100000
set_option linter.unusedVariables false
set_option linter.unusedSimpArgs false
noncomputable abbrev E_Q1 : Ctx := ctx L_X11 LI_X11
theorem E_Q1_ok : EOK E_Q1 := qcz L_X11_ok LI_X11_ok
def cuts_Q1 : CutL := [([], 31, 0, [0, 1, 12, 13], [], []),
 ([], 73, 0, [0, 1, 12, 13], [], []),
 ([], 78, 0, [0, 1, 12, 13], [], [])]
def rets_Q1 : FuncId → List (Option Fx)
 | _ => []
def H_Q1 : Hints := { cut := cutOf cuts_Q1, ret := rets_Q1 }
noncomputable def qcr (s1 : List (Den I)) (s2 : List (Den I)) (t12 : Int) (t13 : Int) : Cfg := hcfg E_Q1 qau 0 [(0, (.tv (.sl 8 I) s1)), (1, (.tv (.sl 8 I) s2)), (12, (vi t12)), (13, (vi t13))] [] 0
theorem slices_Equal_L_int_int_t (s1 : List (Den I)) (s2 : List (Den I)) : run E_Q1 H_Q1 qau 3000 (start E_Q1 qau [(.tv (.sl 8 I) s1), (.tv (.sl 8 I) s2)]) = (cond (((ln I s1) : Int) != ((ln I s2) : Int)) (rt (vb false) []) (hd (qcr s1 s2 ((ln I s1) : Int) (0 : Int)))) := by kernel_rfl
theorem qew (s1 : List (Den I)) (s2 : List (Den I)) (t12 : Int) (t13 : Int) : run E_Q1 H_Q1 qau 3000 (qcr s1 s2 t12 t13) = (cond (decide (t13 < t12)) (.chk (0 ≤ t13 ∧ t13 < (ln I s1)) (.chk (0 ≤ t13 ∧ t13 < (ln I s2)) (cond ((z (gd I s1 t13.toNat)) != (z (gd I s2 t13.toNat))) (rt (vb false) []) (hd (qcr s1 s2 t12 (IntKind.wrap .i64 (t13 + (1 : Int)))))))) (rt (vb true) [])) := by kernel_rfl
noncomputable def qbo (s1 : List (Den qak)) (s2 : List (Den qak)) (t12 : Int) (t13 : Int) : Cfg := hcfg E_Q1 qaz 0 [(0, (.tv (.sl 16 qak) s1)), (1, (.tv (.sl 16 qak) s2)), (12, (vi t12)), (13, (vi t13))] [] 0
theorem slices_Equal_L_api_Pos_api_Pos_t (s1 : List (Den qak)) (s2 : List (Den qak)) : run E_Q1 H_Q1 qaz 3000 (start E_Q1 qaz [(.tv (.sl 16 qak) s1), (.tv (.sl 16 qak) s2)]) = (cond (((ln qak s1) : Int) != ((ln qak s2) : Int)) (rt (vb false) []) (hd (qbo s1 s2 ((ln qak s1) : Int) (0 : Int)))) := by kernel_rfl
theorem qdc (s1 : List (Den qak)) (s2 : List (Den qak)) (t12 : Int) (t13 : Int) : run E_Q1 H_Q1 qaz 3000 (qbo s1 s2 t12 t13) = (cond (decide (t13 < t12)) (.chk (0 ≤ t13 ∧ t13 < (ln qak s1)) (.chk (0 ≤ t13 ∧ t13 < (ln qak s2)) (cond (!(((z ((gd qak s1 t13.toNat).1)) == (z ((gd qak s2 t13.toNat).1))) && (((z ((gd qak s1 t13.toNat).2.1)) == (z ((gd qak s2 t13.toNat).2.1))) && true))) (rt (vb false) []) (hd (qbo s1 s2 t12 (IntKind.wrap .i64 (t13 + (1 : Int)))))))) (rt (vb true) [])) := by kernel_rfl
noncomputable def qbe (s1 : List (Den qaj)) (s2 : List (Den qaj)) (t12 : Int) (t13 : Int) : Cfg := hcfg E_Q1 qas 0 [(0, (.tv (.sl 24 qaj) s1)), (1, (.tv (.sl 24 qaj) s2)), (12, (vi t12)), (13, (vi t13))] [] 0
theorem qef (s1 : List (Den qaj)) (s2 : List (Den qaj)) : run E_Q1 H_Q1 qas 3000 (start E_Q1 qas [(.tv (.sl 24 qaj) s1), (.tv (.sl 24 qaj) s2)]) = (cond (((ln qaj s1) : Int) != ((ln qaj s2) : Int)) (rt (vb false) []) (hd (qbe s1 s2 ((ln qaj s1) : Int) (0 : Int)))) := by kernel_rfl
theorem qcg (s1 : List (Den qaj)) (s2 : List (Den qaj)) (t12 : Int) (t13 : Int) : run E_Q1 H_Q1 qas 3000 (qbe s1 s2 t12 t13) = (cond (decide (t13 < t12)) (.chk (0 ≤ t13 ∧ t13 < (ln qaj s1)) (.chk (0 ≤ t13 ∧ t13 < (ln qaj s2)) (cond (!(((z ((gd qaj s1 t13.toNat).1)) == (z ((gd qaj s2 t13.toNat).1))) && (((z ((gd qaj s1 t13.toNat).2.1)) == (z ((gd qaj s2 t13.toNat).2.1))) && (((z ((gd qaj s1 t13.toNat).2.2.1)) == (z ((gd qaj s2 t13.toNat).2.2.1))) && true)))) (rt (vb false) []) (hd (qbe s1 s2 t12 (IntKind.wrap .i64 (t13 + (1 : Int)))))))) (rt (vb true) [])) := by kernel_rfl
theorem qfl {α : Type} {e : α → α → Bool} : ∀ {l m : List α}, l.length ≠ m.length → denBL e l m = false
 | [], [], h => absurd rfl h
 | [], _ :: _, _ => rfl
 | _ :: _, [], _ => rfl
 | a :: l, b :: m, h => by
  rw [denBL, qfl (l := l) (m := m) (by simpa using h), Bool.and_false]
theorem denBL_refl {α : Type} {e : α → α → Bool} (h : ∀ a, e a a = true) : ∀ l, denBL e l l = true
 | [] => rfl
 | a :: l => by rw [denBL, h, denBL_refl h l]; rfl
theorem eq_step {E : Ctx} {T : Tre Leaf} {α : Type} {e : α → α → Bool} {l m : List α} {a b : α} {c : Bool} {cf : Cfg} (ih : Runs E cf (fun x h => x = vb (denBL e l m) ∧ h = [])) (hc : c = !(e a b)) (hT : T = cond c (rt (vb false) []) (hd cf)) : T.wp (contL E (fun x h => x = vb (denBL e (a :: l) (b :: m)) ∧ h = [])) := by
 subst hT
 rw [hc, denBL]
 cases e a b
 ·exact ⟨rfl, rfl⟩
 ·exact ih
theorem ne_of {a b : Nat} (h : ((a : Int) != (b : Int)) = true) : a ≠ b := fun e => by subst e; simp at h
theorem eq_of {a b : Nat} (h : ((a : Int) != (b : Int)) = false) : a = b := Int.ofNat_inj.1 (by simpa using h)
theorem bne_t {a b : Int} (h : (a != b) = true) : (a == b) = false := by simpa using h
theorem bne_f {a b : Int} (h : (a != b) = false) : (a == b) = true := by simpa using h
theorem not_t {a : Bool} (h : (!a) = true) : a = false := by cases a <;> simp_all
theorem not_f {a : Bool} (h : (!a) = false) : a = true := by cases a <;> simp_all
theorem eq_stepR {E : Ctx} {T : Tre Leaf} {α : Type} {e : α → α → Bool} {l m : List α} {a b : α} {c r : Bool} {cf : Cfg} (ih : Runs E cf (fun x h => x = vb (denBL e l m && r) ∧ h = [])) (hc : c = !(e a b)) (hT : T = cond c (rt (vb false) []) (hd cf)) : T.wp (contL E (fun x h => x = vb (denBL e (a :: l) (b :: m) && r) ∧ h = [])) := by
 subst hT
 rw [hc, denBL]
 cases e a b
 ·exact ⟨rfl, rfl⟩
 ·exact ih
def eqIs (l m : List (Den I)) : Bool := denB (.sl 8 I) l m
def eqPs (l m : List (Den qak)) : Bool := denB (.sl 16 qak) l m
def eqXs (l m : List (Den qaj)) : Bool := denB (.sl 24 qaj) l m
def eqInv (a b : Den qab) : Bool := denB qab a b
def eqPath (a b : Den qal) : Bool := denB qal a b
def eqCut (a b : Den qac) : Bool := denB qac a b
def eqInvs (l m : List (Den qab)) : Bool := denBL (denB qab) l m
def eqPaths (l m : List (Den qal)) : Bool := denBL (denB qal) l m
def eqCuts (l m : List (Den qac)) : Bool := denBL (denB qac) l m
def eqWit (a b : Den qae) : Bool := denB qae a b
theorem slices_Equal_L_int_int_l (l m : List (Den I)) (hl : ln I l = ln I m) (hr : ln I l < 9223372036854775807) : ∀ i, i ≤ ln I l → Runs E_Q1 (qcr l m (ln I l : Nat) i) (fun x h => x = vb (denBL (denB I) (l.drop i) (m.drop i)) ∧ h = []) :=
 qes (.tree E_Q1_ok (qew _ _ _ _) (by
  rw [qcf, show m.drop (ln I l) = [] from hl ▸ qcf]
  exact qap (fun h => absurd (of_decide_eq_true h) (Int.lt_irrefl _)) fun _ => ⟨rfl, rfl⟩))
  fun i hi ih => .tree E_Q1_ok (qew _ _ _ _) (by
   have hi' : i < ln I m := hl ▸ hi
   rw [qbz hi, qbz hi']
   refine qap (fun _ => ⟨⟨Int.natCast_nonneg _, Int.ofNat_lt.2 hi⟩, fun _ => ⟨⟨Int.natCast_nonneg _, Int.ofNat_lt.2 hi'⟩, fun _ => ?_⟩⟩) fun h => absurd (Int.ofNat_lt.2 hi) (of_decide_eq_false h)
   rw [Int.toNat_natCast, wrapS hi hr]
   exact eq_step ih rfl rfl)
def qgd : Con := con [.d (.sl 8 I), .d (.sl 8 I)] .bool (fun x => True) fun x => eqIs x.1 x.2.1
theorem m_slices_Equal_L_int_int (s1 : List (Den I)) (s2 : List (Den I)) (h_s1 : okD (.sl 8 I) s1) (h_s2 : okD (.sl 8 I) s2) (hp : True) : Runs E_Q1 (start E_Q1 qau [(.tv (.sl 8 I) s1), (.tv (.sl 8 I) s2)]) (fun r_ h_ => r_ = (vb (eqIs s1 s2)) ∧ h_ = []) := .tree E_Q1_ok (slices_Equal_L_int_int_t s1 s2) (by
 refine qap (fun h => ⟨?_, rfl⟩) fun h => slices_Equal_L_int_int_l s1 s2 (eq_of h) (qdm h_s1.1) 0 (Nat.zero_le _)
 have h := ne_of h
 rw [show eqIs s1 s2 = false from qfl h])
theorem c_slices_Equal_L_int_int : qat E_Q1 qau qgd.spec := qcj fun x hx hp => ⟨rfl, m_slices_Equal_L_int_int x.1 x.2.1 hx.1 hx.2.1 hp⟩
theorem slices_Equal_L_api_Pos_api_Pos_l (l m : List (Den qak)) (hl : ln qak l = ln qak m) (hr : ln qak l < 9223372036854775807) : ∀ i, i ≤ ln qak l → Runs E_Q1 (qbo l m (ln qak l : Nat) i) (fun x h => x = vb (denBL (denB qak) (l.drop i) (m.drop i)) ∧ h = []) :=
 qes (.tree E_Q1_ok (qdc _ _ _ _) (by
  rw [qcf, show m.drop (ln qak l) = [] from hl ▸ qcf]
  exact qap (fun h => absurd (of_decide_eq_true h) (Int.lt_irrefl _)) fun _ => ⟨rfl, rfl⟩))
  fun i hi ih => .tree E_Q1_ok (qdc _ _ _ _) (by
   have hi' : i < ln qak m := hl ▸ hi
   rw [qbz hi, qbz hi']
   refine qap (fun _ => ⟨⟨Int.natCast_nonneg _, Int.ofNat_lt.2 hi⟩, fun _ => ⟨⟨Int.natCast_nonneg _, Int.ofNat_lt.2 hi'⟩, fun _ => ?_⟩⟩) fun h => absurd (Int.ofNat_lt.2 hi) (of_decide_eq_false h)
   rw [Int.toNat_natCast, wrapS hi hr]
   exact eq_step ih rfl rfl)
def qds : Con := con [.d (.sl 16 qak), .d (.sl 16 qak)] .bool (fun x => True) fun x => eqPs x.1 x.2.1
theorem m_slices_Equal_L_api_Pos_api_Pos (s1 : List (Den qak)) (s2 : List (Den qak)) (h_s1 : okD (.sl 16 qak) s1) (h_s2 : okD (.sl 16 qak) s2) (hp : True) : Runs E_Q1 (start E_Q1 qaz [(.tv (.sl 16 qak) s1), (.tv (.sl 16 qak) s2)]) (fun r_ h_ => r_ = (vb (eqPs s1 s2)) ∧ h_ = []) := .tree E_Q1_ok (slices_Equal_L_api_Pos_api_Pos_t s1 s2) (by
 refine qap (fun h => ⟨?_, rfl⟩) fun h => slices_Equal_L_api_Pos_api_Pos_l s1 s2 (eq_of h) (qdm h_s1.1) 0 (Nat.zero_le _)
 have h := ne_of h
 rw [show eqPs s1 s2 = false from qfl h])
theorem c_slices_Equal_L_api_Pos_api_Pos : qat E_Q1 qaz qds.spec := qcj fun x hx hp => ⟨rfl, m_slices_Equal_L_api_Pos_api_Pos x.1 x.2.1 hx.1 hx.2.1 hp⟩
theorem qeg (l m : List (Den qaj)) (hl : ln qaj l = ln qaj m) (hr : ln qaj l < 9223372036854775807) : ∀ i, i ≤ ln qaj l → Runs E_Q1 (qbe l m (ln qaj l : Nat) i) (fun x h => x = vb (denBL (denB qaj) (l.drop i) (m.drop i)) ∧ h = []) :=
 qes (.tree E_Q1_ok (qcg _ _ _ _) (by
  rw [qcf, show m.drop (ln qaj l) = [] from hl ▸ qcf]
  exact qap (fun h => absurd (of_decide_eq_true h) (Int.lt_irrefl _)) fun _ => ⟨rfl, rfl⟩))
  fun i hi ih => .tree E_Q1_ok (qcg _ _ _ _) (by
   have hi' : i < ln qaj m := hl ▸ hi
   rw [qbz hi, qbz hi']
   refine qap (fun _ => ⟨⟨Int.natCast_nonneg _, Int.ofNat_lt.2 hi⟩, fun _ => ⟨⟨Int.natCast_nonneg _, Int.ofNat_lt.2 hi'⟩, fun _ => ?_⟩⟩) fun h => absurd (Int.ofNat_lt.2 hi) (of_decide_eq_false h)
   rw [Int.toNat_natCast, wrapS hi hr]
   exact eq_step ih rfl rfl)
def qcn : Con := con [.d (.sl 24 qaj), .d (.sl 24 qaj)] .bool (fun x => True) fun x => eqXs x.1 x.2.1
theorem qeh (s1 : List (Den qaj)) (s2 : List (Den qaj)) (h_s1 : okD (.sl 24 qaj) s1) (h_s2 : okD (.sl 24 qaj) s2) (hp : True) : Runs E_Q1 (start E_Q1 qas [(.tv (.sl 24 qaj) s1), (.tv (.sl 24 qaj) s2)]) (fun r_ h_ => r_ = (vb (eqXs s1 s2)) ∧ h_ = []) := .tree E_Q1_ok (qef s1 s2) (by
 refine qap (fun h => ⟨?_, rfl⟩) fun h => qeg s1 s2 (eq_of h) (qdm h_s1.1) 0 (Nat.zero_le _)
 have h := ne_of h
 rw [show eqXs s1 s2 = false from qfl h])
theorem qen : qat E_Q1 qas qcn.spec := qcj fun x hx hp => ⟨rfl, qeh x.1 x.2.1 hx.1 hx.2.1 hp⟩
def L_Q1 : List (FuncId × FSpec) := [(qau, qgd.spec), (qaz, qds.spec), (qas, qcn.spec)] ++ L_X11
theorem L_Q1_ok : ∀ x ∈ L_Q1, qat (ctx []) x.1 x.2 := by
 unfold L_Q1
 simp only [List.cons_append, List.nil_append, List.forall_mem_cons]
 exact ⟨c_slices_Equal_L_int_int, c_slices_Equal_L_api_Pos_api_Pos, qen, L_X11_ok⟩
def LI_Q1 : List IoT := [] ++ LI_X11
theorem LI_Q1_ok : ∀ x ∈ LI_Q1, qbg (ctx []) x.1 x.2.1 x.2.2 := by
 unfold LI_Q1
 simp only [List.cons_append, List.nil_append, List.forall_mem_cons]
 exact LI_X11_ok
end Burn.M24
namespace Burn.M24
open Go Go.BE Go.Proofs
set_option maxRecDepth 100000
set_option linter.unusedVariables false
set_option linter.unusedSimpArgs false
noncomputable abbrev E_Q2 : Ctx := ctx L_Q1 LI_Q1
theorem E_Q2_ok : EOK E_Q2 := qcz L_Q1_ok LI_Q1_ok
def cuts_Q2 : CutL := [([], 54, 0, [2, 3, 5], [], [])]
def rets_Q2 : FuncId → List (Option Fx)
 | _ => []
def H_Q2 : Hints := { cut := cutOf cuts_Q2, ret := rets_Q2 }
theorem witness_Equal_cl1_cl1_t (x : Den qab) (y : Den qab) : run E_Q2 H_Q2 qbf 3000 (start E_Q2 qbf [(.tv qab x), (.tv qab y)]) = (cond ((bOf x.1) == (bOf y.1)) (cond ((bOf x.2.1) == (bOf y.2.1)) (cond ((z x.2.2.1) == (z y.2.2.1)) (.chk (True) (.know True (rt (vb (eqXs x.2.2.2.1 y.2.2.2.1)) []))) (rt (vb false) [])) (rt (vb false) [])) (rt (vb false) [])) := by kernel_rfl
theorem witness_Equal_cl2_t (p : Den qal) (q : Den qal) : run E_Q2 H_Q2 qbj 3000 (start E_Q2 qbj [(.tv qal p), (.tv qal q)]) = (cond ((z p.1) == (z q.1)) (cond ((z p.2.2.2.1) == (z q.2.2.2.1)) (.chk (True) (.know True (cond (eqIs p.2.1 q.2.1) (.chk (True) (.know True (rt (vb (eqIs p.2.2.1 q.2.2.1)) []))) (rt (vb false) [])))) (rt (vb false) [])) (rt (vb false) [])) := by kernel_rfl
noncomputable def qdo (a : Den qab) (b : Den qab) (i : Int) : Cfg := hcfg E_Q2 qbw 0 [(2, (.rtp qab a)), (3, (.rtp qab b)), (5, (vi i))] [] 0
theorem r24_equalInvariant_t (a : Den qab) (b : Den qab) : run E_Q2 H_Q2 qbw 3000 (start E_Q2 qbw [(.tv qab a), (.tv qab b)]) = (cond (!((bOf a.1) == (bOf b.1))) (rt (vb false) []) (cond (!((bOf a.2.1) == (bOf b.2.1))) (rt (vb false) []) (cond ((z a.2.2.1) != (z b.2.2.1)) (rt (vb false) []) (cond (((ln qaj a.2.2.2.1) : Int) != ((ln qaj b.2.2.2.1) : Int)) (rt (vb false) []) (hd (qdo a b (0 : Int))))))) := by kernel_rfl
theorem r24_equalInvariant_L0_t (a : Den qab) (b : Den qab) (i : Int) : run E_Q2 H_Q2 qbw 3000 (qdo a b i) = (cond (decide (i < ((ln qaj a.2.2.2.1) : Int))) (.chk (0 ≤ i ∧ i < (ln qaj a.2.2.2.1)) (.chk (0 ≤ i ∧ i < (ln qaj b.2.2.2.1)) (cond (!(((z ((gd qaj a.2.2.2.1 i.toNat).1)) == (z ((gd qaj b.2.2.2.1 i.toNat).1))) && (((z ((gd qaj a.2.2.2.1 i.toNat).2.1)) == (z ((gd qaj b.2.2.2.1 i.toNat).2.1))) && (((z ((gd qaj a.2.2.2.1 i.toNat).2.2.1)) == (z ((gd qaj b.2.2.2.1 i.toNat).2.2.1))) && true)))) (rt (vb false) []) (hd (qdo a b (IntKind.wrap .i64 (i + (1 : Int)))))))) (rt (vb true) [])) := by kernel_rfl

def k_witness_Equal_cl1_cl1 : Con := con [.d qab, .d qab] .bool (fun x => True) fun x => eqInv x.1 x.2.1
theorem m_witness_Equal_cl1_cl1 (x : Den qab) (y : Den qab) (h_x : okD qab x) (h_y : okD qab y) (hp : True) : Runs E_Q2 (start E_Q2 qbf [(.tv qab x), (.tv qab y)]) (fun r_ h_ => r_ = (vb (eqInv x y)) ∧ h_ = []) := .tree E_Q2_ok (witness_Equal_cl1_cl1_t x y) (by
 have e : eqInv x y = ((bOf x.1 == bOf y.1) && ((bOf x.2.1 == bOf y.2.1) && ((z x.2.2.1 == z y.2.2.1) && (eqXs x.2.2.2.1 y.2.2.2.1 && true)))) := rfl
 refine qap (fun h1 => qap (fun h2 => qap (fun h3 => ⟨trivial, fun _ _ => ⟨?_, rfl⟩⟩) fun h3 => ⟨?_, rfl⟩) fun h2 => ⟨?_, rfl⟩) fun h1 => ⟨?_, rfl⟩
 ·rw [e, h1, h2, h3]; simp only [Bool.true_and, Bool.and_true]
 ·rw [e, h1, h2, h3]; rfl
 ·rw [e, h1, h2]; rfl
 ·rw [e, h1]; rfl)
theorem c_witness_Equal_cl1_cl1 : qat E_Q2 qbf k_witness_Equal_cl1_cl1.spec := qcj fun x hx hp => ⟨rfl, m_witness_Equal_cl1_cl1 x.1 x.2.1 hx.1 hx.2.1 hp⟩

def k_witness_Equal_cl2 : Con := con [.d qal, .d qal] .bool (fun x => True) fun x => eqPath x.1 x.2.1
theorem m_witness_Equal_cl2 (p : Den qal) (q : Den qal) (h_p : okD qal p) (h_q : okD qal q) (hp : True) : Runs E_Q2 (start E_Q2 qbj [(.tv qal p), (.tv qal q)]) (fun r_ h_ => r_ = (vb (eqPath p q)) ∧ h_ = []) := .tree E_Q2_ok (witness_Equal_cl2_t p q) (by
 have e : eqPath p q = ((z p.1 == z q.1) && (eqIs p.2.1 q.2.1 && (eqIs p.2.2.1 q.2.2.1 && ((z p.2.2.2.1 == z q.2.2.2.1) && true)))) := rfl
 refine qap (fun h1 => qap (fun h2 => ⟨trivial, fun _ _ => qap (fun h3 => ⟨trivial, fun _ _ => ⟨?_, rfl⟩⟩) fun h3 => ⟨?_, rfl⟩⟩) fun h2 => ⟨?_, rfl⟩) fun h1 => ⟨?_, rfl⟩
 ·rw [e, h1, h2, h3]; simp only [Bool.true_and, Bool.and_true]
 ·rw [e, h1, h2, h3]; rfl
 ·rw [e, h1, h2]; simp only [Bool.and_false, Bool.false_and]
 ·rw [e, h1]; rfl)
theorem c_witness_Equal_cl2 : qat E_Q2 qbj k_witness_Equal_cl2.spec := qcj fun x hx hp => ⟨rfl, m_witness_Equal_cl2 x.1 x.2.1 hx.1 hx.2.1 hp⟩
theorem r24_equalInvariant_l (a b : Den qab) (hl : ln qaj a.2.2.2.1 = ln qaj b.2.2.2.1) (hr : ln qaj a.2.2.2.1 < 9223372036854775807) : ∀ i, i ≤ ln qaj a.2.2.2.1 → Runs E_Q2 (qdo a b i) (fun x h => x = vb (denBL (denB qaj) (List.drop (α := Den qaj) i a.2.2.2.1) (List.drop (α := Den qaj) i b.2.2.2.1)) ∧ h = []) :=
 qes (.tree E_Q2_ok (r24_equalInvariant_L0_t _ _ _) (by
  rw [qcf, show List.drop (α := Den qaj) (ln qaj a.2.2.2.1) b.2.2.2.1 = [] from hl ▸ qcf]
  exact qap (fun h => absurd (of_decide_eq_true h) (Int.lt_irrefl _)) fun _ => ⟨rfl, rfl⟩))
  fun i hi ih => .tree E_Q2_ok (r24_equalInvariant_L0_t _ _ _) (by
   have hi' : i < ln qaj b.2.2.2.1 := hl ▸ hi
   rw [qbz hi, qbz hi']
   refine qap (fun _ => ⟨⟨Int.natCast_nonneg _, Int.ofNat_lt.2 hi⟩, fun _ => ⟨⟨Int.natCast_nonneg _, Int.ofNat_lt.2 hi'⟩, fun _ => ?_⟩⟩) fun h => absurd (Int.ofNat_lt.2 hi) (of_decide_eq_false h)
   rw [Int.toNat_natCast, wrapS hi hr]
   exact eq_step ih rfl rfl)
def k_r24_equalInvariant : Con := con [.d qab, .d qab] .bool (fun x => True) fun x => eqInv x.1 x.2.1
theorem m_r24_equalInvariant (a : Den qab) (b : Den qab) (h_a : okD qab a) (h_b : okD qab b) (hp : True) : Runs E_Q2 (start E_Q2 qbw [(.tv qab a), (.tv qab b)]) (fun r_ h_ => r_ = (vb (eqInv a b)) ∧ h_ = []) := .tree E_Q2_ok (r24_equalInvariant_t a b) (by
 have e : eqInv a b = ((bOf a.1 == bOf b.1) && ((bOf a.2.1 == bOf b.2.1) && ((z a.2.2.1 == z b.2.2.1) && (eqXs a.2.2.2.1 b.2.2.2.1 && true)))) := rfl
 refine qap (fun h1 => ⟨?_, rfl⟩) fun h1 => qap (fun h2 => ⟨?_, rfl⟩) fun h2 => qap (fun h3 => ⟨?_, rfl⟩) fun h3 => qap (fun h4 => ⟨?_, rfl⟩) fun h4 => ?_
 ·rw [e, show (bOf a.1 == bOf b.1) = false by simpa using h1]; rfl
 ·rw [e, show (bOf a.2.1 == bOf b.2.1) = false by simpa using h2]; simp only [Bool.and_false, Bool.false_and]
 ·rw [e, show (z a.2.2.1 == z b.2.2.1) = false by simpa using h3]; simp only [Bool.and_false, Bool.false_and]
 ·have h4 := ne_of h4
  rw [e, show eqXs a.2.2.2.1 b.2.2.2.1 = false from qfl h4]; simp only [Bool.and_false, Bool.false_and]
 ·have h4 : ln qaj a.2.2.2.1 = ln qaj b.2.2.2.1 := eq_of h4
  have := r24_equalInvariant_l a b h4 (qdm h_a.2.2.2.1.1) 0 (Nat.zero_le _)
  rw [e, show (bOf a.1 == bOf b.1) = true by simpa using h1, show (bOf a.2.1 == bOf b.2.1) = true by simpa using h2, show (z a.2.2.1 == z b.2.2.1) = true by simpa using h3]
  simp only [Bool.true_and, Bool.and_true]
  exact this)
theorem c_r24_equalInvariant : qat E_Q2 qbw k_r24_equalInvariant.spec := qcj fun x hx hp => ⟨rfl, m_r24_equalInvariant x.1 x.2.1 hx.1 hx.2.1 hp⟩
def L_Q2 : List (FuncId × FSpec) := [(qbf, k_witness_Equal_cl1_cl1.spec), (qbj, k_witness_Equal_cl2.spec), (qbw, k_r24_equalInvariant.spec)] ++ L_Q1
theorem L_Q2_ok : ∀ x ∈ L_Q2, qat (ctx []) x.1 x.2 := by
 unfold L_Q2
 simp only [List.cons_append, List.nil_append, List.forall_mem_cons]
 exact ⟨c_witness_Equal_cl1_cl1, c_witness_Equal_cl2, c_r24_equalInvariant, L_Q1_ok⟩
def LI_Q2 : List IoT := [] ++ LI_Q1
theorem LI_Q2_ok : ∀ x ∈ LI_Q2, qbg (ctx []) x.1 x.2.1 x.2.2 := by
 unfold LI_Q2
 simp only [List.cons_append, List.nil_append, List.forall_mem_cons]
 exact LI_Q1_ok
end Burn.M24
namespace Burn.M24
open Go Go.BE Go.Proofs
set_option maxRecDepth 100000
set_option linter.unusedVariables false
set_option linter.unusedSimpArgs false
noncomputable abbrev E_Q3 : Ctx := ctx L_Q2 LI_Q2
theorem E_Q3_ok : EOK E_Q3 := qcz L_Q2_ok LI_Q2_ok
def cuts_Q3 : CutL := [([], 76, 0, [1, 2, 15, 16, 17], [], []),
 ([], 79, 0, [1, 2, 15, 16, 17], [], [])]
def rets_Q3 : FuncId → List (Option Fx)
 | _ => []
def H_Q3 : Hints := { cut := cutOf cuts_Q3, ret := rets_Q3 }
noncomputable def efInvariant_L0 (s2 : List (Den qab)) (t15 : List (Den qab)) (t16 : Int) (t17 : Int) : Cfg := hcfg E_Q3 qam 0 [(1, (.tv (.sl 40 qab) s2)), (2, (.fn qbf [])), (15, (.tv (.sl 40 qab) t15)), (16, (vi t16)), (17, (vi t17))] [] 0
theorem efInvariant_t (s1 : List (Den qab)) (s2 : List (Den qab)) : run E_Q3 H_Q3 qam 3000 (start E_Q3 qam [(.tv (.sl 40 qab) s1), (.tv (.sl 40 qab) s2), (.fn qbf [])]) = (cond (((ln qab s1) : Int) != ((ln qab s2) : Int)) (rt (vb false) []) (hd (efInvariant_L0 s2 s1 ((ln qab s1) : Int) (0 : Int)))) := by kernel_rfl
theorem efInvariant_L0_t (s2 : List (Den qab)) (t15 : List (Den qab)) (t16 : Int) (t17 : Int) : run E_Q3 H_Q3 qam 3000 (efInvariant_L0 s2 t15 t16 t17) = (cond (decide (t17 < t16)) (.chk (0 ≤ t17 ∧ t17 < (ln qab t15)) (.chk (0 ≤ t17 ∧ t17 < (ln qab s2)) (.chk (True) (.know True (cond (!(eqInv (gd qab t15 t17.toNat) (gd qab s2 t17.toNat))) (rt (vb false) []) (hd (efInvariant_L0 s2 t15 t16 (IntKind.wrap .i64 (t17 + (1 : Int)))))))))) (rt (vb true) [])) := by kernel_rfl
noncomputable def efPath_L0 (s2 : List (Den qal)) (t15 : List (Den qal)) (t16 : Int) (t17 : Int) : Cfg := hcfg E_Q3 qao 0 [(1, (.tv (.sl 64 qal) s2)), (2, (.fn qbj [])), (15, (.tv (.sl 64 qal) t15)), (16, (vi t16)), (17, (vi t17))] [] 0
theorem efPath_t (s1 : List (Den qal)) (s2 : List (Den qal)) : run E_Q3 H_Q3 qao 3000 (start E_Q3 qao [(.tv (.sl 64 qal) s1), (.tv (.sl 64 qal) s2), (.fn qbj [])]) = (cond (((ln qal s1) : Int) != ((ln qal s2) : Int)) (rt (vb false) []) (hd (efPath_L0 s2 s1 ((ln qal s1) : Int) (0 : Int)))) := by kernel_rfl
theorem efPath_L0_t (s2 : List (Den qal)) (t15 : List (Den qal)) (t16 : Int) (t17 : Int) : run E_Q3 H_Q3 qao 3000 (efPath_L0 s2 t15 t16 t17) = (cond (decide (t17 < t16)) (.chk (0 ≤ t17 ∧ t17 < (ln qal t15)) (.chk (0 ≤ t17 ∧ t17 < (ln qal s2)) (.chk (True) (.know True (cond (!(eqPath (gd qal t15 t17.toNat) (gd qal s2 t17.toNat))) (rt (vb false) []) (hd (efPath_L0 s2 t15 t16 (IntKind.wrap .i64 (t17 + (1 : Int)))))))))) (rt (vb true) [])) := by kernel_rfl
theorem efInvariant_l (l m : List (Den qab)) (hl : ln qab l = ln qab m) (hr : ln qab l < 9223372036854775807) : ∀ i, i ≤ ln qab l → Runs E_Q3 (efInvariant_L0 m l (ln qab l : Nat) i) (fun x h => x = vb (denBL (denB qab) (l.drop i) (m.drop i)) ∧ h = []) :=
 qes (.tree E_Q3_ok (efInvariant_L0_t _ _ _ _) (by
  rw [qcf, show m.drop (ln qab l) = [] from hl ▸ qcf]
  exact qap (fun h => absurd (of_decide_eq_true h) (Int.lt_irrefl _)) fun _ => ⟨rfl, rfl⟩))
  fun i hi ih => .tree E_Q3_ok (efInvariant_L0_t _ _ _ _) (by
   have hi' : i < ln qab m := hl ▸ hi
   rw [qbz hi, qbz hi']
   refine qap (fun _ => ⟨⟨Int.natCast_nonneg _, Int.ofNat_lt.2 hi⟩, fun _ => ⟨⟨Int.natCast_nonneg _, Int.ofNat_lt.2 hi'⟩, fun _ => ⟨trivial, fun _ _ => ?_⟩⟩⟩) fun h => absurd (Int.ofNat_lt.2 hi) (of_decide_eq_false h)
   rw [Int.toNat_natCast, wrapS hi hr]
   exact eq_step ih rfl rfl)
def k_efInvariant : Con := con [.d (.sl 40 qab), .d (.sl 40 qab), .fn qbf []] .bool (fun x => True) fun x => eqInvs x.1 x.2.1
theorem m_efInvariant (s1 : List (Den qab)) (s2 : List (Den qab)) (h_s1 : okD (.sl 40 qab) s1) (h_s2 : okD (.sl 40 qab) s2) (hp : True) : Runs E_Q3 (start E_Q3 qam [(.tv (.sl 40 qab) s1), (.tv (.sl 40 qab) s2), (.fn qbf [])]) (fun r_ h_ => r_ = (vb (eqInvs s1 s2)) ∧ h_ = []) := .tree E_Q3_ok (efInvariant_t s1 s2) (by
 refine qap (fun h => ⟨?_, rfl⟩) fun h => efInvariant_l s1 s2 (eq_of h) (qdm h_s1.1) 0 (Nat.zero_le _)
 have h := ne_of h
 rw [show eqInvs s1 s2 = false from qfl h])
theorem c_efInvariant : qat E_Q3 qam k_efInvariant.spec := qcj fun x hx hp => ⟨rfl, m_efInvariant x.1 x.2.1 hx.1 hx.2.1 hp⟩
theorem efPath_l (l m : List (Den qal)) (hl : ln qal l = ln qal m) (hr : ln qal l < 9223372036854775807) : ∀ i, i ≤ ln qal l → Runs E_Q3 (efPath_L0 m l (ln qal l : Nat) i) (fun x h => x = vb (denBL (denB qal) (l.drop i) (m.drop i)) ∧ h = []) :=
 qes (.tree E_Q3_ok (efPath_L0_t _ _ _ _) (by
  rw [qcf, show m.drop (ln qal l) = [] from hl ▸ qcf]
  exact qap (fun h => absurd (of_decide_eq_true h) (Int.lt_irrefl _)) fun _ => ⟨rfl, rfl⟩))
  fun i hi ih => .tree E_Q3_ok (efPath_L0_t _ _ _ _) (by
   have hi' : i < ln qal m := hl ▸ hi
   rw [qbz hi, qbz hi']
   refine qap (fun _ => ⟨⟨Int.natCast_nonneg _, Int.ofNat_lt.2 hi⟩, fun _ => ⟨⟨Int.natCast_nonneg _, Int.ofNat_lt.2 hi'⟩, fun _ => ⟨trivial, fun _ _ => ?_⟩⟩⟩) fun h => absurd (Int.ofNat_lt.2 hi) (of_decide_eq_false h)
   rw [Int.toNat_natCast, wrapS hi hr]
   exact eq_step ih rfl rfl)
def k_efPath : Con := con [.d (.sl 64 qal), .d (.sl 64 qal), .fn qbj []] .bool (fun x => True) fun x => eqPaths x.1 x.2.1
theorem m_efPath (s1 : List (Den qal)) (s2 : List (Den qal)) (h_s1 : okD (.sl 64 qal) s1) (h_s2 : okD (.sl 64 qal) s2) (hp : True) : Runs E_Q3 (start E_Q3 qao [(.tv (.sl 64 qal) s1), (.tv (.sl 64 qal) s2), (.fn qbj [])]) (fun r_ h_ => r_ = (vb (eqPaths s1 s2)) ∧ h_ = []) := .tree E_Q3_ok (efPath_t s1 s2) (by
 refine qap (fun h => ⟨?_, rfl⟩) fun h => efPath_l s1 s2 (eq_of h) (qdm h_s1.1) 0 (Nat.zero_le _)
 have h := ne_of h
 rw [show eqPaths s1 s2 = false from qfl h])
theorem c_efPath : qat E_Q3 qao k_efPath.spec := qcj fun x hx hp => ⟨rfl, m_efPath x.1 x.2.1 hx.1 hx.2.1 hp⟩
def L_Q3 : List (FuncId × FSpec) := [(qam, k_efInvariant.spec), (qao, k_efPath.spec)] ++ L_Q2
theorem L_Q3_ok : ∀ x ∈ L_Q3, qat (ctx []) x.1 x.2 := by
 unfold L_Q3
 simp only [List.cons_append, List.nil_append, List.forall_mem_cons]
 exact ⟨c_efInvariant, c_efPath, L_Q2_ok⟩
def LI_Q3 : List IoT := [] ++ LI_Q2
theorem LI_Q3_ok : ∀ x ∈ LI_Q3, qbg (ctx []) x.1 x.2.1 x.2.2 := by
 unfold LI_Q3
 simp only [List.cons_append, List.nil_append, List.forall_mem_cons]
 exact LI_Q2_ok
end Burn.M24
namespace Burn.M24
open Go Go.BE Go.Proofs
set_option maxRecDepth 100000
set_option linter.unusedVariables false
set_option linter.unusedSimpArgs false
noncomputable abbrev E_Q4 : Ctx := ctx L_Q3 LI_Q3
theorem E_Q4_ok : EOK E_Q4 := qcz L_Q3_ok LI_Q3_ok
def cuts_Q4 : CutL := []
def rets_Q4 : FuncId → List (Option Fx)
 | _ => []
def H_Q4 : Hints := { cut := cutOf cuts_Q4, ret := rets_Q4 }
theorem witness_Equal_cl1_t (c : Den qac) (d : Den qac) : run E_Q4 H_Q4 qbk 3000 (start E_Q4 qbk [(.tv qac c), (.tv qac d)]) = (cond ((z c.1) == (z d.1)) (cond ((z c.2.1) == (z d.2.1)) (.chk (True) (.know True (rt (vb (eqInvs c.2.2.1 d.2.2.1)) []))) (rt (vb false) [])) (rt (vb false) [])) := by kernel_rfl

def k_witness_Equal_cl1 : Con := con [.d qac, .d qac] .bool (fun x => True) fun x => eqCut x.1 x.2.1
theorem m_witness_Equal_cl1 (c : Den qac) (d : Den qac) (h_c : okD qac c) (h_d : okD qac d) (hp : True) : Runs E_Q4 (start E_Q4 qbk [(.tv qac c), (.tv qac d)]) (fun r_ h_ => r_ = (vb (eqCut c d)) ∧ h_ = []) := .tree E_Q4_ok (witness_Equal_cl1_t c d) (by
 have e : eqCut c d = ((z c.1 == z d.1) && ((z c.2.1 == z d.2.1) && (eqInvs c.2.2.1 d.2.2.1 && true))) := rfl
 refine qap (fun h1 => qap (fun h2 => ⟨trivial, fun _ _ => ⟨?_, rfl⟩⟩) fun h2 => ⟨?_, rfl⟩) fun h1 => ⟨?_, rfl⟩
 ·rw [e, h1, h2]; simp only [Bool.true_and, Bool.and_true]
 ·rw [e, h1, h2]; rfl
 ·rw [e, h1]; rfl)
theorem c_witness_Equal_cl1 : qat E_Q4 qbk k_witness_Equal_cl1.spec := qcj fun x hx hp => ⟨rfl, m_witness_Equal_cl1 x.1 x.2.1 hx.1 hx.2.1 hp⟩
def L_Q4 : List (FuncId × FSpec) := [(qbk, k_witness_Equal_cl1.spec)] ++ L_Q3
theorem L_Q4_ok : ∀ x ∈ L_Q4, qat (ctx []) x.1 x.2 := by
 unfold L_Q4
 simp only [List.cons_append, List.nil_append, List.forall_mem_cons]
 exact ⟨c_witness_Equal_cl1, L_Q3_ok⟩
def LI_Q4 : List IoT := [] ++ LI_Q3
theorem LI_Q4_ok : ∀ x ∈ LI_Q4, qbg (ctx []) x.1 x.2.1 x.2.2 := by
 unfold LI_Q4
 simp only [List.cons_append, List.nil_append, List.forall_mem_cons]
 exact LI_Q3_ok
end Burn.M24
namespace Burn.M24
open Go Go.BE Go.Proofs
set_option maxRecDepth 100000
set_option linter.unusedVariables false
set_option linter.unusedSimpArgs false
noncomputable abbrev E_Q5 : Ctx := ctx L_Q4 LI_Q4
theorem E_Q5_ok : EOK E_Q5 := qcz L_Q4_ok LI_Q4_ok
def cuts_Q5 : CutL := [([], 74, 0, [1, 2, 15, 16, 17], [], [])]
def rets_Q5 : FuncId → List (Option Fx)
 | _ => []
def H_Q5 : Hints := { cut := cutOf cuts_Q5, ret := rets_Q5 }
noncomputable def efCutPoint_L0 (s2 : List (Den qac)) (t15 : List (Den qac)) (t16 : Int) (t17 : Int) : Cfg := hcfg E_Q5 qan 0 [(1, (.tv (.sl 40 qac) s2)), (2, (.fn qbk [])), (15, (.tv (.sl 40 qac) t15)), (16, (vi t16)), (17, (vi t17))] [] 0
theorem efCutPoint_t (s1 : List (Den qac)) (s2 : List (Den qac)) : run E_Q5 H_Q5 qan 3000 (start E_Q5 qan [(.tv (.sl 40 qac) s1), (.tv (.sl 40 qac) s2), (.fn qbk [])]) = (cond (((ln qac s1) : Int) != ((ln qac s2) : Int)) (rt (vb false) []) (hd (efCutPoint_L0 s2 s1 ((ln qac s1) : Int) (0 : Int)))) := by kernel_rfl
theorem efCutPoint_L0_t (s2 : List (Den qac)) (t15 : List (Den qac)) (t16 : Int) (t17 : Int) : run E_Q5 H_Q5 qan 3000 (efCutPoint_L0 s2 t15 t16 t17) = (cond (decide (t17 < t16)) (.chk (0 ≤ t17 ∧ t17 < (ln qac t15)) (.chk (0 ≤ t17 ∧ t17 < (ln qac s2)) (.chk (True) (.know True (cond (!(eqCut (gd qac t15 t17.toNat) (gd qac s2 t17.toNat))) (rt (vb false) []) (hd (efCutPoint_L0 s2 t15 t16 (IntKind.wrap .i64 (t17 + (1 : Int)))))))))) (rt (vb true) [])) := by kernel_rfl
theorem efCutPoint_l (l m : List (Den qac)) (hl : ln qac l = ln qac m) (hr : ln qac l < 9223372036854775807) : ∀ i, i ≤ ln qac l → Runs E_Q5 (efCutPoint_L0 m l (ln qac l : Nat) i) (fun x h => x = vb (denBL (denB qac) (l.drop i) (m.drop i)) ∧ h = []) :=
 qes (.tree E_Q5_ok (efCutPoint_L0_t _ _ _ _) (by
  rw [qcf, show m.drop (ln qac l) = [] from hl ▸ qcf]
  exact qap (fun h => absurd (of_decide_eq_true h) (Int.lt_irrefl _)) fun _ => ⟨rfl, rfl⟩))
  fun i hi ih => .tree E_Q5_ok (efCutPoint_L0_t _ _ _ _) (by
   have hi' : i < ln qac m := hl ▸ hi
   rw [qbz hi, qbz hi']
   refine qap (fun _ => ⟨⟨Int.natCast_nonneg _, Int.ofNat_lt.2 hi⟩, fun _ => ⟨⟨Int.natCast_nonneg _, Int.ofNat_lt.2 hi'⟩, fun _ => ⟨trivial, fun _ _ => ?_⟩⟩⟩) fun h => absurd (Int.ofNat_lt.2 hi) (of_decide_eq_false h)
   rw [Int.toNat_natCast, wrapS hi hr]
   exact eq_step ih rfl rfl)
def k_efCutPoint : Con := con [.d (.sl 40 qac), .d (.sl 40 qac), .fn qbk []] .bool (fun x => True) fun x => eqCuts x.1 x.2.1
theorem m_efCutPoint (s1 : List (Den qac)) (s2 : List (Den qac)) (h_s1 : okD (.sl 40 qac) s1) (h_s2 : okD (.sl 40 qac) s2) (hp : True) : Runs E_Q5 (start E_Q5 qan [(.tv (.sl 40 qac) s1), (.tv (.sl 40 qac) s2), (.fn qbk [])]) (fun r_ h_ => r_ = (vb (eqCuts s1 s2)) ∧ h_ = []) := .tree E_Q5_ok (efCutPoint_t s1 s2) (by
 refine qap (fun h => ⟨?_, rfl⟩) fun h => efCutPoint_l s1 s2 (eq_of h) (qdm h_s1.1) 0 (Nat.zero_le _)
 have h := ne_of h
 rw [show eqCuts s1 s2 = false from qfl h])
theorem c_efCutPoint : qat E_Q5 qan k_efCutPoint.spec := qcj fun x hx hp => ⟨rfl, m_efCutPoint x.1 x.2.1 hx.1 hx.2.1 hp⟩
def L_Q5 : List (FuncId × FSpec) := [(qan, k_efCutPoint.spec)] ++ L_Q4
theorem L_Q5_ok : ∀ x ∈ L_Q5, qat (ctx []) x.1 x.2 := by
 unfold L_Q5
 simp only [List.cons_append, List.nil_append, List.forall_mem_cons]
 exact ⟨c_efCutPoint, L_Q4_ok⟩
def LI_Q5 : List IoT := [] ++ LI_Q4
theorem LI_Q5_ok : ∀ x ∈ LI_Q5, qbg (ctx []) x.1 x.2.1 x.2.2 := by
 unfold LI_Q5
 simp only [List.cons_append, List.nil_append, List.forall_mem_cons]
 exact LI_Q4_ok
end Burn.M24
namespace Burn.M24
open Go Go.BE Go.Proofs
set_option maxRecDepth 100000
set_option linter.unusedVariables false
set_option linter.unusedSimpArgs false
noncomputable abbrev E_Q6 : Ctx := ctx L_Q5 LI_Q5
theorem E_Q6_ok : EOK E_Q6 := qcz L_Q5_ok LI_Q5_ok
def cuts_Q6 : CutL := [([], 55, 0, [0, 1, 5], [], [])]
def rets_Q6 : FuncId → List (Option Fx)
 | _ => []
def H_Q6 : Hints := { cut := cutOf cuts_Q6, ret := rets_Q6 }
noncomputable def qfw (a : List (Den I)) (b : List (Den I)) (i : Int) : Cfg := hcfg E_Q6 qdi 0 [(0, (.tv (.sl 8 I) a)), (1, (.tv (.sl 8 I) b)), (5, (vi i))] [] 0
theorem r24_EqualInts_t (a : List (Den I)) (b : List (Den I)) : run E_Q6 H_Q6 qdi 3000 (start E_Q6 qdi [(.tv (.sl 8 I) a), (.tv (.sl 8 I) b)]) = (cond (((ln I a) : Int) != ((ln I b) : Int)) (rt (vb false) []) (hd (qfw a b (0 : Int)))) := by kernel_rfl
theorem r24_EqualInts_L0_t (a : List (Den I)) (b : List (Den I)) (i : Int) : run E_Q6 H_Q6 qdi 3000 (qfw a b i) = (cond (decide (i < ((ln I a) : Int))) (.chk (0 ≤ i ∧ i < (ln I a)) (.chk (0 ≤ i ∧ i < (ln I b)) (cond ((z (gd I a i.toNat)) != (z (gd I b i.toNat))) (rt (vb false) []) (hd (qfw a b (IntKind.wrap .i64 (i + (1 : Int)))))))) (rt (vb true) [])) := by kernel_rfl
theorem witness_Equal_t (a : Den qae) (b : Den qae) : run E_Q6 H_Q6 qfd 3000 (start E_Q6 qfd [(.tv qae a), (.tv qae b)]) = (.chk (True) (.know True (cond (eqPs a.1 b.1) (.chk (True) (.know True (cond (eqCuts a.2.1 b.2.1) (.chk (True) (.know True (rt (vb (eqPaths a.2.2.1 b.2.2.1)) []))) (rt (vb false) [])))) (rt (vb false) [])))) := by kernel_rfl
theorem r24_EqualInts_l (l m : List (Den I)) (hl : ln I l = ln I m) (hr : ln I l < 9223372036854775807) : ∀ i, i ≤ ln I l → Runs E_Q6 (qfw l m i) (fun x h => x = vb (denBL (denB I) (l.drop i) (m.drop i)) ∧ h = []) :=
 qes (.tree E_Q6_ok (r24_EqualInts_L0_t _ _ _) (by
  rw [qcf, show m.drop (ln I l) = [] from hl ▸ qcf]
  exact qap (fun h => absurd (of_decide_eq_true h) (Int.lt_irrefl _)) fun _ => ⟨rfl, rfl⟩))
  fun i hi ih => .tree E_Q6_ok (r24_EqualInts_L0_t _ _ _) (by
   have hi' : i < ln I m := hl ▸ hi
   rw [qbz hi, qbz hi']
   refine qap (fun _ => ⟨⟨Int.natCast_nonneg _, Int.ofNat_lt.2 hi⟩, fun _ => ⟨⟨Int.natCast_nonneg _, Int.ofNat_lt.2 hi'⟩, fun _ => ?_⟩⟩) fun h => absurd (Int.ofNat_lt.2 hi) (of_decide_eq_false h)
   rw [Int.toNat_natCast, wrapS hi hr]
   exact eq_step ih rfl rfl)
def k_r24_EqualInts : Con := con [.d (.sl 8 I), .d (.sl 8 I)] .bool (fun x => True) fun x => eqIs x.1 x.2.1
theorem m_r24_EqualInts (a : List (Den I)) (b : List (Den I)) (h_a : okD (.sl 8 I) a) (h_b : okD (.sl 8 I) b) (hp : True) : Runs E_Q6 (start E_Q6 qdi [(.tv (.sl 8 I) a), (.tv (.sl 8 I) b)]) (fun r_ h_ => r_ = (vb (eqIs a b)) ∧ h_ = []) := .tree E_Q6_ok (r24_EqualInts_t a b) (by
 refine qap (fun h => ⟨?_, rfl⟩) fun h => r24_EqualInts_l a b (eq_of h) (qdm h_a.1) 0 (Nat.zero_le _)
 have h := ne_of h
 rw [show eqIs a b = false from qfl h])
theorem c_r24_EqualInts : qat E_Q6 qdi k_r24_EqualInts.spec := qcj fun x hx hp => ⟨rfl, m_r24_EqualInts x.1 x.2.1 hx.1 hx.2.1 hp⟩

def k_witness_Equal : Con := con [.d qae, .d qae] .bool (fun x => True) fun x => eqWit x.1 x.2.1
theorem m_witness_Equal (a : Den qae) (b : Den qae) (h_a : okD qae a) (h_b : okD qae b) (hp : True) : Runs E_Q6 (start E_Q6 qfd [(.tv qae a), (.tv qae b)]) (fun r_ h_ => r_ = (vb (eqWit a b)) ∧ h_ = []) := .tree E_Q6_ok (witness_Equal_t a b) (by
 have e : eqWit a b = (eqPs a.1 b.1 && (eqCuts a.2.1 b.2.1 && (eqPaths a.2.2.1 b.2.2.1 && true))) := rfl
 refine ⟨trivial, fun _ _ => qap (fun h1 => ⟨trivial, fun _ _ => qap (fun h2 => ⟨trivial, fun _ _ => ⟨?_, rfl⟩⟩) fun h2 => ⟨?_, rfl⟩⟩) fun h1 => ⟨?_, rfl⟩⟩
 ·rw [e, h1, h2]; simp only [Bool.true_and, Bool.and_true]
 ·rw [e, h1, h2]; rfl
 ·rw [e, h1]; rfl)
theorem c_witness_Equal : qat E_Q6 qfd k_witness_Equal.spec := qcj fun x hx hp => ⟨rfl, m_witness_Equal x.1 x.2.1 hx.1 hx.2.1 hp⟩
def L_Q6 : List (FuncId × FSpec) := [(qdi, k_r24_EqualInts.spec), (qfd, k_witness_Equal.spec)] ++ L_Q5
theorem L_Q6_ok : ∀ x ∈ L_Q6, qat (ctx []) x.1 x.2 := by
 unfold L_Q6
 simp only [List.cons_append, List.nil_append, List.forall_mem_cons]
 exact ⟨c_r24_EqualInts, c_witness_Equal, L_Q5_ok⟩
def LI_Q6 : List IoT := [] ++ LI_Q5
theorem LI_Q6_ok : ∀ x ∈ LI_Q6, qbg (ctx []) x.1 x.2.1 x.2.2 := by
 unfold LI_Q6
 simp only [List.cons_append, List.nil_append, List.forall_mem_cons]
 exact LI_Q5_ok
end Burn.M24
namespace Burn.M24
open Go Go.BE Go.Proofs
set_option maxRecDepth 100000
set_option linter.unusedVariables false
set_option linter.unusedSimpArgs false
noncomputable abbrev E_Q7 : Ctx := ctx L_Q6 LI_Q6
theorem qfq : EOK E_Q7 := qcz L_Q6_ok LI_Q6_ok
def cuts_Q7 : CutL := [([], 12, 0, [1, 3, 4], [], []),
 ([], 12, 2, [1, 3, 4, 5], [], []),
 ([], 12, 4, [1, 3, 6], [], []),
 ([], 18, 0, [2, 3, 5], [], []),
 ([], 18, 2, [2, 3, 6], [], []),
 ([], 18, 4, [2, 3, 6, 7, 8, 9], [], []),
 ([], 18, 6, [2, 3, 10], [], [])]
def rets_Q7 : FuncId → List (Option Fx)
 | _ => []
def H_Q7 : Hints := { cut := cutOf cuts_Q7, ret := rets_Q7 }
noncomputable def r24_Equal_L0 (a : Den qae) (b : Den qae) (i : Int) : Cfg := hcfg E_Q7 qcq 0 [(2, (.rtp qae a)), (3, (.rtp qae b)), (5, (vi i))] [] 0
noncomputable def qgb (a : Den qae) (b : Den qae) (i : Int) : Cfg := hcfg E_Q7 qcq 2 [(2, (.rtp qae a)), (3, (.rtp qae b)), (6, (vi i))] [] 0
noncomputable def r24_Equal_L4 (a : Den qae) (b : Den qae) (i : Int) (k : Int) (c_0 : Int) (c_1 : Int) (c_2 : List (Den qab)) (d_0 : Int) (d_1 : Int) (d_2 : List (Den qab)) : Cfg := hcfg E_Q7 qcq 4 [(2, (.rtp qae a)), (3, (.rtp qae b)), (6, (vi i)), (7, (.ref 0 0)), (8, (.ref 1 0)), (9, (vi k))] [(0, ⟨(.cells [(vi c_0), (vi c_1), (.tv (.sl 40 qab) c_2)]), 0, [], false, none⟩), (1, ⟨(.cells [(vi d_0), (vi d_1), (.tv (.sl 40 qab) d_2)]), 1, [], false, none⟩)] 2
noncomputable def r24_Equal_L6 (a : Den qae) (b : Den qae) (i : Int) : Cfg := hcfg E_Q7 qcq 6 [(2, (.rtp qae a)), (3, (.rtp qae b)), (10, (vi i))] [] 0
theorem r24_Equal_t (a : Den qae) (b : Den qae) : run E_Q7 H_Q7 qcq 3000 (start E_Q7 qcq [(.tv qae a), (.tv qae b)]) = (cond (((ln qak a.1) : Int) != ((ln qak b.1) : Int)) (rt (vb false) []) (cond (((ln qac a.2.1) : Int) != ((ln qac b.2.1) : Int)) (rt (vb false) []) (cond (((ln qal a.2.2.1) : Int) != ((ln qal b.2.2.1) : Int)) (rt (vb false) []) (hd (r24_Equal_L0 a b (0 : Int)))))) := by kernel_rfl
theorem r24_Equal_L0_t (a : Den qae) (b : Den qae) (i : Int) : run E_Q7 H_Q7 qcq 3000 (r24_Equal_L0 a b i) = (cond (decide (i < ((ln qak a.1) : Int))) (.chk (0 ≤ i ∧ i < (ln qak a.1)) (.chk (0 ≤ i ∧ i < (ln qak b.1)) (cond (!(((z ((gd qak a.1 i.toNat).1)) == (z ((gd qak b.1 i.toNat).1))) && (((z ((gd qak a.1 i.toNat).2.1)) == (z ((gd qak b.1 i.toNat).2.1))) && true))) (rt (vb false) []) (hd (r24_Equal_L0 a b (IntKind.wrap .i64 (i + (1 : Int)))))))) (hd (qgb a b (0 : Int)))) := by kernel_rfl
theorem r24_Equal_L2_t (a : Den qae) (b : Den qae) (i : Int) : run E_Q7 H_Q7 qcq 3000 (qgb a b i) = (cond (decide (i < ((ln qac a.2.1) : Int))) (.chk (0 ≤ i ∧ i < (ln qac a.2.1)) (.chk (0 ≤ i ∧ i < (ln qac b.2.1)) (cond ((z ((gd qac a.2.1 i.toNat).1)) != (z ((gd qac b.2.1 i.toNat).1))) (rt (vb false) []) (cond ((z ((gd qac a.2.1 i.toNat).2.1)) != (z ((gd qac b.2.1 i.toNat).2.1))) (rt (vb false) []) (cond (((ln qab ((gd qac a.2.1 i.toNat).2.2.1)) : Int) != ((ln qab ((gd qac b.2.1 i.toNat).2.2.1)) : Int)) (rt (vb false) []) (hd (r24_Equal_L4 a b i (0 : Int) (z ((gd qac a.2.1 i.toNat).1)) (z ((gd qac a.2.1 i.toNat).2.1)) ((gd qac a.2.1 i.toNat).2.2.1) (z ((gd qac b.2.1 i.toNat).1)) (z ((gd qac b.2.1 i.toNat).2.1)) ((gd qac b.2.1 i.toNat).2.2.1)))))))) (hd (r24_Equal_L6 a b (0 : Int)))) := by kernel_rfl
theorem r24_Equal_L4_t (a : Den qae) (b : Den qae) (i : Int) (k : Int) (c_0 : Int) (c_1 : Int) (c_2 : List (Den qab)) (d_0 : Int) (d_1 : Int) (d_2 : List (Den qab)) : run E_Q7 H_Q7 qcq 3000 (r24_Equal_L4 a b i k c_0 c_1 c_2 d_0 d_1 d_2) = (cond (decide (k < ((ln qab c_2) : Int))) (.chk (0 ≤ k ∧ k < (ln qab c_2)) (.chk (0 ≤ k ∧ k < (ln qab d_2)) (.chk (True) (.know True (cond (!(eqInv (gd qab c_2 k.toNat) (gd qab d_2 k.toNat))) (rt (vb false) []) (hd (r24_Equal_L4 a b i (IntKind.wrap .i64 (k + (1 : Int))) c_0 c_1 c_2 d_0 d_1 d_2))))))) (hd (qgb a b (IntKind.wrap .i64 (i + (1 : Int)))))) := by kernel_rfl
theorem r24_Equal_L6_t (a : Den qae) (b : Den qae) (i : Int) : run E_Q7 H_Q7 qcq 3000 (r24_Equal_L6 a b i) = (cond (decide (i < ((ln qal a.2.2.1) : Int))) (.chk (0 ≤ i ∧ i < (ln qal a.2.2.1)) (.chk (0 ≤ i ∧ i < (ln qal b.2.2.1)) (cond ((z ((gd qal a.2.2.1 i.toNat).1)) != (z ((gd qal b.2.2.1 i.toNat).1))) (rt (vb false) []) (cond ((z ((gd qal a.2.2.1 i.toNat).2.2.2.1)) != (z ((gd qal b.2.2.1 i.toNat).2.2.2.1))) (rt (vb false) []) (.chk (True) (.know True (cond (!(eqIs (gd qal a.2.2.1 i.toNat).2.1 (gd qal b.2.2.1 i.toNat).2.1)) (rt (vb false) []) (.chk (True) (.know True (cond (!(eqIs (gd qal a.2.2.1 i.toNat).2.2.1 (gd qal b.2.2.1 i.toNat).2.2.1)) (rt (vb false) []) (hd (r24_Equal_L6 a b (IntKind.wrap .i64 (i + (1 : Int))))))))))))))) (rt (vb true) [])) := by kernel_rfl
noncomputable def qch (w : Den qae) (n : Int) (i : Int) : Cfg := hcfg E_Q7 qbd 0 [(1, (.rtp qae w)), (3, (vi n)), (4, (vi i))] [] 0
noncomputable def qdq (w : Den qae) (n : Int) (i : Int) (k : Int) : Cfg := hcfg E_Q7 qbd 2 [(1, (.rtp qae w)), (3, (vi n)), (4, (vi i)), (5, (vi k))] [] 0
noncomputable def qcu (w : Den qae) (n : Int) (i : Int) : Cfg := hcfg E_Q7 qbd 4 [(1, (.rtp qae w)), (3, (vi n)), (6, (vi i))] [] 0
theorem law24_LargeWitness_t (w : Den qae) : run E_Q7 H_Q7 qbd 3000 (start E_Q7 qbd [(.tv qae w)]) = (hd (qch w ((ln qak w.1) : Int) (0 : Int))) := by kernel_rfl
theorem law24_LargeWitness_L0_t (w : Den qae) (n : Int) (i : Int) : run E_Q7 H_Q7 qbd 3000 (qch w n i) = (cond (decide (i < ((ln qac w.2.1) : Int))) (cond (decide (n ≤ (3000 : Int))) (.chk (0 ≤ i ∧ i < (ln qac w.2.1)) (hd (qdq w (IntKind.wrap .i64 ((IntKind.wrap .i64 (n + (1 : Int))) + ((ln qab ((gd qac w.2.1 i.toNat).2.2.1)) : Int))) i (0 : Int)))) (hd (qcu w n (0 : Int)))) (hd (qcu w n (0 : Int)))) := by kernel_rfl
theorem law24_LargeWitness_L2_t (w : Den qae) (n : Int) (i : Int) (k : Int) : run E_Q7 H_Q7 qbd 3000 (qdq w n i k) = (.chk (0 ≤ i ∧ i < (ln qac w.2.1)) (cond (decide (k < ((ln qab ((gd qac w.2.1 i.toNat).2.2.1)) : Int))) (cond (decide (n ≤ (3000 : Int))) (.chk (0 ≤ i ∧ i < (ln qac w.2.1)) (.chk (0 ≤ k ∧ k < (ln qab ((gd qac w.2.1 i.toNat).2.2.1))) (hd (qdq w (IntKind.wrap .i64 (n + ((ln qaj ((gd qab ((gd qac w.2.1 i.toNat).2.2.1) k.toNat).2.2.2.1)) : Int))) i (IntKind.wrap .i64 (k + (1 : Int))))))) (hd (qch w n (IntKind.wrap .i64 (i + (1 : Int)))))) (hd (qch w n (IntKind.wrap .i64 (i + (1 : Int))))))) := by kernel_rfl
theorem law24_LargeWitness_L4_t (w : Den qae) (n : Int) (i : Int) : run E_Q7 H_Q7 qbd 3000 (qcu w n i) = (cond (decide (i < ((ln qal w.2.2.1) : Int))) (cond (decide (n ≤ (3000 : Int))) (.chk (0 ≤ i ∧ i < (ln qal w.2.2.1)) (.chk (0 ≤ i ∧ i < (ln qal w.2.2.1)) (hd (qcu w (IntKind.wrap .i64 ((IntKind.wrap .i64 ((IntKind.wrap .i64 (n + (1 : Int))) + ((ln I ((gd qal w.2.2.1 i.toNat).2.1)) : Int))) + ((ln I ((gd qal w.2.2.1 i.toNat).2.2.1)) : Int))) (IntKind.wrap .i64 (i + (1 : Int))))))) (cond (decide (n > (3000 : Int))) (rt (vi (1 : Int)) []) (rt (vi (0 : Int)) []))) (cond (decide (n > (3000 : Int))) (rt (vi (1 : Int)) []) (rt (vi (0 : Int)) []))) := by kernel_rfl
theorem r24E_6 (a b : Den qae) (hl : ln qal a.2.2.1 = ln qal b.2.2.1) (hr : ln qal a.2.2.1 < 9223372036854775807) : ∀ i, i ≤ ln qal a.2.2.1 → Runs E_Q7 (r24_Equal_L6 a b i) (fun x h => x = vb (denBL (denB qal) (List.drop (α := Den qal) i a.2.2.1) (List.drop (α := Den qal) i b.2.2.1)) ∧ h = []) :=
 qes (.tree qfq (r24_Equal_L6_t _ _ _) (by
  rw [qcf, show List.drop (α := Den qal) (ln qal a.2.2.1) b.2.2.1 = [] from hl ▸ qcf]
  exact qap (fun h => absurd (of_decide_eq_true h) (Int.lt_irrefl _)) fun _ => ⟨rfl, rfl⟩))
  fun i hi ih => .tree qfq (r24_Equal_L6_t _ _ _) (by
   have hi' : i < ln qal b.2.2.1 := hl ▸ hi
   rw [qbz hi, qbz hi']
   refine qap (fun _ => ⟨⟨Int.natCast_nonneg _, Int.ofNat_lt.2 hi⟩, fun _ => ⟨⟨Int.natCast_nonneg _, Int.ofNat_lt.2 hi'⟩, fun _ => ?_⟩⟩) fun h => absurd (Int.ofNat_lt.2 hi) (of_decide_eq_false h)
   rw [Int.toNat_natCast, wrapS hi hr]
   generalize gd qal a.2.2.1 i = p
   generalize gd qal b.2.2.1 i = q
   have e : denB qal p q = ((z p.1 == z q.1) && (eqIs p.2.1 q.2.1 && (eqIs p.2.2.1 q.2.2.1 && ((z p.2.2.2.1 == z q.2.2.2.1) && true)))) := rfl
   rw [denBL, e]
   refine qap (fun h1 => ⟨?_, rfl⟩) fun h1 => qap (fun h2 => ⟨?_, rfl⟩) fun h2 => ⟨trivial, fun _ _ => qap (fun h3 => ⟨?_, rfl⟩) fun h3 => ⟨trivial, fun _ _ => qap (fun h4 => ⟨?_, rfl⟩) fun h4 => ?_⟩⟩
   ·rw [bne_t h1]; rfl
   ·rw [bne_t h2]; simp only [Bool.and_false, Bool.false_and]
   ·rw [not_t h3]; simp only [Bool.and_false, Bool.false_and]
   ·rw [not_t h4]; simp only [Bool.and_false, Bool.false_and]
   ·rw [bne_f h1, bne_f h2, not_f h3, not_f h4]; exact ih)
theorem r24E_4 (a b : Den qae) (i : Int) (c d : Den qac) (r : Bool) (hl : ln qab c.2.2.1 = ln qab d.2.2.1) (hr : ln qab c.2.2.1 < 9223372036854775807) (hn : Runs E_Q7 (qgb a b (IntKind.wrap .i64 (i + (1 : Int)))) (fun x h => x = vb r ∧ h = [])) : ∀ k, k ≤ ln qab c.2.2.1 → Runs E_Q7 (r24_Equal_L4 a b i k c.1 c.2.1 c.2.2.1 d.1 d.2.1 d.2.2.1) (fun x h => x = vb (denBL (denB qab) (List.drop (α := Den qab) k c.2.2.1) (List.drop (α := Den qab) k d.2.2.1) && r) ∧ h = []) :=
 qes (.tree qfq (r24_Equal_L4_t _ _ _ _ _ _ _ _ _ _) (by
  rw [qcf, show List.drop (α := Den qab) (ln qab c.2.2.1) d.2.2.1 = [] from hl ▸ qcf]
  exact qap (fun h => absurd (of_decide_eq_true h) (Int.lt_irrefl _)) fun _ => hn))
  fun k hi ih => .tree qfq (r24_Equal_L4_t _ _ _ _ _ _ _ _ _ _) (by
   have hi' : k < ln qab d.2.2.1 := hl ▸ hi
   rw [qbz hi, qbz hi']
   refine qap (fun _ => ⟨⟨Int.natCast_nonneg _, Int.ofNat_lt.2 hi⟩, fun _ => ⟨⟨Int.natCast_nonneg _, Int.ofNat_lt.2 hi'⟩, fun _ => ⟨trivial, fun _ _ => ?_⟩⟩⟩) fun h => absurd (Int.ofNat_lt.2 hi) (of_decide_eq_false h)
   rw [Int.toNat_natCast, wrapS hi hr]
   exact eq_stepR ih rfl rfl)
theorem r24E_2 (a b : Den qae) (hl : ln qac a.2.1 = ln qac b.2.1) (hr : ln qac a.2.1 < 9223372036854775807) (hok : okD (.sl 40 qac) a.2.1) (hn : Runs E_Q7 (r24_Equal_L6 a b (0 : Int)) (fun x h => x = vb (eqPaths a.2.2.1 b.2.2.1) ∧ h = [])) : ∀ i, i ≤ ln qac a.2.1 → Runs E_Q7 (qgb a b i) (fun x h => x = vb (denBL (denB qac) (List.drop (α := Den qac) i a.2.1) (List.drop (α := Den qac) i b.2.1) && eqPaths a.2.2.1 b.2.2.1) ∧ h = []) :=
 qes (.tree qfq (r24_Equal_L2_t _ _ _) (by
  rw [qcf, show List.drop (α := Den qac) (ln qac a.2.1) b.2.1 = [] from hl ▸ qcf]
  exact qap (fun h => absurd (of_decide_eq_true h) (Int.lt_irrefl _)) fun _ => hn))
  fun i hi ih => .tree qfq (r24_Equal_L2_t _ _ _) (by
   have hi' : i < ln qac b.2.1 := hl ▸ hi
   rw [qbz hi, qbz hi']
   refine qap (fun _ => ⟨⟨Int.natCast_nonneg _, Int.ofNat_lt.2 hi⟩, fun _ => ⟨⟨Int.natCast_nonneg _, Int.ofNat_lt.2 hi'⟩, fun _ => ?_⟩⟩) fun h => absurd (Int.ofNat_lt.2 hi) (of_decide_eq_false h)
   rw [Int.toNat_natCast]
   have hc : okD qac (gd qac a.2.1 i) := ok_gd hok hi
   revert hc
   generalize gd qac a.2.1 i = p
   generalize gd qac b.2.1 i = q
   intro hc
   have e : denB qac p q = ((z p.1 == z q.1) && ((z p.2.1 == z q.2.1) && (denBL (denB qab) p.2.2.1 q.2.2.1 && true))) := rfl
   rw [denBL, e]
   refine qap (fun h1 => ⟨?_, rfl⟩) fun h1 => qap (fun h2 => ⟨?_, rfl⟩) fun h2 => qap (fun h3 => ⟨?_, rfl⟩) fun h3 => ?_
   ·rw [bne_t h1]; rfl
   ·rw [bne_t h2]; simp only [Bool.and_false, Bool.false_and]
   ·rw [qfl (ne_of h3)]; simp only [Bool.and_false, Bool.false_and]
   ·rw [bne_f h1, bne_f h2, Bool.true_and, Bool.true_and, Bool.and_true, Bool.and_assoc]
    exact r24E_4 a b i p q _ (eq_of h3) (qdm hc.2.2.1.1) (by rw [wrapS hi hr]; exact ih) 0 (Nat.zero_le _))
theorem r24E_0 (a b : Den qae) (hl : ln qak a.1 = ln qak b.1) (hr : ln qak a.1 < 9223372036854775807) (r : Bool) (hn : Runs E_Q7 (qgb a b (0 : Int)) (fun x h => x = vb r ∧ h = [])) : ∀ i, i ≤ ln qak a.1 → Runs E_Q7 (r24_Equal_L0 a b i) (fun x h => x = vb (denBL (denB qak) (List.drop (α := Den qak) i a.1) (List.drop (α := Den qak) i b.1) && r) ∧ h = []) :=
 qes (.tree qfq (r24_Equal_L0_t _ _ _) (by
  rw [qcf, show List.drop (α := Den qak) (ln qak a.1) b.1 = [] from hl ▸ qcf]
  exact qap (fun h => absurd (of_decide_eq_true h) (Int.lt_irrefl _)) fun _ => hn))
  fun i hi ih => .tree qfq (r24_Equal_L0_t _ _ _) (by
   have hi' : i < ln qak b.1 := hl ▸ hi
   rw [qbz hi, qbz hi']
   refine qap (fun _ => ⟨⟨Int.natCast_nonneg _, Int.ofNat_lt.2 hi⟩, fun _ => ⟨⟨Int.natCast_nonneg _, Int.ofNat_lt.2 hi'⟩, fun _ => ?_⟩⟩) fun h => absurd (Int.ofNat_lt.2 hi) (of_decide_eq_false h)
   rw [Int.toNat_natCast, wrapS hi hr]
   exact eq_stepR ih rfl rfl)
def k_r24_Equal : Con := con [.d qae, .d qae] .bool (fun x => True) fun x => eqWit x.1 x.2.1
theorem m_r24_Equal (a : Den qae) (b : Den qae) (h_a : okD qae a) (h_b : okD qae b) (hp : True) : Runs E_Q7 (start E_Q7 qcq [(.tv qae a), (.tv qae b)]) (fun r_ h_ => r_ = (vb (eqWit a b)) ∧ h_ = []) := .tree qfq (r24_Equal_t a b) (by
 have e : eqWit a b = (denBL (denB qak) a.1 b.1 && (denBL (denB qac) a.2.1 b.2.1 && (eqPaths a.2.2.1 b.2.2.1 && true))) := rfl
 rw [e, Bool.and_true]
 refine qap (fun h1 => ⟨?_, rfl⟩) fun h1 => qap (fun h2 => ⟨?_, rfl⟩) fun h2 => qap (fun h3 => ⟨?_, rfl⟩) fun h3 => ?_
 ·rw [qfl (ne_of h1)]; rfl
 ·rw [qfl (ne_of h2)]; simp only [Bool.and_false, Bool.false_and]
 ·rw [show eqPaths a.2.2.1 b.2.2.1 = false from qfl (ne_of h3)]; simp only [Bool.and_false]
 ·exact r24E_0 a b (eq_of h1) (qdm h_a.1.1) _ (r24E_2 a b (eq_of h2) (qdm h_a.2.1.1) h_a.2.1 (r24E_6 a b (eq_of h3) (qdm h_a.2.2.1.1) 0 (Nat.zero_le _)) 0 (Nat.zero_le _)) 0 (Nat.zero_le _))
theorem c_r24_Equal : qat E_Q7 qcq k_r24_Equal.spec := qcj fun x hx hp => ⟨rfl, m_r24_Equal x.1 x.2.1 hx.1 hx.2.1 hp⟩
def lwI : List (Den qab) → Int → Int
 | [], n => n
 | v :: l, n => cond (decide (n ≤ 3000)) (lwI l (n + (ln qaj v.2.2.2.1 : Int))) n
def lwC : List (Den qac) → Int → Int
 | [], n => n
 | c :: l, n => cond (decide (n ≤ 3000)) (lwC l (lwI c.2.2.1 (n + 1 + (ln qab c.2.2.1 : Int)))) n
def lwP : List (Den qal) → Int → Int
 | [], n => n
 | p :: l, n => cond (decide (n ≤ 3000)) (lwP l (n + 1 + (ln I p.2.1 : Int) + (ln I p.2.2.1 : Int))) n
def lwO (w : Den qae) (n : Int) : Int := cond (decide (lwP w.2.2.1 n > 3000)) 1 0
def lwF (w : Den qae) : Int := lwO w (lwC w.2.1 (ln qak w.1 : Int))
theorem lw_fin {E : Ctx} (n : Int) : (cond (decide (n > (3000 : Int))) (rt (vi (1 : Int)) []) (rt (vi (0 : Int)) [])).wp (contL E (fun x h => x = vi (cond (decide (n > 3000)) 1 0) ∧ h = [])) := by
 cases decide (n > 3000) <;> exact ⟨rfl, rfl⟩
theorem rml {b : Nat} {S : Sh} {l : List (Den S)} (h : okD (.sl b S) l) : (ln S l : Int) ≤ 140737488355328 := by
 have h : ln S l ≤ roomB := h.1.2
 unfold roomB at h
 omega
theorem lwL4 (w : Den qae) (hok : okD (.sl 64 qal) w.2.2.1) : ∀ i, i ≤ ln qal w.2.2.1 → ∀ n : Int, 0 ≤ n → n < 4611686018427387904 → Runs E_Q7 (qcu w n i) (fun x h => x = vi (cond (decide (lwP (List.drop (α := Den qal) i w.2.2.1) n > 3000)) 1 0) ∧ h = []) :=
 qes (fun n h0 h1 => .tree qfq (law24_LargeWitness_L4_t _ _ _) (by
  rw [qcf]
  exact qap (fun h => absurd (of_decide_eq_true h) (Int.lt_irrefl _)) fun _ => lw_fin n))
  fun i hi ih n h0 h1 => .tree qfq (law24_LargeWitness_L4_t _ _ _) (by
   rw [qbz hi, lwP]
   refine qap (fun _ => qap (fun h => ⟨⟨Int.natCast_nonneg _, Int.ofNat_lt.2 hi⟩, fun _ => ⟨⟨Int.natCast_nonneg _, Int.ofNat_lt.2 hi⟩, fun _ => ?_⟩⟩) fun h => ?_) fun h => absurd (Int.ofNat_lt.2 hi) (of_decide_eq_false h)
   ·rw [Int.toNat_natCast, wrapS hi (qdm hok.1), h]
    have hp : okD qal (gd qal w.2.2.1 i) := ok_gd hok hi
    have r1 := rml hp.2.1
    have r2 := rml hp.2.2.1
    have h := of_decide_eq_true h
    rw [wrap64 (n + 1) (by omega) (by omega), wrap64 (n + 1 + _) (by omega) (by omega), wrap64 (n + 1 + _ + _) (by omega) (by omega)]
    exact ih _ (by omega) (by omega)
   ·rw [h]
    exact lw_fin n)
theorem lwL2 (w : Den qae) (i : Nat) (hi : i < ln qac w.2.1) (hc : okD qac (gd qac w.2.1 i)) (R : Int → Int) (hn : ∀ m : Int, 0 ≤ m → m < 4611686018427387904 → Runs E_Q7 (qch w m (IntKind.wrap .i64 (i + (1 : Int)))) (fun x h => x = vi (R m) ∧ h = [])) : ∀ k, k ≤ ln qab (gd qac w.2.1 i).2.2.1 → ∀ n : Int, 0 ≤ n → n < 4611686018427387904 → Runs E_Q7 (qdq w n i k) (fun x h => x = vi (R (lwI (List.drop (α := Den qab) k (gd qac w.2.1 i).2.2.1) n)) ∧ h = []) :=
 qes (fun n h0 h1 => .tree qfq (law24_LargeWitness_L2_t _ _ _ _) (by
  rw [qcf]
  exact ⟨⟨Int.natCast_nonneg _, Int.ofNat_lt.2 hi⟩, fun _ => qap (fun h => absurd (of_decide_eq_true h) (Int.lt_irrefl _)) fun _ => hn n h0 h1⟩))
  fun k hk ih n h0 h1 => .tree qfq (law24_LargeWitness_L2_t _ _ _ _) (by
   rw [qbz hk, lwI]
   refine ⟨⟨Int.natCast_nonneg _, Int.ofNat_lt.2 hi⟩, fun _ => qap (fun _ => qap (fun h => ⟨⟨Int.natCast_nonneg _, Int.ofNat_lt.2 hi⟩, fun _ => ⟨⟨Int.natCast_nonneg _, Int.ofNat_lt.2 hk⟩, fun _ => ?_⟩⟩) fun h => ?_) fun h => absurd (Int.ofNat_lt.2 hk) (of_decide_eq_false h)⟩
   ·rw [Int.toNat_natCast, Int.toNat_natCast, wrapS hk (qdm hc.2.2.1.1), h]
    have hp : okD qab (gd qab (gd qac w.2.1 i).2.2.1 k) := ok_gd hc.2.2.1 hk
    have r1 := rml hp.2.2.2.1
    have h := of_decide_eq_true h
    rw [wrap64 (n + _) (by omega) (by omega)]
    exact ih _ (by omega) (by omega)
   ·rw [h]
    exact hn n h0 h1)
theorem lwL0 (w : Den qae) (hok : okD (.sl 40 qac) w.2.1) (hok' : okD (.sl 64 qal) w.2.2.1) : ∀ i, i ≤ ln qac w.2.1 → ∀ n : Int, 0 ≤ n → n < 4611686018427387904 → Runs E_Q7 (qch w n i) (fun x h => x = vi (lwO w (lwC (List.drop (α := Den qac) i w.2.1) n)) ∧ h = []) :=
 qes (fun n h0 h1 => .tree qfq (law24_LargeWitness_L0_t _ _ _) (by
  rw [qcf]
  exact qap (fun h => absurd (of_decide_eq_true h) (Int.lt_irrefl _)) fun _ => lwL4 w hok' 0 (Nat.zero_le _) n h0 h1))
  fun i hi ih n h0 h1 => .tree qfq (law24_LargeWitness_L0_t _ _ _) (by
   rw [qbz hi, lwC]
   refine qap (fun _ => qap (fun h => ⟨⟨Int.natCast_nonneg _, Int.ofNat_lt.2 hi⟩, fun _ => ?_⟩) fun h => ?_) fun h => absurd (Int.ofNat_lt.2 hi) (of_decide_eq_false h)
   ·rw [Int.toNat_natCast, h]
    have hp : okD qac (gd qac w.2.1 i) := ok_gd hok hi
    have r1 := rml hp.2.2.1
    have h := of_decide_eq_true h
    rw [wrap64 (n + 1) (by omega) (by omega), wrap64 (n + 1 + _) (by omega) (by omega)]
    exact lwL2 w i hi hp (fun m => lwO w (lwC (List.drop (α := Den qac) (i + 1) w.2.1) m)) (fun m h0 h1 => by
     rw [wrapS hi (qdm hok.1)]
     exact ih m h0 h1) 0 (Nat.zero_le _) _ (by omega) (by omega)
   ·rw [h]
    exact lwL4 w hok' 0 (Nat.zero_le _) n h0 h1)
def k_law24_LargeWitness : Con := con [.d qae] I (fun x => True) fun x => lwF x.1
theorem m_law24_LargeWitness (w : Den qae) (h_w : okD qae w) (hp : True) : Runs E_Q7 (start E_Q7 qbd [(.tv qae w)]) (fun r_ h_ => r_ = (vi (lwF w)) ∧ h_ = []) := .tree qfq (law24_LargeWitness_t w) (by
 have r := rml h_w.1
 exact lwL0 w h_w.2.1 h_w.2.2.1 0 (Nat.zero_le _) _ (by omega) (by omega))
theorem c_law24_LargeWitness : qat E_Q7 qbd k_law24_LargeWitness.spec := qcj fun x hx hp => ⟨rfl, m_law24_LargeWitness x.1 hx.1 hp⟩
def L_Q7 : List (FuncId × FSpec) := [(qcq, k_r24_Equal.spec), (qbd, k_law24_LargeWitness.spec)] ++ L_Q6
theorem L_Q7_ok : ∀ x ∈ L_Q7, qat (ctx []) x.1 x.2 := by
 unfold L_Q7
 simp only [List.cons_append, List.nil_append, List.forall_mem_cons]
 exact ⟨c_r24_Equal, c_law24_LargeWitness, L_Q6_ok⟩
def LI_Q7 : List IoT := [] ++ LI_Q6
theorem LI_Q7_ok : ∀ x ∈ LI_Q7, qbg (ctx []) x.1 x.2.1 x.2.2 := by
 unfold LI_Q7
 simp only [List.cons_append, List.nil_append, List.forall_mem_cons]
 exact LI_Q6_ok
end Burn.M24
namespace Burn.M24
open Go Go.BE Go.Proofs
set_option maxRecDepth 100000
set_option linter.unusedVariables false
set_option linter.unusedSimpArgs false
noncomputable abbrev E_Q8 : Ctx := ctx L_Q7 LI_Q7
theorem E_Q8_ok : EOK E_Q8 := qcz L_Q7_ok LI_Q7_ok
def cuts_Q8 : CutL := []
def rets_Q8 : FuncId → List (Option Fx)
 | _ => []
def H_Q8 : Hints := { cut := cutOf cuts_Q8, ret := rets_Q8 }
theorem law24_WitnessEqual_t (a : Den qae) (b : Den qae) : run E_Q8 H_Q8 qdu 3000 (start E_Q8 qdu [(.tv qae a), (.tv qae b)]) = (.chk (True) (.know (okD (.int .i64) (lwF a)) (cond ((lwF a) == (1 : Int)) (.chk (True) (.know True (rt (vb true) []))) (.chk (True) (.know (okD (.int .i64) (lwF b)) (cond ((lwF b) == (1 : Int)) (.chk (True) (.know True (rt (vb true) []))) (.chk (True) (.chk (True) (cond ((eqWit a b) == (eqWit a b)) (.chk (True) (cond (eqWit a a) (.chk (True) (.know True (.know True (.know True (.know True (rt (vb true) [])))))) (.know True (.know True (.know True (rt (vb false) [])))))) (.know True (.know True (rt (vb false) [])))))))))))) := by kernel_rfl
theorem denBV_refl {α : Type} {e : α → α → Bool} (h : ∀ a, e a a = true) : ∀ (n : Nat) (x : DenV α n), denBV e n x x = true
 | 0, _ => rfl
 | n + 1, x => by rw [denBV, h, denBV_refl h n x.2]; rfl
theorem denB_refl : ∀ (S : Sh) (x : Den S), denB S x x = true := by
 intro S
 induction S with
 | int k => exact fun x => decide_eq_true rfl
 | bool => exact fun x => beq_self_eq_true x
 | str => exact fun x => decide_eq_true rfl
 | unit => exact fun _ => rfl
 | pair a b iha ihb => exact fun x => by rw [denB, iha, ihb]; rfl
 | arr n a ih => exact fun x => denBV_refl ih n x
 | sl b a ih => exact fun x => denBL_refl ih x
 | ptr a ih =>
  intro x
  cases x
  ·rfl
  ·exact ih _
theorem eqWit_refl (a : Den qae) : eqWit a a = true := denB_refl _ a
def yesWE (_ _ : Den qae) : Bool := true
def k_law24_WitnessEqual : Con := con [.d qae, .d qae] .bool (fun x => True) fun x => yesWE x.1 x.2.1
theorem m_law24_WitnessEqual (a : Den qae) (b : Den qae) (h_a : okD qae a) (h_b : okD qae b) (hp : True) : Runs E_Q8 (start E_Q8 qdu [(.tv qae a), (.tv qae b)]) (fun r_ h_ => r_ = (vb (yesWE a b)) ∧ h_ = []) := .tree E_Q8_ok (law24_WitnessEqual_t a b) (by
 show Tre.wp (contL _ (fun x h => x = vb true ∧ h = [])) _
 have e : (eqWit a b == eqWit a b) = true := beq_self_eq_true _
 rw [e, eqWit_refl a]
 exact ⟨trivial, fun _ _ => qap (fun _ => ⟨trivial, fun _ _ => ⟨rfl, rfl⟩⟩) fun _ => ⟨trivial, fun _ _ => qap (fun _ => ⟨trivial, fun _ _ => ⟨rfl, rfl⟩⟩) fun _ => ⟨trivial, fun _ => ⟨trivial, fun _ => ⟨trivial, fun _ => ⟨trivial, fun _ _ _ _ _ => ⟨rfl, rfl⟩⟩⟩⟩⟩⟩⟩)
theorem c_law24_WitnessEqual : qat E_Q8 qdu k_law24_WitnessEqual.spec := qcj fun x hx hp => ⟨rfl, m_law24_WitnessEqual x.1 x.2.1 hx.1 hx.2.1 hp⟩
end Burn.M24

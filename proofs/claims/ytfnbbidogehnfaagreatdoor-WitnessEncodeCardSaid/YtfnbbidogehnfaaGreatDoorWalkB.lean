/- What the functions that the law reaches compute, one contract each. No conditions beyond those written. -/
import Derived.Test.YtfnbbidogehnfaaGreatDoorWalkA
namespace Burn.M24
open Go Go.BE Go.Proofs
set_option maxRecDepth 100000
set_option linter.unusedVariables false
set_option linter.unusedSimpArgs false
noncomputable abbrev E_X10 : Ctx := ctx L_X9 LI_X9
theorem E_X10_ok : EOK E_X10 := qcy L_X9_ok LI_X9_ok
def cuts_X10 : CutL := []
def rets_X10 : FuncId → List (Option Fx)
 | _ => []
def H_X10 : Hints := { cut := cutOf cuts_X10, ret := rets_X10 }
def H_X10_u_eqm : Hints := { H_X10 with unr := fun _ _ => true }
def H_X10_u_chk0 : Hints := { H_X10 with unr := fun _ _ => true }
def H_X10_u_chk1 : Hints := { H_X10 with unr := fun _ _ => true }
theorem eqm_t : run E_X10 H_X10_u_eqm qau 1000000 (start E_X10 qau [(.tv (.sl 8 I) ([(-1 : Int)] : List (Den I))), (.tv (.sl 8 I) ([(-1 : Int)] : List (Den I)))]) = (.chk (0 ≤ (0 : Int) ∧ (0 : Int) < (1 : Nat)) (.chk (0 ≤ (0 : Int) ∧ (0 : Int) < (1 : Nat)) (rt (vb true) []))) := by kernel_rfl
theorem chk0_t : run E_X10 H_X10_u_chk0 qci 1000000 (start E_X10 qci [(.tv qaq (([] : List (Den qar)), ([(⟨#[102]⟩, ([(0 : Int)] : List (Den I)), (3 : Int), ([(3 : Int)] : List (Den I)), ([(([] : List (Den I)), ([] : List (Den qak)), ((4 : Int), ([(0 : Int)] : List (Den I)), ([] : List (Den I)), ([] : List (Den qai)), (0 : Int), ()), ())] : List (Den qag)), ())] : List (Den qal)), ())), (.tv qaq (([] : List (Den qar)), ([(⟨#[102]⟩, ([(0 : Int)] : List (Den I)), (3 : Int), ([(3 : Int)] : List (Den I)), ([(([] : List (Den I)), ([] : List (Den qak)), ((4 : Int), ([(0 : Int)] : List (Den I)), ([] : List (Den I)), ([] : List (Den qai)), (0 : Int), ()), ())] : List (Den qag)), ())] : List (Den qal)), ())), (vi (0 : Int)), (.tv qad (([] : List (Den qah)), ([((0 : Int), (0 : Int), ([] : List (Den qab)), ())] : List (Den qac)), ([((0 : Int), ([(-1 : Int)] : List (Den I)), ([(-1 : Int)] : List (Den I)), (-1 : Int), ())] : List (Den qaf)), ()))]) = (.chk (True) (.know (okD qba ((0 : Int), (0 : Int), (0 : Int), (0 : Int), (0 : Int), ())) (.chk (True) (.know (okD qba ((0 : Int), (0 : Int), (0 : Int), (0 : Int), (0 : Int), ())) (.chk (0 ≤ (0 : Int) ∧ (0 : Int) < (1 : Nat)) (.chk (0 ≤ (0 : Int) ∧ (0 : Int) < (1 : Nat)) (.chk (True) (.know True (.chk (0 ≤ (0 : Int) ∧ (0 : Int) < (1 : Nat)) (.chk (0 ≤ (0 : Int) ∧ (0 : Int) < (1 : Nat)) (.chk (0 ≤ (0 : Int) ∧ (0 : Int) < (1 : Nat)) (.chk (0 ≤ (0 : Int) ∧ (0 : Int) < (1 : Nat)) (.chk (0 ≤ (0 : Int) ∧ (0 : Int) < (1 : Nat)) (.chk (0 ≤ (0 : Int) ∧ (0 : Int) < (1 : Nat)) (.chk (0 ≤ (0 : Int) ∧ (0 : Int) < (1 : Nat)) (.chk (0 ≤ (0 : Int) ∧ (0 : Int) < (1 : Nat)) (.chk (0 ≤ (0 : Int) ∧ (0 : Int) < (1 : Nat)) (.chk (0 ≤ (0 : Int) ∧ (0 : Int) < (1 : Nat)) (.chk (0 ≤ (0 : Int) ∧ (0 : Int) < (1 : Nat)) (rt (vi (0 : Int)) [])))))))))))))))))))) := by kernel_rfl
theorem chk1_t : run E_X10 H_X10_u_chk1 qci 1000000 (start E_X10 qci [(.tv qaq (([] : List (Den qar)), ([(⟨#[102]⟩, ([(0 : Int)] : List (Den I)), (3 : Int), ([(3 : Int)] : List (Den I)), ([(([] : List (Den I)), ([] : List (Den qak)), ((4 : Int), ([(0 : Int)] : List (Den I)), ([] : List (Den I)), ([] : List (Den qai)), (0 : Int), ()), ())] : List (Den qag)), ())] : List (Den qal)), ())), (.tv qaq (([] : List (Den qar)), ([(⟨#[102]⟩, ([(0 : Int)] : List (Den I)), (3 : Int), ([(3 : Int)] : List (Den I)), ([(([] : List (Den I)), ([] : List (Den qak)), ((4 : Int), ([(0 : Int)] : List (Den I)), ([] : List (Den I)), ([] : List (Den qai)), (0 : Int), ()), ())] : List (Den qag)), ())] : List (Den qal)), ())), (vi (1 : Int)), (.tv qad (([] : List (Den qah)), ([((0 : Int), (0 : Int), ([] : List (Den qab)), ())] : List (Den qac)), ([((0 : Int), ([(-1 : Int)] : List (Den I)), ([(-1 : Int)] : List (Den I)), (-1 : Int), ())] : List (Den qaf)), ()))]) = (.chk (True) (.know (okD qba ((0 : Int), (0 : Int), (0 : Int), (0 : Int), (0 : Int), ())) (.chk (True) (.know (okD qba ((0 : Int), (0 : Int), (0 : Int), (0 : Int), (0 : Int), ())) (rt (vi (2 : Int)) []))))) := by kernel_rfl
def k_eqm : LitC := { ps := [.d (.sl 8 I), .d (.sl 8 I)], L := (([(-1 : Int)] : List (Den I)), ([(-1 : Int)] : List (Den I)), ()), res := (vb true), roots := [] }
theorem m_eqm : Runs E_X10 (start E_X10 qau [(.tv (.sl 8 I) ([(-1 : Int)] : List (Den I))), (.tv (.sl 8 I) ([(-1 : Int)] : List (Den I)))]) (fun r_ h_ => r_ = (vb true) ∧ h_ = []) := .tree E_X10_ok eqm_t (by
 repeat (first | refine qdq ?_ | refine qfw (by first | decide) ?_)
 exact ⟨rfl, rfl⟩)
theorem c_eqm : qas E_X10 qau k_eqm.spec := qgr rfl ⟨rfl, m_eqm⟩
def k_chk0 : LitC := { ps := [.d qaq, .d qaq, .d I, .d qad], L := ((([] : List (Den qar)), ([(⟨#[102]⟩, ([(0 : Int)] : List (Den I)), (3 : Int), ([(3 : Int)] : List (Den I)), ([(([] : List (Den I)), ([] : List (Den qak)), ((4 : Int), ([(0 : Int)] : List (Den I)), ([] : List (Den I)), ([] : List (Den qai)), (0 : Int), ()), ())] : List (Den qag)), ())] : List (Den qal)), ()), (([] : List (Den qar)), ([(⟨#[102]⟩, ([(0 : Int)] : List (Den I)), (3 : Int), ([(3 : Int)] : List (Den I)), ([(([] : List (Den I)), ([] : List (Den qak)), ((4 : Int), ([(0 : Int)] : List (Den I)), ([] : List (Den I)), ([] : List (Den qai)), (0 : Int), ()), ())] : List (Den qag)), ())] : List (Den qal)), ()), (0 : Int), (([] : List (Den qah)), ([((0 : Int), (0 : Int), ([] : List (Den qab)), ())] : List (Den qac)), ([((0 : Int), ([(-1 : Int)] : List (Den I)), ([(-1 : Int)] : List (Den I)), (-1 : Int), ())] : List (Den qaf)), ()), ()), res := (vi (0 : Int)), roots := [] }
theorem m_chk0 : Runs E_X10 (start E_X10 qci [(.tv qaq (([] : List (Den qar)), ([(⟨#[102]⟩, ([(0 : Int)] : List (Den I)), (3 : Int), ([(3 : Int)] : List (Den I)), ([(([] : List (Den I)), ([] : List (Den qak)), ((4 : Int), ([(0 : Int)] : List (Den I)), ([] : List (Den I)), ([] : List (Den qai)), (0 : Int), ()), ())] : List (Den qag)), ())] : List (Den qal)), ())), (.tv qaq (([] : List (Den qar)), ([(⟨#[102]⟩, ([(0 : Int)] : List (Den I)), (3 : Int), ([(3 : Int)] : List (Den I)), ([(([] : List (Den I)), ([] : List (Den qak)), ((4 : Int), ([(0 : Int)] : List (Den I)), ([] : List (Den I)), ([] : List (Den qai)), (0 : Int), ()), ())] : List (Den qag)), ())] : List (Den qal)), ())), (vi (0 : Int)), (.tv qad (([] : List (Den qah)), ([((0 : Int), (0 : Int), ([] : List (Den qab)), ())] : List (Den qac)), ([((0 : Int), ([(-1 : Int)] : List (Den I)), ([(-1 : Int)] : List (Den I)), (-1 : Int), ())] : List (Den qaf)), ()))]) (fun r_ h_ => r_ = (vi (0 : Int)) ∧ h_ = []) := .tree E_X10_ok chk0_t (by
 repeat (first | refine qdq ?_ | refine qfw (by first | decide) ?_)
 exact ⟨rfl, rfl⟩)
theorem c_chk0 : qas E_X10 qci k_chk0.spec := qgr rfl ⟨rfl, m_chk0⟩
def k_chk1 : LitC := { ps := [.d qaq, .d qaq, .d I, .d qad], L := ((([] : List (Den qar)), ([(⟨#[102]⟩, ([(0 : Int)] : List (Den I)), (3 : Int), ([(3 : Int)] : List (Den I)), ([(([] : List (Den I)), ([] : List (Den qak)), ((4 : Int), ([(0 : Int)] : List (Den I)), ([] : List (Den I)), ([] : List (Den qai)), (0 : Int), ()), ())] : List (Den qag)), ())] : List (Den qal)), ()), (([] : List (Den qar)), ([(⟨#[102]⟩, ([(0 : Int)] : List (Den I)), (3 : Int), ([(3 : Int)] : List (Den I)), ([(([] : List (Den I)), ([] : List (Den qak)), ((4 : Int), ([(0 : Int)] : List (Den I)), ([] : List (Den I)), ([] : List (Den qai)), (0 : Int), ()), ())] : List (Den qag)), ())] : List (Den qal)), ()), (1 : Int), (([] : List (Den qah)), ([((0 : Int), (0 : Int), ([] : List (Den qab)), ())] : List (Den qac)), ([((0 : Int), ([(-1 : Int)] : List (Den I)), ([(-1 : Int)] : List (Den I)), (-1 : Int), ())] : List (Den qaf)), ()), ()), res := (vi (2 : Int)), roots := [] }
theorem m_chk1 : Runs E_X10 (start E_X10 qci [(.tv qaq (([] : List (Den qar)), ([(⟨#[102]⟩, ([(0 : Int)] : List (Den I)), (3 : Int), ([(3 : Int)] : List (Den I)), ([(([] : List (Den I)), ([] : List (Den qak)), ((4 : Int), ([(0 : Int)] : List (Den I)), ([] : List (Den I)), ([] : List (Den qai)), (0 : Int), ()), ())] : List (Den qag)), ())] : List (Den qal)), ())), (.tv qaq (([] : List (Den qar)), ([(⟨#[102]⟩, ([(0 : Int)] : List (Den I)), (3 : Int), ([(3 : Int)] : List (Den I)), ([(([] : List (Den I)), ([] : List (Den qak)), ((4 : Int), ([(0 : Int)] : List (Den I)), ([] : List (Den I)), ([] : List (Den qai)), (0 : Int), ()), ())] : List (Den qag)), ())] : List (Den qal)), ())), (vi (1 : Int)), (.tv qad (([] : List (Den qah)), ([((0 : Int), (0 : Int), ([] : List (Den qab)), ())] : List (Den qac)), ([((0 : Int), ([(-1 : Int)] : List (Den I)), ([(-1 : Int)] : List (Den I)), (-1 : Int), ())] : List (Den qaf)), ()))]) (fun r_ h_ => r_ = (vi (2 : Int)) ∧ h_ = []) := .tree E_X10_ok chk1_t (by
 repeat (first | refine qdq ?_ | refine qfw (by first | decide) ?_)
 exact ⟨rfl, rfl⟩)
theorem c_chk1 : qas E_X10 qci k_chk1.spec := qgr rfl ⟨rfl, m_chk1⟩
def L_X10 : List (FuncId × FSpec) := [(qau, k_eqm.spec), (qci, k_chk0.spec), (qci, k_chk1.spec)] ++ L_X9
theorem L_X10_ok : ∀ x ∈ L_X10, qas (ctx []) x.1 x.2 := by
 unfold L_X10
 simp only [List.cons_append, List.nil_append, List.forall_mem_cons]
 exact ⟨c_eqm, c_chk0, c_chk1, L_X9_ok⟩
def LI_X10 : List IoT := [] ++ LI_X9
theorem LI_X10_ok : ∀ x ∈ LI_X10, qbd (ctx []) x.1 x.2.1 x.2.2 := by
 unfold LI_X10
 simp only [List.cons_append, List.nil_append, List.forall_mem_cons]
 exact LI_X9_ok
end Burn.M24
namespace Burn.M24
open Go Go.BE Go.Proofs
set_option maxRecDepth 100000
set_option linter.unusedVariables false
set_option linter.unusedSimpArgs false
noncomputable abbrev E_X11 : Ctx := ctx L_X10 LI_X10
theorem E_X11_ok : EOK E_X11 := qcy L_X10_ok LI_X10_ok
def cuts_X11 : CutL := []
def rets_X11 : FuncId → List (Option Fx)
 | _ => []
def H_X11 : Hints := { cut := cutOf cuts_X11, ret := rets_X11 }
def H_X11_u_law24_examples : Hints := { H_X11 with unr := fun _ _ => true }
theorem law24_examples_t : run E_X11 H_X11_u_law24_examples qfj 1000000 (start E_X11 qfj []) = (.chk (True) (.know (okD qaq (([] : List (Den qar)), ([(⟨#[102]⟩, ([(0 : Int)] : List (Den I)), (3 : Int), ([(3 : Int)] : List (Den I)), ([(([] : List (Den I)), ([] : List (Den qak)), ((4 : Int), ([(0 : Int)] : List (Den I)), ([] : List (Den I)), ([] : List (Den qai)), (0 : Int), ()), ())] : List (Den qag)), ())] : List (Den qal)), ())) (.chk (0 ≤ (0 : Int) ∧ (0 : Int) < (1 : Nat)) (.chk (True) (.know (okD qdt (([([] : List (Den I))] : List (Den (.sl 8 I))), ())) (.chk (True) (.know (okD (.sl 8 I) ([(0 : Int)] : List (Den I))) (.chk (0 ≤ (0 : Int) ∧ (0 : Int) < (1 : Nat)) (.chk ((1 : Nat) * 8 ≤ roomB) (.chk ((1 : Nat) * 8 ≤ roomB) (.chk (0 ≤ (0 : Int) ∧ (0 : Int) < (1 : Nat)) (.chk ((0 : Nat) < (1 : Nat)) (.chk (0 ≤ (0 : Int) ∧ (0 : Int) < (1 : Nat)) (.chk ((0 : Nat) < (1 : Nat)) (.chk (0 ≤ (0 : Int) ∧ (0 : Int) < (1 : Nat)) (.chk ((0 : Nat) < (1 : Nat)) (.chk (0 ≤ (0 : Int) ∧ (0 : Int) < (1 : Nat)) (.chk ((0 : Nat) < (1 : Nat)) (.chk (True) (.chk (qgz (⟨#[102]⟩, ([(0 : Int)] : List (Den I)), (3 : Int), ([(3 : Int)] : List (Den I)), ([(([] : List (Den I)), ([] : List (Den qak)), ((4 : Int), ([(0 : Int)] : List (Den I)), ([] : List (Den I)), ([] : List (Den qai)), (0 : Int), ()), ())] : List (Den qag)), ()) ∧ nR (⟨#[102]⟩, ([(0 : Int)] : List (Den I)), (3 : Int), ([(3 : Int)] : List (Den I)), ([(([] : List (Den I)), ([] : List (Den qak)), ((4 : Int), ([(0 : Int)] : List (Den I)), ([] : List (Den I)), ([] : List (Den qai)), (0 : Int), ()), ())] : List (Den qag)), ()) ≤ 65536) (.know (okD qds ((⟨#[102]⟩, ([(0 : Int)] : List (Den I)), (3 : Int), ([(3 : Int)] : List (Den I)), ([(([] : List (Den I)), ([] : List (Den qak)), ((4 : Int), ([(0 : Int)] : List (Den I)), ([] : List (Den I)), ([] : List (Den qai)), (0 : Int), ()), ())] : List (Den qag)), ()), ([(0 : Int)] : List (Den I)), ([([((0 : Int), (-1 : Int), ())] : List (Den qah))] : List (Den (.sl 16 qah))), ())) (.know (okD (.sl 24 (.sl 1 .bool)) (InF (⟨#[102]⟩, ([(0 : Int)] : List (Den I)), (3 : Int), ([(3 : Int)] : List (Den I)), ([(([] : List (Den I)), ([] : List (Den qak)), ((4 : Int), ([(0 : Int)] : List (Den I)), ([] : List (Den I)), ([] : List (Den qai)), (0 : Int), ()), ())] : List (Den qag)), ()))) (.chk (0 ≤ (0 : Int) ∧ (0 : Int) < (1 : Nat)) (.chk ((0 : Nat) < (1 : Nat)) (.chk (0 ≤ (0 : Int) ∧ (0 : Int) < (1 : Nat)) (.chk ((0 : Nat) < (1 : Nat)) (.chk ((1 : Nat) * 40 ≤ roomB) (.chk (0 ≤ (0 : Int) ∧ (0 : Int) < (1 : Nat)) (.chk ((0 : Nat) < (1 : Nat)) (.chk (0 ≤ (0 : Int) ∧ (0 : Int) < (1 : Nat)) (.chk ((1 : Nat) * 64 ≤ roomB) (.chk ((0 : Int) ≤ (0 : Int)) (.chk (0 ≤ (0 : Int)) (.chk ((0 : Nat) * 1 ≤ roomB) (.chk (((0 : Nat) + (0 : Nat)) * 1 ≤ roomB) (.chk (0 ≤ (0 : Int) ∧ (0 : Int) < (1 : Nat)) (.chk ((0 : Nat) < (1 : Nat)) (.chk (True) (.chk (0 ≤ (0 : Int) ∧ (0 : Int) < (1 : Nat)) (.chk ((0 : Nat) < (1 : Nat)) (.chk (True) (.chk (True) (.chk (True) (.chk (True) (.chk (True) (.chk (True) (.know True (.know (okD qaq (([] : List (Den qar)), ([(⟨#[102]⟩, ([(0 : Int)] : List (Den I)), (3 : Int), ([(3 : Int)] : List (Den I)), ([(([] : List (Den I)), ([] : List (Den qak)), ((4 : Int), ([(0 : Int)] : List (Den I)), ([] : List (Den I)), ([] : List (Den qai)), (0 : Int), ()), ())] : List (Den qag)), ())] : List (Den qal)), ())) (.know (okD qaq (([] : List (Den qar)), ([(⟨#[102]⟩, ([(0 : Int)] : List (Den I)), (3 : Int), ([(3 : Int)] : List (Den I)), ([(([] : List (Den I)), ([] : List (Den qak)), ((4 : Int), ([(0 : Int)] : List (Den I)), ([] : List (Den I)), ([] : List (Den qai)), (0 : Int), ()), ())] : List (Den qag)), ())] : List (Den qal)), ())) (.know (okD (.int .i64) (0 : Int)) (.know (okD qaq (([] : List (Den qar)), ([(⟨#[102]⟩, ([(0 : Int)] : List (Den I)), (3 : Int), ([(3 : Int)] : List (Den I)), ([(([] : List (Den I)), ([] : List (Den qak)), ((4 : Int), ([(0 : Int)] : List (Den I)), ([] : List (Den I)), ([] : List (Den qai)), (0 : Int), ()), ())] : List (Den qag)), ())] : List (Den qal)), ())) (.know (okD qaq (([] : List (Den qar)), ([(⟨#[102]⟩, ([(0 : Int)] : List (Den I)), (3 : Int), ([(3 : Int)] : List (Den I)), ([(([] : List (Den I)), ([] : List (Den qak)), ((4 : Int), ([(0 : Int)] : List (Den I)), ([] : List (Den I)), ([] : List (Den qai)), (0 : Int), ()), ())] : List (Den qag)), ())] : List (Den qal)), ())) (.know (okD (.int .i64) (2 : Int)) (rt (vb true) [])))))))))))))))))))))))))))))))))))))))))))))))))))))) := by kernel_rfl
def k_law24_examples : LitC := { ps := [], L := (()), res := (vb true), roots := [] }
theorem m_law24_examples : Runs E_X11 (start E_X11 qfj []) (fun r_ h_ => r_ = (vb true) ∧ h_ = []) := .tree E_X11_ok law24_examples_t (by
 repeat (first | refine qdq ?_ | refine qfw (by first | decide | exact ⟨by unfold qgz; decide, by decide⟩) ?_)
 exact ⟨rfl, rfl⟩)
theorem c_law24_examples : qas E_X11 qfj k_law24_examples.spec := qgr rfl ⟨rfl, m_law24_examples⟩
def L_X11 : List (FuncId × FSpec) := [(qfj, k_law24_examples.spec)] ++ L_X10
theorem L_X11_ok : ∀ x ∈ L_X11, qas (ctx []) x.1 x.2 := by
 unfold L_X11
 simp only [List.cons_append, List.nil_append, List.forall_mem_cons]
 exact ⟨c_law24_examples, L_X10_ok⟩
def LI_X11 : List IoT := [] ++ LI_X10
theorem LI_X11_ok : ∀ x ∈ LI_X11, qbd (ctx []) x.1 x.2.1 x.2.2 := by
 unfold LI_X11
 simp only [List.cons_append, List.nil_append, List.forall_mem_cons]
 exact LI_X10_ok
end Burn.M24
namespace Burn.M24
open Go Go.BE Go.Proofs
set_option maxRecDepth 100000
set_option linter.unusedVariables false
set_option linter.unusedSimpArgs false
noncomputable abbrev E_Q1 : Ctx := ctx L_X11 LI_X11
theorem E_Q1_ok : EOK E_Q1 := qcy L_X11_ok LI_X11_ok
def cuts_Q1 : CutL := [([], 31, 0, [0, 1, 12, 13], [], []),
 ([], 73, 0, [0, 1, 12, 13], [], []),
 ([], 78, 0, [0, 1, 12, 13], [], [])]
def rets_Q1 : FuncId → List (Option Fx)
 | _ => []
def H_Q1 : Hints := { cut := cutOf cuts_Q1, ret := rets_Q1 }
noncomputable def qdb (s1 : List (Den I)) (s2 : List (Den I)) (t12 : Int) (t13 : Int) : Cfg := hcfg E_Q1 qau 0 [(0, (.tv (.sl 8 I) s1)), (1, (.tv (.sl 8 I) s2)), (12, (vi t12)), (13, (vi t13))] [] 0
theorem slices_Equal_L_int_int_t (s1 : List (Den I)) (s2 : List (Den I)) : run E_Q1 H_Q1 qau 3000 (start E_Q1 qau [(.tv (.sl 8 I) s1), (.tv (.sl 8 I) s2)]) = (cond (((ln I s1) : Int) != ((ln I s2) : Int)) (rt (vb false) []) (hd (qdb s1 s2 ((ln I s1) : Int) (0 : Int)))) := by kernel_rfl
theorem qfx (s1 : List (Den I)) (s2 : List (Den I)) (t12 : Int) (t13 : Int) : run E_Q1 H_Q1 qau 3000 (qdb s1 s2 t12 t13) = (cond (decide (t13 < t12)) (.chk (0 ≤ t13 ∧ t13 < (ln I s1)) (.chk (0 ≤ t13 ∧ t13 < (ln I s2)) (cond ((z (gd I s1 t13.toNat)) != (z (gd I s2 t13.toNat))) (rt (vb false) []) (hd (qdb s1 s2 t12 (IntKind.wrap .i64 (t13 + (1 : Int)))))))) (rt (vb true) [])) := by kernel_rfl
noncomputable def qbv (s1 : List (Den qah)) (s2 : List (Den qah)) (t12 : Int) (t13 : Int) : Cfg := hcfg E_Q1 qbc 0 [(0, (.tv (.sl 16 qah) s1)), (1, (.tv (.sl 16 qah) s2)), (12, (vi t12)), (13, (vi t13))] [] 0
theorem slices_Equal_L_api_Pos_api_Pos_t (s1 : List (Den qah)) (s2 : List (Den qah)) : run E_Q1 H_Q1 qbc 3000 (start E_Q1 qbc [(.tv (.sl 16 qah) s1), (.tv (.sl 16 qah) s2)]) = (cond (((ln qah s1) : Int) != ((ln qah s2) : Int)) (rt (vb false) []) (hd (qbv s1 s2 ((ln qah s1) : Int) (0 : Int)))) := by kernel_rfl
theorem qdr (s1 : List (Den qah)) (s2 : List (Den qah)) (t12 : Int) (t13 : Int) : run E_Q1 H_Q1 qbc 3000 (qbv s1 s2 t12 t13) = (cond (decide (t13 < t12)) (.chk (0 ≤ t13 ∧ t13 < (ln qah s1)) (.chk (0 ≤ t13 ∧ t13 < (ln qah s2)) (cond (!(((z ((gd qah s1 t13.toNat).1)) == (z ((gd qah s2 t13.toNat).1))) && (((z ((gd qah s1 t13.toNat).2.1)) == (z ((gd qah s2 t13.toNat).2.1))) && true))) (rt (vb false) []) (hd (qbv s1 s2 t12 (IntKind.wrap .i64 (t13 + (1 : Int)))))))) (rt (vb true) [])) := by kernel_rfl
noncomputable def qbi (s1 : List (Den qae)) (s2 : List (Den qae)) (t12 : Int) (t13 : Int) : Cfg := hcfg E_Q1 qat 0 [(0, (.tv (.sl 24 qae) s1)), (1, (.tv (.sl 24 qae) s2)), (12, (vi t12)), (13, (vi t13))] [] 0
theorem qfc (s1 : List (Den qae)) (s2 : List (Den qae)) : run E_Q1 H_Q1 qat 3000 (start E_Q1 qat [(.tv (.sl 24 qae) s1), (.tv (.sl 24 qae) s2)]) = (cond (((ln qae s1) : Int) != ((ln qae s2) : Int)) (rt (vb false) []) (hd (qbi s1 s2 ((ln qae s1) : Int) (0 : Int)))) := by kernel_rfl
theorem qco (s1 : List (Den qae)) (s2 : List (Den qae)) (t12 : Int) (t13 : Int) : run E_Q1 H_Q1 qat 3000 (qbi s1 s2 t12 t13) = (cond (decide (t13 < t12)) (.chk (0 ≤ t13 ∧ t13 < (ln qae s1)) (.chk (0 ≤ t13 ∧ t13 < (ln qae s2)) (cond (!(((z ((gd qae s1 t13.toNat).1)) == (z ((gd qae s2 t13.toNat).1))) && (((z ((gd qae s1 t13.toNat).2.1)) == (z ((gd qae s2 t13.toNat).2.1))) && (((z ((gd qae s1 t13.toNat).2.2.1)) == (z ((gd qae s2 t13.toNat).2.2.1))) && true)))) (rt (vb false) []) (hd (qbi s1 s2 t12 (IntKind.wrap .i64 (t13 + (1 : Int)))))))) (rt (vb true) [])) := by kernel_rfl
theorem qfu {α : Type} {e : α → α → Bool} : ∀ {l m : List α}, l.length ≠ m.length → denBL e l m = false
 | [], [], h => absurd rfl h
 | [], _ :: _, _ => rfl
 | _ :: _, [], _ => rfl
 | a :: l, b :: m, h => by
  rw [denBL, qfu (l := l) (m := m) (by simpa using h), Bool.and_false]
theorem denBL_refl {α : Type} {e : α → α → Bool} (h : ∀ a, e a a = true) : ∀ l, denBL e l l = true
 | [] => rfl
 | a :: l => by rw [denBL, h, denBL_refl h l]; rfl
theorem eq_step {E : Ctx} {T : Tre Leaf} {α : Type} {e : α → α → Bool} {l m : List α} {a b : α} {c : Bool} {cf : Cfg} (ih : Runs E cf (fun x h => x = vb (denBL e l m) ∧ h = [])) (hc : c = !(e a b)) (hT : T = cond c (rt (vb false) []) (hd cf)) : T.wp (contL E (fun x h => x = vb (denBL e (a :: l) (b :: m)) ∧ h = [])) := by
 subst hT
 rw [hc, denBL]
 cases e a b
 ·exact ⟨rfl, rfl⟩
 ·exact ih
theorem ne_of {a b : Nat} (h : ((a : Int) != (b : Int)) = true) : a ≠ b := fun e => by subst e; simp at h
theorem eq_of {a b : Nat} (h : ((a : Int) != (b : Int)) = false) : a = b := Int.ofNat_inj.1 (by simpa using h)
theorem bne_t {a b : Int} (h : (a != b) = true) : (a == b) = false := by simpa using h
theorem bne_f {a b : Int} (h : (a != b) = false) : (a == b) = true := by simpa using h
theorem not_t {a : Bool} (h : (!a) = true) : a = false := by cases a <;> simp_all
theorem not_f {a : Bool} (h : (!a) = false) : a = true := by cases a <;> simp_all
theorem eq_stepR {E : Ctx} {T : Tre Leaf} {α : Type} {e : α → α → Bool} {l m : List α} {a b : α} {c r : Bool} {cf : Cfg} (ih : Runs E cf (fun x h => x = vb (denBL e l m && r) ∧ h = [])) (hc : c = !(e a b)) (hT : T = cond c (rt (vb false) []) (hd cf)) : T.wp (contL E (fun x h => x = vb (denBL e (a :: l) (b :: m) && r) ∧ h = [])) := by
 subst hT
 rw [hc, denBL]
 cases e a b
 ·exact ⟨rfl, rfl⟩
 ·exact ih
def eqIs (l m : List (Den I)) : Bool := denB (.sl 8 I) l m
def eqPs (l m : List (Den qah)) : Bool := denB (.sl 16 qah) l m
def eqXs (l m : List (Den qae)) : Bool := denB (.sl 24 qae) l m
def eqInv (a b : Den qab) : Bool := denB qab a b
def eqPath (a b : Den qaf) : Bool := denB qaf a b
def eqCut (a b : Den qac) : Bool := denB qac a b
def eqInvs (l m : List (Den qab)) : Bool := denBL (denB qab) l m
def eqPaths (l m : List (Den qaf)) : Bool := denBL (denB qaf) l m
def eqCuts (l m : List (Den qac)) : Bool := denBL (denB qac) l m
def eqWit (a b : Den qad) : Bool := denB qad a b
theorem slices_Equal_L_int_int_l (l m : List (Den I)) (hl : ln I l = ln I m) (hr : ln I l < 9223372036854775807) : ∀ i, i ≤ ln I l → Runs E_Q1 (qdb l m (ln I l : Nat) i) (fun x h => x = vb (denBL (denB I) (l.drop i) (m.drop i)) ∧ h = []) :=
 qcg (.tree E_Q1_ok (qfx _ _ _ _) (by
  rw [qaz, show m.drop (ln I l) = [] from hl ▸ qaz]
  exact qam (fun h => absurd (of_decide_eq_true h) (Int.lt_irrefl _)) fun _ => ⟨rfl, rfl⟩))
  fun i hi ih => .tree E_Q1_ok (qfx _ _ _ _) (by
   have hi' : i < ln I m := hl ▸ hi
   rw [qax hi, qax hi']
   refine qam (fun _ => ⟨⟨Int.natCast_nonneg _, Int.ofNat_lt.2 hi⟩, fun _ => ⟨⟨Int.natCast_nonneg _, Int.ofNat_lt.2 hi'⟩, fun _ => ?_⟩⟩) fun h => absurd (Int.ofNat_lt.2 hi) (of_decide_eq_false h)
   rw [Int.toNat_natCast, wrapS hi hr]
   exact eq_step ih rfl rfl)
def qhp : Con := con [.d (.sl 8 I), .d (.sl 8 I)] .bool (fun x => True) fun x => eqIs x.1 x.2.1
theorem m_slices_Equal_L_int_int (s1 : List (Den I)) (s2 : List (Den I)) (h_s1 : okD (.sl 8 I) s1) (h_s2 : okD (.sl 8 I) s2) (hp : True) : Runs E_Q1 (start E_Q1 qau [(.tv (.sl 8 I) s1), (.tv (.sl 8 I) s2)]) (fun r_ h_ => r_ = (vb (eqIs s1 s2)) ∧ h_ = []) := .tree E_Q1_ok (slices_Equal_L_int_int_t s1 s2) (by
 refine qam (fun h => ⟨?_, rfl⟩) fun h => slices_Equal_L_int_int_l s1 s2 (eq_of h) (qbn h_s1.1) 0 (Nat.zero_le _)
 have h := ne_of h
 rw [show eqIs s1 s2 = false from qfu h])
theorem c_slices_Equal_L_int_int : qas E_Q1 qau qhp.spec := qbo fun x hx hp => ⟨rfl, m_slices_Equal_L_int_int x.1 x.2.1 hx.1 hx.2.1 hp⟩
theorem slices_Equal_L_api_Pos_api_Pos_l (l m : List (Den qah)) (hl : ln qah l = ln qah m) (hr : ln qah l < 9223372036854775807) : ∀ i, i ≤ ln qah l → Runs E_Q1 (qbv l m (ln qah l : Nat) i) (fun x h => x = vb (denBL (denB qah) (l.drop i) (m.drop i)) ∧ h = []) :=
 qcg (.tree E_Q1_ok (qdr _ _ _ _) (by
  rw [qaz, show m.drop (ln qah l) = [] from hl ▸ qaz]
  exact qam (fun h => absurd (of_decide_eq_true h) (Int.lt_irrefl _)) fun _ => ⟨rfl, rfl⟩))
  fun i hi ih => .tree E_Q1_ok (qdr _ _ _ _) (by
   have hi' : i < ln qah m := hl ▸ hi
   rw [qax hi, qax hi']
   refine qam (fun _ => ⟨⟨Int.natCast_nonneg _, Int.ofNat_lt.2 hi⟩, fun _ => ⟨⟨Int.natCast_nonneg _, Int.ofNat_lt.2 hi'⟩, fun _ => ?_⟩⟩) fun h => absurd (Int.ofNat_lt.2 hi) (of_decide_eq_false h)
   rw [Int.toNat_natCast, wrapS hi hr]
   exact eq_step ih rfl rfl)
def qel : Con := con [.d (.sl 16 qah), .d (.sl 16 qah)] .bool (fun x => True) fun x => eqPs x.1 x.2.1
theorem m_slices_Equal_L_api_Pos_api_Pos (s1 : List (Den qah)) (s2 : List (Den qah)) (h_s1 : okD (.sl 16 qah) s1) (h_s2 : okD (.sl 16 qah) s2) (hp : True) : Runs E_Q1 (start E_Q1 qbc [(.tv (.sl 16 qah) s1), (.tv (.sl 16 qah) s2)]) (fun r_ h_ => r_ = (vb (eqPs s1 s2)) ∧ h_ = []) := .tree E_Q1_ok (slices_Equal_L_api_Pos_api_Pos_t s1 s2) (by
 refine qam (fun h => ⟨?_, rfl⟩) fun h => slices_Equal_L_api_Pos_api_Pos_l s1 s2 (eq_of h) (qbn h_s1.1) 0 (Nat.zero_le _)
 have h := ne_of h
 rw [show eqPs s1 s2 = false from qfu h])
theorem c_slices_Equal_L_api_Pos_api_Pos : qas E_Q1 qbc qel.spec := qbo fun x hx hp => ⟨rfl, m_slices_Equal_L_api_Pos_api_Pos x.1 x.2.1 hx.1 hx.2.1 hp⟩
theorem qfd (l m : List (Den qae)) (hl : ln qae l = ln qae m) (hr : ln qae l < 9223372036854775807) : ∀ i, i ≤ ln qae l → Runs E_Q1 (qbi l m (ln qae l : Nat) i) (fun x h => x = vb (denBL (denB qae) (l.drop i) (m.drop i)) ∧ h = []) :=
 qcg (.tree E_Q1_ok (qco _ _ _ _) (by
  rw [qaz, show m.drop (ln qae l) = [] from hl ▸ qaz]
  exact qam (fun h => absurd (of_decide_eq_true h) (Int.lt_irrefl _)) fun _ => ⟨rfl, rfl⟩))
  fun i hi ih => .tree E_Q1_ok (qco _ _ _ _) (by
   have hi' : i < ln qae m := hl ▸ hi
   rw [qax hi, qax hi']
   refine qam (fun _ => ⟨⟨Int.natCast_nonneg _, Int.ofNat_lt.2 hi⟩, fun _ => ⟨⟨Int.natCast_nonneg _, Int.ofNat_lt.2 hi'⟩, fun _ => ?_⟩⟩) fun h => absurd (Int.ofNat_lt.2 hi) (of_decide_eq_false h)
   rw [Int.toNat_natCast, wrapS hi hr]
   exact eq_step ih rfl rfl)
def qcw : Con := con [.d (.sl 24 qae), .d (.sl 24 qae)] .bool (fun x => True) fun x => eqXs x.1 x.2.1
theorem qfg (s1 : List (Den qae)) (s2 : List (Den qae)) (h_s1 : okD (.sl 24 qae) s1) (h_s2 : okD (.sl 24 qae) s2) (hp : True) : Runs E_Q1 (start E_Q1 qat [(.tv (.sl 24 qae) s1), (.tv (.sl 24 qae) s2)]) (fun r_ h_ => r_ = (vb (eqXs s1 s2)) ∧ h_ = []) := .tree E_Q1_ok (qfc s1 s2) (by
 refine qam (fun h => ⟨?_, rfl⟩) fun h => qfd s1 s2 (eq_of h) (qbn h_s1.1) 0 (Nat.zero_le _)
 have h := ne_of h
 rw [show eqXs s1 s2 = false from qfu h])
theorem qfm : qas E_Q1 qat qcw.spec := qbo fun x hx hp => ⟨rfl, qfg x.1 x.2.1 hx.1 hx.2.1 hp⟩
def L_Q1 : List (FuncId × FSpec) := [(qau, qhp.spec), (qbc, qel.spec), (qat, qcw.spec)] ++ L_X11
theorem L_Q1_ok : ∀ x ∈ L_Q1, qas (ctx []) x.1 x.2 := by
 unfold L_Q1
 simp only [List.cons_append, List.nil_append, List.forall_mem_cons]
 exact ⟨c_slices_Equal_L_int_int, c_slices_Equal_L_api_Pos_api_Pos, qfm, L_X11_ok⟩
def LI_Q1 : List IoT := [] ++ LI_X11
theorem LI_Q1_ok : ∀ x ∈ LI_Q1, qbd (ctx []) x.1 x.2.1 x.2.2 := by
 unfold LI_Q1
 simp only [List.cons_append, List.nil_append, List.forall_mem_cons]
 exact LI_X11_ok
end Burn.M24
namespace Burn.M24
open Go Go.BE Go.Proofs
set_option maxRecDepth 100000
set_option linter.unusedVariables false
set_option linter.unusedSimpArgs false
noncomputable abbrev E_Q2 : Ctx := ctx L_Q1 LI_Q1
theorem E_Q2_ok : EOK E_Q2 := qcy L_Q1_ok LI_Q1_ok
def cuts_Q2 : CutL := [([], 54, 0, [2, 3, 5], [], [])]
def rets_Q2 : FuncId → List (Option Fx)
 | _ => []
def H_Q2 : Hints := { cut := cutOf cuts_Q2, ret := rets_Q2 }
theorem witness_Equal_cl1_cl1_t (x : Den qab) (y : Den qab) : run E_Q2 H_Q2 qbj 3000 (start E_Q2 qbj [(.tv qab x), (.tv qab y)]) = (cond ((bOf x.1) == (bOf y.1)) (cond ((bOf x.2.1) == (bOf y.2.1)) (cond ((z x.2.2.1) == (z y.2.2.1)) (.chk (True) (.know True (rt (vb (eqXs x.2.2.2.1 y.2.2.2.1)) []))) (rt (vb false) [])) (rt (vb false) [])) (rt (vb false) [])) := by kernel_rfl
theorem witness_Equal_cl2_t (p : Den qaf) (q : Den qaf) : run E_Q2 H_Q2 qbq 3000 (start E_Q2 qbq [(.tv qaf p), (.tv qaf q)]) = (cond ((z p.1) == (z q.1)) (cond ((z p.2.2.2.1) == (z q.2.2.2.1)) (.chk (True) (.know True (cond (eqIs p.2.1 q.2.1) (.chk (True) (.know True (rt (vb (eqIs p.2.2.1 q.2.2.1)) []))) (rt (vb false) [])))) (rt (vb false) [])) (rt (vb false) [])) := by kernel_rfl
noncomputable def qee (a : Den qab) (b : Den qab) (i : Int) : Cfg := hcfg E_Q2 qcf 0 [(2, (.rtp qab a)), (3, (.rtp qab b)), (5, (vi i))] [] 0
theorem r24_equalInvariant_t (a : Den qab) (b : Den qab) : run E_Q2 H_Q2 qcf 3000 (start E_Q2 qcf [(.tv qab a), (.tv qab b)]) = (cond (!((bOf a.1) == (bOf b.1))) (rt (vb false) []) (cond (!((bOf a.2.1) == (bOf b.2.1))) (rt (vb false) []) (cond ((z a.2.2.1) != (z b.2.2.1)) (rt (vb false) []) (cond (((ln qae a.2.2.2.1) : Int) != ((ln qae b.2.2.2.1) : Int)) (rt (vb false) []) (hd (qee a b (0 : Int))))))) := by kernel_rfl
theorem r24_equalInvariant_L0_t (a : Den qab) (b : Den qab) (i : Int) : run E_Q2 H_Q2 qcf 3000 (qee a b i) = (cond (decide (i < ((ln qae a.2.2.2.1) : Int))) (.chk (0 ≤ i ∧ i < (ln qae a.2.2.2.1)) (.chk (0 ≤ i ∧ i < (ln qae b.2.2.2.1)) (cond (!(((z ((gd qae a.2.2.2.1 i.toNat).1)) == (z ((gd qae b.2.2.2.1 i.toNat).1))) && (((z ((gd qae a.2.2.2.1 i.toNat).2.1)) == (z ((gd qae b.2.2.2.1 i.toNat).2.1))) && (((z ((gd qae a.2.2.2.1 i.toNat).2.2.1)) == (z ((gd qae b.2.2.2.1 i.toNat).2.2.1))) && true)))) (rt (vb false) []) (hd (qee a b (IntKind.wrap .i64 (i + (1 : Int)))))))) (rt (vb true) [])) := by kernel_rfl

def k_witness_Equal_cl1_cl1 : Con := con [.d qab, .d qab] .bool (fun x => True) fun x => eqInv x.1 x.2.1
theorem m_witness_Equal_cl1_cl1 (x : Den qab) (y : Den qab) (h_x : okD qab x) (h_y : okD qab y) (hp : True) : Runs E_Q2 (start E_Q2 qbj [(.tv qab x), (.tv qab y)]) (fun r_ h_ => r_ = (vb (eqInv x y)) ∧ h_ = []) := .tree E_Q2_ok (witness_Equal_cl1_cl1_t x y) (by
 have e : eqInv x y = ((bOf x.1 == bOf y.1) && ((bOf x.2.1 == bOf y.2.1) && ((z x.2.2.1 == z y.2.2.1) && (eqXs x.2.2.2.1 y.2.2.2.1 && true)))) := rfl
 refine qam (fun h1 => qam (fun h2 => qam (fun h3 => ⟨trivial, fun _ _ => ⟨?_, rfl⟩⟩) fun h3 => ⟨?_, rfl⟩) fun h2 => ⟨?_, rfl⟩) fun h1 => ⟨?_, rfl⟩
 ·rw [e, h1, h2, h3]; simp only [Bool.true_and, Bool.and_true]
 ·rw [e, h1, h2, h3]; rfl
 ·rw [e, h1, h2]; rfl
 ·rw [e, h1]; rfl)
theorem c_witness_Equal_cl1_cl1 : qas E_Q2 qbj k_witness_Equal_cl1_cl1.spec := qbo fun x hx hp => ⟨rfl, m_witness_Equal_cl1_cl1 x.1 x.2.1 hx.1 hx.2.1 hp⟩

def k_witness_Equal_cl2 : Con := con [.d qaf, .d qaf] .bool (fun x => True) fun x => eqPath x.1 x.2.1
theorem m_witness_Equal_cl2 (p : Den qaf) (q : Den qaf) (h_p : okD qaf p) (h_q : okD qaf q) (hp : True) : Runs E_Q2 (start E_Q2 qbq [(.tv qaf p), (.tv qaf q)]) (fun r_ h_ => r_ = (vb (eqPath p q)) ∧ h_ = []) := .tree E_Q2_ok (witness_Equal_cl2_t p q) (by
 have e : eqPath p q = ((z p.1 == z q.1) && (eqIs p.2.1 q.2.1 && (eqIs p.2.2.1 q.2.2.1 && ((z p.2.2.2.1 == z q.2.2.2.1) && true)))) := rfl
 refine qam (fun h1 => qam (fun h2 => ⟨trivial, fun _ _ => qam (fun h3 => ⟨trivial, fun _ _ => ⟨?_, rfl⟩⟩) fun h3 => ⟨?_, rfl⟩⟩) fun h2 => ⟨?_, rfl⟩) fun h1 => ⟨?_, rfl⟩
 ·rw [e, h1, h2, h3]; simp only [Bool.true_and, Bool.and_true]
 ·rw [e, h1, h2, h3]; rfl
 ·rw [e, h1, h2]; simp only [Bool.and_false, Bool.false_and]
 ·rw [e, h1]; rfl)
theorem c_witness_Equal_cl2 : qas E_Q2 qbq k_witness_Equal_cl2.spec := qbo fun x hx hp => ⟨rfl, m_witness_Equal_cl2 x.1 x.2.1 hx.1 hx.2.1 hp⟩
theorem r24_equalInvariant_l (a b : Den qab) (hl : ln qae a.2.2.2.1 = ln qae b.2.2.2.1) (hr : ln qae a.2.2.2.1 < 9223372036854775807) : ∀ i, i ≤ ln qae a.2.2.2.1 → Runs E_Q2 (qee a b i) (fun x h => x = vb (denBL (denB qae) (List.drop (α := Den qae) i a.2.2.2.1) (List.drop (α := Den qae) i b.2.2.2.1)) ∧ h = []) :=
 qcg (.tree E_Q2_ok (r24_equalInvariant_L0_t _ _ _) (by
  rw [qaz, show List.drop (α := Den qae) (ln qae a.2.2.2.1) b.2.2.2.1 = [] from hl ▸ qaz]
  exact qam (fun h => absurd (of_decide_eq_true h) (Int.lt_irrefl _)) fun _ => ⟨rfl, rfl⟩))
  fun i hi ih => .tree E_Q2_ok (r24_equalInvariant_L0_t _ _ _) (by
   have hi' : i < ln qae b.2.2.2.1 := hl ▸ hi
   rw [qax hi, qax hi']
   refine qam (fun _ => ⟨⟨Int.natCast_nonneg _, Int.ofNat_lt.2 hi⟩, fun _ => ⟨⟨Int.natCast_nonneg _, Int.ofNat_lt.2 hi'⟩, fun _ => ?_⟩⟩) fun h => absurd (Int.ofNat_lt.2 hi) (of_decide_eq_false h)
   rw [Int.toNat_natCast, wrapS hi hr]
   exact eq_step ih rfl rfl)
def k_r24_equalInvariant : Con := con [.d qab, .d qab] .bool (fun x => True) fun x => eqInv x.1 x.2.1
theorem m_r24_equalInvariant (a : Den qab) (b : Den qab) (h_a : okD qab a) (h_b : okD qab b) (hp : True) : Runs E_Q2 (start E_Q2 qcf [(.tv qab a), (.tv qab b)]) (fun r_ h_ => r_ = (vb (eqInv a b)) ∧ h_ = []) := .tree E_Q2_ok (r24_equalInvariant_t a b) (by
 have e : eqInv a b = ((bOf a.1 == bOf b.1) && ((bOf a.2.1 == bOf b.2.1) && ((z a.2.2.1 == z b.2.2.1) && (eqXs a.2.2.2.1 b.2.2.2.1 && true)))) := rfl
 refine qam (fun h1 => ⟨?_, rfl⟩) fun h1 => qam (fun h2 => ⟨?_, rfl⟩) fun h2 => qam (fun h3 => ⟨?_, rfl⟩) fun h3 => qam (fun h4 => ⟨?_, rfl⟩) fun h4 => ?_
 ·rw [e, show (bOf a.1 == bOf b.1) = false by simpa using h1]; rfl
 ·rw [e, show (bOf a.2.1 == bOf b.2.1) = false by simpa using h2]; simp only [Bool.and_false, Bool.false_and]
 ·rw [e, show (z a.2.2.1 == z b.2.2.1) = false by simpa using h3]; simp only [Bool.and_false, Bool.false_and]
 ·have h4 := ne_of h4
  rw [e, show eqXs a.2.2.2.1 b.2.2.2.1 = false from qfu h4]; simp only [Bool.and_false, Bool.false_and]
 ·have h4 : ln qae a.2.2.2.1 = ln qae b.2.2.2.1 := eq_of h4
  have := r24_equalInvariant_l a b h4 (qbn h_a.2.2.2.1.1) 0 (Nat.zero_le _)
  rw [e, show (bOf a.1 == bOf b.1) = true by simpa using h1, show (bOf a.2.1 == bOf b.2.1) = true by simpa using h2, show (z a.2.2.1 == z b.2.2.1) = true by simpa using h3]
  simp only [Bool.true_and, Bool.and_true]
  exact this)
theorem c_r24_equalInvariant : qas E_Q2 qcf k_r24_equalInvariant.spec := qbo fun x hx hp => ⟨rfl, m_r24_equalInvariant x.1 x.2.1 hx.1 hx.2.1 hp⟩
def L_Q2 : List (FuncId × FSpec) := [(qbj, k_witness_Equal_cl1_cl1.spec), (qbq, k_witness_Equal_cl2.spec), (qcf, k_r24_equalInvariant.spec)] ++ L_Q1
theorem L_Q2_ok : ∀ x ∈ L_Q2, qas (ctx []) x.1 x.2 := by
 unfold L_Q2
 simp only [List.cons_append, List.nil_append, List.forall_mem_cons]
 exact ⟨c_witness_Equal_cl1_cl1, c_witness_Equal_cl2, c_r24_equalInvariant, L_Q1_ok⟩
def LI_Q2 : List IoT := [] ++ LI_Q1
theorem LI_Q2_ok : ∀ x ∈ LI_Q2, qbd (ctx []) x.1 x.2.1 x.2.2 := by
 unfold LI_Q2
 simp only [List.cons_append, List.nil_append, List.forall_mem_cons]
 exact LI_Q1_ok
end Burn.M24
namespace Burn.M24
open Go Go.BE Go.Proofs
set_option maxRecDepth 100000
set_option linter.unusedVariables false
set_option linter.unusedSimpArgs false
noncomputable abbrev E_Q3 : Ctx := ctx L_Q2 LI_Q2
theorem E_Q3_ok : EOK E_Q3 := qcy L_Q2_ok LI_Q2_ok
def cuts_Q3 : CutL := [([], 76, 0, [1, 2, 15, 16, 17], [], []),
 ([], 79, 0, [1, 2, 15, 16, 17], [], [])]
def rets_Q3 : FuncId → List (Option Fx)
 | _ => []
def H_Q3 : Hints := { cut := cutOf cuts_Q3, ret := rets_Q3 }
noncomputable def efInvariant_L0 (s2 : List (Den qab)) (t15 : List (Den qab)) (t16 : Int) (t17 : Int) : Cfg := hcfg E_Q3 qan 0 [(1, (.tv (.sl 40 qab) s2)), (2, (.fn qbj [])), (15, (.tv (.sl 40 qab) t15)), (16, (vi t16)), (17, (vi t17))] [] 0
theorem efInvariant_t (s1 : List (Den qab)) (s2 : List (Den qab)) : run E_Q3 H_Q3 qan 3000 (start E_Q3 qan [(.tv (.sl 40 qab) s1), (.tv (.sl 40 qab) s2), (.fn qbj [])]) = (cond (((ln qab s1) : Int) != ((ln qab s2) : Int)) (rt (vb false) []) (hd (efInvariant_L0 s2 s1 ((ln qab s1) : Int) (0 : Int)))) := by kernel_rfl
theorem efInvariant_L0_t (s2 : List (Den qab)) (t15 : List (Den qab)) (t16 : Int) (t17 : Int) : run E_Q3 H_Q3 qan 3000 (efInvariant_L0 s2 t15 t16 t17) = (cond (decide (t17 < t16)) (.chk (0 ≤ t17 ∧ t17 < (ln qab t15)) (.chk (0 ≤ t17 ∧ t17 < (ln qab s2)) (.chk (True) (.know True (cond (!(eqInv (gd qab t15 t17.toNat) (gd qab s2 t17.toNat))) (rt (vb false) []) (hd (efInvariant_L0 s2 t15 t16 (IntKind.wrap .i64 (t17 + (1 : Int)))))))))) (rt (vb true) [])) := by kernel_rfl
noncomputable def efPath_L0 (s2 : List (Den qaf)) (t15 : List (Den qaf)) (t16 : Int) (t17 : Int) : Cfg := hcfg E_Q3 qap 0 [(1, (.tv (.sl 64 qaf) s2)), (2, (.fn qbq [])), (15, (.tv (.sl 64 qaf) t15)), (16, (vi t16)), (17, (vi t17))] [] 0
theorem efPath_t (s1 : List (Den qaf)) (s2 : List (Den qaf)) : run E_Q3 H_Q3 qap 3000 (start E_Q3 qap [(.tv (.sl 64 qaf) s1), (.tv (.sl 64 qaf) s2), (.fn qbq [])]) = (cond (((ln qaf s1) : Int) != ((ln qaf s2) : Int)) (rt (vb false) []) (hd (efPath_L0 s2 s1 ((ln qaf s1) : Int) (0 : Int)))) := by kernel_rfl
theorem efPath_L0_t (s2 : List (Den qaf)) (t15 : List (Den qaf)) (t16 : Int) (t17 : Int) : run E_Q3 H_Q3 qap 3000 (efPath_L0 s2 t15 t16 t17) = (cond (decide (t17 < t16)) (.chk (0 ≤ t17 ∧ t17 < (ln qaf t15)) (.chk (0 ≤ t17 ∧ t17 < (ln qaf s2)) (.chk (True) (.know True (cond (!(eqPath (gd qaf t15 t17.toNat) (gd qaf s2 t17.toNat))) (rt (vb false) []) (hd (efPath_L0 s2 t15 t16 (IntKind.wrap .i64 (t17 + (1 : Int)))))))))) (rt (vb true) [])) := by kernel_rfl
theorem efInvariant_l (l m : List (Den qab)) (hl : ln qab l = ln qab m) (hr : ln qab l < 9223372036854775807) : ∀ i, i ≤ ln qab l → Runs E_Q3 (efInvariant_L0 m l (ln qab l : Nat) i) (fun x h => x = vb (denBL (denB qab) (l.drop i) (m.drop i)) ∧ h = []) :=
 qcg (.tree E_Q3_ok (efInvariant_L0_t _ _ _ _) (by
  rw [qaz, show m.drop (ln qab l) = [] from hl ▸ qaz]
  exact qam (fun h => absurd (of_decide_eq_true h) (Int.lt_irrefl _)) fun _ => ⟨rfl, rfl⟩))
  fun i hi ih => .tree E_Q3_ok (efInvariant_L0_t _ _ _ _) (by
   have hi' : i < ln qab m := hl ▸ hi
   rw [qax hi, qax hi']
   refine qam (fun _ => ⟨⟨Int.natCast_nonneg _, Int.ofNat_lt.2 hi⟩, fun _ => ⟨⟨Int.natCast_nonneg _, Int.ofNat_lt.2 hi'⟩, fun _ => ⟨trivial, fun _ _ => ?_⟩⟩⟩) fun h => absurd (Int.ofNat_lt.2 hi) (of_decide_eq_false h)
   rw [Int.toNat_natCast, wrapS hi hr]
   exact eq_step ih rfl rfl)
def k_efInvariant : Con := con [.d (.sl 40 qab), .d (.sl 40 qab), .fn qbj []] .bool (fun x => True) fun x => eqInvs x.1 x.2.1
theorem m_efInvariant (s1 : List (Den qab)) (s2 : List (Den qab)) (h_s1 : okD (.sl 40 qab) s1) (h_s2 : okD (.sl 40 qab) s2) (hp : True) : Runs E_Q3 (start E_Q3 qan [(.tv (.sl 40 qab) s1), (.tv (.sl 40 qab) s2), (.fn qbj [])]) (fun r_ h_ => r_ = (vb (eqInvs s1 s2)) ∧ h_ = []) := .tree E_Q3_ok (efInvariant_t s1 s2) (by
 refine qam (fun h => ⟨?_, rfl⟩) fun h => efInvariant_l s1 s2 (eq_of h) (qbn h_s1.1) 0 (Nat.zero_le _)
 have h := ne_of h
 rw [show eqInvs s1 s2 = false from qfu h])
theorem c_efInvariant : qas E_Q3 qan k_efInvariant.spec := qbo fun x hx hp => ⟨rfl, m_efInvariant x.1 x.2.1 hx.1 hx.2.1 hp⟩
theorem efPath_l (l m : List (Den qaf)) (hl : ln qaf l = ln qaf m) (hr : ln qaf l < 9223372036854775807) : ∀ i, i ≤ ln qaf l → Runs E_Q3 (efPath_L0 m l (ln qaf l : Nat) i) (fun x h => x = vb (denBL (denB qaf) (l.drop i) (m.drop i)) ∧ h = []) :=
 qcg (.tree E_Q3_ok (efPath_L0_t _ _ _ _) (by
  rw [qaz, show m.drop (ln qaf l) = [] from hl ▸ qaz]
  exact qam (fun h => absurd (of_decide_eq_true h) (Int.lt_irrefl _)) fun _ => ⟨rfl, rfl⟩))
  fun i hi ih => .tree E_Q3_ok (efPath_L0_t _ _ _ _) (by
   have hi' : i < ln qaf m := hl ▸ hi
   rw [qax hi, qax hi']
   refine qam (fun _ => ⟨⟨Int.natCast_nonneg _, Int.ofNat_lt.2 hi⟩, fun _ => ⟨⟨Int.natCast_nonneg _, Int.ofNat_lt.2 hi'⟩, fun _ => ⟨trivial, fun _ _ => ?_⟩⟩⟩) fun h => absurd (Int.ofNat_lt.2 hi) (of_decide_eq_false h)
   rw [Int.toNat_natCast, wrapS hi hr]
   exact eq_step ih rfl rfl)
def k_efPath : Con := con [.d (.sl 64 qaf), .d (.sl 64 qaf), .fn qbq []] .bool (fun x => True) fun x => eqPaths x.1 x.2.1
theorem m_efPath (s1 : List (Den qaf)) (s2 : List (Den qaf)) (h_s1 : okD (.sl 64 qaf) s1) (h_s2 : okD (.sl 64 qaf) s2) (hp : True) : Runs E_Q3 (start E_Q3 qap [(.tv (.sl 64 qaf) s1), (.tv (.sl 64 qaf) s2), (.fn qbq [])]) (fun r_ h_ => r_ = (vb (eqPaths s1 s2)) ∧ h_ = []) := .tree E_Q3_ok (efPath_t s1 s2) (by
 refine qam (fun h => ⟨?_, rfl⟩) fun h => efPath_l s1 s2 (eq_of h) (qbn h_s1.1) 0 (Nat.zero_le _)
 have h := ne_of h
 rw [show eqPaths s1 s2 = false from qfu h])
theorem c_efPath : qas E_Q3 qap k_efPath.spec := qbo fun x hx hp => ⟨rfl, m_efPath x.1 x.2.1 hx.1 hx.2.1 hp⟩
def L_Q3 : List (FuncId × FSpec) := [(qan, k_efInvariant.spec), (qap, k_efPath.spec)] ++ L_Q2
theorem L_Q3_ok : ∀ x ∈ L_Q3, qas (ctx []) x.1 x.2 := by
 unfold L_Q3
 simp only [List.cons_append, List.nil_append, List.forall_mem_cons]
 exact ⟨c_efInvariant, c_efPath, L_Q2_ok⟩
def LI_Q3 : List IoT := [] ++ LI_Q2
theorem LI_Q3_ok : ∀ x ∈ LI_Q3, qbd (ctx []) x.1 x.2.1 x.2.2 := by
 unfold LI_Q3
 simp only [List.cons_append, List.nil_append, List.forall_mem_cons]
 exact LI_Q2_ok
end Burn.M24
namespace Burn.M24
open Go Go.BE Go.Proofs
set_option maxRecDepth 100000
set_option linter.unusedVariables false
set_option linter.unusedSimpArgs false
noncomputable abbrev E_Q4 : Ctx := ctx L_Q3 LI_Q3
theorem E_Q4_ok : EOK E_Q4 := qcy L_Q3_ok LI_Q3_ok
def cuts_Q4 : CutL := []
def rets_Q4 : FuncId → List (Option Fx)
 | _ => []
def H_Q4 : Hints := { cut := cutOf cuts_Q4, ret := rets_Q4 }
theorem witness_Equal_cl1_t (c : Den qac) (d : Den qac) : run E_Q4 H_Q4 qbr 3000 (start E_Q4 qbr [(.tv qac c), (.tv qac d)]) = (cond ((z c.1) == (z d.1)) (cond ((z c.2.1) == (z d.2.1)) (.chk (True) (.know True (rt (vb (eqInvs c.2.2.1 d.2.2.1)) []))) (rt (vb false) [])) (rt (vb false) [])) := by kernel_rfl

def k_witness_Equal_cl1 : Con := con [.d qac, .d qac] .bool (fun x => True) fun x => eqCut x.1 x.2.1
theorem m_witness_Equal_cl1 (c : Den qac) (d : Den qac) (h_c : okD qac c) (h_d : okD qac d) (hp : True) : Runs E_Q4 (start E_Q4 qbr [(.tv qac c), (.tv qac d)]) (fun r_ h_ => r_ = (vb (eqCut c d)) ∧ h_ = []) := .tree E_Q4_ok (witness_Equal_cl1_t c d) (by
 have e : eqCut c d = ((z c.1 == z d.1) && ((z c.2.1 == z d.2.1) && (eqInvs c.2.2.1 d.2.2.1 && true))) := rfl
 refine qam (fun h1 => qam (fun h2 => ⟨trivial, fun _ _ => ⟨?_, rfl⟩⟩) fun h2 => ⟨?_, rfl⟩) fun h1 => ⟨?_, rfl⟩
 ·rw [e, h1, h2]; simp only [Bool.true_and, Bool.and_true]
 ·rw [e, h1, h2]; rfl
 ·rw [e, h1]; rfl)
theorem c_witness_Equal_cl1 : qas E_Q4 qbr k_witness_Equal_cl1.spec := qbo fun x hx hp => ⟨rfl, m_witness_Equal_cl1 x.1 x.2.1 hx.1 hx.2.1 hp⟩
def L_Q4 : List (FuncId × FSpec) := [(qbr, k_witness_Equal_cl1.spec)] ++ L_Q3
theorem L_Q4_ok : ∀ x ∈ L_Q4, qas (ctx []) x.1 x.2 := by
 unfold L_Q4
 simp only [List.cons_append, List.nil_append, List.forall_mem_cons]
 exact ⟨c_witness_Equal_cl1, L_Q3_ok⟩
def LI_Q4 : List IoT := [] ++ LI_Q3
theorem LI_Q4_ok : ∀ x ∈ LI_Q4, qbd (ctx []) x.1 x.2.1 x.2.2 := by
 unfold LI_Q4
 simp only [List.cons_append, List.nil_append, List.forall_mem_cons]
 exact LI_Q3_ok
end Burn.M24
namespace Burn.M24
open Go Go.BE Go.Proofs
set_option maxRecDepth 100000
set_option linter.unusedVariables false
set_option linter.unusedSimpArgs false
noncomputable abbrev E_Q5 : Ctx := ctx L_Q4 LI_Q4
theorem E_Q5_ok : EOK E_Q5 := qcy L_Q4_ok LI_Q4_ok
def cuts_Q5 : CutL := [([], 74, 0, [1, 2, 15, 16, 17], [], [])]
def rets_Q5 : FuncId → List (Option Fx)
 | _ => []
def H_Q5 : Hints := { cut := cutOf cuts_Q5, ret := rets_Q5 }
noncomputable def efCutPoint_L0 (s2 : List (Den qac)) (t15 : List (Den qac)) (t16 : Int) (t17 : Int) : Cfg := hcfg E_Q5 qao 0 [(1, (.tv (.sl 40 qac) s2)), (2, (.fn qbr [])), (15, (.tv (.sl 40 qac) t15)), (16, (vi t16)), (17, (vi t17))] [] 0
theorem efCutPoint_t (s1 : List (Den qac)) (s2 : List (Den qac)) : run E_Q5 H_Q5 qao 3000 (start E_Q5 qao [(.tv (.sl 40 qac) s1), (.tv (.sl 40 qac) s2), (.fn qbr [])]) = (cond (((ln qac s1) : Int) != ((ln qac s2) : Int)) (rt (vb false) []) (hd (efCutPoint_L0 s2 s1 ((ln qac s1) : Int) (0 : Int)))) := by kernel_rfl
theorem efCutPoint_L0_t (s2 : List (Den qac)) (t15 : List (Den qac)) (t16 : Int) (t17 : Int) : run E_Q5 H_Q5 qao 3000 (efCutPoint_L0 s2 t15 t16 t17) = (cond (decide (t17 < t16)) (.chk (0 ≤ t17 ∧ t17 < (ln qac t15)) (.chk (0 ≤ t17 ∧ t17 < (ln qac s2)) (.chk (True) (.know True (cond (!(eqCut (gd qac t15 t17.toNat) (gd qac s2 t17.toNat))) (rt (vb false) []) (hd (efCutPoint_L0 s2 t15 t16 (IntKind.wrap .i64 (t17 + (1 : Int)))))))))) (rt (vb true) [])) := by kernel_rfl
theorem efCutPoint_l (l m : List (Den qac)) (hl : ln qac l = ln qac m) (hr : ln qac l < 9223372036854775807) : ∀ i, i ≤ ln qac l → Runs E_Q5 (efCutPoint_L0 m l (ln qac l : Nat) i) (fun x h => x = vb (denBL (denB qac) (l.drop i) (m.drop i)) ∧ h = []) :=
 qcg (.tree E_Q5_ok (efCutPoint_L0_t _ _ _ _) (by
  rw [qaz, show m.drop (ln qac l) = [] from hl ▸ qaz]
  exact qam (fun h => absurd (of_decide_eq_true h) (Int.lt_irrefl _)) fun _ => ⟨rfl, rfl⟩))
  fun i hi ih => .tree E_Q5_ok (efCutPoint_L0_t _ _ _ _) (by
   have hi' : i < ln qac m := hl ▸ hi
   rw [qax hi, qax hi']
   refine qam (fun _ => ⟨⟨Int.natCast_nonneg _, Int.ofNat_lt.2 hi⟩, fun _ => ⟨⟨Int.natCast_nonneg _, Int.ofNat_lt.2 hi'⟩, fun _ => ⟨trivial, fun _ _ => ?_⟩⟩⟩) fun h => absurd (Int.ofNat_lt.2 hi) (of_decide_eq_false h)
   rw [Int.toNat_natCast, wrapS hi hr]
   exact eq_step ih rfl rfl)
def k_efCutPoint : Con := con [.d (.sl 40 qac), .d (.sl 40 qac), .fn qbr []] .bool (fun x => True) fun x => eqCuts x.1 x.2.1
theorem m_efCutPoint (s1 : List (Den qac)) (s2 : List (Den qac)) (h_s1 : okD (.sl 40 qac) s1) (h_s2 : okD (.sl 40 qac) s2) (hp : True) : Runs E_Q5 (start E_Q5 qao [(.tv (.sl 40 qac) s1), (.tv (.sl 40 qac) s2), (.fn qbr [])]) (fun r_ h_ => r_ = (vb (eqCuts s1 s2)) ∧ h_ = []) := .tree E_Q5_ok (efCutPoint_t s1 s2) (by
 refine qam (fun h => ⟨?_, rfl⟩) fun h => efCutPoint_l s1 s2 (eq_of h) (qbn h_s1.1) 0 (Nat.zero_le _)
 have h := ne_of h
 rw [show eqCuts s1 s2 = false from qfu h])
theorem c_efCutPoint : qas E_Q5 qao k_efCutPoint.spec := qbo fun x hx hp => ⟨rfl, m_efCutPoint x.1 x.2.1 hx.1 hx.2.1 hp⟩
def L_Q5 : List (FuncId × FSpec) := [(qao, k_efCutPoint.spec)] ++ L_Q4
theorem L_Q5_ok : ∀ x ∈ L_Q5, qas (ctx []) x.1 x.2 := by
 unfold L_Q5
 simp only [List.cons_append, List.nil_append, List.forall_mem_cons]
 exact ⟨c_efCutPoint, L_Q4_ok⟩
def LI_Q5 : List IoT := [] ++ LI_Q4
theorem LI_Q5_ok : ∀ x ∈ LI_Q5, qbd (ctx []) x.1 x.2.1 x.2.2 := by
 unfold LI_Q5
 simp only [List.cons_append, List.nil_append, List.forall_mem_cons]
 exact LI_Q4_ok
end Burn.M24
namespace Burn.M24
open Go Go.BE Go.Proofs
set_option maxRecDepth 100000
set_option linter.unusedVariables false
set_option linter.unusedSimpArgs false
noncomputable abbrev E_Q6 : Ctx := ctx L_Q5 LI_Q5
theorem E_Q6_ok : EOK E_Q6 := qcy L_Q5_ok LI_Q5_ok
def cuts_Q6 : CutL := [([], 55, 0, [0, 1, 5], [], [])]
def rets_Q6 : FuncId → List (Option Fx)
 | _ => []
def H_Q6 : Hints := { cut := cutOf cuts_Q6, ret := rets_Q6 }
noncomputable def qhh (a : List (Den I)) (b : List (Den I)) (i : Int) : Cfg := hcfg E_Q6 qdy 0 [(0, (.tv (.sl 8 I) a)), (1, (.tv (.sl 8 I) b)), (5, (vi i))] [] 0
theorem r24_EqualInts_t (a : List (Den I)) (b : List (Den I)) : run E_Q6 H_Q6 qdy 3000 (start E_Q6 qdy [(.tv (.sl 8 I) a), (.tv (.sl 8 I) b)]) = (cond (((ln I a) : Int) != ((ln I b) : Int)) (rt (vb false) []) (hd (qhh a b (0 : Int)))) := by kernel_rfl
theorem r24_EqualInts_L0_t (a : List (Den I)) (b : List (Den I)) (i : Int) : run E_Q6 H_Q6 qdy 3000 (qhh a b i) = (cond (decide (i < ((ln I a) : Int))) (.chk (0 ≤ i ∧ i < (ln I a)) (.chk (0 ≤ i ∧ i < (ln I b)) (cond ((z (gd I a i.toNat)) != (z (gd I b i.toNat))) (rt (vb false) []) (hd (qhh a b (IntKind.wrap .i64 (i + (1 : Int)))))))) (rt (vb true) [])) := by kernel_rfl
theorem witness_Equal_t (a : Den qad) (b : Den qad) : run E_Q6 H_Q6 qge 3000 (start E_Q6 qge [(.tv qad a), (.tv qad b)]) = (.chk (True) (.know True (cond (eqPs a.1 b.1) (.chk (True) (.know True (cond (eqCuts a.2.1 b.2.1) (.chk (True) (.know True (rt (vb (eqPaths a.2.2.1 b.2.2.1)) []))) (rt (vb false) [])))) (rt (vb false) [])))) := by kernel_rfl
theorem r24_EqualInts_l (l m : List (Den I)) (hl : ln I l = ln I m) (hr : ln I l < 9223372036854775807) : ∀ i, i ≤ ln I l → Runs E_Q6 (qhh l m i) (fun x h => x = vb (denBL (denB I) (l.drop i) (m.drop i)) ∧ h = []) :=
 qcg (.tree E_Q6_ok (r24_EqualInts_L0_t _ _ _) (by
  rw [qaz, show m.drop (ln I l) = [] from hl ▸ qaz]
  exact qam (fun h => absurd (of_decide_eq_true h) (Int.lt_irrefl _)) fun _ => ⟨rfl, rfl⟩))
  fun i hi ih => .tree E_Q6_ok (r24_EqualInts_L0_t _ _ _) (by
   have hi' : i < ln I m := hl ▸ hi
   rw [qax hi, qax hi']
   refine qam (fun _ => ⟨⟨Int.natCast_nonneg _, Int.ofNat_lt.2 hi⟩, fun _ => ⟨⟨Int.natCast_nonneg _, Int.ofNat_lt.2 hi'⟩, fun _ => ?_⟩⟩) fun h => absurd (Int.ofNat_lt.2 hi) (of_decide_eq_false h)
   rw [Int.toNat_natCast, wrapS hi hr]
   exact eq_step ih rfl rfl)
def k_r24_EqualInts : Con := con [.d (.sl 8 I), .d (.sl 8 I)] .bool (fun x => True) fun x => eqIs x.1 x.2.1
theorem m_r24_EqualInts (a : List (Den I)) (b : List (Den I)) (h_a : okD (.sl 8 I) a) (h_b : okD (.sl 8 I) b) (hp : True) : Runs E_Q6 (start E_Q6 qdy [(.tv (.sl 8 I) a), (.tv (.sl 8 I) b)]) (fun r_ h_ => r_ = (vb (eqIs a b)) ∧ h_ = []) := .tree E_Q6_ok (r24_EqualInts_t a b) (by
 refine qam (fun h => ⟨?_, rfl⟩) fun h => r24_EqualInts_l a b (eq_of h) (qbn h_a.1) 0 (Nat.zero_le _)
 have h := ne_of h
 rw [show eqIs a b = false from qfu h])
theorem c_r24_EqualInts : qas E_Q6 qdy k_r24_EqualInts.spec := qbo fun x hx hp => ⟨rfl, m_r24_EqualInts x.1 x.2.1 hx.1 hx.2.1 hp⟩

def k_witness_Equal : Con := con [.d qad, .d qad] .bool (fun x => True) fun x => eqWit x.1 x.2.1
theorem m_witness_Equal (a : Den qad) (b : Den qad) (h_a : okD qad a) (h_b : okD qad b) (hp : True) : Runs E_Q6 (start E_Q6 qge [(.tv qad a), (.tv qad b)]) (fun r_ h_ => r_ = (vb (eqWit a b)) ∧ h_ = []) := .tree E_Q6_ok (witness_Equal_t a b) (by
 have e : eqWit a b = (eqPs a.1 b.1 && (eqCuts a.2.1 b.2.1 && (eqPaths a.2.2.1 b.2.2.1 && true))) := rfl
 refine ⟨trivial, fun _ _ => qam (fun h1 => ⟨trivial, fun _ _ => qam (fun h2 => ⟨trivial, fun _ _ => ⟨?_, rfl⟩⟩) fun h2 => ⟨?_, rfl⟩⟩) fun h1 => ⟨?_, rfl⟩⟩
 ·rw [e, h1, h2]; simp only [Bool.true_and, Bool.and_true]
 ·rw [e, h1, h2]; rfl
 ·rw [e, h1]; rfl)
theorem c_witness_Equal : qas E_Q6 qge k_witness_Equal.spec := qbo fun x hx hp => ⟨rfl, m_witness_Equal x.1 x.2.1 hx.1 hx.2.1 hp⟩
def L_Q6 : List (FuncId × FSpec) := [(qdy, k_r24_EqualInts.spec), (qge, k_witness_Equal.spec)] ++ L_Q5
theorem L_Q6_ok : ∀ x ∈ L_Q6, qas (ctx []) x.1 x.2 := by
 unfold L_Q6
 simp only [List.cons_append, List.nil_append, List.forall_mem_cons]
 exact ⟨c_r24_EqualInts, c_witness_Equal, L_Q5_ok⟩
def LI_Q6 : List IoT := [] ++ LI_Q5
theorem LI_Q6_ok : ∀ x ∈ LI_Q6, qbd (ctx []) x.1 x.2.1 x.2.2 := by
 unfold LI_Q6
 simp only [List.cons_append, List.nil_append, List.forall_mem_cons]
 exact LI_Q5_ok
end Burn.M24
namespace Burn.M24
open Go Go.BE Go.Proofs
set_option maxRecDepth 100000
set_option linter.unusedVariables false
set_option linter.unusedSimpArgs false
noncomputable abbrev E_Q7 : Ctx := ctx L_Q6 LI_Q6
theorem qgw : EOK E_Q7 := qcy L_Q6_ok LI_Q6_ok
def cuts_Q7 : CutL := [([], 12, 0, [1, 3, 4], [], []),
 ([], 12, 2, [1, 3, 4, 5], [], []),
 ([], 12, 4, [1, 3, 6], [], []),
 ([], 18, 0, [2, 3, 5], [], []),
 ([], 18, 2, [2, 3, 6], [], []),
 ([], 18, 4, [2, 3, 6, 7, 8, 9], [], []),
 ([], 18, 6, [2, 3, 10], [], [])]
def rets_Q7 : FuncId → List (Option Fx)
 | _ => []
def H_Q7 : Hints := { cut := cutOf cuts_Q7, ret := rets_Q7 }
noncomputable def r24_Equal_L0 (a : Den qad) (b : Den qad) (i : Int) : Cfg := hcfg E_Q7 qda 0 [(2, (.rtp qad a)), (3, (.rtp qad b)), (5, (vi i))] [] 0
noncomputable def qhn (a : Den qad) (b : Den qad) (i : Int) : Cfg := hcfg E_Q7 qda 2 [(2, (.rtp qad a)), (3, (.rtp qad b)), (6, (vi i))] [] 0
noncomputable def r24_Equal_L4 (a : Den qad) (b : Den qad) (i : Int) (k : Int) (c_0 : Int) (c_1 : Int) (c_2 : List (Den qab)) (d_0 : Int) (d_1 : Int) (d_2 : List (Den qab)) : Cfg := hcfg E_Q7 qda 4 [(2, (.rtp qad a)), (3, (.rtp qad b)), (6, (vi i)), (7, (.ref 0 0)), (8, (.ref 1 0)), (9, (vi k))] [(0, ⟨(.cells [(vi c_0), (vi c_1), (.tv (.sl 40 qab) c_2)]), 0, [], false, none⟩), (1, ⟨(.cells [(vi d_0), (vi d_1), (.tv (.sl 40 qab) d_2)]), 1, [], false, none⟩)] 2
noncomputable def r24_Equal_L6 (a : Den qad) (b : Den qad) (i : Int) : Cfg := hcfg E_Q7 qda 6 [(2, (.rtp qad a)), (3, (.rtp qad b)), (10, (vi i))] [] 0
theorem r24_Equal_t (a : Den qad) (b : Den qad) : run E_Q7 H_Q7 qda 3000 (start E_Q7 qda [(.tv qad a), (.tv qad b)]) = (cond (((ln qah a.1) : Int) != ((ln qah b.1) : Int)) (rt (vb false) []) (cond (((ln qac a.2.1) : Int) != ((ln qac b.2.1) : Int)) (rt (vb false) []) (cond (((ln qaf a.2.2.1) : Int) != ((ln qaf b.2.2.1) : Int)) (rt (vb false) []) (hd (r24_Equal_L0 a b (0 : Int)))))) := by kernel_rfl
theorem r24_Equal_L0_t (a : Den qad) (b : Den qad) (i : Int) : run E_Q7 H_Q7 qda 3000 (r24_Equal_L0 a b i) = (cond (decide (i < ((ln qah a.1) : Int))) (.chk (0 ≤ i ∧ i < (ln qah a.1)) (.chk (0 ≤ i ∧ i < (ln qah b.1)) (cond (!(((z ((gd qah a.1 i.toNat).1)) == (z ((gd qah b.1 i.toNat).1))) && (((z ((gd qah a.1 i.toNat).2.1)) == (z ((gd qah b.1 i.toNat).2.1))) && true))) (rt (vb false) []) (hd (r24_Equal_L0 a b (IntKind.wrap .i64 (i + (1 : Int)))))))) (hd (qhn a b (0 : Int)))) := by kernel_rfl
theorem r24_Equal_L2_t (a : Den qad) (b : Den qad) (i : Int) : run E_Q7 H_Q7 qda 3000 (qhn a b i) = (cond (decide (i < ((ln qac a.2.1) : Int))) (.chk (0 ≤ i ∧ i < (ln qac a.2.1)) (.chk (0 ≤ i ∧ i < (ln qac b.2.1)) (cond ((z ((gd qac a.2.1 i.toNat).1)) != (z ((gd qac b.2.1 i.toNat).1))) (rt (vb false) []) (cond ((z ((gd qac a.2.1 i.toNat).2.1)) != (z ((gd qac b.2.1 i.toNat).2.1))) (rt (vb false) []) (cond (((ln qab ((gd qac a.2.1 i.toNat).2.2.1)) : Int) != ((ln qab ((gd qac b.2.1 i.toNat).2.2.1)) : Int)) (rt (vb false) []) (hd (r24_Equal_L4 a b i (0 : Int) (z ((gd qac a.2.1 i.toNat).1)) (z ((gd qac a.2.1 i.toNat).2.1)) ((gd qac a.2.1 i.toNat).2.2.1) (z ((gd qac b.2.1 i.toNat).1)) (z ((gd qac b.2.1 i.toNat).2.1)) ((gd qac b.2.1 i.toNat).2.2.1)))))))) (hd (r24_Equal_L6 a b (0 : Int)))) := by kernel_rfl
theorem r24_Equal_L4_t (a : Den qad) (b : Den qad) (i : Int) (k : Int) (c_0 : Int) (c_1 : Int) (c_2 : List (Den qab)) (d_0 : Int) (d_1 : Int) (d_2 : List (Den qab)) : run E_Q7 H_Q7 qda 3000 (r24_Equal_L4 a b i k c_0 c_1 c_2 d_0 d_1 d_2) = (cond (decide (k < ((ln qab c_2) : Int))) (.chk (0 ≤ k ∧ k < (ln qab c_2)) (.chk (0 ≤ k ∧ k < (ln qab d_2)) (.chk (True) (.know True (cond (!(eqInv (gd qab c_2 k.toNat) (gd qab d_2 k.toNat))) (rt (vb false) []) (hd (r24_Equal_L4 a b i (IntKind.wrap .i64 (k + (1 : Int))) c_0 c_1 c_2 d_0 d_1 d_2))))))) (hd (qhn a b (IntKind.wrap .i64 (i + (1 : Int)))))) := by kernel_rfl
theorem r24_Equal_L6_t (a : Den qad) (b : Den qad) (i : Int) : run E_Q7 H_Q7 qda 3000 (r24_Equal_L6 a b i) = (cond (decide (i < ((ln qaf a.2.2.1) : Int))) (.chk (0 ≤ i ∧ i < (ln qaf a.2.2.1)) (.chk (0 ≤ i ∧ i < (ln qaf b.2.2.1)) (cond ((z ((gd qaf a.2.2.1 i.toNat).1)) != (z ((gd qaf b.2.2.1 i.toNat).1))) (rt (vb false) []) (cond ((z ((gd qaf a.2.2.1 i.toNat).2.2.2.1)) != (z ((gd qaf b.2.2.1 i.toNat).2.2.2.1))) (rt (vb false) []) (.chk (True) (.know True (cond (!(eqIs (gd qaf a.2.2.1 i.toNat).2.1 (gd qaf b.2.2.1 i.toNat).2.1)) (rt (vb false) []) (.chk (True) (.know True (cond (!(eqIs (gd qaf a.2.2.1 i.toNat).2.2.1 (gd qaf b.2.2.1 i.toNat).2.2.1)) (rt (vb false) []) (hd (r24_Equal_L6 a b (IntKind.wrap .i64 (i + (1 : Int))))))))))))))) (rt (vb true) [])) := by kernel_rfl
noncomputable def qcp (w : Den qad) (n : Int) (i : Int) : Cfg := hcfg E_Q7 qbh 0 [(1, (.rtp qad w)), (3, (vi n)), (4, (vi i))] [] 0
noncomputable def qeh (w : Den qad) (n : Int) (i : Int) (k : Int) : Cfg := hcfg E_Q7 qbh 2 [(1, (.rtp qad w)), (3, (vi n)), (4, (vi i)), (5, (vi k))] [] 0
noncomputable def qde (w : Den qad) (n : Int) (i : Int) : Cfg := hcfg E_Q7 qbh 4 [(1, (.rtp qad w)), (3, (vi n)), (6, (vi i))] [] 0
theorem law24_LargeWitness_t (w : Den qad) : run E_Q7 H_Q7 qbh 3000 (start E_Q7 qbh [(.tv qad w)]) = (hd (qcp w ((ln qah w.1) : Int) (0 : Int))) := by kernel_rfl
theorem law24_LargeWitness_L0_t (w : Den qad) (n : Int) (i : Int) : run E_Q7 H_Q7 qbh 3000 (qcp w n i) = (cond (decide (i < ((ln qac w.2.1) : Int))) (cond (decide (n ≤ (3000 : Int))) (.chk (0 ≤ i ∧ i < (ln qac w.2.1)) (hd (qeh w (IntKind.wrap .i64 ((IntKind.wrap .i64 (n + (1 : Int))) + ((ln qab ((gd qac w.2.1 i.toNat).2.2.1)) : Int))) i (0 : Int)))) (hd (qde w n (0 : Int)))) (hd (qde w n (0 : Int)))) := by kernel_rfl
theorem law24_LargeWitness_L2_t (w : Den qad) (n : Int) (i : Int) (k : Int) : run E_Q7 H_Q7 qbh 3000 (qeh w n i k) = (.chk (0 ≤ i ∧ i < (ln qac w.2.1)) (cond (decide (k < ((ln qab ((gd qac w.2.1 i.toNat).2.2.1)) : Int))) (cond (decide (n ≤ (3000 : Int))) (.chk (0 ≤ i ∧ i < (ln qac w.2.1)) (.chk (0 ≤ k ∧ k < (ln qab ((gd qac w.2.1 i.toNat).2.2.1))) (hd (qeh w (IntKind.wrap .i64 (n + ((ln qae ((gd qab ((gd qac w.2.1 i.toNat).2.2.1) k.toNat).2.2.2.1)) : Int))) i (IntKind.wrap .i64 (k + (1 : Int))))))) (hd (qcp w n (IntKind.wrap .i64 (i + (1 : Int)))))) (hd (qcp w n (IntKind.wrap .i64 (i + (1 : Int))))))) := by kernel_rfl
theorem law24_LargeWitness_L4_t (w : Den qad) (n : Int) (i : Int) : run E_Q7 H_Q7 qbh 3000 (qde w n i) = (cond (decide (i < ((ln qaf w.2.2.1) : Int))) (cond (decide (n ≤ (3000 : Int))) (.chk (0 ≤ i ∧ i < (ln qaf w.2.2.1)) (.chk (0 ≤ i ∧ i < (ln qaf w.2.2.1)) (hd (qde w (IntKind.wrap .i64 ((IntKind.wrap .i64 ((IntKind.wrap .i64 (n + (1 : Int))) + ((ln I ((gd qaf w.2.2.1 i.toNat).2.1)) : Int))) + ((ln I ((gd qaf w.2.2.1 i.toNat).2.2.1)) : Int))) (IntKind.wrap .i64 (i + (1 : Int))))))) (cond (decide (n > (3000 : Int))) (rt (vi (1 : Int)) []) (rt (vi (0 : Int)) []))) (cond (decide (n > (3000 : Int))) (rt (vi (1 : Int)) []) (rt (vi (0 : Int)) []))) := by kernel_rfl
theorem r24E_6 (a b : Den qad) (hl : ln qaf a.2.2.1 = ln qaf b.2.2.1) (hr : ln qaf a.2.2.1 < 9223372036854775807) : ∀ i, i ≤ ln qaf a.2.2.1 → Runs E_Q7 (r24_Equal_L6 a b i) (fun x h => x = vb (denBL (denB qaf) (List.drop (α := Den qaf) i a.2.2.1) (List.drop (α := Den qaf) i b.2.2.1)) ∧ h = []) :=
 qcg (.tree qgw (r24_Equal_L6_t _ _ _) (by
  rw [qaz, show List.drop (α := Den qaf) (ln qaf a.2.2.1) b.2.2.1 = [] from hl ▸ qaz]
  exact qam (fun h => absurd (of_decide_eq_true h) (Int.lt_irrefl _)) fun _ => ⟨rfl, rfl⟩))
  fun i hi ih => .tree qgw (r24_Equal_L6_t _ _ _) (by
   have hi' : i < ln qaf b.2.2.1 := hl ▸ hi
   rw [qax hi, qax hi']
   refine qam (fun _ => ⟨⟨Int.natCast_nonneg _, Int.ofNat_lt.2 hi⟩, fun _ => ⟨⟨Int.natCast_nonneg _, Int.ofNat_lt.2 hi'⟩, fun _ => ?_⟩⟩) fun h => absurd (Int.ofNat_lt.2 hi) (of_decide_eq_false h)
   rw [Int.toNat_natCast, wrapS hi hr]
   generalize gd qaf a.2.2.1 i = p
   generalize gd qaf b.2.2.1 i = q
   have e : denB qaf p q = ((z p.1 == z q.1) && (eqIs p.2.1 q.2.1 && (eqIs p.2.2.1 q.2.2.1 && ((z p.2.2.2.1 == z q.2.2.2.1) && true)))) := rfl
   rw [denBL, e]
   refine qam (fun h1 => ⟨?_, rfl⟩) fun h1 => qam (fun h2 => ⟨?_, rfl⟩) fun h2 => ⟨trivial, fun _ _ => qam (fun h3 => ⟨?_, rfl⟩) fun h3 => ⟨trivial, fun _ _ => qam (fun h4 => ⟨?_, rfl⟩) fun h4 => ?_⟩⟩
   ·rw [bne_t h1]; rfl
   ·rw [bne_t h2]; simp only [Bool.and_false, Bool.false_and]
   ·rw [not_t h3]; simp only [Bool.and_false, Bool.false_and]
   ·rw [not_t h4]; simp only [Bool.and_false, Bool.false_and]
   ·rw [bne_f h1, bne_f h2, not_f h3, not_f h4]; exact ih)
theorem r24E_4 (a b : Den qad) (i : Int) (c d : Den qac) (r : Bool) (hl : ln qab c.2.2.1 = ln qab d.2.2.1) (hr : ln qab c.2.2.1 < 9223372036854775807) (hn : Runs E_Q7 (qhn a b (IntKind.wrap .i64 (i + (1 : Int)))) (fun x h => x = vb r ∧ h = [])) : ∀ k, k ≤ ln qab c.2.2.1 → Runs E_Q7 (r24_Equal_L4 a b i k c.1 c.2.1 c.2.2.1 d.1 d.2.1 d.2.2.1) (fun x h => x = vb (denBL (denB qab) (List.drop (α := Den qab) k c.2.2.1) (List.drop (α := Den qab) k d.2.2.1) && r) ∧ h = []) :=
 qcg (.tree qgw (r24_Equal_L4_t _ _ _ _ _ _ _ _ _ _) (by
  rw [qaz, show List.drop (α := Den qab) (ln qab c.2.2.1) d.2.2.1 = [] from hl ▸ qaz]
  exact qam (fun h => absurd (of_decide_eq_true h) (Int.lt_irrefl _)) fun _ => hn))
  fun k hi ih => .tree qgw (r24_Equal_L4_t _ _ _ _ _ _ _ _ _ _) (by
   have hi' : k < ln qab d.2.2.1 := hl ▸ hi
   rw [qax hi, qax hi']
   refine qam (fun _ => ⟨⟨Int.natCast_nonneg _, Int.ofNat_lt.2 hi⟩, fun _ => ⟨⟨Int.natCast_nonneg _, Int.ofNat_lt.2 hi'⟩, fun _ => ⟨trivial, fun _ _ => ?_⟩⟩⟩) fun h => absurd (Int.ofNat_lt.2 hi) (of_decide_eq_false h)
   rw [Int.toNat_natCast, wrapS hi hr]
   exact eq_stepR ih rfl rfl)
theorem r24E_2 (a b : Den qad) (hl : ln qac a.2.1 = ln qac b.2.1) (hr : ln qac a.2.1 < 9223372036854775807) (hok : okD (.sl 40 qac) a.2.1) (hn : Runs E_Q7 (r24_Equal_L6 a b (0 : Int)) (fun x h => x = vb (eqPaths a.2.2.1 b.2.2.1) ∧ h = [])) : ∀ i, i ≤ ln qac a.2.1 → Runs E_Q7 (qhn a b i) (fun x h => x = vb (denBL (denB qac) (List.drop (α := Den qac) i a.2.1) (List.drop (α := Den qac) i b.2.1) && eqPaths a.2.2.1 b.2.2.1) ∧ h = []) :=
 qcg (.tree qgw (r24_Equal_L2_t _ _ _) (by
  rw [qaz, show List.drop (α := Den qac) (ln qac a.2.1) b.2.1 = [] from hl ▸ qaz]
  exact qam (fun h => absurd (of_decide_eq_true h) (Int.lt_irrefl _)) fun _ => hn))
  fun i hi ih => .tree qgw (r24_Equal_L2_t _ _ _) (by
   have hi' : i < ln qac b.2.1 := hl ▸ hi
   rw [qax hi, qax hi']
   refine qam (fun _ => ⟨⟨Int.natCast_nonneg _, Int.ofNat_lt.2 hi⟩, fun _ => ⟨⟨Int.natCast_nonneg _, Int.ofNat_lt.2 hi'⟩, fun _ => ?_⟩⟩) fun h => absurd (Int.ofNat_lt.2 hi) (of_decide_eq_false h)
   rw [Int.toNat_natCast]
   have hc : okD qac (gd qac a.2.1 i) := ok_gd hok hi
   revert hc
   generalize gd qac a.2.1 i = p
   generalize gd qac b.2.1 i = q
   intro hc
   have e : denB qac p q = ((z p.1 == z q.1) && ((z p.2.1 == z q.2.1) && (denBL (denB qab) p.2.2.1 q.2.2.1 && true))) := rfl
   rw [denBL, e]
   refine qam (fun h1 => ⟨?_, rfl⟩) fun h1 => qam (fun h2 => ⟨?_, rfl⟩) fun h2 => qam (fun h3 => ⟨?_, rfl⟩) fun h3 => ?_
   ·rw [bne_t h1]; rfl
   ·rw [bne_t h2]; simp only [Bool.and_false, Bool.false_and]
   ·rw [qfu (ne_of h3)]; simp only [Bool.and_false, Bool.false_and]
   ·rw [bne_f h1, bne_f h2, Bool.true_and, Bool.true_and, Bool.and_true, Bool.and_assoc]
    exact r24E_4 a b i p q _ (eq_of h3) (qbn hc.2.2.1.1) (by rw [wrapS hi hr]; exact ih) 0 (Nat.zero_le _))
theorem r24E_0 (a b : Den qad) (hl : ln qah a.1 = ln qah b.1) (hr : ln qah a.1 < 9223372036854775807) (r : Bool) (hn : Runs E_Q7 (qhn a b (0 : Int)) (fun x h => x = vb r ∧ h = [])) : ∀ i, i ≤ ln qah a.1 → Runs E_Q7 (r24_Equal_L0 a b i) (fun x h => x = vb (denBL (denB qah) (List.drop (α := Den qah) i a.1) (List.drop (α := Den qah) i b.1) && r) ∧ h = []) :=
 qcg (.tree qgw (r24_Equal_L0_t _ _ _) (by
  rw [qaz, show List.drop (α := Den qah) (ln qah a.1) b.1 = [] from hl ▸ qaz]
  exact qam (fun h => absurd (of_decide_eq_true h) (Int.lt_irrefl _)) fun _ => hn))
  fun i hi ih => .tree qgw (r24_Equal_L0_t _ _ _) (by
   have hi' : i < ln qah b.1 := hl ▸ hi
   rw [qax hi, qax hi']
   refine qam (fun _ => ⟨⟨Int.natCast_nonneg _, Int.ofNat_lt.2 hi⟩, fun _ => ⟨⟨Int.natCast_nonneg _, Int.ofNat_lt.2 hi'⟩, fun _ => ?_⟩⟩) fun h => absurd (Int.ofNat_lt.2 hi) (of_decide_eq_false h)
   rw [Int.toNat_natCast, wrapS hi hr]
   exact eq_stepR ih rfl rfl)
def k_r24_Equal : Con := con [.d qad, .d qad] .bool (fun x => True) fun x => eqWit x.1 x.2.1
theorem m_r24_Equal (a : Den qad) (b : Den qad) (h_a : okD qad a) (h_b : okD qad b) (hp : True) : Runs E_Q7 (start E_Q7 qda [(.tv qad a), (.tv qad b)]) (fun r_ h_ => r_ = (vb (eqWit a b)) ∧ h_ = []) := .tree qgw (r24_Equal_t a b) (by
 have e : eqWit a b = (denBL (denB qah) a.1 b.1 && (denBL (denB qac) a.2.1 b.2.1 && (eqPaths a.2.2.1 b.2.2.1 && true))) := rfl
 rw [e, Bool.and_true]
 refine qam (fun h1 => ⟨?_, rfl⟩) fun h1 => qam (fun h2 => ⟨?_, rfl⟩) fun h2 => qam (fun h3 => ⟨?_, rfl⟩) fun h3 => ?_
 ·rw [qfu (ne_of h1)]; rfl
 ·rw [qfu (ne_of h2)]; simp only [Bool.and_false, Bool.false_and]
 ·rw [show eqPaths a.2.2.1 b.2.2.1 = false from qfu (ne_of h3)]; simp only [Bool.and_false]
 ·exact r24E_0 a b (eq_of h1) (qbn h_a.1.1) _ (r24E_2 a b (eq_of h2) (qbn h_a.2.1.1) h_a.2.1 (r24E_6 a b (eq_of h3) (qbn h_a.2.2.1.1) 0 (Nat.zero_le _)) 0 (Nat.zero_le _)) 0 (Nat.zero_le _))
theorem c_r24_Equal : qas E_Q7 qda k_r24_Equal.spec := qbo fun x hx hp => ⟨rfl, m_r24_Equal x.1 x.2.1 hx.1 hx.2.1 hp⟩
def lwI : List (Den qab) → Int → Int
 | [], n => n
 | v :: l, n => cond (decide (n ≤ 3000)) (lwI l (n + (ln qae v.2.2.2.1 : Int))) n
def lwC : List (Den qac) → Int → Int
 | [], n => n
 | c :: l, n => cond (decide (n ≤ 3000)) (lwC l (lwI c.2.2.1 (n + 1 + (ln qab c.2.2.1 : Int)))) n
def lwP : List (Den qaf) → Int → Int
 | [], n => n
 | p :: l, n => cond (decide (n ≤ 3000)) (lwP l (n + 1 + (ln I p.2.1 : Int) + (ln I p.2.2.1 : Int))) n
def lwO (w : Den qad) (n : Int) : Int := cond (decide (lwP w.2.2.1 n > 3000)) 1 0
def lwF (w : Den qad) : Int := lwO w (lwC w.2.1 (ln qah w.1 : Int))
theorem lw_fin {E : Ctx} (n : Int) : (cond (decide (n > (3000 : Int))) (rt (vi (1 : Int)) []) (rt (vi (0 : Int)) [])).wp (contL E (fun x h => x = vi (cond (decide (n > 3000)) 1 0) ∧ h = [])) := by
 cases decide (n > 3000) <;> exact ⟨rfl, rfl⟩
theorem rml {b : Nat} {S : Sh} {l : List (Den S)} (h : okD (.sl b S) l) : (ln S l : Int) ≤ 140737488355328 := by
 have h : ln S l ≤ roomB := h.1.2
 unfold roomB at h
 omega
theorem lwL4 (w : Den qad) (hok : okD (.sl 64 qaf) w.2.2.1) : ∀ i, i ≤ ln qaf w.2.2.1 → ∀ n : Int, 0 ≤ n → n < 4611686018427387904 → Runs E_Q7 (qde w n i) (fun x h => x = vi (cond (decide (lwP (List.drop (α := Den qaf) i w.2.2.1) n > 3000)) 1 0) ∧ h = []) :=
 qcg (fun n h0 h1 => .tree qgw (law24_LargeWitness_L4_t _ _ _) (by
  rw [qaz]
  exact qam (fun h => absurd (of_decide_eq_true h) (Int.lt_irrefl _)) fun _ => lw_fin n))
  fun i hi ih n h0 h1 => .tree qgw (law24_LargeWitness_L4_t _ _ _) (by
   rw [qax hi, lwP]
   refine qam (fun _ => qam (fun h => ⟨⟨Int.natCast_nonneg _, Int.ofNat_lt.2 hi⟩, fun _ => ⟨⟨Int.natCast_nonneg _, Int.ofNat_lt.2 hi⟩, fun _ => ?_⟩⟩) fun h => ?_) fun h => absurd (Int.ofNat_lt.2 hi) (of_decide_eq_false h)
   ·rw [Int.toNat_natCast, wrapS hi (qbn hok.1), h]
    have hp : okD qaf (gd qaf w.2.2.1 i) := ok_gd hok hi
    have r1 := rml hp.2.1
    have r2 := rml hp.2.2.1
    have h := of_decide_eq_true h
    rw [qgx (n + 1) (by omega) (by omega), qgx (n + 1 + _) (by omega) (by omega), qgx (n + 1 + _ + _) (by omega) (by omega)]
    exact ih _ (by omega) (by omega)
   ·rw [h]
    exact lw_fin n)
theorem lwL2 (w : Den qad) (i : Nat) (hi : i < ln qac w.2.1) (hc : okD qac (gd qac w.2.1 i)) (R : Int → Int) (hn : ∀ m : Int, 0 ≤ m → m < 4611686018427387904 → Runs E_Q7 (qcp w m (IntKind.wrap .i64 (i + (1 : Int)))) (fun x h => x = vi (R m) ∧ h = [])) : ∀ k, k ≤ ln qab (gd qac w.2.1 i).2.2.1 → ∀ n : Int, 0 ≤ n → n < 4611686018427387904 → Runs E_Q7 (qeh w n i k) (fun x h => x = vi (R (lwI (List.drop (α := Den qab) k (gd qac w.2.1 i).2.2.1) n)) ∧ h = []) :=
 qcg (fun n h0 h1 => .tree qgw (law24_LargeWitness_L2_t _ _ _ _) (by
  rw [qaz]
  exact ⟨⟨Int.natCast_nonneg _, Int.ofNat_lt.2 hi⟩, fun _ => qam (fun h => absurd (of_decide_eq_true h) (Int.lt_irrefl _)) fun _ => hn n h0 h1⟩))
  fun k hk ih n h0 h1 => .tree qgw (law24_LargeWitness_L2_t _ _ _ _) (by
   rw [qax hk, lwI]
   refine ⟨⟨Int.natCast_nonneg _, Int.ofNat_lt.2 hi⟩, fun _ => qam (fun _ => qam (fun h => ⟨⟨Int.natCast_nonneg _, Int.ofNat_lt.2 hi⟩, fun _ => ⟨⟨Int.natCast_nonneg _, Int.ofNat_lt.2 hk⟩, fun _ => ?_⟩⟩) fun h => ?_) fun h => absurd (Int.ofNat_lt.2 hk) (of_decide_eq_false h)⟩
   ·rw [Int.toNat_natCast, Int.toNat_natCast, wrapS hk (qbn hc.2.2.1.1), h]
    have hp : okD qab (gd qab (gd qac w.2.1 i).2.2.1 k) := ok_gd hc.2.2.1 hk
    have r1 := rml hp.2.2.2.1
    have h := of_decide_eq_true h
    rw [qgx (n + _) (by omega) (by omega)]
    exact ih _ (by omega) (by omega)
   ·rw [h]
    exact hn n h0 h1)
theorem lwL0 (w : Den qad) (hok : okD (.sl 40 qac) w.2.1) (hok' : okD (.sl 64 qaf) w.2.2.1) : ∀ i, i ≤ ln qac w.2.1 → ∀ n : Int, 0 ≤ n → n < 4611686018427387904 → Runs E_Q7 (qcp w n i) (fun x h => x = vi (lwO w (lwC (List.drop (α := Den qac) i w.2.1) n)) ∧ h = []) :=
 qcg (fun n h0 h1 => .tree qgw (law24_LargeWitness_L0_t _ _ _) (by
  rw [qaz]
  exact qam (fun h => absurd (of_decide_eq_true h) (Int.lt_irrefl _)) fun _ => lwL4 w hok' 0 (Nat.zero_le _) n h0 h1))
  fun i hi ih n h0 h1 => .tree qgw (law24_LargeWitness_L0_t _ _ _) (by
   rw [qax hi, lwC]
   refine qam (fun _ => qam (fun h => ⟨⟨Int.natCast_nonneg _, Int.ofNat_lt.2 hi⟩, fun _ => ?_⟩) fun h => ?_) fun h => absurd (Int.ofNat_lt.2 hi) (of_decide_eq_false h)
   ·rw [Int.toNat_natCast, h]
    have hp : okD qac (gd qac w.2.1 i) := ok_gd hok hi
    have r1 := rml hp.2.2.1
    have h := of_decide_eq_true h
    rw [qgx (n + 1) (by omega) (by omega), qgx (n + 1 + _) (by omega) (by omega)]
    exact lwL2 w i hi hp (fun m => lwO w (lwC (List.drop (α := Den qac) (i + 1) w.2.1) m)) (fun m h0 h1 => by
     rw [wrapS hi (qbn hok.1)]
     exact ih m h0 h1) 0 (Nat.zero_le _) _ (by omega) (by omega)
   ·rw [h]
    exact lwL4 w hok' 0 (Nat.zero_le _) n h0 h1)
def k_law24_LargeWitness : Con := con [.d qad] I (fun x => True) fun x => lwF x.1
theorem m_law24_LargeWitness (w : Den qad) (h_w : okD qad w) (hp : True) : Runs E_Q7 (start E_Q7 qbh [(.tv qad w)]) (fun r_ h_ => r_ = (vi (lwF w)) ∧ h_ = []) := .tree qgw (law24_LargeWitness_t w) (by
 have r := rml h_w.1
 exact lwL0 w h_w.2.1 h_w.2.2.1 0 (Nat.zero_le _) _ (by omega) (by omega))
theorem c_law24_LargeWitness : qas E_Q7 qbh k_law24_LargeWitness.spec := qbo fun x hx hp => ⟨rfl, m_law24_LargeWitness x.1 hx.1 hp⟩
def L_Q7 : List (FuncId × FSpec) := [(qda, k_r24_Equal.spec), (qbh, k_law24_LargeWitness.spec)] ++ L_Q6
theorem L_Q7_ok : ∀ x ∈ L_Q7, qas (ctx []) x.1 x.2 := by
 unfold L_Q7
 simp only [List.cons_append, List.nil_append, List.forall_mem_cons]
 exact ⟨c_r24_Equal, c_law24_LargeWitness, L_Q6_ok⟩
def LI_Q7 : List IoT := [] ++ LI_Q6
theorem LI_Q7_ok : ∀ x ∈ LI_Q7, qbd (ctx []) x.1 x.2.1 x.2.2 := by
 unfold LI_Q7
 simp only [List.cons_append, List.nil_append, List.forall_mem_cons]
 exact LI_Q6_ok
end Burn.M24
namespace Burn.M24
open Go Go.BE Go.Proofs
set_option maxRecDepth 100000
set_option linter.unusedVariables false
set_option linter.unusedSimpArgs false
noncomputable abbrev E_Q8 : Ctx := ctx L_Q7 LI_Q7
theorem E_Q8_ok : EOK E_Q8 := qcy L_Q7_ok LI_Q7_ok
def cuts_Q8 : CutL := []
def rets_Q8 : FuncId → List (Option Fx)
 | _ => []
def H_Q8 : Hints := { cut := cutOf cuts_Q8, ret := rets_Q8 }
theorem law24_WitnessEqual_t (a : Den qad) (b : Den qad) : run E_Q8 H_Q8 qdk 3000 (start E_Q8 qdk [(.tv qad a), (.tv qad b)]) = (.chk (True) (.know (okD (.int .i64) (lwF a)) (cond ((lwF a) == (1 : Int)) (.chk (True) (.know True (rt (vb true) []))) (.chk (True) (.know (okD (.int .i64) (lwF b)) (cond ((lwF b) == (1 : Int)) (.chk (True) (.know True (rt (vb true) []))) (.chk (True) (.chk (True) (cond ((eqWit a b) == (eqWit a b)) (.chk (True) (cond (eqWit a a) (.chk (True) (.know True (.know True (.know True (.know True (rt (vb true) [])))))) (.know True (.know True (.know True (rt (vb false) [])))))) (.know True (.know True (rt (vb false) [])))))))))))) := by kernel_rfl
theorem denBV_refl {α : Type} {e : α → α → Bool} (h : ∀ a, e a a = true) : ∀ (n : Nat) (x : DenV α n), denBV e n x x = true
 | 0, _ => rfl
 | n + 1, x => by rw [denBV, h, denBV_refl h n x.2]; rfl
theorem denB_refl : ∀ (S : Sh) (x : Den S), denB S x x = true := by
 intro S
 induction S with
 | int k => exact fun x => decide_eq_true rfl
 | bool => exact fun x => beq_self_eq_true x
 | str => exact fun x => decide_eq_true rfl
 | unit => exact fun _ => rfl
 | pair a b iha ihb => exact fun x => by rw [denB, iha, ihb]; rfl
 | arr n a ih => exact fun x => denBV_refl ih n x
 | sl b a ih => exact fun x => denBL_refl ih x
 | ptr a ih =>
  intro x
  cases x
  ·rfl
  ·exact ih _
theorem eqWit_refl (a : Den qad) : eqWit a a = true := denB_refl _ a
def yesWE (_ _ : Den qad) : Bool := true
def k_law24_WitnessEqual : Con := con [.d qad, .d qad] .bool (fun x => True) fun x => yesWE x.1 x.2.1
theorem m_law24_WitnessEqual (a : Den qad) (b : Den qad) (h_a : okD qad a) (h_b : okD qad b) (hp : True) : Runs E_Q8 (start E_Q8 qdk [(.tv qad a), (.tv qad b)]) (fun r_ h_ => r_ = (vb (yesWE a b)) ∧ h_ = []) := .tree E_Q8_ok (law24_WitnessEqual_t a b) (by
 show Tre.wp (contL _ (fun x h => x = vb true ∧ h = [])) _
 have e : (eqWit a b == eqWit a b) = true := beq_self_eq_true _
 rw [e, eqWit_refl a]
 exact ⟨trivial, fun _ _ => qam (fun _ => ⟨trivial, fun _ _ => ⟨rfl, rfl⟩⟩) fun _ => ⟨trivial, fun _ _ => qam (fun _ => ⟨trivial, fun _ _ => ⟨rfl, rfl⟩⟩) fun _ => ⟨trivial, fun _ => ⟨trivial, fun _ => ⟨trivial, fun _ => ⟨trivial, fun _ _ _ _ _ => ⟨rfl, rfl⟩⟩⟩⟩⟩⟩⟩)
theorem c_law24_WitnessEqual : qas E_Q8 qdk k_law24_WitnessEqual.spec := qbo fun x hx hp => ⟨rfl, m_law24_WitnessEqual x.1 x.2.1 hx.1 hx.2.1 hp⟩
def L_Q8 : List (FuncId × FSpec) := [(qdk, k_law24_WitnessEqual.spec)] ++ L_Q7
theorem L_Q8_ok : ∀ x ∈ L_Q8, qas (ctx []) x.1 x.2 := by
 unfold L_Q8
 simp only [List.cons_append, List.nil_append, List.forall_mem_cons]
 exact ⟨c_law24_WitnessEqual, L_Q7_ok⟩
def LI_Q8 : List IoT := [] ++ LI_Q7
theorem LI_Q8_ok : ∀ x ∈ LI_Q8, qbd (ctx []) x.1 x.2.1 x.2.2 := by
 unfold LI_Q8
 simp only [List.cons_append, List.nil_append, List.forall_mem_cons]
 exact LI_Q7_ok
end Burn.M24
namespace Burn.M24
open Go Go.BE Go.Proofs
set_option maxRecDepth 100000
set_option linter.unusedVariables false
set_option linter.unusedSimpArgs false
noncomputable abbrev E_Y1 : Ctx := ctx L_Q8 LI_Q8
theorem E_Y1_ok : EOK E_Y1 := qcy L_Q8_ok LI_Q8_ok
def cuts_Y1 : CutL := [([], 85, 0, [5, 6], [], []),
 ([(83, 323)], 139, 0, [0, 5], [], [[]])]
def rets_Y1 : FuncId → List (Option Fx)
 | 83 => [some (.dat (.sl 1 (.int .u8)))]
 | 85 => [some (.dat (.sl 1 (.int .u8)))]
 | _ => []
def H_Y1 : Hints := { cut := cutOf cuts_Y1, ret := rets_Y1 }
noncomputable def qdl (z_ : Int) (b : List (Den (.int .u8))) : Cfg := hcfgx E_Y1 f_varint_put 0 [(0, (.osl 0 0 [] none)), (5, (aint .u64 z_))] [(0, ⟨(.arr 0 1 (.int .u8) b), 0, [], false, none⟩)] 1 [cfr E_Y1 qcu 1 []]
theorem varint_AppendInt_t (b : List (Den (.int .u8))) (n : Int) : run E_Y1 H_Y1 qcu 3000 (start E_Y1 qcu [(.tv (.sl 1 (.int .u8)) b), (vi n)]) = (.chk ((0 : Int) ≤ (IntKind.wrap .i64 (((ln (.int .u8) b) : Int) + (10 : Int)))) (.chk (0 ≤ (0 : Int)) (.chk (((IntKind.wrap .i64 (((ln (.int .u8) b) : Int) + (10 : Int)))).toNat * 1 ≤ roomB) (.chk (((0 : Nat) + (ln (.int .u8) b)) * 1 ≤ roomB) (.chk (0 ≤ (1 : Int)) (.chk (0 ≤ (63 : Int)) (hd (qdl (IntKind.wrap .u64 (bvxor .u64 (IntKind.wrap .u64 ((IntKind.wrap .u64 n) * 2 ^ min ((1 : Int)).toNat (IntKind.bits .u64))) (IntKind.wrap .u64 (Int.fdiv n (2 ^ min ((63 : Int)).toNat (IntKind.bits .i64)))))) (ap (.int .u8) ([] : List (Den (.int .u8))) b))))))))) := by kernel_rfl
theorem qgy (z_ : Int) (b : List (Den (.int .u8))) : run E_Y1 H_Y1 qcu 3000 (qdl z_ b) = (cond (decide (z_ ≥ (128 : Int))) (.chk (((ln (.int .u8) b) + (1 : Nat)) * 1 ≤ roomB) (.chk (0 ≤ (7 : Int)) (hd (qdl (Int.fdiv z_ (2 ^ min ((7 : Int)).toNat (IntKind.bits .u64))) (ap (.int .u8) b ([(IntKind.wrap .u8 (bvor .u8 (IntKind.wrap .u8 z_) (128 : Int)))] : List (Den (.int .u8)))))))) (.chk (((ln (.int .u8) b) + (1 : Nat)) * 1 ≤ roomB) (rt (.tv (.sl 1 (.int .u8)) (ap (.int .u8) b ([(IntKind.wrap .u8 z_)] : List (Den (.int .u8))))) []))) := by kernel_rfl
noncomputable def qff (z_ : Int) (out : List (Den (.int .u8))) : Cfg := hcfg E_Y1 qdz 0 [(5, (.osl 0 0 [] none)), (6, (aint .u64 z_))] [(0, ⟨(.arr 0 1 (.int .u8) out), 0, [], false, none⟩)] 1
theorem r02_AppendInt_t (b : List (Den (.int .u8))) (n : Int) : run E_Y1 H_Y1 qdz 3000 (start E_Y1 qdz [(.tv (.sl 1 (.int .u8)) b), (vi n)]) = (.chk (((0 : Nat) + (ln (.int .u8) b)) * 1 ≤ roomB) (cond (decide (n ≥ (0 : Int))) (hd (qff (IntKind.wrap .u64 ((2 : Int) * (IntKind.wrap .u64 n))) (ap (.int .u8) ([] : List (Den (.int .u8))) b))) (hd (qff (IntKind.wrap .u64 ((IntKind.wrap .u64 ((2 : Int) * (IntKind.wrap .u64 (IntKind.wrap .i64 ((0 : Int) - (IntKind.wrap .i64 (n + (1 : Int)))))))) + (1 : Int))) (ap (.int .u8) ([] : List (Den (.int .u8))) b))))) := by kernel_rfl
theorem r02_AppendInt_L0_t (z_ : Int) (out : List (Den (.int .u8))) : run E_Y1 H_Y1 qdz 3000 (qff z_ out) = (cond (decide (z_ ≥ (128 : Int))) (.chk ((128 : Int) ≠ 0) (.chk (((ln (.int .u8) out) + (1 : Nat)) * 1 ≤ roomB) (.chk ((128 : Int) ≠ 0) (hd (qff (IntKind.wrap .u64 (Int.tdiv z_ (128 : Int))) (ap (.int .u8) out ([(IntKind.wrap .u8 ((IntKind.wrap .u8 (Int.tmod z_ (128 : Int))) + (128 : Int)))] : List (Den (.int .u8))))))))) (.chk (((ln (.int .u8) out) + (1 : Nat)) * 1 ≤ roomB) (rt (.tv (.sl 1 (.int .u8)) (ap (.int .u8) out ([(IntKind.wrap .u8 z_)] : List (Den (.int .u8))))) []))) := by kernel_rfl
theorem w8 {x : Int} (h0 : 0 ≤ x) (h1 : x < 256) : IntKind.wrap .u8 x = x := by
 have h : IntKind.wrap .u8 x = x % 256 := by simp [IntKind.wrap, IntKind.signed, IntKind.bits]
 rw [h]
 exact Int.emod_eq_of_lt h0 h1
theorem w8m (x : Int) : IntKind.wrap .u8 x = x % 256 := by simp [IntKind.wrap, IntKind.signed, IntKind.bits]
theorem w64u {x : Int} (h0 : 0 ≤ x) (h1 : x < 18446744073709551616) : IntKind.wrap .u64 x = x := by
 have h : IntKind.wrap .u64 x = x % 18446744073709551616 := by simp [IntKind.wrap, IntKind.signed, IntKind.bits]
 rw [h]
 exact Int.emod_eq_of_lt h0 h1
theorem w64m (x : Int) : IntKind.wrap .u64 x = x % 18446744073709551616 := by simp [IntKind.wrap, IntKind.signed, IntKind.bits]
theorem or128 : ∀ x : Nat, x < 256 → ((BitVec.ofInt 8 (x : Int) ||| BitVec.ofInt 8 128).toNat : Int) = (x : Int) % 128 + 128 := by
 decide
theorem bor128 {z : Int} (h : 0 ≤ z) : IntKind.wrap .u8 (bvor .u8 (IntKind.wrap .u8 z) 128) = z % 128 + 128 := by
 rw [w8m z]
 obtain ⟨x, hx⟩ : ∃ x : Nat, z % 256 = x := ⟨(z % 256).toNat, by omega⟩
 have h1 := or128 x (by omega)
 rw [hx]
 show IntKind.wrap .u8 ((BitVec.ofInt 8 (x : Int) ||| BitVec.ofInt 8 128).toNat : Int) = _
 rw [h1, w8 (by omega) (by omega)]
 omega
theorem p7 : (2 : Int) ^ min ((7 : Int)).toNat (IntKind.bits .u64) = 128 := by decide
theorem fd7 {z : Int} (h : 0 ≤ z) : Int.fdiv z (2 ^ min ((7 : Int)).toNat (IntKind.bits .u64)) = z / 128 := by
 rw [p7, Int.fdiv_eq_ediv_of_nonneg _ (by omega)]
def vEnc : Nat → Int → List (Den (.int .u8))
 | 0, z => [z]
 | k + 1, z => cond (decide (z ≥ 128)) ((z % 128 + 128) :: vEnc k (z / 128)) [z]
def zzI (n : Int) : Int := cond (decide (n ≥ 0)) (2 * n) (-2 * n - 1)
def encI (n : Int) : List (Den (.int .u8)) := vEnc 10 (zzI n)
theorem zz_lo {n : Int} : 0 ≤ zzI n := by
 unfold zzI
 by_cases h : n ≥ 0
 ·rw [decide_eq_true h]; show 0 ≤ 2 * n; omega
 ·rw [decide_eq_false h]; show 0 ≤ -2 * n - 1; omega
theorem zz_hi {n : Int} (h1 : -9223372036854775808 ≤ n) (h2 : n ≤ 9223372036854775807) : zzI n < 18446744073709551616 := by
 unfold zzI
 by_cases h : n ≥ 0
 ·rw [decide_eq_true h]; show 2 * n < _; omega
 ·rw [decide_eq_false h]; show -2 * n - 1 < _; omega
theorem zz_ref {n : Int} (h2 : n ≤ 9223372036854775807) (h : n ≥ 0) : IntKind.wrap .u64 ((2 : Int) * (IntKind.wrap .u64 n)) = zzI n := by
 rw [w64u (x := n) (by omega) (by omega), w64u (by omega) (by omega), zzI, decide_eq_true h]
 rfl
theorem zz_ref' {n : Int} (h1 : -9223372036854775808 ≤ n) (h : ¬ n ≥ 0) : IntKind.wrap .u64 ((IntKind.wrap .u64 ((2 : Int) * (IntKind.wrap .u64 (IntKind.wrap .i64 ((0 : Int) - (IntKind.wrap .i64 (n + (1 : Int)))))))) + (1 : Int)) = zzI n := by
 rw [qgx (n + 1) (by omega) (by omega), qgx (0 - (n + 1)) (by omega) (by omega), w64u (x := 0 - (n + 1)) (by omega) (by omega), w64u (x := 2 * (0 - (n + 1))) (by omega) (by omega), w64u (by omega) (by omega), zzI, decide_eq_false h]
 show _ = -2 * n - 1
 omega
theorem xor0 (v : BitVec 64) : v ^^^ 0#64 = v := by simp
theorem zz_prog {n : Int} (h1 : -9223372036854775808 ≤ n) (h2 : n ≤ 9223372036854775807) : IntKind.wrap .u64 (bvxor .u64 (IntKind.wrap .u64 ((IntKind.wrap .u64 n) * 2 ^ min ((1 : Int)).toNat (IntKind.bits .u64))) (IntKind.wrap .u64 (Int.fdiv n (2 ^ min ((63 : Int)).toNat (IntKind.bits .i64))))) = zzI n := by
 have e1 : (2 : Int) ^ min ((1 : Int)).toNat (IntKind.bits .u64) = 2 := by decide
 have e2 : (2 : Int) ^ min ((63 : Int)).toNat (IntKind.bits .i64) = 9223372036854775808 := by decide
 rw [e1, e2, Int.fdiv_eq_ediv_of_nonneg _ (by omega), w64m n, w64m (_ * 2)]
 by_cases h : n ≥ 0
 ·rw [show n / 9223372036854775808 = 0 by omega, show n % 18446744073709551616 * 2 % 18446744073709551616 = 2 * n by omega, zzI, decide_eq_true h]
  show IntKind.wrap .u64 ((BitVec.ofInt 64 (2 * n) ^^^ BitVec.ofInt 64 (IntKind.wrap .u64 0)).toNat : Int) = 2 * n
  rw [show BitVec.ofInt 64 (IntKind.wrap .u64 0) = 0#64 by decide, xor0, BitVec.toNat_ofInt]
  rw [show (2 * n % ((2 ^ 64 : Nat) : Int)).toNat = (2 * n).toNat by omega, w64u (by omega) (by omega)]
  omega
 ·rw [show n / 9223372036854775808 = -1 by omega, show n % 18446744073709551616 * 2 % 18446744073709551616 = 18446744073709551616 + 2 * n by omega, zzI, decide_eq_false h]
  show IntKind.wrap .u64 ((BitVec.ofInt 64 (18446744073709551616 + 2 * n) ^^^ BitVec.ofInt 64 (IntKind.wrap .u64 (-1))).toNat : Int) = -2 * n - 1
  rw [show BitVec.ofInt 64 (IntKind.wrap .u64 (-1)) = BitVec.allOnes 64 by decide, BitVec.xor_allOnes, BitVec.toNat_not, BitVec.toNat_ofInt]
  rw [show ((18446744073709551616 + 2 * n) % ((2 ^ 64 : Nat) : Int)).toNat = (18446744073709551616 + 2 * n).toNat by omega]
  rw [show ((2 ^ 64 - 1 - (18446744073709551616 + 2 * n).toNat : Nat) : Int) = -2 * n - 1 by omega, w64u (by omega) (by omega)]
theorem vEnc_len : ∀ k z, (vEnc k z).length ≤ k + 1
 | 0, _ => Nat.le_refl _
 | k + 1, z => by
  have := vEnc_len k (z / 128)
  unfold vEnc
  cases decide (z ≥ 128)
  ·show 1 ≤ _; omega
  ·show (vEnc k (z / 128)).length + 1 ≤ _; omega
theorem td7 {z : Int} (h : 0 ≤ z) (h1 : z < 18446744073709551616) : IntKind.wrap .u64 (Int.tdiv z 128) = z / 128 := by
 rw [Int.tdiv_eq_ediv_of_nonneg h, w64u (by omega) (by omega)]
theorem tm7 {z : Int} (h : 0 ≤ z) : Int.tmod z 128 = z % 128 := Int.tmod_eq_emod_of_nonneg h
theorem ap_cons {S : Sh} {b l : List (Den S)} {y : Den S} : ap S (ap S b [y]) l = ap S b (y :: l) := by
 unfold ap
 rw [List.append_assoc]
 rfl
theorem ap_ap {S : Sh} {a b l : List (Den S)} : ap S (ap S a b) l = ap S a (b ++ l) := by
 unfold ap
 rw [List.append_assoc]
theorem ln_app {S : Sh} {a b : List (Den S)} : ln S (a ++ b) = ln S a + ln S b := List.length_append
def encF (b : List (Den (.int .u8))) (n : Int) : List (Den (.int .u8)) := ap (.int .u8) b (encI n)
theorem encI_len (n : Int) : ln (.int .u8) (encI n) ≤ 11 := vEnc_len 10 (zzI n)
def encL : List Int → List (Den (.int .u8))
 | [] => []
 | n :: l => encI n ++ encL l
theorem encL_app : ∀ a b : List Int, encL (a ++ b) = encL a ++ encL b
 | [], _ => rfl
 | n :: a, b => by
  show encI n ++ encL (a ++ b) = (encI n ++ encL a) ++ encL b
  rw [encL_app a b, List.append_assoc]
theorem encL_len : ∀ l : List Int, ln (.int .u8) (encL l) ≤ 11 * l.length
 | [] => Nat.le_refl _
 | n :: l => by
  have h1 := encI_len n
  have h2 := encL_len l
  rw [encL, ln_app, List.length_cons]
  omega
theorem varint_AppendInt_put_l : ∀ (k : Nat) (z : Int) (b : List (Den (.int .u8))), 0 ≤ z → z < 128 ^ (k + 1) → ln (.int .u8) b + k < 2000000 → Runs E_Y1 (qdl z b) (fun x h => x = .tv (.sl 1 (.int .u8)) (ap (.int .u8) b (vEnc k z)) ∧ h = [])
 | 0, z, b, h0, h1, h2 => .tree E_Y1_ok (qgy _ _) (by
   have h1 : z < 128 := by simpa using h1
   refine qam (fun h => absurd (of_decide_eq_true h) (by omega)) fun _ => ⟨by unfold roomB; omega, fun _ => ⟨?_, rfl⟩⟩
   rw [w8 h0 (by omega)]
   rfl)
 | k + 1, z, b, h0, h1, h2 => .tree E_Y1_ok (qgy _ _) (by
   have hp : (128 : Int) ^ (k + 1 + 1) = 128 ^ (k + 1) * 128 := Int.pow_succ ..
   rw [vEnc]
   refine qam (fun h => ⟨by unfold roomB; omega, fun _ => ⟨by omega, fun _ => ?_⟩⟩) fun h => ⟨by unfold roomB; omega, fun _ => ⟨?_, rfl⟩⟩
   ·have hz := of_decide_eq_true h
    rw [h, fd7 h0, bor128 h0]
    have := varint_AppendInt_put_l k (z / 128) (ap (.int .u8) b [z % 128 + 128]) (by omega) (by omega) (by rw [ln_ap1]; omega)
    rw [ap_cons] at this
    exact this
   ·have hz := of_decide_eq_false h
    rw [h, w8 h0 (by omega)]
    rfl)
def k_varint_AppendInt : Con := con [.d (.sl 1 (.int .u8)), .d I] (.sl 1 (.int .u8)) (fun x => ln (.int .u8) x.1 ≤ 1000000) fun x => encF x.1 x.2.1
theorem m_varint_AppendInt (b : List (Den (.int .u8))) (n : Int) (h_b : okD (.sl 1 (.int .u8)) b) (h_n : okD I n) (hp : ln (.int .u8) b ≤ 1000000) : Runs E_Y1 (start E_Y1 qcu [(.tv (.sl 1 (.int .u8)) b), (vi n)]) (fun r_ h_ => r_ = (.tv (.sl 1 (.int .u8)) (encF b n)) ∧ h_ = []) := .tree E_Y1_ok (varint_AppendInt_t b n) (by
 have r : ln (.int .u8) b ≤ 1000000 := hp
 have n1 : -9223372036854775808 ≤ n := h_n.1
 have n2 : n ≤ 9223372036854775807 := h_n.2
 refine ⟨by rw [qgx _ (by omega) (by omega)]; omega, fun _ => ⟨by omega, fun _ => ⟨by rw [qgx _ (by omega) (by omega)]; unfold roomB; omega, fun _ => ⟨by unfold roomB; omega, fun _ => ⟨by omega, fun _ => ⟨by omega, fun _ => ?_⟩⟩⟩⟩⟩⟩
 rw [zz_prog n1 n2]
 exact varint_AppendInt_put_l 10 _ _ zz_lo (Int.lt_of_lt_of_le (zz_hi n1 n2) (by decide)) (by show ln (.int .u8) b + 10 < _; omega))
theorem c_varint_AppendInt : qas E_Y1 qcu k_varint_AppendInt.spec := qbo fun x hx hp => ⟨rfl, m_varint_AppendInt x.1 x.2.1 hx.1 hx.2.1 hp⟩
theorem r02_AppendInt_l : ∀ (k : Nat) (z : Int) (b : List (Den (.int .u8))), 0 ≤ z → z < 128 ^ (k + 1) → z < 18446744073709551616 → ln (.int .u8) b + k < 2000000 → Runs E_Y1 (qff z b) (fun x h => x = .tv (.sl 1 (.int .u8)) (ap (.int .u8) b (vEnc k z)) ∧ h = [])
 | 0, z, b, h0, h1, h3, h2 => .tree E_Y1_ok (r02_AppendInt_L0_t _ _) (by
   have h1 : z < 128 := by simpa using h1
   refine qam (fun h => absurd (of_decide_eq_true h) (by omega)) fun _ => ⟨by unfold roomB; omega, fun _ => ⟨?_, rfl⟩⟩
   rw [w8 h0 (by omega)]
   rfl)
 | k + 1, z, b, h0, h1, h3, h2 => .tree E_Y1_ok (r02_AppendInt_L0_t _ _) (by
   have hp : (128 : Int) ^ (k + 1 + 1) = 128 ^ (k + 1) * 128 := Int.pow_succ ..
   rw [vEnc]
   refine qam (fun h => ⟨by decide, fun _ => ⟨by unfold roomB; omega, fun _ => ⟨by decide, fun _ => ?_⟩⟩⟩) fun h => ⟨by unfold roomB; omega, fun _ => ⟨?_, rfl⟩⟩
   ·have hz := of_decide_eq_true h
    rw [h, td7 h0 (by omega), tm7 h0, w8 (x := z % 128) (by omega) (by omega), w8 (x := z % 128 + 128) (by omega) (by omega)]
    have := r02_AppendInt_l k (z / 128) (ap (.int .u8) b [z % 128 + 128]) (by omega) (by omega) (by omega) (by rw [ln_ap1]; omega)
    rw [ap_cons] at this
    exact this
   ·have hz := of_decide_eq_false h
    rw [h, w8 h0 (by omega)]
    rfl)
def k_r02_AppendInt : Con := con [.d (.sl 1 (.int .u8)), .d I] (.sl 1 (.int .u8)) (fun x => ln (.int .u8) x.1 ≤ 1000000) fun x => encF x.1 x.2.1
theorem m_r02_AppendInt (b : List (Den (.int .u8))) (n : Int) (h_b : okD (.sl 1 (.int .u8)) b) (h_n : okD I n) (hp : ln (.int .u8) b ≤ 1000000) : Runs E_Y1 (start E_Y1 qdz [(.tv (.sl 1 (.int .u8)) b), (vi n)]) (fun r_ h_ => r_ = (.tv (.sl 1 (.int .u8)) (encF b n)) ∧ h_ = []) := .tree E_Y1_ok (r02_AppendInt_t b n) (by
 have r : ln (.int .u8) b ≤ 1000000 := hp
 have n1 : -9223372036854775808 ≤ n := h_n.1
 have n2 : n ≤ 9223372036854775807 := h_n.2
 refine ⟨by unfold roomB; omega, fun _ => qam (fun h => ?_) fun h => ?_⟩
 ·rw [zz_ref n2 (of_decide_eq_true h)]
  exact r02_AppendInt_l 10 _ _ zz_lo (Int.lt_of_lt_of_le (zz_hi n1 n2) (by decide)) (zz_hi n1 n2) (by show ln (.int .u8) b + 10 < _; omega)
 ·rw [zz_ref' n1 (of_decide_eq_false h)]
  exact r02_AppendInt_l 10 _ _ zz_lo (Int.lt_of_lt_of_le (zz_hi n1 n2) (by decide)) (zz_hi n1 n2) (by show ln (.int .u8) b + 10 < _; omega))
theorem c_r02_AppendInt : qas E_Y1 qdz k_r02_AppendInt.spec := qbo fun x hx hp => ⟨rfl, m_r02_AppendInt x.1 x.2.1 hx.1 hx.2.1 hp⟩
def L_Y1 : List (FuncId × FSpec) := [(qcu, k_varint_AppendInt.spec), (qdz, k_r02_AppendInt.spec)] ++ L_Q8
theorem L_Y1_ok : ∀ x ∈ L_Y1, qas (ctx []) x.1 x.2 := by
 unfold L_Y1
 simp only [List.cons_append, List.nil_append, List.forall_mem_cons]
 exact ⟨c_varint_AppendInt, c_r02_AppendInt, L_Q8_ok⟩
def LI_Y1 : List IoT := [] ++ LI_Q8
theorem LI_Y1_ok : ∀ x ∈ LI_Y1, qbd (ctx []) x.1 x.2.1 x.2.2 := by
 unfold LI_Y1
 simp only [List.cons_append, List.nil_append, List.forall_mem_cons]
 exact LI_Q8_ok
end Burn.M24
namespace Burn.M24
open Go Go.BE Go.Proofs
set_option maxRecDepth 100000
set_option linter.unusedVariables false
set_option linter.unusedSimpArgs false
noncomputable abbrev E_Y2 : Ctx := ctx L_Y1 LI_Y1
theorem qek : EOK E_Y2 := qcy L_Y1_ok LI_Y1_ok
def cuts_Y2 : CutL := [([], 81, 0, [1, 26, 27, 28], [], []),
 ([], 81, 2, [1, 26, 27, 28, 37, 38, 39], [], []),
 ([], 81, 4, [50, 51, 52], [], []),
 ([], 84, 0, [1, 3], [], []),
 ([], 84, 2, [1, 3, 4], [], []),
 ([], 84, 4, [1, 5], [], []),
 ([], 86, 0, [0, 1, 5], [], []),
 ([], 87, 0, [5, 12, 13, 14], [], [])]
def rets_Y2 : FuncId → List (Option Fx)
 | 86 => [some (.dat (.sl 1 (.int .u8)))]
 | 87 => [some (.dat (.sl 1 (.int .u8)))]
 | _ => []
def H_Y2 : Hints := { cut := cutOf cuts_Y2, ret := rets_Y2 }
theorem witness_flag_t (x : Den qab) : run E_Y2 H_Y2 qhc 3000 (start E_Y2 qhc [(.tv qab x)]) = (cond (bOf x.1) (cond (bOf x.2.1) (rt (vi (3 : Int)) []) (rt (vi (1 : Int)) [])) (cond (bOf x.2.1) (rt (vi (2 : Int)) []) (rt (vi (0 : Int)) []))) := by kernel_rfl
noncomputable def qdj (w : Den qad) (t26 : List (Den qac)) (t27 : Int) (t28 : Int) : Cfg := hcfg E_Y2 qbk 0 [(1, (.rtp qad w)), (26, (.tv (.sl 40 qac) t26)), (27, (vi t27)), (28, (vi t28))] [] 0
noncomputable def qeo (w : Den qad) (t26 : List (Den qac)) (t27 : Int) (t28 : Int) (t37 : List (Den qab)) (t38 : Int) (t39 : Int) : Cfg := hcfg E_Y2 qbk 2 [(1, (.rtp qad w)), (26, (.tv (.sl 40 qac) t26)), (27, (vi t27)), (28, (vi t28)), (37, (.tv (.sl 40 qab) t37)), (38, (vi t38)), (39, (vi t39))] [] 0
noncomputable def qen (t50 : List (Den qaf)) (t51 : Int) (t52 : Int) : Cfg := hcfg E_Y2 qbk 4 [(50, (.tv (.sl 64 qaf) t50)), (51, (vi t51)), (52, (vi t52))] [] 0
theorem witness_encodable_t (w : Den qad) : run E_Y2 H_Y2 qbk 3000 (start E_Y2 qbk [(.tv qad w)]) = (cond (decide (((ln qac w.2.1) : Int) > (400 : Int))) (rt (vb false) []) (cond (decide (((ln qaf w.2.2.1) : Int) > (2000 : Int))) (rt (vb false) []) (cond (decide (((ln qah w.1) : Int) > (2000 : Int))) (rt (vb false) []) (hd (qdj w w.2.1 ((ln qac w.2.1) : Int) (0 : Int)))))) := by kernel_rfl
theorem witness_encodable_L0_t (w : Den qad) (t26 : List (Den qac)) (t27 : Int) (t28 : Int) : run E_Y2 H_Y2 qbk 3000 (qdj w t26 t27 t28) = (cond (decide (t28 < t27)) (.chk (0 ≤ t28 ∧ t28 < (ln qac t26)) (cond (decide (((ln qab ((gd qac t26 t28.toNat).2.2.1)) : Int) > (8000 : Int))) (rt (vb false) []) (hd (qeo w t26 t27 t28 ((gd qac t26 t28.toNat).2.2.1) ((ln qab ((gd qac t26 t28.toNat).2.2.1)) : Int) (0 : Int))))) (hd (qen w.2.2.1 ((ln qaf w.2.2.1) : Int) (0 : Int)))) := by kernel_rfl
theorem witness_encodable_L2_t (w : Den qad) (t26 : List (Den qac)) (t27 : Int) (t28 : Int) (t37 : List (Den qab)) (t38 : Int) (t39 : Int) : run E_Y2 H_Y2 qbk 3000 (qeo w t26 t27 t28 t37 t38 t39) = (cond (decide (t39 < t38)) (.chk (0 ≤ t39 ∧ t39 < (ln qab t37)) (cond (decide (((ln qae ((gd qab t37 t39.toNat).2.2.2.1)) : Int) > (400 : Int))) (rt (vb false) []) (hd (qeo w t26 t27 t28 t37 t38 (IntKind.wrap .i64 (t39 + (1 : Int))))))) (hd (qdj w t26 t27 (IntKind.wrap .i64 (t28 + (1 : Int)))))) := by kernel_rfl
theorem witness_encodable_L4_t (t50 : List (Den qaf)) (t51 : Int) (t52 : Int) : run E_Y2 H_Y2 qbk 3000 (qen t50 t51 t52) = (cond (decide (t52 < t51)) (.chk (0 ≤ t52 ∧ t52 < (ln qaf t50)) (cond (decide (((ln I ((gd qaf t50 t52.toNat).2.1)) : Int) > (200 : Int))) (rt (vb false) []) (cond (decide (((ln I ((gd qaf t50 t52.toNat).2.2.1)) : Int) > (200 : Int))) (rt (vb false) []) (hd (qen t50 t51 (IntKind.wrap .i64 (t52 + (1 : Int)))))))) (rt (vb true) [])) := by kernel_rfl
noncomputable def qfe (w : Den qad) (i : Int) : Cfg := hcfg E_Y2 qbz 0 [(1, (.rtp qad w)), (3, (vi i))] [] 0
noncomputable def qhg (w : Den qad) (i : Int) (k : Int) : Cfg := hcfg E_Y2 qbz 2 [(1, (.rtp qad w)), (3, (vi i)), (4, (vi k))] [] 0
noncomputable def qhf (w : Den qad) (i : Int) : Cfg := hcfg E_Y2 qbz 4 [(1, (.rtp qad w)), (5, (vi i))] [] 0
theorem r24_encodable_t (w : Den qad) : run E_Y2 H_Y2 qbz 3000 (start E_Y2 qbz [(.tv qad w)]) = (cond (decide (((ln qac w.2.1) : Int) > (400 : Int))) (rt (vb false) []) (cond (decide (((ln qaf w.2.2.1) : Int) > (2000 : Int))) (rt (vb false) []) (cond (decide (((ln qah w.1) : Int) > (2000 : Int))) (rt (vb false) []) (hd (qfe w (0 : Int)))))) := by kernel_rfl
theorem r24_encodable_L0_t (w : Den qad) (i : Int) : run E_Y2 H_Y2 qbz 3000 (qfe w i) = (cond (decide (i < ((ln qac w.2.1) : Int))) (.chk (0 ≤ i ∧ i < (ln qac w.2.1)) (cond (decide (((ln qab ((gd qac w.2.1 i.toNat).2.2.1)) : Int) > (8000 : Int))) (rt (vb false) []) (hd (qhg w i (0 : Int))))) (hd (qhf w (0 : Int)))) := by kernel_rfl
theorem r24_encodable_L2_t (w : Den qad) (i : Int) (k : Int) : run E_Y2 H_Y2 qbz 3000 (qhg w i k) = (.chk (0 ≤ i ∧ i < (ln qac w.2.1)) (cond (decide (k < ((ln qab ((gd qac w.2.1 i.toNat).2.2.1)) : Int))) (.chk (0 ≤ i ∧ i < (ln qac w.2.1)) (.chk (0 ≤ k ∧ k < (ln qab ((gd qac w.2.1 i.toNat).2.2.1))) (cond (decide (((ln qae ((gd qab ((gd qac w.2.1 i.toNat).2.2.1) k.toNat).2.2.2.1)) : Int) > (400 : Int))) (rt (vb false) []) (hd (qhg w i (IntKind.wrap .i64 (k + (1 : Int)))))))) (hd (qfe w (IntKind.wrap .i64 (i + (1 : Int))))))) := by kernel_rfl
theorem r24_encodable_L4_t (w : Den qad) (i : Int) : run E_Y2 H_Y2 qbz 3000 (qhf w i) = (cond (decide (i < ((ln qaf w.2.2.1) : Int))) (.chk (0 ≤ i ∧ i < (ln qaf w.2.2.1)) (cond (decide (((ln I ((gd qaf w.2.2.1 i.toNat).2.1)) : Int) > (200 : Int))) (rt (vb false) []) (.chk (0 ≤ i ∧ i < (ln qaf w.2.2.1)) (cond (decide (((ln I ((gd qaf w.2.2.1 i.toNat).2.2.1)) : Int) > (200 : Int))) (rt (vb false) []) (hd (qhf w (IntKind.wrap .i64 (i + (1 : Int))))))))) (rt (vb true) [])) := by kernel_rfl
noncomputable def qgp (out : List (Den (.int .u8))) (t12 : List (Den I)) (t13 : Int) (t14 : Int) : Cfg := hcfg E_Y2 qdi 0 [(5, (.tv (.sl 1 (.int .u8)) out)), (12, (.tv (.sl 8 I) t12)), (13, (vi t13)), (14, (vi t14))] [] 0
theorem r02_AppendInts_t (b : List (Den (.int .u8))) (l : List (Den I)) : run E_Y2 H_Y2 qdi 3000 (start E_Y2 qdi [(.tv (.sl 1 (.int .u8)) b), (.tv (.sl 8 I) l)]) = (.chk (ln (.int .u8) b ≤ 1000000) (.know (okD (.sl 1 (.int .u8)) (encF b ((ln I l) : Int))) (hd (qgp (encF b ((ln I l) : Int)) l ((ln I l) : Int) (0 : Int))))) := by kernel_rfl
theorem r02_AppendInts_L0_t (out : List (Den (.int .u8))) (t12 : List (Den I)) (t13 : Int) (t14 : Int) : run E_Y2 H_Y2 qdi 3000 (qgp out t12 t13 t14) = (cond (decide (t14 < t13)) (.chk (0 ≤ t14 ∧ t14 < (ln I t12)) (.chk (ln (.int .u8) out ≤ 1000000) (.know (okD (.sl 1 (.int .u8)) (encF out (gd I t12 t14.toNat))) (hd (qgp (encF out (gd I t12 t14.toNat)) t12 t13 (IntKind.wrap .i64 (t14 + (1 : Int)))))))) (rt (.tv (.sl 1 (.int .u8)) out) [])) := by kernel_rfl
noncomputable def qgo (b : List (Den (.int .u8))) (l : List (Den I)) (i : Int) : Cfg := hcfg E_Y2 qdh 0 [(0, (.tv (.sl 1 (.int .u8)) b)), (1, (.tv (.sl 8 I) l)), (5, (vi i))] [] 0
theorem r24_appendInts_t (b : List (Den (.int .u8))) (l : List (Den I)) : run E_Y2 H_Y2 qdh 3000 (start E_Y2 qdh [(.tv (.sl 1 (.int .u8)) b), (.tv (.sl 8 I) l)]) = (hd (qgo b l (0 : Int))) := by kernel_rfl
theorem r24_appendInts_L0_t (b : List (Den (.int .u8))) (l : List (Den I)) (i : Int) : run E_Y2 H_Y2 qdh 3000 (qgo b l i) = (cond (decide (i < ((ln I l) : Int))) (.chk (0 ≤ i ∧ i < (ln I l)) (.chk (ln (.int .u8) b ≤ 1000000) (.know (okD (.sl 1 (.int .u8)) (encF b (gd I l i.toNat))) (hd (qgo (encF b (gd I l i.toNat)) l (IntKind.wrap .i64 (i + (1 : Int)))))))) (rt (.tv (.sl 1 (.int .u8)) b) [])) := by kernel_rfl
theorem qdw {S : Sh} {x : Den S} {l : List (Den S)} : ln S (x :: l) = ln S l + 1 := rfl
theorem ap_nil {S : Sh} {l : List (Den S)} : ap S l [] = l := List.append_nil l
def enc0F (b : List (Den (.int .u8))) (l : List (Den I)) : List (Den (.int .u8)) := ap (.int .u8) b (encL l)
def encsF (b : List (Den (.int .u8))) (l : List (Den I)) : List (Den (.int .u8)) := enc0F b ((ln I l : Int) :: l)
theorem encF_eq (b : List (Den (.int .u8))) (n : Int) : encF b n = enc0F b [n] := by
 unfold encF enc0F
 rw [encL, encL, List.append_nil]
theorem enc_app {b : List (Den (.int .u8))} {l m : List (Den I)} : enc0F (enc0F b l) m = enc0F b (l ++ m) := by
 unfold enc0F
 rw [ap_ap, encL_app]
theorem qhl {b : List (Den (.int .u8))} {l : List (Den I)} : ln (.int .u8) (enc0F b l) ≤ ln (.int .u8) b + 11 * ln I l := by
 unfold enc0F
 rw [ln_ap]
 have := encL_len l
 exact Nat.add_le_add_left this _
theorem enc_nil {b : List (Den (.int .u8))} : enc0F b [] = b := ap_nil
def eI : List (Den qab) → Bool
 | [] => true
 | x :: l => cond (decide ((ln qae x.2.2.2.1 : Int) > 400)) false (eI l)
def eC : List (Den qac) → Bool
 | [] => true
 | c :: l => cond (decide ((ln qab c.2.2.1 : Int) > 8000)) false (eI c.2.2.1 && eC l)
def eP : List (Den qaf) → Bool
 | [] => true
 | p :: l => cond (decide ((ln I p.2.1 : Int) > 200)) false (cond (decide ((ln I p.2.2.1 : Int) > 200)) false (eP l))
def encbF (w : Den qad) : Bool := cond (decide ((ln qac w.2.1 : Int) > 400)) false (cond (decide ((ln qaf w.2.2.1 : Int) > 2000)) false (cond (decide ((ln qah w.1 : Int) > 2000)) false (eC w.2.1 && eP w.2.2.1)))
def flagF (x : Den qab) : Int := cond (bOf x.1) (cond (bOf x.2.1) 3 1) (cond (bOf x.2.1) 2 0)

def k_witness_flag : Con := con [.d qab] I (fun x => True) fun x => flagF x.1
theorem m_witness_flag (x : Den qab) (h_x : okD qab x) (hp : True) : Runs E_Y2 (start E_Y2 qhc [(.tv qab x)]) (fun r_ h_ => r_ = (vi (flagF x)) ∧ h_ = []) := .tree qek (witness_flag_t x) (by
 unfold flagF
 cases bOf x.1 <;> cases bOf x.2.1 <;> exact ⟨rfl, rfl⟩)
theorem c_witness_flag : qas E_Y2 qhc k_witness_flag.spec := qbo fun x hx hp => ⟨rfl, m_witness_flag x.1 hx.1 hp⟩
theorem wenc4 (l : List (Den qaf)) (hr : ln qaf l < 9223372036854775807) : ∀ i, i ≤ ln qaf l → Runs E_Y2 (qen l (ln qaf l : Nat) i) (fun x h => x = vb (eP (l.drop i)) ∧ h = []) :=
 qcg (.tree qek (witness_encodable_L4_t _ _ _) (by
  rw [qaz]
  exact qam (fun h => absurd (of_decide_eq_true h) (Int.lt_irrefl _)) fun _ => ⟨rfl, rfl⟩))
  fun i hi ih => .tree qek (witness_encodable_L4_t _ _ _) (by
   rw [qax hi, eP]
   refine qam (fun _ => ⟨⟨Int.natCast_nonneg _, Int.ofNat_lt.2 hi⟩, fun _ => ?_⟩) fun h => absurd (Int.ofNat_lt.2 hi) (of_decide_eq_false h)
   rw [Int.toNat_natCast, wrapS hi hr]
   refine qam (fun h => ⟨by rw [h]; rfl, rfl⟩) fun h => qam (fun h' => ⟨by rw [h, h']; rfl, rfl⟩) fun h' => ?_
   rw [h, h']
   exact ih)
theorem wenc2 (w : Den qad) (t26 : List (Den qac)) (t27 t28 : Int) (r : Bool) (hn : Runs E_Y2 (qdj w t26 t27 (IntKind.wrap .i64 (t28 + (1 : Int)))) (fun x h => x = vb r ∧ h = [])) (l : List (Den qab)) (hr : ln qab l < 9223372036854775807) : ∀ i, i ≤ ln qab l → Runs E_Y2 (qeo w t26 t27 t28 l (ln qab l : Nat) i) (fun x h => x = vb (eI (l.drop i) && r) ∧ h = []) :=
 qcg (.tree qek (witness_encodable_L2_t _ _ _ _ _ _ _) (by
  rw [qaz]
  exact qam (fun h => absurd (of_decide_eq_true h) (Int.lt_irrefl _)) fun _ => hn))
  fun i hi ih => .tree qek (witness_encodable_L2_t _ _ _ _ _ _ _) (by
   rw [qax hi, eI]
   refine qam (fun _ => ⟨⟨Int.natCast_nonneg _, Int.ofNat_lt.2 hi⟩, fun _ => ?_⟩) fun h => absurd (Int.ofNat_lt.2 hi) (of_decide_eq_false h)
   rw [Int.toNat_natCast, wrapS hi hr]
   refine qam (fun h => ⟨by rw [h]; rfl, rfl⟩) fun h => ?_
   rw [h]
   exact ih)
theorem wenc0 (w : Den qad) (h_w : okD qad w) : ∀ i, i ≤ ln qac w.2.1 → Runs E_Y2 (qdj w w.2.1 (ln qac w.2.1 : Nat) i) (fun x h => x = vb (eC (List.drop (α := Den qac) i w.2.1) && eP w.2.2.1) ∧ h = []) :=
 qcg (.tree qek (witness_encodable_L0_t _ _ _ _) (by
  rw [qaz]
  exact qam (fun h => absurd (of_decide_eq_true h) (Int.lt_irrefl _)) fun _ => wenc4 _ (qbn h_w.2.2.1.1) 0 (Nat.zero_le _)))
  fun i hi ih => .tree qek (witness_encodable_L0_t _ _ _ _) (by
   rw [qax hi, eC]
   refine qam (fun _ => ⟨⟨Int.natCast_nonneg _, Int.ofNat_lt.2 hi⟩, fun _ => ?_⟩) fun h => absurd (Int.ofNat_lt.2 hi) (of_decide_eq_false h)
   rw [Int.toNat_natCast]
   have hc : okD qac (gd qac w.2.1 i) := ok_gd h_w.2.1 hi
   refine qam (fun h => ⟨by rw [h]; rfl, rfl⟩) fun h => ?_
   rw [h, cond_false, Bool.and_assoc]
   exact wenc2 _ _ _ _ _ (by rw [wrapS hi (qbn h_w.2.1.1)]; exact ih) _ (qbn hc.2.2.1.1) 0 (Nat.zero_le _))
def k_witness_encodable : Con := con [.d qad] .bool (fun x => True) fun x => encbF x.1
theorem m_witness_encodable (w : Den qad) (h_w : okD qad w) (hp : True) : Runs E_Y2 (start E_Y2 qbk [(.tv qad w)]) (fun r_ h_ => r_ = (vb (encbF w)) ∧ h_ = []) := .tree qek (witness_encodable_t w) (by
 unfold encbF
 refine qam (fun h => ⟨by rw [h]; rfl, rfl⟩) fun h => qam (fun h' => ⟨by rw [h, h']; rfl, rfl⟩) fun h' => qam (fun h'' => ⟨by rw [h, h', h'']; rfl, rfl⟩) fun h'' => ?_
 rw [h, h', h'']
 exact wenc0 w h_w 0 (Nat.zero_le _))
theorem c_witness_encodable : qas E_Y2 qbk k_witness_encodable.spec := qbo fun x hx hp => ⟨rfl, m_witness_encodable x.1 hx.1 hp⟩
theorem renc4 (w : Den qad) (hr : ln qaf w.2.2.1 < 9223372036854775807) : ∀ i, i ≤ ln qaf w.2.2.1 → Runs E_Y2 (qhf w i) (fun x h => x = vb (eP (List.drop (α := Den qaf) i w.2.2.1)) ∧ h = []) :=
 qcg (.tree qek (r24_encodable_L4_t _ _) (by
  rw [qaz]
  exact qam (fun h => absurd (of_decide_eq_true h) (Int.lt_irrefl _)) fun _ => ⟨rfl, rfl⟩))
  fun i hi ih => .tree qek (r24_encodable_L4_t _ _) (by
   rw [qax hi, eP]
   refine qam (fun _ => ⟨⟨Int.natCast_nonneg _, Int.ofNat_lt.2 hi⟩, fun _ => ?_⟩) fun h => absurd (Int.ofNat_lt.2 hi) (of_decide_eq_false h)
   rw [Int.toNat_natCast, wrapS hi hr]
   refine qam (fun h => ⟨by rw [h]; rfl, rfl⟩) fun h => ⟨⟨Int.natCast_nonneg _, Int.ofNat_lt.2 hi⟩, fun _ => qam (fun h' => ⟨by rw [h, h']; rfl, rfl⟩) fun h' => ?_⟩
   rw [h, h']
   exact ih)
theorem renc2 (w : Den qad) (i : Nat) (hi : i < ln qac w.2.1) (r : Bool) (hn : Runs E_Y2 (qfe w (IntKind.wrap .i64 (i + (1 : Int)))) (fun x h => x = vb r ∧ h = [])) (hr : ln qab (gd qac w.2.1 i).2.2.1 < 9223372036854775807) : ∀ k, k ≤ ln qab (gd qac w.2.1 i).2.2.1 → Runs E_Y2 (qhg w i k) (fun x h => x = vb (eI (List.drop (α := Den qab) k (gd qac w.2.1 i).2.2.1) && r) ∧ h = []) :=
 qcg (.tree qek (r24_encodable_L2_t _ _ _) (by
  rw [qaz]
  exact ⟨⟨Int.natCast_nonneg _, Int.ofNat_lt.2 hi⟩, fun _ => qam (fun h => absurd (of_decide_eq_true h) (Int.lt_irrefl _)) fun _ => hn⟩))
  fun k hk ih => .tree qek (r24_encodable_L2_t _ _ _) (by
   rw [qax hk, eI]
   refine ⟨⟨Int.natCast_nonneg _, Int.ofNat_lt.2 hi⟩, fun _ => qam (fun _ => ⟨⟨Int.natCast_nonneg _, Int.ofNat_lt.2 hi⟩, fun _ => ⟨⟨Int.natCast_nonneg _, Int.ofNat_lt.2 hk⟩, fun _ => ?_⟩⟩) fun h => absurd (Int.ofNat_lt.2 hk) (of_decide_eq_false h)⟩
   rw [Int.toNat_natCast, Int.toNat_natCast, wrapS hk hr]
   refine qam (fun h => ⟨by rw [h]; rfl, rfl⟩) fun h => ?_
   rw [h]
   exact ih)
theorem renc0 (w : Den qad) (h_w : okD qad w) : ∀ i, i ≤ ln qac w.2.1 → Runs E_Y2 (qfe w i) (fun x h => x = vb (eC (List.drop (α := Den qac) i w.2.1) && eP w.2.2.1) ∧ h = []) :=
 qcg (.tree qek (r24_encodable_L0_t _ _) (by
  rw [qaz]
  exact qam (fun h => absurd (of_decide_eq_true h) (Int.lt_irrefl _)) fun _ => renc4 _ (qbn h_w.2.2.1.1) 0 (Nat.zero_le _)))
  fun i hi ih => .tree qek (r24_encodable_L0_t _ _) (by
   rw [qax hi, eC]
   refine qam (fun _ => ⟨⟨Int.natCast_nonneg _, Int.ofNat_lt.2 hi⟩, fun _ => ?_⟩) fun h => absurd (Int.ofNat_lt.2 hi) (of_decide_eq_false h)
   rw [Int.toNat_natCast]
   have hc : okD qac (gd qac w.2.1 i) := ok_gd h_w.2.1 hi
   refine qam (fun h => ⟨by rw [h]; rfl, rfl⟩) fun h => ?_
   rw [h, cond_false, Bool.and_assoc]
   exact renc2 w i hi _ (by rw [wrapS hi (qbn h_w.2.1.1)]; exact ih) (qbn hc.2.2.1.1) 0 (Nat.zero_le _))
def k_r24_encodable : Con := con [.d qad] .bool (fun x => True) fun x => encbF x.1
theorem m_r24_encodable (w : Den qad) (h_w : okD qad w) (hp : True) : Runs E_Y2 (start E_Y2 qbz [(.tv qad w)]) (fun r_ h_ => r_ = (vb (encbF w)) ∧ h_ = []) := .tree qek (r24_encodable_t w) (by
 unfold encbF
 refine qam (fun h => ⟨by rw [h]; rfl, rfl⟩) fun h => qam (fun h' => ⟨by rw [h, h']; rfl, rfl⟩) fun h' => qam (fun h'' => ⟨by rw [h, h', h'']; rfl, rfl⟩) fun h'' => ?_
 rw [h, h', h'']
 exact renc0 w h_w 0 (Nat.zero_le _))
theorem c_r24_encodable : qas E_Y2 qbz k_r24_encodable.spec := qbo fun x hx hp => ⟨rfl, m_r24_encodable x.1 hx.1 hp⟩
theorem r02AIs (l : List (Den I)) (hr : ln I l < 9223372036854775807) : ∀ i, i ≤ ln I l → ∀ b : List (Den (.int .u8)), ln (.int .u8) b + 11 * ln I (l.drop i) ≤ 1000000 → Runs E_Y2 (qgp b l (ln I l : Nat) i) (fun x h => x = .tv (.sl 1 (.int .u8)) (enc0F b (l.drop i)) ∧ h = []) :=
 qcg (fun b hb => .tree qek (r02_AppendInts_L0_t _ _ _ _) (by
  rw [qaz, enc_nil]
  exact qam (fun h => absurd (of_decide_eq_true h) (Int.lt_irrefl _)) fun _ => ⟨rfl, rfl⟩))
  fun i hi ih b hb => .tree qek (r02_AppendInts_L0_t _ _ _ _) (by
   rw [qax hi, qdw] at hb
   rw [qax hi]
   refine qam (fun _ => ⟨⟨Int.natCast_nonneg _, Int.ofNat_lt.2 hi⟩, fun _ => ⟨by omega, fun _ _ => ?_⟩⟩) fun h => absurd (Int.ofNat_lt.2 hi) (of_decide_eq_false h)
   rw [Int.toNat_natCast, wrapS hi hr, encF_eq]
   have := ih (enc0F b [gd I l i]) (by have := @qhl b [gd I l i]; rw [ln_one] at this; omega)
   rw [enc_app] at this
   exact this)
def k_r02_AppendInts : Con := con [.d (.sl 1 (.int .u8)), .d (.sl 8 I)] (.sl 1 (.int .u8)) (fun x => ln (.int .u8) x.1 + 11 * (ln I x.2.1 + 1) ≤ 1000000) fun x => encsF x.1 x.2.1
theorem m_r02_AppendInts (b : List (Den (.int .u8))) (l : List (Den I)) (h_b : okD (.sl 1 (.int .u8)) b) (h_l : okD (.sl 8 I) l) (hp : ln (.int .u8) b + 11 * (ln I l + 1) ≤ 1000000) : Runs E_Y2 (start E_Y2 qdi [(.tv (.sl 1 (.int .u8)) b), (.tv (.sl 8 I) l)]) (fun r_ h_ => r_ = (.tv (.sl 1 (.int .u8)) (encsF b l)) ∧ h_ = []) := .tree qek (r02_AppendInts_t b l) (by
 have r : ln (.int .u8) b + 11 * (ln I l + 1) ≤ 1000000 := hp
 refine ⟨by omega, fun _ _ => ?_⟩
 rw [encF_eq]
 have := r02AIs l (qbn h_l.1) 0 (Nat.zero_le _) (enc0F b [(ln I l : Int)]) (by have := @qhl b [(ln I l : Int)]; rw [ln_one] at this; rw [List.drop_zero]; omega)
 rw [enc_app, List.drop_zero] at this
 exact this)
theorem c_r02_AppendInts : qas E_Y2 qdi k_r02_AppendInts.spec := qbo fun x hx hp => ⟨rfl, m_r02_AppendInts x.1 x.2.1 hx.1 hx.2.1 hp⟩
theorem r24AIs (l : List (Den I)) (hr : ln I l < 9223372036854775807) : ∀ i, i ≤ ln I l → ∀ b : List (Den (.int .u8)), ln (.int .u8) b + 11 * ln I (l.drop i) ≤ 1000000 → Runs E_Y2 (qgo b l i) (fun x h => x = .tv (.sl 1 (.int .u8)) (enc0F b (l.drop i)) ∧ h = []) :=
 qcg (fun b hb => .tree qek (r24_appendInts_L0_t _ _ _) (by
  rw [qaz, enc_nil]
  exact qam (fun h => absurd (of_decide_eq_true h) (Int.lt_irrefl _)) fun _ => ⟨rfl, rfl⟩))
  fun i hi ih b hb => .tree qek (r24_appendInts_L0_t _ _ _) (by
   rw [qax hi, qdw] at hb
   rw [qax hi]
   refine qam (fun _ => ⟨⟨Int.natCast_nonneg _, Int.ofNat_lt.2 hi⟩, fun _ => ⟨by omega, fun _ _ => ?_⟩⟩) fun h => absurd (Int.ofNat_lt.2 hi) (of_decide_eq_false h)
   rw [Int.toNat_natCast, wrapS hi hr, encF_eq]
   have := ih (enc0F b [gd I l i]) (by have := @qhl b [gd I l i]; rw [ln_one] at this; omega)
   rw [enc_app] at this
   exact this)
def k_r24_appendInts : Con := con [.d (.sl 1 (.int .u8)), .d (.sl 8 I)] (.sl 1 (.int .u8)) (fun x => ln (.int .u8) x.1 + 11 * ln I x.2.1 ≤ 1000000) fun x => enc0F x.1 x.2.1
theorem m_r24_appendInts (b : List (Den (.int .u8))) (l : List (Den I)) (h_b : okD (.sl 1 (.int .u8)) b) (h_l : okD (.sl 8 I) l) (hp : ln (.int .u8) b + 11 * ln I l ≤ 1000000) : Runs E_Y2 (start E_Y2 qdh [(.tv (.sl 1 (.int .u8)) b), (.tv (.sl 8 I) l)]) (fun r_ h_ => r_ = (.tv (.sl 1 (.int .u8)) (enc0F b l)) ∧ h_ = []) := .tree qek (r24_appendInts_t b l) (by
 exact r24AIs l (qbn h_l.1) 0 (Nat.zero_le _) b hp)
theorem c_r24_appendInts : qas E_Y2 qdh k_r24_appendInts.spec := qbo fun x hx hp => ⟨rfl, m_r24_appendInts x.1 x.2.1 hx.1 hx.2.1 hp⟩
def L_Y2 : List (FuncId × FSpec) := [(qhc, k_witness_flag.spec), (qbk, k_witness_encodable.spec), (qbz, k_r24_encodable.spec), (qdi, k_r02_AppendInts.spec), (qdh, k_r24_appendInts.spec)] ++ L_Y1
theorem L_Y2_ok : ∀ x ∈ L_Y2, qas (ctx []) x.1 x.2 := by
 unfold L_Y2
 simp only [List.cons_append, List.nil_append, List.forall_mem_cons]
 exact ⟨c_witness_flag, c_witness_encodable, c_r24_encodable, c_r02_AppendInts, c_r24_appendInts, L_Y1_ok⟩
def LI_Y2 : List IoT := [] ++ LI_Y1
theorem LI_Y2_ok : ∀ x ∈ LI_Y2, qbd (ctx []) x.1 x.2.1 x.2.2 := by
 unfold LI_Y2
 simp only [List.cons_append, List.nil_append, List.forall_mem_cons]
 exact LI_Y1_ok
end Burn.M24
namespace Burn.M24
open Go Go.BE Go.Proofs
set_option maxRecDepth 100000
set_option linter.unusedVariables false
set_option linter.unusedSimpArgs false
noncomputable abbrev E_Y3 : Ctx := ctx L_Y2 LI_Y2
theorem qdn : EOK E_Y3 := qcy L_Y2_ok LI_Y2_ok
def cuts_Y3 : CutL := [([], 27, 0, [1, 4, 26, 27, 28], [], []),
 ([], 27, 2, [1, 4, 47, 48, 49], [], []),
 ([], 27, 4, [1, 4, 47, 48, 49, 64, 65, 66], [], []),
 ([], 27, 6, [1, 4, 47, 48, 49, 64, 65, 66, 81, 82, 83], [], []),
 ([], 27, 8, [4, 106, 107, 108], [], []),
 ([], 27, 10, [15, 138, 139, 140], [(.t 15, .own 1 (.int .u8))], []),
 ([], 28, 0, [1, 4, 5], [], []),
 ([], 28, 2, [1, 4, 6], [], []),
 ([], 28, 4, [1, 4, 6, 7, 8], [], []),
 ([], 28, 6, [1, 4, 6, 7, 8, 9, 11], [], []),
 ([], 28, 8, [1, 4, 12], [], [])]
def rets_Y3 : FuncId → List (Option Fx)
 | 27 => [some (.dat (.sl 1 (.int .u8))), none]
 | 28 => [some (.dat (.sl 1 (.int .u8))), none]
 | _ => []
def H_Y3 : Hints := { cut := cutOf cuts_Y3, ret := rets_Y3 }
noncomputable def qgn (w : Den qad) (t26 : List (Den qah)) (t27 : Int) (t28 : Int) (l : List (Den I)) : Cfg := hcfg E_Y3 qbb 0 [(1, (.rtp qad w)), (4, (.osl 0 0 [] none)), (26, (.tv (.sl 16 qah) t26)), (27, (vi t27)), (28, (vi t28))] [(0, ⟨(.arr 0 8 I l), 0, [], false, none⟩)] 1
noncomputable def qeq (w : Den qad) (t47 : List (Den qac)) (t48 : Int) (t49 : Int) (l : List (Den I)) : Cfg := hcfg E_Y3 qbb 2 [(1, (.rtp qad w)), (4, (.osl 0 0 [] none)), (47, (.tv (.sl 40 qac) t47)), (48, (vi t48)), (49, (vi t49))] [(0, ⟨(.arr 0 8 I l), 0, [], false, none⟩)] 1
noncomputable def qep (w : Den qad) (t47 : List (Den qac)) (t48 : Int) (t49 : Int) (t64 : List (Den qab)) (t65 : Int) (t66 : Int) (l : List (Den I)) : Cfg := hcfg E_Y3 qbb 4 [(1, (.rtp qad w)), (4, (.osl 0 0 [] none)), (47, (.tv (.sl 40 qac) t47)), (48, (vi t48)), (49, (vi t49)), (64, (.tv (.sl 40 qab) t64)), (65, (vi t65)), (66, (vi t66))] [(0, ⟨(.arr 0 8 I l), 0, [], false, none⟩)] 1
noncomputable def qgl (t106 : List (Den qaf)) (t107 : Int) (t108 : Int) (l : List (Den I)) : Cfg := hcfg E_Y3 qbb 8 [(4, (.osl 0 0 [] none)), (106, (.tv (.sl 64 qaf) t106)), (107, (vi t107)), (108, (vi t108))] [(0, ⟨(.arr 0 8 I l), 0, [], false, none⟩)] 1
noncomputable def qgm (w : Den qad) (t47 : List (Den qac)) (t48 : Int) (t49 : Int) (t64 : List (Den qab)) (t65 : Int) (t66 : Int) (t81 : List (Den qae)) (t82 : Int) (t83 : Int) (l : List (Den I)) : Cfg := hcfg E_Y3 qbb 6 [(1, (.rtp qad w)), (4, (.osl 0 0 [] none)), (47, (.tv (.sl 40 qac) t47)), (48, (vi t48)), (49, (vi t49)), (64, (.tv (.sl 40 qab) t64)), (65, (vi t65)), (66, (vi t66)), (81, (.tv (.sl 24 qae) t81)), (82, (vi t82)), (83, (vi t83))] [(0, ⟨(.arr 0 8 I l), 0, [], false, none⟩)] 1
noncomputable def qfr (t139 : Int) (t140 : Int) (b : List (Den (.int .u8))) (t138 : List (Den I)) : Cfg := hcfg E_Y3 qbb 10 [(15, (.osl 0 0 [] none)), (138, (.osl 1 1 [] none)), (139, (vi t139)), (140, (vi t140))] [(0, ⟨(.arr 0 1 (.int .u8) b), 0, [], false, none⟩), (1, ⟨(.arr 0 8 I t138), 1, [], false, none⟩)] 2
theorem witness_Encode_t (w : Den qad) : run E_Y3 H_Y3 qbb 3000 (start E_Y3 qbb [(.tv qad w)]) = (.chk (True) (.know True (cond (!(encbF w)) (rt (.tup [(.tv (.sl 1 (.int .u8)) ([] : List (Den (.int .u8)))), (vi (11 : Int))]) []) (hd (qgn w w.1 ((ln qah w.1) : Int) (0 : Int) ([((ln qah w.1) : Int)] : List (Den I))))))) := by kernel_rfl
theorem witness_Encode_L0_t (w : Den qad) (t26 : List (Den qah)) (t27 : Int) (t28 : Int) (l : List (Den I)) : run E_Y3 H_Y3 qbb 3000 (qgn w t26 t27 t28 l) = (cond (decide (t28 < t27)) (.chk (0 ≤ t28 ∧ t28 < (ln qah t26)) (.chk ((0 : Nat) < (1 : Nat)) (.chk ((0 : Nat) < (1 : Nat)) (.chk ((0 : Nat) < (1 : Nat)) (.chk (((ln I l) + (2 : Nat)) * 8 ≤ roomB) (hd (qgn w t26 t27 (IntKind.wrap .i64 (t28 + (1 : Int))) (ap I l ([(gd qah t26 t28.toNat).1, (gd qah t26 t28.toNat).2.1] : List (Den I)))))))))) (.chk (((ln I l) + (1 : Nat)) * 8 ≤ roomB) (hd (qeq w w.2.1 ((ln qac w.2.1) : Int) (0 : Int) (ap I l ([((ln qac w.2.1) : Int)] : List (Den I))))))) := by kernel_rfl
theorem witness_Encode_L2_t (w : Den qad) (t47 : List (Den qac)) (t48 : Int) (t49 : Int) (l : List (Den I)) : run E_Y3 H_Y3 qbb 3000 (qeq w t47 t48 t49 l) = (cond (decide (t49 < t48)) (.chk (0 ≤ t49 ∧ t49 < (ln qac t47)) (.chk (((ln I l) + (3 : Nat)) * 8 ≤ roomB) (hd (qep w t47 t48 t49 ((gd qac t47 t49.toNat).2.2.1) ((ln qab ((gd qac t47 t49.toNat).2.2.1)) : Int) (0 : Int) (ap I l ([(gd qac t47 t49.toNat).1, (gd qac t47 t49.toNat).2.1, ((ln qab ((gd qac t47 t49.toNat).2.2.1)) : Int)] : List (Den I))))))) (.chk (((ln I l) + (1 : Nat)) * 8 ≤ roomB) (hd (qgl w.2.2.1 ((ln qaf w.2.2.1) : Int) (0 : Int) (ap I l ([((ln qaf w.2.2.1) : Int)] : List (Den I))))))) := by kernel_rfl
theorem witness_Encode_L4_t (w : Den qad) (t47 : List (Den qac)) (t48 : Int) (t49 : Int) (t64 : List (Den qab)) (t65 : Int) (t66 : Int) (l : List (Den I)) : run E_Y3 H_Y3 qbb 3000 (qep w t47 t48 t49 t64 t65 t66 l) = (cond (decide (t66 < t65)) (.chk (0 ≤ t66 ∧ t66 < (ln qab t64)) (.chk (True) (.chk (((ln I l) + (3 : Nat)) * 8 ≤ roomB) (.know (okD (.int .i64) (flagF (gd qab t64 t66.toNat))) (hd (qgm w t47 t48 t49 t64 t65 t66 ((gd qab t64 t66.toNat).2.2.2.1) ((ln qae ((gd qab t64 t66.toNat).2.2.2.1)) : Int) (0 : Int) (ap I l ([(flagF (gd qab t64 t66.toNat)), (gd qab t64 t66.toNat).2.2.1, ((ln qae ((gd qab t64 t66.toNat).2.2.2.1)) : Int)] : List (Den I))))))))) (hd (qeq w t47 t48 (IntKind.wrap .i64 (t49 + (1 : Int))) l))) := by kernel_rfl
theorem witness_Encode_L8_t (t106 : List (Den qaf)) (t107 : Int) (t108 : Int) (l : List (Den I)) : run E_Y3 H_Y3 qbb 3000 (qgl t106 t107 t108 l) = (cond (decide (t108 < t107)) (.chk (0 ≤ t108 ∧ t108 < (ln qaf t106)) (.chk (((ln I l) + (2 : Nat)) * 8 ≤ roomB) (.chk (((ln I (ap I l ([(gd qaf t106 t108.toNat).1, ((ln I ((gd qaf t106 t108.toNat).2.1)) : Int)] : List (Den I)))) + (ln I ((gd qaf t106 t108.toNat).2.1))) * 8 ≤ roomB) (.chk (((ln I (ap I (ap I l ([(gd qaf t106 t108.toNat).1, ((ln I ((gd qaf t106 t108.toNat).2.1)) : Int)] : List (Den I))) ((gd qaf t106 t108.toNat).2.1))) + (1 : Nat)) * 8 ≤ roomB) (.chk (((ln I (ap I (ap I (ap I l ([(gd qaf t106 t108.toNat).1, ((ln I ((gd qaf t106 t108.toNat).2.1)) : Int)] : List (Den I))) ((gd qaf t106 t108.toNat).2.1)) ([((ln I ((gd qaf t106 t108.toNat).2.2.1)) : Int)] : List (Den I)))) + (ln I ((gd qaf t106 t108.toNat).2.2.1))) * 8 ≤ roomB) (.chk (((ln I (ap I (ap I (ap I (ap I l ([(gd qaf t106 t108.toNat).1, ((ln I ((gd qaf t106 t108.toNat).2.1)) : Int)] : List (Den I))) ((gd qaf t106 t108.toNat).2.1)) ([((ln I ((gd qaf t106 t108.toNat).2.2.1)) : Int)] : List (Den I))) ((gd qaf t106 t108.toNat).2.2.1))) + (1 : Nat)) * 8 ≤ roomB) (hd (qgl t106 t107 (IntKind.wrap .i64 (t108 + (1 : Int))) (ap I (ap I (ap I (ap I (ap I l ([(gd qaf t106 t108.toNat).1, ((ln I ((gd qaf t106 t108.toNat).2.1)) : Int)] : List (Den I))) ((gd qaf t106 t108.toNat).2.1)) ([((ln I ((gd qaf t106 t108.toNat).2.2.1)) : Int)] : List (Den I))) ((gd qaf t106 t108.toNat).2.2.1)) ([(gd qaf t106 t108.toNat).2.2.2.1] : List (Den I))))))))))) (hd (qfr ((ln I l) : Int) (0 : Int) ([] : List (Den (.int .u8))) l))) := by kernel_rfl
theorem witness_Encode_L6_t (w : Den qad) (t47 : List (Den qac)) (t48 : Int) (t49 : Int) (t64 : List (Den qab)) (t65 : Int) (t66 : Int) (t81 : List (Den qae)) (t82 : Int) (t83 : Int) (l : List (Den I)) : run E_Y3 H_Y3 qbb 3000 (qgm w t47 t48 t49 t64 t65 t66 t81 t82 t83 l) = (cond (decide (t83 < t82)) (.chk (0 ≤ t83 ∧ t83 < (ln qae t81)) (.chk ((0 : Nat) < (1 : Nat)) (.chk ((0 : Nat) < (1 : Nat)) (.chk ((0 : Nat) < (1 : Nat)) (.chk ((0 : Nat) < (1 : Nat)) (.chk (((ln I l) + (3 : Nat)) * 8 ≤ roomB) (hd (qgm w t47 t48 t49 t64 t65 t66 t81 t82 (IntKind.wrap .i64 (t83 + (1 : Int))) (ap I l ([(gd qae t81 t83.toNat).1, (gd qae t81 t83.toNat).2.1, (gd qae t81 t83.toNat).2.2.1] : List (Den I))))))))))) (hd (qep w t47 t48 t49 t64 t65 (IntKind.wrap .i64 (t66 + (1 : Int))) l))) := by kernel_rfl
theorem witness_Encode_L10_t (t139 : Int) (t140 : Int) (b : List (Den (.int .u8))) (t138 : List (Den I)) : run E_Y3 H_Y3 qbb 3000 (qfr t139 t140 b t138) = (cond (decide (t140 < t139)) (.chk (0 ≤ t140 ∧ t140 < (ln I t138)) (.chk (t140.toNat < (ln I t138)) (.chk (ln (.int .u8) ([] : List (Den (.int .u8))) ≤ 1000000) (.know (okD (.sl 1 (.int .u8)) (encF ([] : List (Den (.int .u8))) (gd I t138 t140.toNat))) (.chk (((ln (.int .u8) b) + (ln (.int .u8) (encF ([] : List (Den (.int .u8))) (gd I t138 t140.toNat)))) * 1 ≤ roomB) (hd (qfr t139 (IntKind.wrap .i64 (t140 + (1 : Int))) (ap (.int .u8) b (encF ([] : List (Den (.int .u8))) (gd I t138 t140.toNat))) t138))))))) (rt (.tup [(.tv (.sl 1 (.int .u8)) b), (vi (0 : Int))]) [])) := by kernel_rfl
noncomputable def r24_Encode_L0 (w : Den qad) (b : List (Den (.int .u8))) (i : Int) : Cfg := hcfg E_Y3 qca 0 [(1, (.rtp qad w)), (4, (.tv (.sl 1 (.int .u8)) b)), (5, (vi i))] [] 0
noncomputable def r24_Encode_L2 (w : Den qad) (b : List (Den (.int .u8))) (i : Int) : Cfg := hcfg E_Y3 qca 2 [(1, (.rtp qad w)), (4, (.tv (.sl 1 (.int .u8)) b)), (6, (vi i))] [] 0
noncomputable def r24_Encode_L4 (w : Den qad) (b : List (Den (.int .u8))) (i : Int) (k : Int) (c_0 : Int) (c_1 : Int) (c_2 : List (Den qab)) : Cfg := hcfg E_Y3 qca 4 [(1, (.rtp qad w)), (4, (.tv (.sl 1 (.int .u8)) b)), (6, (vi i)), (7, (.ref 0 0)), (8, (vi k))] [(0, ⟨(.cells [(vi c_0), (vi c_1), (.tv (.sl 40 qab) c_2)]), 0, [], false, none⟩)] 1
noncomputable def r24_Encode_L8 (w : Den qad) (b : List (Den (.int .u8))) (i : Int) : Cfg := hcfg E_Y3 qca 8 [(1, (.rtp qad w)), (4, (.tv (.sl 1 (.int .u8)) b)), (12, (vi i))] [] 0
noncomputable def qef (w : Den qad) (b : List (Den (.int .u8))) (i : Int) (k : Int) (j : Int) (c_0 : Int) (c_1 : Int) (c_2 : List (Den qab)) (x_0 : Bool) (x_1 : Bool) (x_2 : Int) (x_3 : List (Den qae)) : Cfg := hcfg E_Y3 qca 6 [(1, (.rtp qad w)), (4, (.tv (.sl 1 (.int .u8)) b)), (6, (vi i)), (7, (.ref 0 0)), (8, (vi k)), (9, (.ref 1 0)), (11, (vi j))] [(0, ⟨(.cells [(vi c_0), (vi c_1), (.tv (.sl 40 qab) c_2)]), 0, [], false, none⟩), (1, ⟨(.cells [(vb x_0), (vb x_1), (vi x_2), (.tv (.sl 24 qae) x_3)]), 1, [], false, none⟩)] 2
theorem r24_Encode_t (w : Den qad) : run E_Y3 H_Y3 qca 3000 (start E_Y3 qca [(.tv qad w)]) = (.chk (True) (.know True (cond (!(encbF w)) (rt (.tup [(.tv (.sl 1 (.int .u8)) ([] : List (Den (.int .u8)))), (vi (11 : Int))]) []) (.chk (ln (.int .u8) ([] : List (Den (.int .u8))) ≤ 1000000) (.know (okD (.sl 1 (.int .u8)) (encF ([] : List (Den (.int .u8))) ((ln qah w.1) : Int))) (hd (r24_Encode_L0 w (encF ([] : List (Den (.int .u8))) ((ln qah w.1) : Int)) (0 : Int)))))))) := by kernel_rfl
theorem r24_Encode_L0_t (w : Den qad) (b : List (Den (.int .u8))) (i : Int) : run E_Y3 H_Y3 qca 3000 (r24_Encode_L0 w b i) = (cond (decide (i < ((ln qah w.1) : Int))) (.chk (0 ≤ i ∧ i < (ln qah w.1)) (.chk (0 ≤ i ∧ i < (ln qah w.1)) (.chk (ln (.int .u8) b + 11 * ln I ([(gd qah w.1 i.toNat).1, (gd qah w.1 i.toNat).2.1] : List (Den I)) ≤ 1000000) (.know (okD (.sl 1 (.int .u8)) (enc0F b ([(gd qah w.1 i.toNat).1, (gd qah w.1 i.toNat).2.1] : List (Den I)))) (hd (r24_Encode_L0 w (enc0F b ([(gd qah w.1 i.toNat).1, (gd qah w.1 i.toNat).2.1] : List (Den I))) (IntKind.wrap .i64 (i + (1 : Int))))))))) (.chk (ln (.int .u8) b ≤ 1000000) (.know (okD (.sl 1 (.int .u8)) (encF b ((ln qac w.2.1) : Int))) (hd (r24_Encode_L2 w (encF b ((ln qac w.2.1) : Int)) (0 : Int)))))) := by kernel_rfl
theorem r24_Encode_L2_t (w : Den qad) (b : List (Den (.int .u8))) (i : Int) : run E_Y3 H_Y3 qca 3000 (r24_Encode_L2 w b i) = (cond (decide (i < ((ln qac w.2.1) : Int))) (.chk (0 ≤ i ∧ i < (ln qac w.2.1)) (.chk (ln (.int .u8) b + 11 * ln I ([(gd qac w.2.1 i.toNat).1, (gd qac w.2.1 i.toNat).2.1, ((ln qab ((gd qac w.2.1 i.toNat).2.2.1)) : Int)] : List (Den I)) ≤ 1000000) (.know (okD (.sl 1 (.int .u8)) (enc0F b ([(gd qac w.2.1 i.toNat).1, (gd qac w.2.1 i.toNat).2.1, ((ln qab ((gd qac w.2.1 i.toNat).2.2.1)) : Int)] : List (Den I)))) (hd (r24_Encode_L4 w (enc0F b ([(gd qac w.2.1 i.toNat).1, (gd qac w.2.1 i.toNat).2.1, ((ln qab ((gd qac w.2.1 i.toNat).2.2.1)) : Int)] : List (Den I))) i (0 : Int) (z ((gd qac w.2.1 i.toNat).1)) (z ((gd qac w.2.1 i.toNat).2.1)) ((gd qac w.2.1 i.toNat).2.2.1)))))) (.chk (ln (.int .u8) b ≤ 1000000) (.know (okD (.sl 1 (.int .u8)) (encF b ((ln qaf w.2.2.1) : Int))) (hd (r24_Encode_L8 w (encF b ((ln qaf w.2.2.1) : Int)) (0 : Int)))))) := by kernel_rfl
theorem r24_Encode_L4_t (w : Den qad) (b : List (Den (.int .u8))) (i : Int) (k : Int) (c_0 : Int) (c_1 : Int) (c_2 : List (Den qab)) : run E_Y3 H_Y3 qca 3000 (r24_Encode_L4 w b i k c_0 c_1 c_2) = (cond (decide (k < ((ln qab c_2) : Int))) (.chk (0 ≤ k ∧ k < (ln qab c_2)) (cond (bOf ((gd qab c_2 k.toNat).1)) (cond (bOf ((gd qab c_2 k.toNat).2.1)) (.chk (ln (.int .u8) b + 11 * ln I ([(3 : Int), (gd qab c_2 k.toNat).2.2.1, ((ln qae ((gd qab c_2 k.toNat).2.2.2.1)) : Int)] : List (Den I)) ≤ 1000000) (.know (okD (.sl 1 (.int .u8)) (enc0F b ([(3 : Int), (gd qab c_2 k.toNat).2.2.1, ((ln qae ((gd qab c_2 k.toNat).2.2.2.1)) : Int)] : List (Den I)))) (hd (qef w (enc0F b ([(3 : Int), (gd qab c_2 k.toNat).2.2.1, ((ln qae ((gd qab c_2 k.toNat).2.2.2.1)) : Int)] : List (Den I))) i k (0 : Int) c_0 c_1 c_2 (bOf ((gd qab c_2 k.toNat).1)) (bOf ((gd qab c_2 k.toNat).2.1)) (z ((gd qab c_2 k.toNat).2.2.1)) ((gd qab c_2 k.toNat).2.2.2.1))))) (.chk (ln (.int .u8) b + 11 * ln I ([(1 : Int), (gd qab c_2 k.toNat).2.2.1, ((ln qae ((gd qab c_2 k.toNat).2.2.2.1)) : Int)] : List (Den I)) ≤ 1000000) (.know (okD (.sl 1 (.int .u8)) (enc0F b ([(1 : Int), (gd qab c_2 k.toNat).2.2.1, ((ln qae ((gd qab c_2 k.toNat).2.2.2.1)) : Int)] : List (Den I)))) (hd (qef w (enc0F b ([(1 : Int), (gd qab c_2 k.toNat).2.2.1, ((ln qae ((gd qab c_2 k.toNat).2.2.2.1)) : Int)] : List (Den I))) i k (0 : Int) c_0 c_1 c_2 (bOf ((gd qab c_2 k.toNat).1)) (bOf ((gd qab c_2 k.toNat).2.1)) (z ((gd qab c_2 k.toNat).2.2.1)) ((gd qab c_2 k.toNat).2.2.2.1)))))) (cond (bOf ((gd qab c_2 k.toNat).2.1)) (.chk (ln (.int .u8) b + 11 * ln I ([(2 : Int), (gd qab c_2 k.toNat).2.2.1, ((ln qae ((gd qab c_2 k.toNat).2.2.2.1)) : Int)] : List (Den I)) ≤ 1000000) (.know (okD (.sl 1 (.int .u8)) (enc0F b ([(2 : Int), (gd qab c_2 k.toNat).2.2.1, ((ln qae ((gd qab c_2 k.toNat).2.2.2.1)) : Int)] : List (Den I)))) (hd (qef w (enc0F b ([(2 : Int), (gd qab c_2 k.toNat).2.2.1, ((ln qae ((gd qab c_2 k.toNat).2.2.2.1)) : Int)] : List (Den I))) i k (0 : Int) c_0 c_1 c_2 (bOf ((gd qab c_2 k.toNat).1)) (bOf ((gd qab c_2 k.toNat).2.1)) (z ((gd qab c_2 k.toNat).2.2.1)) ((gd qab c_2 k.toNat).2.2.2.1))))) (.chk (ln (.int .u8) b + 11 * ln I ([(0 : Int), (gd qab c_2 k.toNat).2.2.1, ((ln qae ((gd qab c_2 k.toNat).2.2.2.1)) : Int)] : List (Den I)) ≤ 1000000) (.know (okD (.sl 1 (.int .u8)) (enc0F b ([(0 : Int), (gd qab c_2 k.toNat).2.2.1, ((ln qae ((gd qab c_2 k.toNat).2.2.2.1)) : Int)] : List (Den I)))) (hd (qef w (enc0F b ([(0 : Int), (gd qab c_2 k.toNat).2.2.1, ((ln qae ((gd qab c_2 k.toNat).2.2.2.1)) : Int)] : List (Den I))) i k (0 : Int) c_0 c_1 c_2 (bOf ((gd qab c_2 k.toNat).1)) (bOf ((gd qab c_2 k.toNat).2.1)) (z ((gd qab c_2 k.toNat).2.2.1)) ((gd qab c_2 k.toNat).2.2.2.1)))))))) (hd (r24_Encode_L2 w b (IntKind.wrap .i64 (i + (1 : Int)))))) := by kernel_rfl
theorem r24_Encode_L8_t (w : Den qad) (b : List (Den (.int .u8))) (i : Int) : run E_Y3 H_Y3 qca 3000 (r24_Encode_L8 w b i) = (cond (decide (i < ((ln qaf w.2.2.1) : Int))) (.chk (0 ≤ i ∧ i < (ln qaf w.2.2.1)) (.chk (ln (.int .u8) b ≤ 1000000) (.know (okD (.sl 1 (.int .u8)) (encF b (gd qaf w.2.2.1 i.toNat).1)) (.chk (ln (.int .u8) (encF b (gd qaf w.2.2.1 i.toNat).1) + 11 * (ln I ((gd qaf w.2.2.1 i.toNat).2.1) + 1) ≤ 1000000) (.know (okD (.sl 1 (.int .u8)) (encsF (encF b (gd qaf w.2.2.1 i.toNat).1) (gd qaf w.2.2.1 i.toNat).2.1)) (.chk (ln (.int .u8) (encsF (encF b (gd qaf w.2.2.1 i.toNat).1) (gd qaf w.2.2.1 i.toNat).2.1) + 11 * (ln I ((gd qaf w.2.2.1 i.toNat).2.2.1) + 1) ≤ 1000000) (.know (okD (.sl 1 (.int .u8)) (encsF (encsF (encF b (gd qaf w.2.2.1 i.toNat).1) (gd qaf w.2.2.1 i.toNat).2.1) (gd qaf w.2.2.1 i.toNat).2.2.1)) (.chk (ln (.int .u8) (encsF (encsF (encF b (gd qaf w.2.2.1 i.toNat).1) (gd qaf w.2.2.1 i.toNat).2.1) (gd qaf w.2.2.1 i.toNat).2.2.1) ≤ 1000000) (.know (okD (.sl 1 (.int .u8)) (encF (encsF (encsF (encF b (gd qaf w.2.2.1 i.toNat).1) (gd qaf w.2.2.1 i.toNat).2.1) (gd qaf w.2.2.1 i.toNat).2.2.1) (gd qaf w.2.2.1 i.toNat).2.2.2.1)) (hd (r24_Encode_L8 w (encF (encsF (encsF (encF b (gd qaf w.2.2.1 i.toNat).1) (gd qaf w.2.2.1 i.toNat).2.1) (gd qaf w.2.2.1 i.toNat).2.2.1) (gd qaf w.2.2.1 i.toNat).2.2.2.1) (IntKind.wrap .i64 (i + (1 : Int)))))))))))))) (rt (.tup [(.tv (.sl 1 (.int .u8)) b), (vi (0 : Int))]) [])) := by kernel_rfl
theorem r24_Encode_L6_t (w : Den qad) (b : List (Den (.int .u8))) (i : Int) (k : Int) (j : Int) (c_0 : Int) (c_1 : Int) (c_2 : List (Den qab)) (x_0 : Bool) (x_1 : Bool) (x_2 : Int) (x_3 : List (Den qae)) : run E_Y3 H_Y3 qca 3000 (qef w b i k j c_0 c_1 c_2 x_0 x_1 x_2 x_3) = (cond (decide (j < ((ln qae x_3) : Int))) (.chk (0 ≤ j ∧ j < (ln qae x_3)) (.chk (0 ≤ j ∧ j < (ln qae x_3)) (.chk (0 ≤ j ∧ j < (ln qae x_3)) (.chk (ln (.int .u8) b + 11 * ln I ([(gd qae x_3 j.toNat).1, (gd qae x_3 j.toNat).2.1, (gd qae x_3 j.toNat).2.2.1] : List (Den I)) ≤ 1000000) (.know (okD (.sl 1 (.int .u8)) (enc0F b ([(gd qae x_3 j.toNat).1, (gd qae x_3 j.toNat).2.1, (gd qae x_3 j.toNat).2.2.1] : List (Den I)))) (hd (qef w (enc0F b ([(gd qae x_3 j.toNat).1, (gd qae x_3 j.toNat).2.1, (gd qae x_3 j.toNat).2.2.1] : List (Den I))) i k (IntKind.wrap .i64 (j + (1 : Int))) c_0 c_1 c_2 x_0 x_1 x_2 x_3))))))) (hd (r24_Encode_L4 w b i (IntKind.wrap .i64 (k + (1 : Int))) c_0 c_1 c_2))) := by kernel_rfl
def nX : List (Den qae) → List (Den I)
 | [] => []
 | n :: l => n.1 :: n.2.1 :: n.2.2.1 :: nX l
def nI : List (Den qab) → List (Den I)
 | [] => []
 | x :: l => flagF x :: x.2.2.1 :: (ln qae x.2.2.2.1 : Int) :: (nX x.2.2.2.1 ++ nI l)
def nC : List (Den qac) → List (Den I)
 | [] => []
 | c :: l => c.1 :: c.2.1 :: (ln qab c.2.2.1 : Int) :: (nI c.2.2.1 ++ nC l)
def nP : List (Den qaf) → List (Den I)
 | [] => []
 | p :: l => p.1 :: (ln I p.2.1 : Int) :: (p.2.1 ++ ((ln I p.2.2.1 : Int) :: (p.2.2.1 ++ (p.2.2.2.1 :: nP l))))
def nE : List (Den qah) → List (Den I)
 | [] => []
 | p :: l => p.1 :: p.2.1 :: nE l
def nP1 (w : Den qad) : List (Den I) := (ln qaf w.2.2.1 : Int) :: nP w.2.2.1
def nC1 (w : Den qad) : List (Den I) := (ln qac w.2.1 : Int) :: (nC w.2.1 ++ nP1 w)
def nW (w : Den qad) : List (Den I) := (ln qah w.1 : Int) :: (nE w.1 ++ nC1 w)
def qfq (w : Den qad) : List (Den (.int .u8)) × Int := cond (encbF w) (encL (nW w), 0) ([], 11)
abbrev Rb (b : List (Den (.int .u8))) : AV → Heap → Prop := fun x h => x = .tup [.tv (.sl 1 (.int .u8)) b, vi 0] ∧ h = []
theorem wE10 (l : List (Den I)) (hl : ln I l ≤ 20000) : ∀ i, i ≤ ln I l → ∀ b : List (Den (.int .u8)), ln (.int .u8) b + 11 * ln I (l.drop i) ≤ 1000000 → Runs E_Y3 (qfr (ln I l : Nat) i b l) (Rb (enc0F b (l.drop i))) :=
 qcg (fun b hb => .tree qdn (witness_Encode_L10_t _ _ _ _) (by
  rw [qaz, enc_nil]
  exact qam (fun h => absurd (of_decide_eq_true h) (Int.lt_irrefl _)) fun _ => ⟨rfl, rfl⟩))
  fun i hi ih b hb => .tree qdn (witness_Encode_L10_t _ _ _ _) (by
   rw [qax hi] at hb
   rw [qax hi]
   refine qam (fun _ => ⟨⟨Int.natCast_nonneg _, Int.ofNat_lt.2 hi⟩, fun _ => ⟨by rw [Int.toNat_natCast]; exact hi, fun _ => ⟨by (try simp only [ln, ap, List.length_cons, List.length_append, List.length_nil, List.drop_zero, roomB] at *) <;> omega, fun _ _ => ?_⟩⟩⟩) fun h => absurd (Int.ofNat_lt.2 hi) (of_decide_eq_false h)
   rw [Int.toNat_natCast, wrapS hi (by (try simp only [ln, ap, List.length_cons, List.length_append, List.length_nil, List.drop_zero, roomB] at *) <;> omega), encF_eq]
   have hk := @qhl [] [gd I l i]
   skip
   refine ⟨by (try simp only [ln, ap, List.length_cons, List.length_append, List.length_nil, List.drop_zero, roomB] at *) <;> omega, fun _ => ?_⟩
   have := ih (ap (.int .u8) b (enc0F [] [gd I l i])) (by (try simp only [ln, ap, List.length_cons, List.length_append, List.length_nil, List.drop_zero, roomB] at *) <;> omega)
   rw [show ap (.int .u8) b (enc0F [] [gd I l i]) = enc0F b [gd I l i] from rfl, enc_app] at this
   exact this)
theorem wE8 (l : List (Den qaf)) (hr : ln qaf l < 9223372036854775807) : ∀ i, i ≤ ln qaf l → ∀ a : List (Den I), ln I a + ln I (nP (l.drop i)) ≤ 20000 → Runs E_Y3 (qgl l (ln qaf l : Nat) i a) (Rb (encL (ap I a (nP (l.drop i))))) :=
 qcg (fun a ha => .tree qdn (witness_Encode_L8_t _ _ _ _) (by
  rw [qaz] at ha
  rw [qaz, nP, ap_nil]
  refine qam (fun h => absurd (of_decide_eq_true h) (Int.lt_irrefl _)) fun _ => ?_
  exact wE10 a (by (try simp only [ln, ap, List.length_cons, List.length_append, List.length_nil, List.drop_zero, roomB] at *) <;> omega) 0 (Nat.zero_le _) [] (by (try simp only [ln, ap, List.length_cons, List.length_append, List.length_nil, List.drop_zero, roomB] at *) <;> omega)))
  fun i hi ih a ha => .tree qdn (witness_Encode_L8_t _ _ _ _) (by
   rw [qax hi, nP] at ha
   rw [qax hi, nP]
   refine qam (fun _ => ⟨⟨Int.natCast_nonneg _, Int.ofNat_lt.2 hi⟩, ?_⟩) fun h => absurd (Int.ofNat_lt.2 hi) (of_decide_eq_false h)
   rw [Int.toNat_natCast, wrapS hi hr]
   revert ha
   generalize gd qaf l i = p
   intro ha
   refine fun _ => ⟨by (try simp only [ln, ap, List.length_cons, List.length_append, List.length_nil, List.drop_zero, roomB] at *) <;> omega, fun _ => ⟨by (try simp only [ln, ap, List.length_cons, List.length_append, List.length_nil, List.drop_zero, roomB] at *) <;> omega, fun _ => ⟨by (try simp only [ln, ap, List.length_cons, List.length_append, List.length_nil, List.drop_zero, roomB] at *) <;> omega, fun _ => ⟨by (try simp only [ln, ap, List.length_cons, List.length_append, List.length_nil, List.drop_zero, roomB] at *) <;> omega, fun _ => ⟨by (try simp only [ln, ap, List.length_cons, List.length_append, List.length_nil, List.drop_zero, roomB] at *) <;> omega, fun _ => ?_⟩⟩⟩⟩⟩
   have := ih (ap I (ap I (ap I (ap I (ap I a [p.1, (ln I p.2.1 : Int)]) p.2.1) [(ln I p.2.2.1 : Int)]) p.2.2.1) [p.2.2.2.1]) (by (try simp only [ln, ap, List.length_cons, List.length_append, List.length_nil, List.drop_zero, roomB] at *) <;> omega)
   simp only [ap, List.append_assoc, List.cons_append, List.nil_append] at this
   try simp only [ap, List.append_assoc, List.cons_append, List.nil_append]
   exact this)
theorem wE6 (w : Den qad) (t47 : List (Den qac)) (t48 t49 : Int) (t64 : List (Den qab)) (t65 t66 : Int) (r : List (Den I)) (hn : ∀ a : List (Den I), ln I a + ln I r ≤ 20000 → Runs E_Y3 (qep w t47 t48 t49 t64 t65 (IntKind.wrap .i64 (t66 + (1 : Int))) a) (Rb (encL (ap I a r)))) (l : List (Den qae)) (hr : ln qae l < 9223372036854775807) : ∀ i, i ≤ ln qae l → ∀ a : List (Den I), ln I a + ln I (nX (l.drop i) ++ r) ≤ 20000 → Runs E_Y3 (qgm w t47 t48 t49 t64 t65 t66 l (ln qae l : Nat) i a) (Rb (encL (ap I a (nX (l.drop i) ++ r)))) :=
 qcg (fun a ha => .tree qdn (witness_Encode_L6_t _ _ _ _ _ _ _ _ _ _ _) (by
  rw [qaz, nX, List.nil_append] at ha
  rw [qaz, nX, List.nil_append]
  exact qam (fun h => absurd (of_decide_eq_true h) (Int.lt_irrefl _)) fun _ => hn a ha))
  fun i hi ih a ha => .tree qdn (witness_Encode_L6_t _ _ _ _ _ _ _ _ _ _ _) (by
   rw [qax hi, nX] at ha
   rw [qax hi, nX]
   refine qam (fun _ => ⟨⟨Int.natCast_nonneg _, Int.ofNat_lt.2 hi⟩, fun _ => ⟨by decide, fun _ => ⟨by decide, fun _ => ⟨by decide, fun _ => ⟨by decide, fun _ => ⟨by (try simp only [ln, ap, List.length_cons, List.length_append, List.length_nil, List.drop_zero, roomB] at *) <;> omega, fun _ => ?_⟩⟩⟩⟩⟩⟩) fun h => absurd (Int.ofNat_lt.2 hi) (of_decide_eq_false h)
   rw [Int.toNat_natCast, wrapS hi hr]
   have := ih (ap I a [(gd qae l i).1, (gd qae l i).2.1, (gd qae l i).2.2.1]) (by (try simp only [ln, ap, List.length_cons, List.length_append, List.length_nil, List.drop_zero, roomB] at *) <;> omega)
   simp only [ap, List.append_assoc, List.cons_append, List.nil_append] at this
   try simp only [ap, List.append_assoc, List.cons_append, List.nil_append]
   exact this)
theorem wE4 (w : Den qad) (t47 : List (Den qac)) (t48 t49 : Int) (r : List (Den I)) (hn : ∀ a : List (Den I), ln I a + ln I r ≤ 20000 → Runs E_Y3 (qeq w t47 t48 (IntKind.wrap .i64 (t49 + (1 : Int))) a) (Rb (encL (ap I a r)))) (l : List (Den qab)) (hok : okD (.sl 40 qab) l) : ∀ i, i ≤ ln qab l → ∀ a : List (Den I), ln I a + ln I (nI (l.drop i) ++ r) ≤ 20000 → Runs E_Y3 (qep w t47 t48 t49 l (ln qab l : Nat) i a) (Rb (encL (ap I a (nI (l.drop i) ++ r)))) :=
 qcg (fun a ha => .tree qdn (witness_Encode_L4_t _ _ _ _ _ _ _ _) (by
  rw [qaz, nI, List.nil_append] at ha
  rw [qaz, nI, List.nil_append]
  exact qam (fun h => absurd (of_decide_eq_true h) (Int.lt_irrefl _)) fun _ => hn a ha))
  fun i hi ih a ha => .tree qdn (witness_Encode_L4_t _ _ _ _ _ _ _ _) (by
   rw [qax hi, nI] at ha
   rw [qax hi, nI]
   have hx : okD qab (gd qab l i) := ok_gd hok hi
   refine qam (fun _ => ⟨⟨Int.natCast_nonneg _, Int.ofNat_lt.2 hi⟩, fun _ => ⟨trivial, fun _ => ⟨by (try simp only [ln, ap, List.length_cons, List.length_append, List.length_nil, List.drop_zero, roomB] at *) <;> omega, fun _ _ => ?_⟩⟩⟩) fun h => absurd (Int.ofNat_lt.2 hi) (of_decide_eq_false h)
   rw [Int.toNat_natCast]
   revert ha hx
   generalize hg : gd qab l i = x
   intro ha hx
   have := wE6 w t47 t48 t49 l (ln qab l : Nat) i (nI (l.drop (i + 1)) ++ r) (fun a ha => by rw [wrapS hi (qbn hok.1)]; exact ih a ha) x.2.2.2.1 (qbn hx.2.2.2.1.1) 0 (Nat.zero_le _) (ap I a [flagF x, x.2.2.1, (ln qae x.2.2.2.1 : Int)]) (by (try simp only [ln, ap, List.length_cons, List.length_append, List.length_nil, List.drop_zero, roomB] at *) <;> omega)
   simp only [ap, List.append_assoc, List.cons_append, List.nil_append, List.drop_zero] at this
   try simp only [ap, List.append_assoc, List.cons_append, List.nil_append, List.drop_zero]
   exact this)
theorem wE2 (w : Den qad) (h_w : okD qad w) : ∀ i, i ≤ ln qac w.2.1 → ∀ a : List (Den I), ln I a + ln I (nC (List.drop (α := Den qac) i w.2.1) ++ nP1 w) ≤ 20000 → Runs E_Y3 (qeq w w.2.1 (ln qac w.2.1 : Nat) i a) (Rb (encL (ap I a (nC (List.drop (α := Den qac) i w.2.1) ++ nP1 w)))) :=
 qcg (fun a ha => .tree qdn (witness_Encode_L2_t _ _ _ _ _) (by
  rw [qaz, nC, List.nil_append, nP1] at ha
  rw [qaz, nC, List.nil_append, nP1]
  refine qam (fun h => absurd (of_decide_eq_true h) (Int.lt_irrefl _)) fun _ => ⟨by (try simp only [ln, ap, List.length_cons, List.length_append, List.length_nil, List.drop_zero, roomB] at *) <;> omega, fun _ => ?_⟩
  have := wE8 w.2.2.1 (qbn h_w.2.2.1.1) 0 (Nat.zero_le _) (ap I a [(ln qaf w.2.2.1 : Int)]) (by (try simp only [ln, ap, List.length_cons, List.length_append, List.length_nil, List.drop_zero, roomB] at *) <;> omega)
  simp only [ap, List.append_assoc, List.cons_append, List.nil_append, List.drop_zero] at this
  try simp only [ap, List.append_assoc, List.cons_append, List.nil_append, List.drop_zero]
  exact this))
  fun i hi ih a ha => .tree qdn (witness_Encode_L2_t _ _ _ _ _) (by
   rw [qax hi, nC] at ha
   rw [qax hi, nC]
   have hx : okD qac (gd qac w.2.1 i) := ok_gd h_w.2.1 hi
   refine qam (fun _ => ⟨⟨Int.natCast_nonneg _, Int.ofNat_lt.2 hi⟩, fun _ => ⟨by (try simp only [ln, ap, List.length_cons, List.length_append, List.length_nil, List.drop_zero, roomB] at *) <;> omega, fun _ => ?_⟩⟩) fun h => absurd (Int.ofNat_lt.2 hi) (of_decide_eq_false h)
   rw [Int.toNat_natCast]
   revert ha hx
   generalize gd qac w.2.1 i = x
   intro ha hx
   have := wE4 w w.2.1 (ln qac w.2.1 : Nat) i (nC (List.drop (α := Den qac) (i + 1) w.2.1) ++ nP1 w) (fun a ha => by rw [wrapS hi (qbn h_w.2.1.1)]; exact ih a ha) x.2.2.1 hx.2.2.1 0 (Nat.zero_le _) (ap I a [x.1, x.2.1, (ln qab x.2.2.1 : Int)]) (by (try simp only [ln, ap, List.length_cons, List.length_append, List.length_nil, List.drop_zero, roomB] at *) <;> omega)
   simp only [ap, List.append_assoc, List.cons_append, List.nil_append, List.drop_zero] at this
   try simp only [ap, List.append_assoc, List.cons_append, List.nil_append, List.drop_zero]
   exact this)
theorem wE0 (w : Den qad) (h_w : okD qad w) : ∀ i, i ≤ ln qah w.1 → ∀ a : List (Den I), ln I a + ln I (nE (List.drop (α := Den qah) i w.1) ++ nC1 w) ≤ 20000 → Runs E_Y3 (qgn w w.1 (ln qah w.1 : Nat) i a) (Rb (encL (ap I a (nE (List.drop (α := Den qah) i w.1) ++ nC1 w)))) :=
 qcg (fun a ha => .tree qdn (witness_Encode_L0_t _ _ _ _ _) (by
  rw [qaz, nE, List.nil_append, nC1] at ha
  rw [qaz, nE, List.nil_append, nC1]
  refine qam (fun h => absurd (of_decide_eq_true h) (Int.lt_irrefl _)) fun _ => ⟨by (try simp only [ln, ap, List.length_cons, List.length_append, List.length_nil, List.drop_zero, roomB] at *) <;> omega, fun _ => ?_⟩
  have := wE2 w h_w 0 (Nat.zero_le _) (ap I a [(ln qac w.2.1 : Int)]) (by (try simp only [ln, ap, List.length_cons, List.length_append, List.length_nil, List.drop_zero, roomB] at *) <;> omega)
  simp only [ap, List.append_assoc, List.cons_append, List.nil_append, List.drop_zero] at this
  try simp only [ap, List.append_assoc, List.cons_append, List.nil_append, List.drop_zero]
  exact this))
  fun i hi ih a ha => .tree qdn (witness_Encode_L0_t _ _ _ _ _) (by
   rw [qax hi, nE] at ha
   rw [qax hi, nE]
   refine qam (fun _ => ⟨⟨Int.natCast_nonneg _, Int.ofNat_lt.2 hi⟩, fun _ => ⟨by decide, fun _ => ⟨by decide, fun _ => ⟨by decide, fun _ => ⟨by (try simp only [ln, ap, List.length_cons, List.length_append, List.length_nil, List.drop_zero, roomB] at *) <;> omega, fun _ => ?_⟩⟩⟩⟩⟩) fun h => absurd (Int.ofNat_lt.2 hi) (of_decide_eq_false h)
   rw [Int.toNat_natCast, wrapS hi (qbn h_w.1.1)]
   have := ih (ap I a [(gd qah w.1 i).1, (gd qah w.1 i).2.1]) (by (try simp only [ln, ap, List.length_cons, List.length_append, List.length_nil, List.drop_zero, roomB] at *) <;> omega)
   simp only [ap, List.append_assoc, List.cons_append, List.nil_append] at this
   try simp only [ap, List.append_assoc, List.cons_append, List.nil_append]
   exact this)
def k_witness_Encode : Con := conT2 [.d qad] (.sl 1 (.int .u8)) I (fun x => ln I (nW x.1) ≤ 20000) fun x => qfq x.1
theorem m_witness_Encode (w : Den qad) (h_w : okD qad w) (hp : ln I (nW w) ≤ 20000) : Runs E_Y3 (start E_Y3 qbb [(.tv qad w)]) (fun r_ h_ => r_ = (.tup [(.tv (.sl 1 (.int .u8)) ((qfq w).1)), (vi (z ((qfq w).2)))]) ∧ h_ = []) := .tree qdn (witness_Encode_t w) (by
 have hp : ln I (nW w) ≤ 20000 := hp
 rw [nW] at hp
 unfold qfq
 refine ⟨trivial, fun _ _ => qam (fun h => ⟨by rw [not_t h]; rfl, rfl⟩) fun h => ?_⟩
 rw [not_f h]
 have := wE0 w h_w 0 (Nat.zero_le _) [(ln qah w.1 : Int)] (by (try simp only [ln, ap, List.length_cons, List.length_append, List.length_nil, List.drop_zero, roomB] at *) <;> omega)
 rw [List.drop_zero] at this
 exact this)
theorem c_witness_Encode : qas E_Y3 qbb k_witness_Encode.spec := qbo fun x hx hp => ⟨rfl, m_witness_Encode x.1 hx.1 hp⟩
theorem rE8 (w : Den qad) (hr : ln qaf w.2.2.1 < 9223372036854775807) : ∀ i, i ≤ ln qaf w.2.2.1 → ∀ b : List (Den (.int .u8)), ln (.int .u8) b + 11 * ln I (nP (List.drop (α := Den qaf) i w.2.2.1)) ≤ 1000000 → Runs E_Y3 (r24_Encode_L8 w b i) (Rb (enc0F b (nP (List.drop (α := Den qaf) i w.2.2.1)))) :=
 qcg (fun b hb => .tree qdn (r24_Encode_L8_t _ _ _) (by
  rw [qaz, nP, enc_nil]
  exact qam (fun h => absurd (of_decide_eq_true h) (Int.lt_irrefl _)) fun _ => ⟨rfl, rfl⟩))
  fun i hi ih b hb => .tree qdn (r24_Encode_L8_t _ _ _) (by
   rw [qax hi, nP] at hb
   rw [qax hi, nP]
   refine qam (fun _ => ⟨⟨Int.natCast_nonneg _, Int.ofNat_lt.2 hi⟩, ?_⟩) fun h => absurd (Int.ofNat_lt.2 hi) (of_decide_eq_false h)
   rw [Int.toNat_natCast, wrapS hi hr]
   revert hb
   generalize gd qaf w.2.2.1 i = p
   intro hb
   simp only [encF_eq, encsF, enc_app]
   have l1 := @qhl b [p.1]
   have l2 := @qhl b ([p.1] ++ (ln I p.2.1 : Int) :: p.2.1)
   have l3 := @qhl b ([p.1] ++ (ln I p.2.1 : Int) :: p.2.1 ++ (ln I p.2.2.1 : Int) :: p.2.2.1)
   have l4 := @qhl b ([p.1] ++ (ln I p.2.1 : Int) :: p.2.1 ++ (ln I p.2.2.1 : Int) :: p.2.2.1 ++ [p.2.2.2.1])
   refine fun _ => ⟨by (try simp only [ln, ap, List.length_cons, List.length_append, List.length_nil, List.drop_zero, roomB] at *) <;> omega, fun _ _ => ⟨by (try simp only [ln, ap, List.length_cons, List.length_append, List.length_nil, List.drop_zero, roomB] at *) <;> omega, fun _ _ => ⟨by (try simp only [ln, ap, List.length_cons, List.length_append, List.length_nil, List.drop_zero, roomB] at *) <;> omega, fun _ _ => ⟨by (try simp only [ln, ap, List.length_cons, List.length_append, List.length_nil, List.drop_zero, roomB] at *) <;> omega, fun _ _ => ?_⟩⟩⟩⟩
   have := ih _ (Nat.le_trans (Nat.add_le_add_right l4 _) (by (try simp only [ln, ap, List.length_cons, List.length_append, List.length_nil, List.drop_zero, roomB] at *) <;> omega))
   rw [enc_app] at this
   simp only [List.append_assoc, List.cons_append, List.nil_append] at this
   try simp only [List.append_assoc, List.cons_append, List.nil_append]
   exact this)
theorem rE6 (w : Den qad) (i : Int) (k : Int) (c_0 : Int) (c_1 : Int) (c_2 : List (Den qab)) (x_0 x_1 : Bool) (x_2 : Int) (r : List (Den I)) (hn : ∀ b : List (Den (.int .u8)), ln (.int .u8) b + 11 * ln I r ≤ 1000000 → Runs E_Y3 (r24_Encode_L4 w b i (IntKind.wrap .i64 (k + (1 : Int))) c_0 c_1 c_2) (Rb (enc0F b r))) (l : List (Den qae)) (hr : ln qae l < 9223372036854775807) : ∀ j, j ≤ ln qae l → ∀ b : List (Den (.int .u8)), ln (.int .u8) b + 11 * ln I (nX (l.drop j) ++ r) ≤ 1000000 → Runs E_Y3 (qef w b i k j c_0 c_1 c_2 x_0 x_1 x_2 l) (Rb (enc0F b (nX (l.drop j) ++ r))) :=
 qcg (fun b hb => .tree qdn (r24_Encode_L6_t _ _ _ _ _ _ _ _ _ _ _ _) (by
  rw [qaz, nX, List.nil_append] at hb
  rw [qaz, nX, List.nil_append]
  exact qam (fun h => absurd (of_decide_eq_true h) (Int.lt_irrefl _)) fun _ => hn b hb))
  fun j hi ih b hb => .tree qdn (r24_Encode_L6_t _ _ _ _ _ _ _ _ _ _ _ _) (by
   rw [qax hi, nX] at hb
   rw [qax hi, nX]
   refine qam (fun _ => ⟨⟨Int.natCast_nonneg _, Int.ofNat_lt.2 hi⟩, fun _ => ⟨⟨Int.natCast_nonneg _, Int.ofNat_lt.2 hi⟩, fun _ => ⟨⟨Int.natCast_nonneg _, Int.ofNat_lt.2 hi⟩, fun _ => ⟨by (try simp only [ln, ap, List.length_cons, List.length_append, List.length_nil, List.drop_zero, roomB] at *) <;> omega, fun _ _ => ?_⟩⟩⟩⟩) fun h => absurd (Int.ofNat_lt.2 hi) (of_decide_eq_false h)
   rw [Int.toNat_natCast, wrapS hi hr]
   have l1 := @qhl b [(gd qae l j).1, (gd qae l j).2.1, (gd qae l j).2.2.1]
   have := ih _ (Nat.le_trans (Nat.add_le_add_right l1 _) (by (try simp only [ln, ap, List.length_cons, List.length_append, List.length_nil, List.drop_zero, roomB] at *) <;> omega))
   rw [enc_app] at this
   exact this)
theorem rE4 (w : Den qad) (i : Int) (c_0 : Int) (c_1 : Int) (l : List (Den qab)) (hok : okD (.sl 40 qab) l) (r : List (Den I)) (hn : ∀ b : List (Den (.int .u8)), ln (.int .u8) b + 11 * ln I r ≤ 1000000 → Runs E_Y3 (r24_Encode_L2 w b (IntKind.wrap .i64 (i + (1 : Int)))) (Rb (enc0F b r))) : ∀ k, k ≤ ln qab l → ∀ b : List (Den (.int .u8)), ln (.int .u8) b + 11 * ln I (nI (l.drop k) ++ r) ≤ 1000000 → Runs E_Y3 (r24_Encode_L4 w b i k c_0 c_1 l) (Rb (enc0F b (nI (l.drop k) ++ r))) :=
 qcg (fun b hb => .tree qdn (r24_Encode_L4_t _ _ _ _ _ _ _) (by
  rw [qaz, nI, List.nil_append] at hb
  rw [qaz, nI, List.nil_append]
  exact qam (fun h => absurd (of_decide_eq_true h) (Int.lt_irrefl _)) fun _ => hn b hb))
  fun k hi ih b hb => .tree qdn (r24_Encode_L4_t _ _ _ _ _ _ _) (by
   rw [qax hi, nI] at hb
   rw [qax hi, nI]
   have hx : okD qab (gd qab l k) := ok_gd hok hi
   refine qam (fun _ => ⟨⟨Int.natCast_nonneg _, Int.ofNat_lt.2 hi⟩, fun _ => ?_⟩) fun h => absurd (Int.ofNat_lt.2 hi) (of_decide_eq_false h)
   rw [Int.toNat_natCast]
   revert hb hx
   generalize gd qab l k = x
   intro hb hx
   have step : ∀ (f : Int) (x0 x1 : Bool) (x2 : Int), Runs E_Y3 (qef w (enc0F b [f, x.2.2.1, (ln qae x.2.2.2.1 : Int)]) i k (0 : Int) c_0 c_1 l x0 x1 x2 x.2.2.2.1) (Rb (enc0F b (f :: x.2.2.1 :: (ln qae x.2.2.2.1 : Int) :: (nX x.2.2.2.1 ++ (nI (l.drop (k + 1)) ++ r))))) := fun f x0 x1 x2 => by
    have l1 := @qhl b [f, x.2.2.1, (ln qae x.2.2.2.1 : Int)]
    have := rE6 w i k c_0 c_1 l x0 x1 x2 (nI (l.drop (k + 1)) ++ r) (fun b hb => by rw [wrapS hi (qbn hok.1)]; exact ih b hb) x.2.2.2.1 (qbn hx.2.2.2.1.1) 0 (Nat.zero_le _) _ (Nat.le_trans (Nat.add_le_add_right l1 _) (by (try simp only [ln, ap, List.length_cons, List.length_append, List.length_nil, List.drop_zero, roomB] at *) <;> omega))
    rw [enc_app, List.drop_zero] at this
    exact this
   simp only [List.append_assoc, List.cons_append]
   unfold flagF
   cases bOf x.1 <;> cases bOf x.2.1 <;> exact ⟨by (try simp only [ln, ap, List.length_cons, List.length_append, List.length_nil, List.drop_zero, roomB] at *) <;> omega, fun _ _ => step _ _ _ _⟩)
theorem rE2 (w : Den qad) (h_w : okD qad w) : ∀ i, i ≤ ln qac w.2.1 → ∀ b : List (Den (.int .u8)), ln (.int .u8) b + 11 * ln I (nC (List.drop (α := Den qac) i w.2.1) ++ nP1 w) ≤ 1000000 → Runs E_Y3 (r24_Encode_L2 w b i) (Rb (enc0F b (nC (List.drop (α := Den qac) i w.2.1) ++ nP1 w))) :=
 qcg (fun b hb => .tree qdn (r24_Encode_L2_t _ _ _) (by
  rw [qaz, nC, List.nil_append, nP1] at hb
  rw [qaz, nC, List.nil_append, nP1]
  refine qam (fun h => absurd (of_decide_eq_true h) (Int.lt_irrefl _)) fun _ => ⟨by (try simp only [ln, ap, List.length_cons, List.length_append, List.length_nil, List.drop_zero, roomB] at *) <;> omega, fun _ _ => ?_⟩
  rw [encF_eq]
  have l1 := @qhl b [(ln qaf w.2.2.1 : Int)]
  skip
  have := rE8 w (qbn h_w.2.2.1.1) 0 (Nat.zero_le _) _ (Nat.le_trans (Nat.add_le_add_right l1 _) (by (try simp only [ln, ap, List.length_cons, List.length_append, List.length_nil, List.drop_zero, roomB] at *) <;> omega))
  rw [enc_app, List.drop_zero] at this
  exact this))
  fun i hi ih b hb => .tree qdn (r24_Encode_L2_t _ _ _) (by
   rw [qax hi, nC] at hb
   rw [qax hi, nC]
   have hx : okD qac (gd qac w.2.1 i) := ok_gd h_w.2.1 hi
   refine qam (fun _ => ⟨⟨Int.natCast_nonneg _, Int.ofNat_lt.2 hi⟩, fun _ => ⟨by (try simp only [ln, ap, List.length_cons, List.length_append, List.length_nil, List.drop_zero, roomB] at *) <;> omega, fun _ _ => ?_⟩⟩) fun h => absurd (Int.ofNat_lt.2 hi) (of_decide_eq_false h)
   rw [Int.toNat_natCast]
   revert hb hx
   generalize gd qac w.2.1 i = x
   intro hb hx
   have l1 := @qhl b [x.1, x.2.1, (ln qab x.2.2.1 : Int)]
   have := rE4 w i x.1 x.2.1 x.2.2.1 hx.2.2.1 (nC (List.drop (α := Den qac) (i + 1) w.2.1) ++ nP1 w) (fun b hb => by rw [wrapS hi (qbn h_w.2.1.1)]; exact ih b hb) 0 (Nat.zero_le _) _ (Nat.le_trans (Nat.add_le_add_right l1 _) (by (try simp only [ln, ap, List.length_cons, List.length_append, List.length_nil, List.drop_zero, roomB] at *) <;> omega))
   rw [enc_app, List.drop_zero] at this
   simp only [List.append_assoc, List.cons_append, List.nil_append] at this
   try simp only [List.append_assoc, List.cons_append, List.nil_append]
   exact this)
theorem rE0 (w : Den qad) (h_w : okD qad w) : ∀ i, i ≤ ln qah w.1 → ∀ b : List (Den (.int .u8)), ln (.int .u8) b + 11 * ln I (nE (List.drop (α := Den qah) i w.1) ++ nC1 w) ≤ 1000000 → Runs E_Y3 (r24_Encode_L0 w b i) (Rb (enc0F b (nE (List.drop (α := Den qah) i w.1) ++ nC1 w))) :=
 qcg (fun b hb => .tree qdn (r24_Encode_L0_t _ _ _) (by
  rw [qaz, nE, List.nil_append, nC1] at hb
  rw [qaz, nE, List.nil_append, nC1]
  refine qam (fun h => absurd (of_decide_eq_true h) (Int.lt_irrefl _)) fun _ => ⟨by (try simp only [ln, ap, List.length_cons, List.length_append, List.length_nil, List.drop_zero, roomB] at *) <;> omega, fun _ _ => ?_⟩
  rw [encF_eq]
  have l1 := @qhl b [(ln qac w.2.1 : Int)]
  skip
  have := rE2 w h_w 0 (Nat.zero_le _) _ (Nat.le_trans (Nat.add_le_add_right l1 _) (by (try simp only [ln, ap, List.length_cons, List.length_append, List.length_nil, List.drop_zero, roomB] at *) <;> omega))
  rw [enc_app, List.drop_zero] at this
  exact this))
  fun i hi ih b hb => .tree qdn (r24_Encode_L0_t _ _ _) (by
   rw [qax hi, nE] at hb
   rw [qax hi, nE]
   refine qam (fun _ => ⟨⟨Int.natCast_nonneg _, Int.ofNat_lt.2 hi⟩, fun _ => ⟨⟨Int.natCast_nonneg _, Int.ofNat_lt.2 hi⟩, fun _ => ⟨by (try simp only [ln, ap, List.length_cons, List.length_append, List.length_nil, List.drop_zero, roomB] at *) <;> omega, fun _ _ => ?_⟩⟩⟩) fun h => absurd (Int.ofNat_lt.2 hi) (of_decide_eq_false h)
   rw [Int.toNat_natCast, wrapS hi (qbn h_w.1.1)]
   have l1 := @qhl b [(gd qah w.1 i).1, (gd qah w.1 i).2.1]
   have := ih _ (Nat.le_trans (Nat.add_le_add_right l1 _) (by (try simp only [ln, ap, List.length_cons, List.length_append, List.length_nil, List.drop_zero, roomB] at *) <;> omega))
   rw [enc_app] at this
   exact this)
def k_r24_Encode : Con := conT2 [.d qad] (.sl 1 (.int .u8)) I (fun x => ln I (nW x.1) ≤ 20000) fun x => qfq x.1
theorem m_r24_Encode (w : Den qad) (h_w : okD qad w) (hp : ln I (nW w) ≤ 20000) : Runs E_Y3 (start E_Y3 qca [(.tv qad w)]) (fun r_ h_ => r_ = (.tup [(.tv (.sl 1 (.int .u8)) ((qfq w).1)), (vi (z ((qfq w).2)))]) ∧ h_ = []) := .tree qdn (r24_Encode_t w) (by
 have hp : ln I (nW w) ≤ 20000 := hp
 rw [nW] at hp
 unfold qfq
 refine ⟨trivial, fun _ _ => qam (fun h => ⟨by rw [not_t h]; rfl, rfl⟩) fun h => ⟨by (try simp only [ln, ap, List.length_cons, List.length_append, List.length_nil, List.drop_zero, roomB] at *) <;> omega, fun _ _ => ?_⟩⟩
 rw [not_f h, encF_eq]
 have l1 := @qhl [] [(ln qah w.1 : Int)]
 skip
 have := rE0 w h_w 0 (Nat.zero_le _) _ (Nat.le_trans (Nat.add_le_add_right l1 _) (by (try simp only [ln, ap, List.length_cons, List.length_append, List.length_nil, List.drop_zero, roomB] at *) <;> omega))
 rw [enc_app, List.drop_zero] at this
 exact this)
theorem c_r24_Encode : qas E_Y3 qca k_r24_Encode.spec := qbo fun x hx hp => ⟨rfl, m_r24_Encode x.1 hx.1 hp⟩
def L_Y3 : List (FuncId × FSpec) := [(qbb, k_witness_Encode.spec), (qca, k_r24_Encode.spec)] ++ L_Y2
theorem L_Y3_ok : ∀ x ∈ L_Y3, qas (ctx []) x.1 x.2 := by
 unfold L_Y3
 simp only [List.cons_append, List.nil_append, List.forall_mem_cons]
 exact ⟨c_witness_Encode, c_r24_Encode, L_Y2_ok⟩
def LI_Y3 : List IoT := [] ++ LI_Y2
theorem LI_Y3_ok : ∀ x ∈ LI_Y3, qbd (ctx []) x.1 x.2.1 x.2.2 := by
 unfold LI_Y3
 simp only [List.cons_append, List.nil_append, List.forall_mem_cons]
 exact LI_Y2_ok
end Burn.M24
namespace Burn.M24
open Go Go.BE Go.Proofs
set_option maxRecDepth 100000
set_option linter.unusedVariables false
set_option linter.unusedSimpArgs false
noncomputable abbrev E_Y4 : Ctx := ctx L_Y3 LI_Y3
theorem E_Y4_ok : EOK E_Y4 := qcy L_Y3_ok LI_Y3_ok
def cuts_Y4 : CutL := [([], 29, 0, [0, 1, 12, 13], [], [])]
def rets_Y4 : FuncId → List (Option Fx)
 | _ => []
def H_Y4 : Hints := { cut := cutOf cuts_Y4, ret := rets_Y4 }
noncomputable def qcr (s1 : List (Den (.int .u8))) (s2 : List (Den (.int .u8))) (t12 : Int) (t13 : Int) : Cfg := hcfg E_Y4 qbl 0 [(0, (.tv (.sl 1 (.int .u8)) s1)), (1, (.tv (.sl 1 (.int .u8)) s2)), (12, (vi t12)), (13, (vi t13))] [] 0
theorem slices_Equal_L_byte_byte_t (s1 : List (Den (.int .u8))) (s2 : List (Den (.int .u8))) : run E_Y4 H_Y4 qbl 3000 (start E_Y4 qbl [(.tv (.sl 1 (.int .u8)) s1), (.tv (.sl 1 (.int .u8)) s2)]) = (cond (((ln (.int .u8) s1) : Int) != ((ln (.int .u8) s2) : Int)) (rt (vb false) []) (hd (qcr s1 s2 ((ln (.int .u8) s1) : Int) (0 : Int)))) := by kernel_rfl
theorem qfb (s1 : List (Den (.int .u8))) (s2 : List (Den (.int .u8))) (t12 : Int) (t13 : Int) : run E_Y4 H_Y4 qbl 3000 (qcr s1 s2 t12 t13) = (cond (decide (t13 < t12)) (.chk (0 ≤ t13 ∧ t13 < (ln (.int .u8) s1)) (.chk (0 ≤ t13 ∧ t13 < (ln (.int .u8) s2)) (cond ((iOf .u8 (gd (.int .u8) s1 t13.toNat)) != (iOf .u8 (gd (.int .u8) s2 t13.toNat))) (rt (vb false) []) (hd (qcr s1 s2 t12 (IntKind.wrap .i64 (t13 + (1 : Int)))))))) (rt (vb true) [])) := by kernel_rfl
def wI : List (Den qab) → Int
 | [] => 0
 | x :: l => (ln qae x.2.2.2.1 : Int) + wI l
def wC : List (Den qac) → Int
 | [] => 0
 | c :: l => 1 + (ln qab c.2.2.1 : Int) + wI c.2.2.1 + wC l
def wP : List (Den qaf) → Int
 | [] => 0
 | p :: l => 1 + (ln I p.2.1 : Int) + (ln I p.2.2.1 : Int) + wP l
theorem wI_nn : ∀ l, 0 ≤ wI l
 | [] => Int.le_refl _
 | x :: l => by
  have := wI_nn l
  rw [wI]
  omega
theorem wC_nn : ∀ l, 0 ≤ wC l
 | [] => Int.le_refl _
 | x :: l => by
  have := wC_nn l
  have := wI_nn x.2.2.1
  rw [wC]
  omega
theorem wP_nn : ∀ l, 0 ≤ wP l
 | [] => Int.le_refl _
 | x :: l => by
  have := wP_nn l
  rw [wP]
  omega
theorem lwI_le : ∀ l (n : Int), lwI l n ≤ 3000 → lwI l n = n + wI l
 | [], n, _ => by rw [lwI, wI]; omega
 | x :: l, n, h => by
  rw [lwI] at h ⊢
  rw [wI]
  by_cases hn : n ≤ 3000
  ·rw [decide_eq_true hn, cond_true] at h ⊢
   have := lwI_le l _ h
   omega
  ·rw [decide_eq_false hn, cond_false] at h
   exact absurd h hn
theorem lwC_le : ∀ l (n : Int), lwC l n ≤ 3000 → lwC l n = n + wC l
 | [], n, _ => by rw [lwC, wC]; omega
 | x :: l, n, h => by
  rw [lwC] at h ⊢
  rw [wC]
  by_cases hn : n ≤ 3000
  ·rw [decide_eq_true hn, cond_true] at h ⊢
   have h1 := lwC_le l _ h
   have h2 := wC_nn l
   have h3 := lwI_le x.2.2.1 (n + 1 + (ln qab x.2.2.1 : Int)) (by omega)
   omega
  ·rw [decide_eq_false hn, cond_false] at h
   exact absurd h hn
theorem lwP_le : ∀ l (n : Int), lwP l n ≤ 3000 → lwP l n = n + wP l
 | [], n, _ => by rw [lwP, wP]; omega
 | x :: l, n, h => by
  rw [lwP] at h ⊢
  rw [wP]
  by_cases hn : n ≤ 3000
  ·rw [decide_eq_true hn, cond_true] at h ⊢
   have h1 := lwP_le l _ h
   omega
  ·rw [decide_eq_false hn, cond_false] at h
   exact absurd h hn
theorem nX_ln : ∀ l, ln I (nX l) = 3 * ln qae l
 | [] => rfl
 | x :: l => by
  have := nX_ln l
  rw [nX, qdw, qdw, qdw, qdw]
  omega
theorem nI_ln : ∀ l, (ln I (nI l) : Int) = 3 * (ln qab l : Int) + 3 * wI l
 | [] => rfl
 | x :: l => by
  have h1 := nI_ln l
  have h2 := nX_ln x.2.2.2.1
  rw [nI, qdw, qdw, qdw, qdw, wI, ln_app]
  omega
theorem nC_ln : ∀ l, (ln I (nC l) : Int) = 3 * wC l
 | [] => rfl
 | x :: l => by
  have h1 := nC_ln l
  have h2 := nI_ln x.2.2.1
  rw [nC, qdw, qdw, qdw, wC, ln_app]
  omega
theorem nP_ln : ∀ l, (ln I (nP l) : Int) ≤ 4 * wP l
 | [] => Int.le_refl _
 | x :: l => by
  have h1 := nP_ln l
  rw [nP, qdw, qdw, ln_app, qdw, ln_app, qdw, wP]
  omega
theorem nE_ln : ∀ l, ln I (nE l) = 2 * ln qah l
 | [] => rfl
 | x :: l => by
  have h1 := nE_ln l
  rw [nE, qdw, qdw, qdw]
  omega
theorem small_of {w : Den qad} (h : (lwF w == 1) = false) : ln I (nW w) ≤ 20000 := by
 have h : lwF w ≠ 1 := by simpa using h
 unfold lwF lwO at h
 by_cases hb : lwP w.2.2.1 (lwC w.2.1 (ln qah w.1 : Int)) > 3000
 ·rw [decide_eq_true hb] at h
  exact absurd rfl h
 ·have h1 := lwP_le w.2.2.1 (lwC w.2.1 (ln qah w.1 : Int)) (by omega)
  have h2 := wP_nn w.2.2.1
  have h3 := lwC_le w.2.1 (ln qah w.1 : Int) (by omega)
  have h4 := nP_ln w.2.2.1
  have h5 := nC_ln w.2.1
  have h6 := nE_ln w.1
  have h7 := wC_nn w.2.1
  rw [nW, qdw, ln_app, nC1, qdw, ln_app, nP1, qdw]
  omega
def eqBs (l m : List (Den (.int .u8))) : Bool := denB (.sl 1 (.int .u8)) l m
theorem slices_Equal_L_byte_byte_l (l m : List (Den (.int .u8))) (hl : ln (.int .u8) l = ln (.int .u8) m) (hr : ln (.int .u8) l < 9223372036854775807) : ∀ i, i ≤ ln (.int .u8) l → Runs E_Y4 (qcr l m (ln (.int .u8) l : Nat) i) (fun x h => x = vb (denBL (denB (.int .u8)) (l.drop i) (m.drop i)) ∧ h = []) :=
 qcg (.tree E_Y4_ok (qfb _ _ _ _) (by
  rw [qaz, show m.drop (ln (.int .u8) l) = [] from hl ▸ qaz]
  exact qam (fun h => absurd (of_decide_eq_true h) (Int.lt_irrefl _)) fun _ => ⟨rfl, rfl⟩))
  fun i hi ih => .tree E_Y4_ok (qfb _ _ _ _) (by
   have hi' : i < ln (.int .u8) m := hl ▸ hi
   rw [qax hi, qax hi']
   refine qam (fun _ => ⟨⟨Int.natCast_nonneg _, Int.ofNat_lt.2 hi⟩, fun _ => ⟨⟨Int.natCast_nonneg _, Int.ofNat_lt.2 hi'⟩, fun _ => ?_⟩⟩) fun h => absurd (Int.ofNat_lt.2 hi) (of_decide_eq_false h)
   rw [Int.toNat_natCast, wrapS hi hr]
   exact eq_step ih rfl rfl)
def qgs : Con := con [.d (.sl 1 (.int .u8)), .d (.sl 1 (.int .u8))] .bool (fun x => True) fun x => eqBs x.1 x.2.1
theorem m_slices_Equal_L_byte_byte (s1 : List (Den (.int .u8))) (s2 : List (Den (.int .u8))) (h_s1 : okD (.sl 1 (.int .u8)) s1) (h_s2 : okD (.sl 1 (.int .u8)) s2) (hp : True) : Runs E_Y4 (start E_Y4 qbl [(.tv (.sl 1 (.int .u8)) s1), (.tv (.sl 1 (.int .u8)) s2)]) (fun r_ h_ => r_ = (vb (eqBs s1 s2)) ∧ h_ = []) := .tree E_Y4_ok (slices_Equal_L_byte_byte_t s1 s2) (by
 refine qam (fun h => ⟨?_, rfl⟩) fun h => slices_Equal_L_byte_byte_l s1 s2 (eq_of h) (qbn h_s1.1) 0 (Nat.zero_le _)
 have h := ne_of h
 rw [show eqBs s1 s2 = false from qfu h])
theorem c_slices_Equal_L_byte_byte : qas E_Y4 qbl qgs.spec := qbo fun x hx hp => ⟨rfl, m_slices_Equal_L_byte_byte x.1 x.2.1 hx.1 hx.2.1 hp⟩
def L_Y4 : List (FuncId × FSpec) := [(qbl, qgs.spec)] ++ L_Y3
theorem L_Y4_ok : ∀ x ∈ L_Y4, qas (ctx []) x.1 x.2 := by
 unfold L_Y4
 simp only [List.cons_append, List.nil_append, List.forall_mem_cons]
 exact ⟨c_slices_Equal_L_byte_byte, L_Y3_ok⟩
def LI_Y4 : List IoT := [] ++ LI_Y3
theorem LI_Y4_ok : ∀ x ∈ LI_Y4, qbd (ctx []) x.1 x.2.1 x.2.2 := by
 unfold LI_Y4
 simp only [List.cons_append, List.nil_append, List.forall_mem_cons]
 exact LI_Y3_ok
end Burn.M24
namespace Burn.M24
open Go Go.BE Go.Proofs
set_option maxRecDepth 100000
set_option linter.unusedVariables false
set_option linter.unusedSimpArgs false
noncomputable abbrev E_Y5 : Ctx := ctx L_Y4 LI_Y4
theorem E_Y5_ok : EOK E_Y5 := qcy L_Y4_ok LI_Y4_ok
def cuts_Y5 : CutL := []
def rets_Y5 : FuncId → List (Option Fx)
 | _ => []
def H_Y5 : Hints := { cut := cutOf cuts_Y5, ret := rets_Y5 }
theorem law24_WitnessEncode_t (w : Den qad) : run E_Y5 H_Y5 qei 3000 (start E_Y5 qei [(.tv qad w)]) = (.chk (True) (.know (okD (.int .i64) (lwF w)) (cond ((lwF w) == (1 : Int)) (.chk (True) (.know True (rt (vb true) []))) (.chk (ln I (nW w) ≤ 20000) (.know (okAVs [(.tv (.sl 1 (.int .u8)) ((qfq w).1)), (vi (z ((qfq w).2)))]) (.chk (ln I (nW w) ≤ 20000) (.know (okAVs [(.tv (.sl 1 (.int .u8)) ((qfq w).1)), (vi (z ((qfq w).2)))]) (.chk (True) (.know True (cond (eqBs (qfq w).1 (qfq w).1) (cond ((z ((qfq w).2)) == (z ((qfq w).2))) (.chk (True) (.know True (rt (vb true) []))) (rt (vb false) [])) (rt (vb false) []))))))))))) := by kernel_rfl
def yesWN (_ : Den qad) : Bool := true
def k_law24_WitnessEncode : Con := con [.d qad] .bool (fun x => True) fun x => yesWN x.1
theorem m_law24_WitnessEncode (w : Den qad) (h_w : okD qad w) (hp : True) : Runs E_Y5 (start E_Y5 qei [(.tv qad w)]) (fun r_ h_ => r_ = (vb (yesWN w)) ∧ h_ = []) := .tree E_Y5_ok (law24_WitnessEncode_t w) (by
 show Tre.wp (contL _ (fun x h => x = vb true ∧ h = [])) _
 have e1 : eqBs (qfq w).1 (qfq w).1 = true := denB_refl (.sl 1 (.int .u8)) _
 rw [e1, beq_self_eq_true]
 exact ⟨trivial, fun _ _ => qam (fun _ => ⟨trivial, fun _ _ => ⟨rfl, rfl⟩⟩) fun h => ⟨small_of h, fun _ _ => ⟨small_of h, fun _ _ => ⟨trivial, fun _ _ => ⟨trivial, fun _ _ => ⟨rfl, rfl⟩⟩⟩⟩⟩⟩)
theorem c_law24_WitnessEncode : qas E_Y5 qei k_law24_WitnessEncode.spec := qbo fun x hx hp => ⟨rfl, m_law24_WitnessEncode x.1 hx.1 hp⟩
end Burn.M24

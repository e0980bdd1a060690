/- What the functions that the law reaches compute, one contract each. No conditions beyond those written. -/
import Derived.Test.YtoajppfhcnocmaaWalkA
namespace Burn.M20
open Go Go.BE Go.Proofs
set_option maxRecDepth 100000
set_option linter.unusedVariables false
set_option linter.unusedSimpArgs false
open Burn.Cfg
noncomputable abbrev E_C10 : Ctx := ctx L_C9
theorem E_C10_ok : EOK E_C10 := ctx_ok L_C9_ok
def cuts_C10 : FuncId → Nat → List Nat × List (Wh × Fx)
  | _, _ => ([], [])
def rets_C10 : FuncId → List (Option Fx)
  | _ => []
def H_C10 : Hints := ⟨cuts_C10, rets_C10⟩
theorem law20_works_t : run E_C10 H_C10 f_law20_works 3000 (start E_C10 f_law20_works []) = (.chk (True) (.know (okD s_api_Func (twiceF)) (.chk ((0 : Nat) < (1 : Nat)) (.chk ((0 : Nat) < (1 : Nat)) (.chk (True) (.know (okD s_api_Graph (graphF (twiceF))) (.chk ((0 : Nat) < (1 : Nat)) (.chk ((0 : Nat) < (1 : Nat)) (.chk (smallF (twiceF)) (.know (okD (.sl 24 (.sl 16 s_api_Pos)) (usesF (twiceF))) (.chk ((0 : Nat) < (1 : Nat)) (.chk (ln s_api_Block (twiceF).2.2.2.2.1 ≤ 1000) (.know (okAVs [(.tv s_api_Func ((splitF (twiceF) (0 : Int) (1 : Int)).1)), (vb (bOf ((splitF (twiceF) (0 : Int) (1 : Int)).2)))]) (.chk ((0 : Nat) < (1 : Nat)) (.chk ((0 : Nat) < (1 : Nat)) (cond (((ln (.sl 8 I) ((graphF (twiceF)).1)) : Int) == (2 : Int)) (.chk ((0 : Nat) < (1 : Nat)) (.chk (0 ≤ (0 : Int) ∧ (0 : Int) < (ln (.sl 8 I) ((graphF (twiceF)).1))) (.chk (True) (.know True (cond (eqI (gd (.sl 8 I) ((graphF (twiceF)).1) (0 : Nat)) ([(1 : Int), (1 : Int)] : List (Den I))) (.chk ((0 : Nat) < (1 : Nat)) (.chk (smallF (twiceF)) (.know (okD (.sl 8 I) (readsF (twiceF) ((0 : Int), (0 : Int), ()))) (.chk (True) (.know True (cond (eqI (readsF (twiceF) ((0 : Int), (0 : Int), ())) ([(0 : Int), (0 : Int)] : List (Den I))) (.chk ((0 : Nat) < (1 : Nat)) (.chk (smallF (twiceF)) (.know (okD (.sl 8 I) (writesF (twiceF) ((0 : Int), (-1 : Int), ()))) (.chk (True) (.know True (cond (eqI (writesF (twiceF) ((0 : Int), (-1 : Int), ())) ([(0 : Int), (1 : Int)] : List (Den I))) (cond (((ln (.sl 16 s_api_Pos) (usesF (twiceF))) : Int) == (3 : Int)) (.chk (0 ≤ (0 : Int) ∧ (0 : Int) < (ln (.sl 16 s_api_Pos) (usesF (twiceF)))) (.chk (True) (.know True (cond (eqP (gd (.sl 16 s_api_Pos) (usesF (twiceF)) (0 : Nat)) ([((0 : Int), (0 : Int), ())] : List (Den s_api_Pos))) (cond (bOf ((splitF (twiceF) (0 : Int) (1 : Int)).2)) (.chk ((0 : Nat) < (1 : Nat)) (cond (((ln s_api_Block (((((((splitF (twiceF) (0 : Int) (1 : Int)).1).2).2).2).2).1)) : Int) == (3 : Int)) (.chk ((0 : Nat) < (1 : Nat)) (.chk (0 ≤ (0 : Int) ∧ (0 : Int) < (ln s_api_Block (((((((splitF (twiceF) (0 : Int) (1 : Int)).1).2).2).2).2).1))) (.chk (0 ≤ (1 : Int) ∧ (1 : Int) < (ln s_api_Edge ((((((((gd s_api_Block (((((((splitF (twiceF) (0 : Int) (1 : Int)).1).2).2).2).2).1) (0 : Nat)).2).2).1).2).2).2).1))) (rt (vb ((z ((gd s_api_Edge ((((((((gd s_api_Block (((((((splitF (twiceF) (0 : Int) (1 : Int)).1).2).2).2).2).1) (0 : Nat)).2).2).1).2).2).2).1) (1 : Nat)).1)) == (2 : Int))) [])))) (rt (vb false) []))) (rt (vb false) [])) (rt (vb false) []))))) (rt (vb false) [])) (rt (vb false) []))))))) (rt (vb false) []))))))) (rt (vb false) [])))))) (rt (vb false) []))))))))))))))))) := by kernel_rfl
theorem small_twice : smallF twiceF := Nat.le_of_ble_eq_true (by kernel_rfl)
def worksR : Bool := true

def k_law20_works : Con := con [] .bool (fun x => True) fun x => worksR
theorem m_law20_works (hp : True) : Runs E_C10 (start E_C10 f_law20_works []) (fun r_ h_ => r_ = (vb (worksR)) ∧ h_ = []) := .tree E_C10_ok (law20_works_t) (by
  simp only [wp_iff, chk_iff, know_iff, any_iff, rt_iff, hd_iff, true_imp_iff, true_and, and_true, and_self, lt01]
  repeat' (first | intro _ | refine c_true (by kernel_rfl) ?_ | refine c_false (by kernel_rfl) ?_ | refine And.intro ?_ ?_)
  all_goals first | exact small_twice | decide | (exact congrArg (fun b => vb b) (by kernel_rfl)) | trivial)
theorem c_law20_works : SpecOK E_C10 f_law20_works k_law20_works.spec := spec_of fun x hx hp => ⟨rfl, m_law20_works hp⟩
def L_C10 : List (FuncId × FSpec) := [(f_law20_works, k_law20_works.spec)] ++ L_C9
theorem L_C10_ok : ∀ x ∈ L_C10, SpecOK (ctx []) x.1 x.2 := by
  unfold L_C10
  simp only [List.cons_append, List.nil_append, List.forall_mem_cons]
  exact ⟨c_law20_works, L_C9_ok⟩
end Burn.M20
namespace Burn.M20
open Go Go.BE Go.Proofs
set_option maxRecDepth 100000
set_option linter.unusedVariables false
set_option linter.unusedSimpArgs false
open Burn.Cfg
noncomputable abbrev E_C11 : Ctx := ctx L_C10
theorem E_C11_ok : EOK E_C11 := ctx_ok L_C10_ok
def cuts_C11 : FuncId → Nat → List Nat × List (Wh × Fx)
  | _, _ => ([], [])
def rets_C11 : FuncId → List (Option Fx)
  | _ => []
def H_C11 : Hints := ⟨cuts_C11, rets_C11⟩
theorem law20_CfgSplit_t (f : Den s_api_Func) (block : Int) (succ : Int) : run E_C11 H_C11 f_law20_CfgSplit 3000 (start E_C11 f_law20_CfgSplit [(.tv s_api_Func f), (vi block), (vi succ)]) = (.chk ((0 : Nat) < (1 : Nat)) (.chk (True) (.know True (cond (largeF f) (.chk (True) (.know True (rt (vb (worksR)) []))) (.chk ((0 : Nat) < (1 : Nat)) (.chk (True) (.know (okD s_api_Func (idF f)) (.chk ((0 : Nat) < (1 : Nat)) (.chk ((0 : Nat) < (1 : Nat)) (.chk (ln s_api_Block f.2.2.2.2.1 ≤ 1000) (.know (okAVs [(.tv s_api_Func ((splitF f block succ).1)), (vb (bOf ((splitF f block succ).2)))]) (.chk ((0 : Nat) < (1 : Nat)) (.chk ((0 : Nat) < (1 : Nat)) (.chk (ln s_api_Block f.2.2.2.2.1 ≤ 1000) (.know (okAVs [(.tv s_api_Func ((splitF f block succ).1)), (vb (bOf ((splitF f block succ).2)))]) (.chk ((0 : Nat) < (1 : Nat)) (cond ((bOf ((splitF f block succ).2)) == (bOf ((splitF f block succ).2))) (.chk ((0 : Nat) < (1 : Nat)) (.chk ((0 : Nat) < (1 : Nat)) (.chk (True) (.know True (cond (eqFn (splitF f block succ).1 (splitF f block succ).1) (.chk ((0 : Nat) < (1 : Nat)) (.chk ((0 : Nat) < (1 : Nat)) (.chk (True) (.know True (cond (eqFn f (idF f)) (.chk (True) (.know True (rt (vb (worksR)) []))) (rt (vb false) [])))))) (rt (vb false) [])))))) (rt (vb false) [])))))))))))))))))) := by kernel_rfl
theorem law20_CfgNewReg_t (f : Den s_api_Func) (t : Int) : run E_C11 H_C11 f_law20_CfgNewReg 3000 (start E_C11 f_law20_CfgNewReg [(.tv s_api_Func f), (vi t)]) = (.chk ((0 : Nat) < (1 : Nat)) (.chk (True) (.know True (cond (largeF f) (.chk (True) (.know True (rt (vb (worksR)) []))) (.chk ((0 : Nat) < (1 : Nat)) (.chk (ln I f.2.2.2.1 ≤ 1000) (.know (okAVs [(.tv s_api_Func ((newRegF f t).1)), (vi (z ((newRegF f t).2)))]) (.chk ((0 : Nat) < (1 : Nat)) (.chk ((0 : Nat) < (1 : Nat)) (cond ((z ((newRegF f t).2)) != ((ln I f.2.2.2.1) : Int)) (rt (vb false) []) (.chk ((0 : Nat) < (1 : Nat)) (.chk ((0 : Nat) < (1 : Nat)) (cond (((ln I ((((((newRegF f t).1).2).2).2).1)) : Int) != (IntKind.wrap .i64 (((ln I f.2.2.2.1) : Int) + (1 : Int)))) (rt (vb false) []) (.chk ((0 : Nat) < (1 : Nat)) (.chk (0 ≤ (z ((newRegF f t).2)) ∧ (z ((newRegF f t).2)) < (ln I ((((((newRegF f t).1).2).2).2).1))) (cond ((z (gd I ((((((newRegF f t).1).2).2).2).1) (((z ((newRegF f t).2))).toNat))) != t) (rt (vb false) []) (.chk ((0 : Nat) < (1 : Nat)) (.chk (0 ≤ (0 : Int) ∧ (0 : Int) ≤ (z ((newRegF f t).2)) ∧ (z ((newRegF f t).2)) ≤ ((ln I ((((((newRegF f t).1).2).2).2).1)) : Int)) (.chk ((0 : Nat) < (1 : Nat)) (.chk ((0 : Nat) < (1 : Nat)) (.chk ((0 : Nat) < (1 : Nat)) (.chk (True) (.know True (cond (eqFn f (((newRegF f t).1).1, (((newRegF f t).1).2).1, ((((newRegF f t).1).2).2).1, (wn I ((((((newRegF f t).1).2).2).2).1) (0 : Nat) (((z ((newRegF f t).2))).toNat - (0 : Nat))), (((((newRegF f t).1).2).2).2).2)) (.chk (True) (.know True (rt (vb (worksR)) []))) (rt (vb false) []))))))))))))))))))))))))) := by kernel_rfl
theorem law20_CfgReads_t (f : Den s_api_Func) (at_ : Den s_api_Pos) : run E_C11 H_C11 f_law20_CfgReads 3000 (start E_C11 f_law20_CfgReads [(.tv s_api_Func f), (.tv s_api_Pos at_)]) = (.chk ((0 : Nat) < (1 : Nat)) (.chk (True) (.know True (cond (largeF f) (.chk (True) (.know True (rt (vb (worksR)) []))) (.chk ((0 : Nat) < (1 : Nat)) (.chk ((0 : Nat) < (1 : Nat)) (.chk (smallF f) (.chk ((0 : Nat) < (1 : Nat)) (.chk ((0 : Nat) < (1 : Nat)) (.chk (smallF f) (.chk (True) (cond (eqI (readsF f at_) (readsF f at_)) (.chk ((0 : Nat) < (1 : Nat)) (.chk ((0 : Nat) < (1 : Nat)) (.chk (smallF f) (.chk ((0 : Nat) < (1 : Nat)) (.chk ((0 : Nat) < (1 : Nat)) (.chk (smallF f) (.chk (True) (cond (eqI (writesF f at_) (writesF f at_)) (.chk (True) (.know (okD (.sl 8 I) (readsF f at_)) (.know (okD (.sl 8 I) (readsF f at_)) (.know True (.know (okD (.sl 8 I) (writesF f at_)) (.know (okD (.sl 8 I) (writesF f at_)) (.know True (.know True (rt (vb (worksR)) []))))))))) (.know (okD (.sl 8 I) (readsF f at_)) (.know (okD (.sl 8 I) (readsF f at_)) (.know True (.know (okD (.sl 8 I) (writesF f at_)) (.know (okD (.sl 8 I) (writesF f at_)) (.know True (rt (vb false) []))))))))))))))) (.know (okD (.sl 8 I) (readsF f at_)) (.know (okD (.sl 8 I) (readsF f at_)) (.know True (rt (vb false) [])))))))))))))))) := by kernel_rfl
theorem eI_refl (x : Den I) : eI x x = true := by unfold eI; simp
theorem eqI_refl (l : List (Den I)) : eqI l l = true := eqL_refl eI_refl l
theorem eP_refl (x : Den s_api_Pos) : eP x x = true := by unfold eP; simp
theorem eqP_refl (l : List (Den s_api_Pos)) : eqP l l = true := eqL_refl eP_refl l
theorem eqIn_refl (x : Den s_api_Instr) : eqIn x x = true := by unfold eqIn; simp [eqI_refl]
theorem eqEd_refl (x : Den s_api_Edge) : eqEd x x = true := by unfold eqEd; simp [eqI_refl]
theorem eqBl_refl (x : Blk) : eqBl x x = true := by unfold eqBl; simp [eqI_refl, eqL_refl eqIn_refl, eqL_refl eqEd_refl]
theorem eqFn_refl (x : Fn) : eqFn x x = true := by unfold eqFn; simp [eqI_refl, eqL_refl eqBl_refl]
theorem not_large {f : Fn} (h : largeF f = false) : ln s_api_Block f.2.2.2.2.1 ≤ 100 ∧ ln I f.2.2.2.1 ≤ 500 := by
  unfold largeF at h
  simp only [Bool.or_eq_false_iff, decide_eq_false_iff_not] at h
  have h1 := h.1.1
  have h2 := h.1.2.1
  have e : ln s_api_Block (blocks f) = ln s_api_Block f.2.2.2.2.1 := rfl
  omega
def yesSplit (_ : Fn) (_ _ : Int) : Bool := true
def yesReg (_ : Fn) (_ : Int) : Bool := true

def k_law20_CfgSplit : Con := con [.d s_api_Func, .d I, .d I] .bool (fun x => True) fun x => yesSplit x.1 x.2.1 x.2.2.1
theorem m_law20_CfgSplit (f : Den s_api_Func) (block : Int) (succ : Int) (h_f : okD s_api_Func f) (h_block : okD I block) (h_succ : okD I succ) (hp : True) : Runs E_C11 (start E_C11 f_law20_CfgSplit [(.tv s_api_Func f), (vi block), (vi succ)]) (fun r_ h_ => r_ = (vb (yesSplit f block succ)) ∧ h_ = []) := .tree E_C11_ok (law20_CfgSplit_t f block succ) (by
  simp only [wp_iff, chk_iff, know_iff, any_iff, rt_iff, hd_iff, true_imp_iff, true_and, and_true, and_self, lt01,  worksR, yesSplit, idF, eqFn_refl]
  refine ⟨fun _ => trivial, fun hl => ?_⟩
  have hb := (not_large hl).1
  exact fun _ => ⟨by omega, fun _ _ => ⟨by omega, fun _ _ => ⟨fun _ h => absurd h (by decide), fun h => absurd h (by simp)⟩⟩⟩)
theorem c_law20_CfgSplit : SpecOK E_C11 f_law20_CfgSplit k_law20_CfgSplit.spec := spec_of fun x hx hp => ⟨rfl, m_law20_CfgSplit x.1 x.2.1 x.2.2.1 hx.1 hx.2.1 hx.2.2.1 hp⟩

def k_law20_CfgNewReg : Con := con [.d s_api_Func, .d I] .bool (fun x => True) fun x => yesReg x.1 x.2.1
theorem m_law20_CfgNewReg (f : Den s_api_Func) (t : Int) (h_f : okD s_api_Func f) (h_t : okD I t) (hp : True) : Runs E_C11 (start E_C11 f_law20_CfgNewReg [(.tv s_api_Func f), (vi t)]) (fun r_ h_ => r_ = (vb (yesReg f t)) ∧ h_ = []) := .tree E_C11_ok (law20_CfgNewReg_t f t) (by
  simp only [wp_iff, chk_iff, know_iff, any_iff, rt_iff, hd_iff, true_imp_iff, true_and, and_true, and_self, lt01,  worksR, yesReg]
  refine ⟨fun _ => trivial, fun hl => ?_⟩
  have hb := (not_large hl).2
  have hw : IntKind.wrap .i64 ((ln I f.2.2.2.1 : Int) + 1) = (ln I f.2.2.2.1 : Int) + 1 := wrap64 _ (by omega) (by omega)
  have h1 : ln I (ap I f.2.2.2.1 [t]) = ln I f.2.2.2.1 + 1 := by rw [ln_ap, ln_one]
  have f1 : (0 : Int) ≤ (ln I f.2.2.2.1 : Int) ∧ (ln I f.2.2.2.1 : Int) < ((ln I f.2.2.2.1 + 1 : Nat) : Int) := ⟨by omega, by omega⟩
  have f2 : (0 : Int) ≤ (ln I f.2.2.2.1 : Int) ∧ (ln I f.2.2.2.1 : Int) ≤ ((ln I f.2.2.2.1 + 1 : Nat) : Int) := ⟨by omega, by omega⟩
  simp only [newRegF, h1, hw, f1, f2, Int.toNat_natCast, gd_last, Nat.sub_zero, wn_ap, eqFn_refl, true_imp_iff, true_and, and_self, Int.le_refl, implies_true, bne_self_eq_false, Bool.false_eq_true, false_imp_iff, Bool.true_eq_false, and_true, Int.natCast_add, Int.natCast_one]
  have h3 : (z (gd I (ap I f.2.2.2.1 [t]) (ln I f.2.2.2.1)) != t) = false := by
    rw [gd_last]
    exact bne_self_eq_false t
  exact ⟨by omega, fun _ _ => ⟨f1.2, fun _ => ⟨fun h => absurd (h3.symm.trans h) (by decide), fun _ => f2.2⟩⟩⟩)
theorem c_law20_CfgNewReg : SpecOK E_C11 f_law20_CfgNewReg k_law20_CfgNewReg.spec := spec_of fun x hx hp => ⟨rfl, m_law20_CfgNewReg x.1 x.2.1 hx.1 hx.2.1 hp⟩
def yesRd (_ : Fn) (_ : Den s_api_Pos) : Bool := true

def k_law20_CfgReads : Con := con [.d s_api_Func, .d s_api_Pos] .bool (fun x => smallF x.1) fun x => yesRd x.1 x.2.1
theorem m_law20_CfgReads (f : Den s_api_Func) (at_ : Den s_api_Pos) (h_f : okD s_api_Func f) (h_at_ : okD s_api_Pos at_) (hp : smallF f) : Runs E_C11 (start E_C11 f_law20_CfgReads [(.tv s_api_Func f), (.tv s_api_Pos at_)]) (fun r_ h_ => r_ = (vb (yesRd f at_)) ∧ h_ = []) := .tree E_C11_ok (law20_CfgReads_t f at_) (by
  simp only [wp_iff, chk_iff, know_iff, any_iff, rt_iff, hd_iff, true_imp_iff, true_and, and_true, and_self, lt01,  worksR, yesRd, eqI_refl]
  simp only [hp, true_imp_iff, true_and, implies_true, and_self, Bool.true_eq_false, false_imp_iff])
theorem c_law20_CfgReads : SpecOK E_C11 f_law20_CfgReads k_law20_CfgReads.spec := spec_of fun x hx hp => ⟨rfl, m_law20_CfgReads x.1 x.2.1 hx.1 hx.2.1 hp⟩
def L_C11 : List (FuncId × FSpec) := [(f_law20_CfgSplit, k_law20_CfgSplit.spec), (f_law20_CfgNewReg, k_law20_CfgNewReg.spec), (f_law20_CfgReads, k_law20_CfgReads.spec)] ++ L_C10
theorem L_C11_ok : ∀ x ∈ L_C11, SpecOK (ctx []) x.1 x.2 := by
  unfold L_C11
  simp only [List.cons_append, List.nil_append, List.forall_mem_cons]
  exact ⟨c_law20_CfgSplit, c_law20_CfgNewReg, c_law20_CfgReads, L_C10_ok⟩
end Burn.M20

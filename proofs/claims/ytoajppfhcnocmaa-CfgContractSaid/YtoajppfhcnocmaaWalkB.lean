/- What the functions that the law reaches compute, one contract each. No conditions beyond those written. -/
import Derived.Test.YtoajppfhcnocmaaWalkA
namespace Burn.M20
open Go Go.BE Go.Proofs
set_option maxRecDepth 100000
set_option linter.unusedVariables false
set_option linter.unusedSimpArgs false
open Burn.Cfg
noncomputable abbrev E_C10 : Ctx := ctx L_C9
theorem E_C10_ok : EOK E_C10 := ctx_ok L_C9_ok
def cuts_C10 : FuncId → Nat → List Nat × List (Wh × Fx)
  | _, _ => ([], [])
def rets_C10 : FuncId → List (Option Fx)
  | _ => []
def H_C10 : Hints := ⟨cuts_C10, rets_C10⟩
theorem law20_works_t : run E_C10 H_C10 f_law20_works 3000 (start E_C10 f_law20_works []) = (.chk (True) (.know (okD s_api_Func (twiceF)) (.chk ((0 : Nat) < (1 : Nat)) (.chk ((0 : Nat) < (1 : Nat)) (.chk (True) (.know (okD s_api_Graph (graphF (twiceF))) (.chk ((0 : Nat) < (1 : Nat)) (.chk ((0 : Nat) < (1 : Nat)) (.chk (smallF (twiceF)) (.know (okD (.sl 24 (.sl 16 s_api_Pos)) (usesF (twiceF))) (.chk ((0 : Nat) < (1 : Nat)) (.chk (ln s_api_Block (twiceF).2.2.2.2.1 ≤ 1000) (.know (okAVs [(.tv s_api_Func ((splitF (twiceF) (0 : Int) (1 : Int)).1)), (vb (bOf ((splitF (twiceF) (0 : Int) (1 : Int)).2)))]) (.chk ((0 : Nat) < (1 : Nat)) (.chk ((0 : Nat) < (1 : Nat)) (cond (((ln (.sl 8 I) ((graphF (twiceF)).1)) : Int) == (2 : Int)) (.chk ((0 : Nat) < (1 : Nat)) (.chk (0 ≤ (0 : Int) ∧ (0 : Int) < (ln (.sl 8 I) ((graphF (twiceF)).1))) (.chk (True) (.know True (cond (eqI (gd (.sl 8 I) ((graphF (twiceF)).1) (0 : Nat)) ([(1 : Int), (1 : Int)] : List (Den I))) (.chk ((0 : Nat) < (1 : Nat)) (.chk (smallF (twiceF)) (.know (okD (.sl 8 I) (readsF (twiceF) ((0 : Int), (0 : Int), ()))) (.chk (True) (.know True (cond (eqI (readsF (twiceF) ((0 : Int), (0 : Int), ())) ([(0 : Int), (0 : Int)] : List (Den I))) (.chk ((0 : Nat) < (1 : Nat)) (.chk (smallF (twiceF)) (.know (okD (.sl 8 I) (writesF (twiceF) ((0 : Int), (-1 : Int), ()))) (.chk (True) (.know True (cond (eqI (writesF (twiceF) ((0 : Int), (-1 : Int), ())) ([(0 : Int), (1 : Int)] : List (Den I))) (cond (((ln (.sl 16 s_api_Pos) (usesF (twiceF))) : Int) == (3 : Int)) (.chk (0 ≤ (0 : Int) ∧ (0 : Int) < (ln (.sl 16 s_api_Pos) (usesF (twiceF)))) (.chk (True) (.know True (cond (eqP (gd (.sl 16 s_api_Pos) (usesF (twiceF)) (0 : Nat)) ([((0 : Int), (0 : Int), ())] : List (Den s_api_Pos))) (cond (bOf ((splitF (twiceF) (0 : Int) (1 : Int)).2)) (.chk ((0 : Nat) < (1 : Nat)) (cond (((ln s_api_Block (((((((splitF (twiceF) (0 : Int) (1 : Int)).1).2).2).2).2).1)) : Int) == (3 : Int)) (.chk ((0 : Nat) < (1 : Nat)) (.chk (0 ≤ (0 : Int) ∧ (0 : Int) < (ln s_api_Block (((((((splitF (twiceF) (0 : Int) (1 : Int)).1).2).2).2).2).1))) (.chk (0 ≤ (1 : Int) ∧ (1 : Int) < (ln s_api_Edge ((((((((gd s_api_Block (((((((splitF (twiceF) (0 : Int) (1 : Int)).1).2).2).2).2).1) (0 : Nat)).2).2).1).2).2).2).1))) (rt (vb ((z ((gd s_api_Edge ((((((((gd s_api_Block (((((((splitF (twiceF) (0 : Int) (1 : Int)).1).2).2).2).2).1) (0 : Nat)).2).2).1).2).2).2).1) (1 : Nat)).1)) == (2 : Int))) [])))) (rt (vb false) []))) (rt (vb false) [])) (rt (vb false) []))))) (rt (vb false) [])) (rt (vb false) []))))))) (rt (vb false) []))))))) (rt (vb false) [])))))) (rt (vb false) []))))))))))))))))) := by kernel_rfl
theorem small_twice : smallF twiceF := Nat.le_of_ble_eq_true (by kernel_rfl)
def worksR : Bool := true

def k_law20_works : Con := con [] .bool (fun x => True) fun x => worksR
theorem m_law20_works (hp : True) : Runs E_C10 (start E_C10 f_law20_works []) (fun r_ h_ => r_ = (vb (worksR)) ∧ h_ = []) := .tree E_C10_ok (law20_works_t) (by
  simp only [wp_iff, chk_iff, know_iff, any_iff, rt_iff, hd_iff, true_imp_iff, true_and, and_true, and_self, lt01]
  repeat' (first | intro _ | refine c_true (by kernel_rfl) ?_ | refine c_false (by kernel_rfl) ?_ | refine And.intro ?_ ?_)
  all_goals first | exact small_twice | decide | (exact congrArg (fun b => vb b) (by kernel_rfl)) | trivial)
theorem c_law20_works : SpecOK E_C10 f_law20_works k_law20_works.spec := spec_of fun x hx hp => ⟨rfl, m_law20_works hp⟩
def L_C10 : List (FuncId × FSpec) := [(f_law20_works, k_law20_works.spec)] ++ L_C9
theorem L_C10_ok : ∀ x ∈ L_C10, SpecOK (ctx []) x.1 x.2 := by
  unfold L_C10
  simp only [List.cons_append, List.nil_append, List.forall_mem_cons]
  exact ⟨c_law20_works, L_C9_ok⟩
end Burn.M20
namespace Burn.M20
open Go Go.BE Go.Proofs
set_option maxRecDepth 100000
set_option linter.unusedVariables false
set_option linter.unusedSimpArgs false
open Burn.Cfg
noncomputable abbrev E_C11 : Ctx := ctx L_C10
theorem E_C11_ok : EOK E_C11 := ctx_ok L_C10_ok
def cuts_C11 : FuncId → Nat → List Nat × List (Wh × Fx)
  | _, _ => ([], [])
def rets_C11 : FuncId → List (Option Fx)
  | _ => []
def H_C11 : Hints := ⟨cuts_C11, rets_C11⟩
theorem law20_CfgSplit_t (f : Den s_api_Func) (block : Int) (succ : Int) : run E_C11 H_C11 f_law20_CfgSplit 3000 (start E_C11 f_law20_CfgSplit [(.tv s_api_Func f), (vi block), (vi succ)]) = (.chk ((0 : Nat) < (1 : Nat)) (.chk (True) (.know True (cond (largeF f) (.chk (True) (.know True (rt (vb (worksR)) []))) (.chk ((0 : Nat) < (1 : Nat)) (.chk (True) (.know (okD s_api_Func (idF f)) (.chk ((0 : Nat) < (1 : Nat)) (.chk ((0 : Nat) < (1 : Nat)) (.chk (ln s_api_Block f.2.2.2.2.1 ≤ 1000) (.know (okAVs [(.tv s_api_Func ((splitF f block succ).1)), (vb (bOf ((splitF f block succ).2)))]) (.chk ((0 : Nat) < (1 : Nat)) (.chk ((0 : Nat) < (1 : Nat)) (.chk (ln s_api_Block f.2.2.2.2.1 ≤ 1000) (.know (okAVs [(.tv s_api_Func ((splitF f block succ).1)), (vb (bOf ((splitF f block succ).2)))]) (.chk ((0 : Nat) < (1 : Nat)) (cond ((bOf ((splitF f block succ).2)) == (bOf ((splitF f block succ).2))) (.chk ((0 : Nat) < (1 : Nat)) (.chk ((0 : Nat) < (1 : Nat)) (.chk (True) (.know True (cond (eqFn (splitF f block succ).1 (splitF f block succ).1) (.chk ((0 : Nat) < (1 : Nat)) (.chk ((0 : Nat) < (1 : Nat)) (.chk (True) (.know True (cond (eqFn f (idF f)) (.chk (True) (.know True (rt (vb (worksR)) []))) (rt (vb false) [])))))) (rt (vb false) [])))))) (rt (vb false) [])))))))))))))))))) := by kernel_rfl
theorem law20_CfgNewReg_t (f : Den s_api_Func) (t : Int) : run E_C11 H_C11 f_law20_CfgNewReg 3000 (start E_C11 f_law20_CfgNewReg [(.tv s_api_Func f), (vi t)]) = (.chk ((0 : Nat) < (1 : Nat)) (.chk (True) (.know True (cond (largeF f) (.chk (True) (.know True (rt (vb (worksR)) []))) (.chk ((0 : Nat) < (1 : Nat)) (.chk (ln I f.2.2.2.1 ≤ 1000) (.know (okAVs [(.tv s_api_Func ((newRegF f t).1)), (vi (z ((newRegF f t).2)))]) (.chk ((0 : Nat) < (1 : Nat)) (.chk ((0 : Nat) < (1 : Nat)) (cond ((z ((newRegF f t).2)) != ((ln I f.2.2.2.1) : Int)) (rt (vb false) []) (.chk ((0 : Nat) < (1 : Nat)) (.chk ((0 : Nat) < (1 : Nat)) (cond (((ln I ((((((newRegF f t).1).2).2).2).1)) : Int) != (IntKind.wrap .i64 (((ln I f.2.2.2.1) : Int) + (1 : Int)))) (rt (vb false) []) (.chk ((0 : Nat) < (1 : Nat)) (.chk (0 ≤ (z ((newRegF f t).2)) ∧ (z ((newRegF f t).2)) < (ln I ((((((newRegF f t).1).2).2).2).1))) (cond ((z (gd I ((((((newRegF f t).1).2).2).2).1) (((z ((newRegF f t).2))).toNat))) != t) (rt (vb false) []) (.chk ((0 : Nat) < (1 : Nat)) (.chk (0 ≤ (0 : Int) ∧ (0 : Int) ≤ (z ((newRegF f t).2)) ∧ (z ((newRegF f t).2)) ≤ ((ln I ((((((newRegF f t).1).2).2).2).1)) : Int)) (.chk ((0 : Nat) < (1 : Nat)) (.chk ((0 : Nat) < (1 : Nat)) (.chk ((0 : Nat) < (1 : Nat)) (.chk (True) (.know True (cond (eqFn f (((newRegF f t).1).1, (((newRegF f t).1).2).1, ((((newRegF f t).1).2).2).1, (wn I ((((((newRegF f t).1).2).2).2).1) (0 : Nat) (((z ((newRegF f t).2))).toNat - (0 : Nat))), (((((newRegF f t).1).2).2).2).2)) (.chk (True) (.know True (rt (vb (worksR)) []))) (rt (vb false) []))))))))))))))))))))))))) := by kernel_rfl
theorem law20_CfgReads_t (f : Den s_api_Func) (at_ : Den s_api_Pos) : run E_C11 H_C11 f_law20_CfgReads 3000 (start E_C11 f_law20_CfgReads [(.tv s_api_Func f), (.tv s_api_Pos at_)]) = (.chk ((0 : Nat) < (1 : Nat)) (.chk (True) (.know True (cond (largeF f) (.chk (True) (.know True (rt (vb (worksR)) []))) (.chk ((0 : Nat) < (1 : Nat)) (.chk ((0 : Nat) < (1 : Nat)) (.chk (smallF f) (.chk ((0 : Nat) < (1 : Nat)) (.chk ((0 : Nat) < (1 : Nat)) (.chk (smallF f) (.chk (True) (cond (eqI (readsF f at_) (readsF f at_)) (.chk ((0 : Nat) < (1 : Nat)) (.chk ((0 : Nat) < (1 : Nat)) (.chk (smallF f) (.chk ((0 : Nat) < (1 : Nat)) (.chk ((0 : Nat) < (1 : Nat)) (.chk (smallF f) (.chk (True) (cond (eqI (writesF f at_) (writesF f at_)) (.chk (True) (.know (okD (.sl 8 I) (readsF f at_)) (.know (okD (.sl 8 I) (readsF f at_)) (.know True (.know (okD (.sl 8 I) (writesF f at_)) (.know (okD (.sl 8 I) (writesF f at_)) (.know True (.know True (rt (vb (worksR)) []))))))))) (.know (okD (.sl 8 I) (readsF f at_)) (.know (okD (.sl 8 I) (readsF f at_)) (.know True (.know (okD (.sl 8 I) (writesF f at_)) (.know (okD (.sl 8 I) (writesF f at_)) (.know True (rt (vb false) []))))))))))))))) (.know (okD (.sl 8 I) (readsF f at_)) (.know (okD (.sl 8 I) (readsF f at_)) (.know True (rt (vb false) [])))))))))))))))) := by kernel_rfl
theorem eI_refl (x : Den I) : eI x x = true := by unfold eI; simp
theorem eqI_refl (l : List (Den I)) : eqI l l = true := eqL_refl eI_refl l
theorem eP_refl (x : Den s_api_Pos) : eP x x = true := by unfold eP; simp
theorem eqP_refl (l : List (Den s_api_Pos)) : eqP l l = true := eqL_refl eP_refl l
theorem eqIn_refl (x : Den s_api_Instr) : eqIn x x = true := by unfold eqIn; simp [eqI_refl]
theorem eqEd_refl (x : Den s_api_Edge) : eqEd x x = true := by unfold eqEd; simp [eqI_refl]
theorem eqBl_refl (x : Blk) : eqBl x x = true := by unfold eqBl; simp [eqI_refl, eqL_refl eqIn_refl, eqL_refl eqEd_refl]
theorem eqFn_refl (x : Fn) : eqFn x x = true := by unfold eqFn; simp [eqI_refl, eqL_refl eqBl_refl]
theorem not_large {f : Fn} (h : largeF f = false) : ln s_api_Block f.2.2.2.2.1 ≤ 100 ∧ ln I f.2.2.2.1 ≤ 500 := by
  unfold largeF at h
  simp only [Bool.or_eq_false_iff, decide_eq_false_iff_not] at h
  have h1 := h.1.1
  have h2 := h.1.2.1
  have e : ln s_api_Block (blocks f) = ln s_api_Block f.2.2.2.2.1 := rfl
  omega
def yesSplit (_ : Fn) (_ _ : Int) : Bool := true
def yesReg (_ : Fn) (_ : Int) : Bool := true

def k_law20_CfgSplit : Con := con [.d s_api_Func, .d I, .d I] .bool (fun x => True) fun x => yesSplit x.1 x.2.1 x.2.2.1
theorem m_law20_CfgSplit (f : Den s_api_Func) (block : Int) (succ : Int) (h_f : okD s_api_Func f) (h_block : okD I block) (h_succ : okD I succ) (hp : True) : Runs E_C11 (start E_C11 f_law20_CfgSplit [(.tv s_api_Func f), (vi block), (vi succ)]) (fun r_ h_ => r_ = (vb (yesSplit f block succ)) ∧ h_ = []) := .tree E_C11_ok (law20_CfgSplit_t f block succ) (by
  simp only [wp_iff, chk_iff, know_iff, any_iff, rt_iff, hd_iff, true_imp_iff, true_and, and_true, and_self, lt01,  worksR, yesSplit, idF, eqFn_refl]
  refine ⟨fun _ => trivial, fun hl => ?_⟩
  have hb := (not_large hl).1
  exact fun _ => ⟨by omega, fun _ _ => ⟨by omega, fun _ _ => ⟨fun _ h => absurd h (by decide), fun h => absurd h (by simp)⟩⟩⟩)
theorem c_law20_CfgSplit : SpecOK E_C11 f_law20_CfgSplit k_law20_CfgSplit.spec := spec_of fun x hx hp => ⟨rfl, m_law20_CfgSplit x.1 x.2.1 x.2.2.1 hx.1 hx.2.1 hx.2.2.1 hp⟩

def k_law20_CfgNewReg : Con := con [.d s_api_Func, .d I] .bool (fun x => True) fun x => yesReg x.1 x.2.1
theorem m_law20_CfgNewReg (f : Den s_api_Func) (t : Int) (h_f : okD s_api_Func f) (h_t : okD I t) (hp : True) : Runs E_C11 (start E_C11 f_law20_CfgNewReg [(.tv s_api_Func f), (vi t)]) (fun r_ h_ => r_ = (vb (yesReg f t)) ∧ h_ = []) := .tree E_C11_ok (law20_CfgNewReg_t f t) (by
  simp only [wp_iff, chk_iff, know_iff, any_iff, rt_iff, hd_iff, true_imp_iff, true_and, and_true, and_self, lt01,  worksR, yesReg]
  refine ⟨fun _ => trivial, fun hl => ?_⟩
  have hb := (not_large hl).2
  have hw : IntKind.wrap .i64 ((ln I f.2.2.2.1 : Int) + 1) = (ln I f.2.2.2.1 : Int) + 1 := wrap64 _ (by omega) (by omega)
  have h1 : ln I (ap I f.2.2.2.1 [t]) = ln I f.2.2.2.1 + 1 := by rw [ln_ap, ln_one]
  have f1 : (0 : Int) ≤ (ln I f.2.2.2.1 : Int) ∧ (ln I f.2.2.2.1 : Int) < ((ln I f.2.2.2.1 + 1 : Nat) : Int) := ⟨by omega, by omega⟩
  have f2 : (0 : Int) ≤ (ln I f.2.2.2.1 : Int) ∧ (ln I f.2.2.2.1 : Int) ≤ ((ln I f.2.2.2.1 + 1 : Nat) : Int) := ⟨by omega, by omega⟩
  simp only [newRegF, h1, hw, f1, f2, Int.toNat_natCast, gd_last, Nat.sub_zero, wn_ap, eqFn_refl, true_imp_iff, true_and, and_self, Int.le_refl, implies_true, bne_self_eq_false, Bool.false_eq_true, false_imp_iff, Bool.true_eq_false, and_true, Int.natCast_add, Int.natCast_one]
  have h3 : (z (gd I (ap I f.2.2.2.1 [t]) (ln I f.2.2.2.1)) != t) = false := by
    rw [gd_last]
    exact bne_self_eq_false t
  exact ⟨by omega, fun _ _ => ⟨f1.2, fun _ => ⟨fun h => absurd (h3.symm.trans h) (by decide), fun _ => f2.2⟩⟩⟩)
theorem c_law20_CfgNewReg : SpecOK E_C11 f_law20_CfgNewReg k_law20_CfgNewReg.spec := spec_of fun x hx hp => ⟨rfl, m_law20_CfgNewReg x.1 x.2.1 hx.1 hx.2.1 hp⟩
def yesRd (_ : Fn) (_ : Den s_api_Pos) : Bool := true

def k_law20_CfgReads : Con := con [.d s_api_Func, .d s_api_Pos] .bool (fun x => smallF x.1) fun x => yesRd x.1 x.2.1
theorem m_law20_CfgReads (f : Den s_api_Func) (at_ : Den s_api_Pos) (h_f : okD s_api_Func f) (h_at_ : okD s_api_Pos at_) (hp : smallF f) : Runs E_C11 (start E_C11 f_law20_CfgReads [(.tv s_api_Func f), (.tv s_api_Pos at_)]) (fun r_ h_ => r_ = (vb (yesRd f at_)) ∧ h_ = []) := .tree E_C11_ok (law20_CfgReads_t f at_) (by
  simp only [wp_iff, chk_iff, know_iff, any_iff, rt_iff, hd_iff, true_imp_iff, true_and, and_true, and_self, lt01,  worksR, yesRd, eqI_refl]
  simp only [hp, true_imp_iff, true_and, implies_true, and_self, Bool.true_eq_false, false_imp_iff])
theorem c_law20_CfgReads : SpecOK E_C11 f_law20_CfgReads k_law20_CfgReads.spec := spec_of fun x hx hp => ⟨rfl, m_law20_CfgReads x.1 x.2.1 hx.1 hx.2.1 hp⟩
def L_C11 : List (FuncId × FSpec) := [(f_law20_CfgSplit, k_law20_CfgSplit.spec), (f_law20_CfgNewReg, k_law20_CfgNewReg.spec), (f_law20_CfgReads, k_law20_CfgReads.spec)] ++ L_C10
theorem L_C11_ok : ∀ x ∈ L_C11, SpecOK (ctx []) x.1 x.2 := by
  unfold L_C11
  simp only [List.cons_append, List.nil_append, List.forall_mem_cons]
  exact ⟨c_law20_CfgSplit, c_law20_CfgNewReg, c_law20_CfgReads, L_C10_ok⟩
end Burn.M20
namespace Burn.M20
open Go Go.BE Go.Proofs
set_option maxRecDepth 100000
set_option linter.unusedVariables false
set_option linter.unusedSimpArgs false
open Burn.Cfg
noncomputable abbrev E_C12 : Ctx := ctx L_C11
theorem E_C12_ok : EOK E_C12 := ctx_ok L_C11_ok
def cuts_C12 : FuncId → Nat → List Nat × List (Wh × Fx)
  | 41, 0 => ([1, 2, 5, 19, 20, 21], [])
  | 41, 2 => ([1, 2, 5, 6, 7, 8, 19, 20, 21], [])
  | 41, 4 => ([1, 2, 5, 6, 7, 8, 9, 19, 20, 21, 43, 44, 45], [])
  | _, _ => ([], [])
def rets_C12 : FuncId → List (Option Fx)
  | 41 => [some (.dat (.sl 24 (.sl 16 s_api_Pos)))]
  | _ => []
def H_C12 : Hints := ⟨cuts_C12, rets_C12⟩
noncomputable def r20_collect_L0 (writes : Bool) (f : Den s_api_Func) (t19 : List (Den s_api_Block)) (t20 : Int) (t21 : Int) (out : List (Den (.sl 16 s_api_Pos))) : Cfg := hcfg E_C12 f_r20_collect 0 [(1, (vb writes)), (2, (.rtp s_api_Func f)), (5, (.osl 0 0 [] none)), (19, (.tv (.sl 136 s_api_Block) t19)), (20, (vi t20)), (21, (vi t21))] [(0, ⟨(.arr 1 24 (.sl 16 s_api_Pos) out), 0, [], false, none⟩)] 1
noncomputable def r20_collect_L2 (writes : Bool) (f : Den s_api_Func) (i : Int) (k : Int) (t19 : List (Den s_api_Block)) (t20 : Int) (t21 : Int) (out : List (Den (.sl 16 s_api_Pos))) (b_0 : List (Den I)) (b_1 : List (Den s_api_Instr)) (b_2 : Int) (b_3 : List (Den I)) (b_4 : List (Den I)) (b_5 : List (Den s_api_Edge)) (b_6 : Int) : Cfg := hcfg E_C12 f_r20_collect 2 [(1, (vb writes)), (2, (.rtp s_api_Func f)), (5, (.osl 0 0 [] none)), (6, (vi i)), (7, (.ref 1 0)), (8, (vi k)), (19, (.tv (.sl 136 s_api_Block) t19)), (20, (vi t20)), (21, (vi t21))] [(0, ⟨(.arr 1 24 (.sl 16 s_api_Pos) out), 0, [], false, none⟩), (1, ⟨(.cells [(.tv (.sl 8 I) b_0), (.tv (.sl 80 s_api_Instr) b_1), (vi b_2), (.tv (.sl 8 I) b_3), (.tv (.sl 8 I) b_4), (.tv (.sl 32 s_api_Edge) b_5), (vi b_6)]), 1, [], false, none⟩)] 2
noncomputable def r20_collect_L4 (writes : Bool) (f : Den s_api_Func) (i : Int) (k : Int) (t19 : List (Den s_api_Block)) (t20 : Int) (t21 : Int) (t43 : List (Den I)) (t44 : Int) (t45 : Int) (out : List (Den (.sl 16 s_api_Pos))) (b_0 : List (Den I)) (b_1 : List (Den s_api_Instr)) (b_2 : Int) (b_3 : List (Den I)) (b_4 : List (Den I)) (b_5 : List (Den s_api_Edge)) (b_6 : Int) (at_ : Den s_api_Pos) : Cfg := hcfg E_C12 f_r20_collect 4 [(1, (vb writes)), (2, (.rtp s_api_Func f)), (5, (.osl 0 0 [] none)), (6, (vi i)), (7, (.ref 1 0)), (8, (vi k)), (9, (.tref 2 2 [] (0 : Nat) [])), (19, (.tv (.sl 136 s_api_Block) t19)), (20, (vi t20)), (21, (vi t21)), (43, (.tv (.sl 8 I) t43)), (44, (vi t44)), (45, (vi t45))] [(0, ⟨(.arr 1 24 (.sl 16 s_api_Pos) out), 0, [], false, none⟩), (1, ⟨(.cells [(.tv (.sl 8 I) b_0), (.tv (.sl 80 s_api_Instr) b_1), (vi b_2), (.tv (.sl 8 I) b_3), (.tv (.sl 8 I) b_4), (.tv (.sl 32 s_api_Edge) b_5), (vi b_6)]), 1, [], false, none⟩), (2, ⟨(.arr 0 16 s_api_Pos ([at_] : List (Den s_api_Pos))), 2, [], false, none⟩)] 3
theorem r20_collect_t (f : Den s_api_Func) (writes : Bool) : run E_C12 H_C12 f_r20_collect 3000 (start E_C12 f_r20_collect [(.tv s_api_Func f), (vb writes)]) = (.chk (((ln I f.2.2.2.1) : Int) = ((ln I f.2.2.2.1) : Int)) (.chk (0 ≤ ((ln I f.2.2.2.1) : Int)) (.chk ((ln I f.2.2.2.1) * 24 ≤ roomB) (hd (r20_collect_L0 writes f f.2.2.2.2.1 ((ln s_api_Block f.2.2.2.2.1) : Int) (0 : Int) (List.replicate (ln I f.2.2.2.1) (dz (.sl 16 s_api_Pos)))))))) := by kernel_rfl
theorem r20_collect_L0_t (writes : Bool) (f : Den s_api_Func) (t19 : List (Den s_api_Block)) (t20 : Int) (t21 : Int) (out : List (Den (.sl 16 s_api_Pos))) : run E_C12 H_C12 f_r20_collect 3000 (r20_collect_L0 writes f t19 t20 t21 out) = (cond (decide (t21 < t20)) (.chk (0 ≤ t21 ∧ t21 < (ln s_api_Block t19)) (hd (r20_collect_L2 writes f t21 (-1 : Int) t19 t20 t21 out ((gd s_api_Block t19 ((t21).toNat)).1) (((gd s_api_Block t19 ((t21).toNat)).2).1) (z (((((gd s_api_Block t19 ((t21).toNat)).2).2).1).1)) ((((((gd s_api_Block t19 ((t21).toNat)).2).2).1).2).1) (((((((gd s_api_Block t19 ((t21).toNat)).2).2).1).2).2).1) ((((((((gd s_api_Block t19 ((t21).toNat)).2).2).1).2).2).2).1) (z (((((((((gd s_api_Block t19 ((t21).toNat)).2).2).1).2).2).2).2).1))))) (rt (.tv (.sl 24 (.sl 16 s_api_Pos)) out) [])) := by kernel_rfl
theorem r20_collect_L2_t (writes : Bool) (f : Den s_api_Func) (i : Int) (k : Int) (t19 : List (Den s_api_Block)) (t20 : Int) (t21 : Int) (out : List (Den (.sl 16 s_api_Pos))) (b_0 : List (Den I)) (b_1 : List (Den s_api_Instr)) (b_2 : Int) (b_3 : List (Den I)) (b_4 : List (Den I)) (b_5 : List (Den s_api_Edge)) (b_6 : Int) : run E_C12 H_C12 f_r20_collect 3000 (r20_collect_L2 writes f i k t19 t20 t21 out b_0 b_1 b_2 b_3 b_4 b_5 b_6) = (cond (decide (k ≤ ((ln s_api_Instr b_1) : Int))) (.chk ((0 : Nat) < (1 : Nat)) (.chk ((0 : Nat) < (1 : Nat)) (.chk (smallF f) (.know (okD (.sl 8 I) (readsF f (i, k, ()))) (cond writes (.chk ((0 : Nat) < (1 : Nat)) (.chk (smallF f) (.know (okD (.sl 8 I) (writesF f (i, k, ()))) (hd (r20_collect_L4 writes f i k t19 t20 t21 (writesF f (i, k, ())) ((ln I (writesF f (i, k, ()))) : Int) (0 : Int) out b_0 b_1 b_2 b_3 b_4 b_5 b_6 (i, k, ())))))) (hd (r20_collect_L4 writes f i k t19 t20 t21 (readsF f (i, k, ())) ((ln I (readsF f (i, k, ()))) : Int) (0 : Int) out b_0 b_1 b_2 b_3 b_4 b_5 b_6 (i, k, ())))))))) (hd (r20_collect_L0 writes f t19 t20 (IntKind.wrap .i64 (t21 + (1 : Int))) out))) := by kernel_rfl
theorem r20_collect_L4_t (writes : Bool) (f : Den s_api_Func) (i : Int) (k : Int) (t19 : List (Den s_api_Block)) (t20 : Int) (t21 : Int) (t43 : List (Den I)) (t44 : Int) (t45 : Int) (out : List (Den (.sl 16 s_api_Pos))) (b_0 : List (Den I)) (b_1 : List (Den s_api_Instr)) (b_2 : Int) (b_3 : List (Den I)) (b_4 : List (Den I)) (b_5 : List (Den s_api_Edge)) (b_6 : Int) (at_ : Den s_api_Pos) : run E_C12 H_C12 f_r20_collect 3000 (r20_collect_L4 writes f i k t19 t20 t21 t43 t44 t45 out b_0 b_1 b_2 b_3 b_4 b_5 b_6 at_) = (cond (decide (t45 < t44)) (.chk (0 ≤ t45 ∧ t45 < (ln I t43)) (cond (decide ((z (gd I t43 ((t45).toNat))) < (0 : Int))) (hd (r20_collect_L4 writes f i k t19 t20 t21 t43 t44 (IntKind.wrap .i64 (t45 + (1 : Int))) out b_0 b_1 b_2 b_3 b_4 b_5 b_6 at_)) (cond (decide ((z (gd I t43 ((t45).toNat))) ≥ ((ln I f.2.2.2.1) : Int))) (hd (r20_collect_L4 writes f i k t19 t20 t21 t43 t44 (IntKind.wrap .i64 (t45 + (1 : Int))) out b_0 b_1 b_2 b_3 b_4 b_5 b_6 at_)) (.chk (0 ≤ (z (gd I t43 ((t45).toNat))) ∧ (z (gd I t43 ((t45).toNat))) < (ln (.sl 16 s_api_Pos) out)) (.chk (((z (gd I t43 ((t45).toNat)))).toNat < (ln (.sl 16 s_api_Pos) out)) (.chk (((z (gd I t43 ((t45).toNat)))).toNat < (ln (.sl 16 s_api_Pos) out)) (cond (((ln s_api_Pos (gd (.sl 16 s_api_Pos) out (((z (gd I t43 ((t45).toNat)))).toNat))) : Int) == (0 : Int)) (.chk (0 ≤ (z (gd I t43 ((t45).toNat))) ∧ (z (gd I t43 ((t45).toNat))) < (ln (.sl 16 s_api_Pos) out)) (.chk (((z (gd I t43 ((t45).toNat)))).toNat < (ln (.sl 16 s_api_Pos) out)) (.chk ((0 : Nat) < (1 : Nat)) (.chk (((z (gd I t43 ((t45).toNat)))).toNat < (ln (.sl 16 s_api_Pos) out)) (.chk (((ln s_api_Pos (gd (.sl 16 s_api_Pos) out (((z (gd I t43 ((t45).toNat)))).toNat))) + (1 : Nat)) * 16 ≤ roomB) (.chk (0 ≤ (z (gd I t43 ((t45).toNat))) ∧ (z (gd I t43 ((t45).toNat))) < (ln (.sl 16 s_api_Pos) (st (.sl 16 s_api_Pos) out (((z (gd I t43 ((t45).toNat)))).toNat) (ap s_api_Pos (gd (.sl 16 s_api_Pos) out (((z (gd I t43 ((t45).toNat)))).toNat)) ([at_] : List (Den s_api_Pos)))))) (.chk (((z (gd I t43 ((t45).toNat)))).toNat = ((z (gd I t43 ((t45).toNat)))).toNat) (.chk (((z (gd I t43 ((t45).toNat)))).toNat = ((z (gd I t43 ((t45).toNat)))).toNat) (hd (r20_collect_L4 writes f i k t19 t20 t21 t43 t44 (IntKind.wrap .i64 (t45 + (1 : Int))) (st (.sl 16 s_api_Pos) out (((z (gd I t43 ((t45).toNat)))).toNat) (ap s_api_Pos (gd (.sl 16 s_api_Pos) out (((z (gd I t43 ((t45).toNat)))).toNat)) ([at_] : List (Den s_api_Pos)))) b_0 b_1 b_2 b_3 b_4 b_5 b_6 at_)))))))))) (.chk (0 ≤ (z (gd I t43 ((t45).toNat))) ∧ (z (gd I t43 ((t45).toNat))) < (ln (.sl 16 s_api_Pos) out)) (.chk (((z (gd I t43 ((t45).toNat)))).toNat < (ln (.sl 16 s_api_Pos) out)) (.chk (((z (gd I t43 ((t45).toNat)))).toNat < (ln (.sl 16 s_api_Pos) out)) (.chk (0 ≤ (IntKind.wrap .i64 (((ln s_api_Pos (gd (.sl 16 s_api_Pos) out (((z (gd I t43 ((t45).toNat)))).toNat))) : Int) - (1 : Int))) ∧ (IntKind.wrap .i64 (((ln s_api_Pos (gd (.sl 16 s_api_Pos) out (((z (gd I t43 ((t45).toNat)))).toNat))) : Int) - (1 : Int))) < (ln s_api_Pos (gd (.sl 16 s_api_Pos) out (((z (gd I t43 ((t45).toNat)))).toNat)))) (.chk (((z (gd I t43 ((t45).toNat)))).toNat < (ln (.sl 16 s_api_Pos) out)) (.chk (((IntKind.wrap .i64 (((ln s_api_Pos (gd (.sl 16 s_api_Pos) out (((z (gd I t43 ((t45).toNat)))).toNat))) : Int) - (1 : Int)))).toNat < (ln s_api_Pos (gd (.sl 16 s_api_Pos) out (((z (gd I t43 ((t45).toNat)))).toNat)))) (.chk ((0 : Nat) < (1 : Nat)) (cond (!(((z ((gd s_api_Pos (gd (.sl 16 s_api_Pos) out (((z (gd I t43 ((t45).toNat)))).toNat)) (((IntKind.wrap .i64 (((ln s_api_Pos (gd (.sl 16 s_api_Pos) out (((z (gd I t43 ((t45).toNat)))).toNat))) : Int) - (1 : Int)))).toNat)).1)) == (z at_.1)) && (((z (((gd s_api_Pos (gd (.sl 16 s_api_Pos) out (((z (gd I t43 ((t45).toNat)))).toNat)) (((IntKind.wrap .i64 (((ln s_api_Pos (gd (.sl 16 s_api_Pos) out (((z (gd I t43 ((t45).toNat)))).toNat))) : Int) - (1 : Int)))).toNat)).2).1)) == (z at_.2.1)) && true))) (.chk (0 ≤ (z (gd I t43 ((t45).toNat))) ∧ (z (gd I t43 ((t45).toNat))) < (ln (.sl 16 s_api_Pos) out)) (.chk (((z (gd I t43 ((t45).toNat)))).toNat < (ln (.sl 16 s_api_Pos) out)) (.chk ((0 : Nat) < (1 : Nat)) (.chk (((z (gd I t43 ((t45).toNat)))).toNat < (ln (.sl 16 s_api_Pos) out)) (.chk (((ln s_api_Pos (gd (.sl 16 s_api_Pos) out (((z (gd I t43 ((t45).toNat)))).toNat))) + (1 : Nat)) * 16 ≤ roomB) (.chk (0 ≤ (z (gd I t43 ((t45).toNat))) ∧ (z (gd I t43 ((t45).toNat))) < (ln (.sl 16 s_api_Pos) (st (.sl 16 s_api_Pos) out (((z (gd I t43 ((t45).toNat)))).toNat) (ap s_api_Pos (gd (.sl 16 s_api_Pos) out (((z (gd I t43 ((t45).toNat)))).toNat)) ([at_] : List (Den s_api_Pos)))))) (.chk (((z (gd I t43 ((t45).toNat)))).toNat = ((z (gd I t43 ((t45).toNat)))).toNat) (.chk (((z (gd I t43 ((t45).toNat)))).toNat = ((z (gd I t43 ((t45).toNat)))).toNat) (hd (r20_collect_L4 writes f i k t19 t20 t21 t43 t44 (IntKind.wrap .i64 (t45 + (1 : Int))) (st (.sl 16 s_api_Pos) out (((z (gd I t43 ((t45).toNat)))).toNat) (ap s_api_Pos (gd (.sl 16 s_api_Pos) out (((z (gd I t43 ((t45).toNat)))).toNat)) ([at_] : List (Den s_api_Pos)))) b_0 b_1 b_2 b_3 b_4 b_5 b_6 at_)))))))))) (hd (r20_collect_L4 writes f i k t19 t20 t21 t43 t44 (IntKind.wrap .i64 (t45 + (1 : Int))) out b_0 b_1 b_2 b_3 b_4 b_5 b_6 at_))))))))))))))))) (hd (r20_collect_L2 writes f i (IntKind.wrap .i64 (k + (1 : Int))) t19 t20 t21 out b_0 b_1 b_2 b_3 b_4 b_5 b_6))) := by kernel_rfl
def rwF (w : Bool) (f : Fn) (p : Den s_api_Pos) : Den (.sl 8 I) := cond w (writesF f p) (readsF f p)
theorem rwF_len {w : Bool} {f : Fn} (hp : smallF f) (p : Den s_api_Pos) : ln I (rwF w f p) ≤ 1048576 := by
  cases w
  · exact readsF_len hp p
  · exact writesF_len hp p
def rwC (f : Fn) (w : Bool) : Den (.sl 24 (.sl 16 s_api_Pos)) := collectF (rwF w) f
theorem stepL_ln {p : Den s_api_Pos} : ∀ {rs : List (Den I)} {out : List (Den (.sl 16 s_api_Pos))}, ln (.sl 16 s_api_Pos) (stepL p rs out) = ln (.sl 16 s_api_Pos) out
  | [], _ => rfl
  | r :: rs, out => (stepL_ln (rs := rs)).trans step1_ln
theorem colB_ln {R : Fn → Den s_api_Pos → Den (.sl 8 I)} {f : Fn} {b : Nat} : ∀ {n k : Nat} {out : List (Den (.sl 16 s_api_Pos))}, ln (.sl 16 s_api_Pos) (colB R f b n k out) = ln (.sl 16 s_api_Pos) out
  | 0, _, _ => rfl
  | n + 1, k, out => (colB_ln (n := n) (k := k + 1)).trans stepL_ln
theorem rcol_l4 {Q : AV → Heap → Prop} (w : Bool) (f : Fn) (i k0 n b : Int) (l : List (Den s_api_Block)) (b0 b3 b4 : List (Den I)) (b1 : List (Den s_api_Instr)) (b2 b6 : Int) (b5 : List (Den s_api_Edge)) (rs : List (Den I)) (hrs : ln I rs ≤ 1048576) (p : Den s_api_Pos) : ∀ k, k ≤ ln I rs → ∀ (out : List (Den (.sl 16 s_api_Pos))) (c : Nat), ln (.sl 16 s_api_Pos) out = ln I f.2.2.2.1 → bnd out c → c + (ln I rs - k) ≤ 4398046511104 → Runs E_C12 (r20_collect_L2 w f i (IntKind.wrap .i64 (k0 + 1)) l n b (stepL p (rs.drop k) out) b0 b1 b2 b3 b4 b5 b6) Q → Runs E_C12 (r20_collect_L4 w f i k0 l n b rs (ln I rs : Nat) k out b0 b1 b2 b3 b4 b5 b6 p) Q :=
  up_ind (fun out c _ _ _ hn => .tree E_C12_ok (r20_collect_L4_t _ _ _ _ _ _ _ _ _ _ _ _ _ _ _ _ _ _ _) (by
    rw [drop_ln] at hn
    simp only [wp_iff, chk_iff, know_iff, any_iff, rt_iff, hd_iff, true_imp_iff, true_and, and_true, and_self, lt01, Int.ofNat_lt, Int.ofNat_le, Int.natCast_nonneg, Int.toNat_natCast, decide_true, decide_false, Bool.true_eq_false, Bool.false_eq_true, false_imp_iff, Nat.lt_irrefl, imp_self, implies_true,  stepL] at hn ⊢
    exact hn))
    fun k hk ih out c ho hb hc hn => .tree E_C12_ok (r20_collect_L4_t _ _ _ _ _ _ _ _ _ _ _ _ _ _ _ _ _ _ _) (by
      rw [drop_gd hk, stepL] at hn
      have ih := ih (step1 p out (z (gd I rs k))) (c + 1) (step1_ln.trans ho) (step1_bnd hb) (by omega) hn
      clear hn
      simp only [wp_iff, chk_iff, know_iff, any_iff, rt_iff, hd_iff, true_imp_iff, true_and, and_true, and_self, lt01, Int.ofNat_lt, Int.ofNat_le, Int.natCast_nonneg, Int.toNat_natCast, decide_true, decide_false, Bool.true_eq_false, Bool.false_eq_true, false_imp_iff, Nat.lt_irrefl, imp_self, implies_true,  hk, wrapS hk (show ln I rs < 9223372036854775807 by omega)]
      rw [← ho]
      unfold step1 at ih
      refine ⟨fun h1 => ?_, fun h1 => ⟨fun h2 => ?_, fun h2 => ?_⟩⟩
      · rw [if_pos (.inl (of_decide_eq_true h1))] at ih
        exact ih
      · rw [if_pos (.inr (of_decide_eq_true h2))] at ih
        exact ih
      · have a1 := of_decide_eq_false h1
        have a2 := of_decide_eq_false h2
        rw [if_neg (by omega)] at ih
        have f1 : 0 ≤ z (gd I rs k) ∧ z (gd I rs k) < (ln (.sl 16 s_api_Pos) out : Int) := ⟨by omega, by omega⟩
        have f2 : (z (gd I rs k)).toNat < ln (.sl 16 s_api_Pos) out := by omega
        have hG := hb (z (gd I rs k)).toNat
        have f3 : (ln s_api_Pos (gd (.sl 16 s_api_Pos) out (z (gd I rs k)).toNat) + 1) * 16 ≤ roomB := roomM (by omega)
        simp only [f1, f2, f3, ln_st, true_imp_iff, true_and, and_self, lt01]
        refine ⟨fun h3 => ?_, fun h3 => ?_⟩
        · have a3 : ln s_api_Pos (gd (.sl 16 s_api_Pos) out (z (gd I rs k)).toNat) = 0 := by simpa using h3
          rw [if_neg (by unfold lastIs; rw [a3]; simp)] at ih
          exact ih
        · have a3 : 0 < ln s_api_Pos (gd (.sl 16 s_api_Pos) out (z (gd I rs k)).toNat) := by
            have : (ln s_api_Pos (gd (.sl 16 s_api_Pos) out (z (gd I rs k)).toNat) : Int) ≠ 0 := by simpa using h3
            omega
          have hw : IntKind.wrap .i64 ((ln s_api_Pos (gd (.sl 16 s_api_Pos) out (z (gd I rs k)).toNat) : Int) - 1) = ((ln s_api_Pos (gd (.sl 16 s_api_Pos) out (z (gd I rs k)).toNat) - 1 : Nat) : Int) := by
            rw [wrap64 _ (by omega) (by omega)]
            omega
          have f4 : (0 : Int) ≤ ((ln s_api_Pos (gd (.sl 16 s_api_Pos) out (z (gd I rs k)).toNat) - 1 : Nat) : Int) ∧ ((ln s_api_Pos (gd (.sl 16 s_api_Pos) out (z (gd I rs k)).toNat) - 1 : Nat) : Int) < (ln s_api_Pos (gd (.sl 16 s_api_Pos) out (z (gd I rs k)).toNat) : Int) := ⟨by omega, by omega⟩
          have f5 : ln s_api_Pos (gd (.sl 16 s_api_Pos) out (z (gd I rs k)).toNat) - 1 < ln s_api_Pos (gd (.sl 16 s_api_Pos) out (z (gd I rs k)).toNat) := by omega
          simp only [hw, f4, f5, Int.toNat_natCast, true_imp_iff, true_and, and_self, lt01]
          have hl : lastIs (gd (.sl 16 s_api_Pos) out (z (gd I rs k)).toNat) p = eP (gd s_api_Pos (gd (.sl 16 s_api_Pos) out (z (gd I rs k)).toNat) (ln s_api_Pos (gd (.sl 16 s_api_Pos) out (z (gd I rs k)).toNat) - 1)) p := by
            unfold lastIs
            rw [show decide ((ln s_api_Pos (gd (.sl 16 s_api_Pos) out (z (gd I rs k)).toNat) : Int) > 0) = true by simp; omega, Bool.true_and]
          rw [hl] at ih
          refine ⟨fun h4 => ?_, fun h4 => ?_⟩
          · have h4' : eP (gd s_api_Pos (gd (.sl 16 s_api_Pos) out (z (gd I rs k)).toNat) (ln s_api_Pos (gd (.sl 16 s_api_Pos) out (z (gd I rs k)).toNat) - 1)) p = false := by
              have h5 : (!(eP (gd s_api_Pos (gd (.sl 16 s_api_Pos) out (z (gd I rs k)).toNat) (ln s_api_Pos (gd (.sl 16 s_api_Pos) out (z (gd I rs k)).toNat) - 1)) p)) = true := h4
              simpa using h5
            rw [if_neg (by rw [h4']; decide)] at ih
            exact ih
          · have h4' : eP (gd s_api_Pos (gd (.sl 16 s_api_Pos) out (z (gd I rs k)).toNat) (ln s_api_Pos (gd (.sl 16 s_api_Pos) out (z (gd I rs k)).toNat) - 1)) p = true := by
              have h5 : (!(eP (gd s_api_Pos (gd (.sl 16 s_api_Pos) out (z (gd I rs k)).toNat) (ln s_api_Pos (gd (.sl 16 s_api_Pos) out (z (gd I rs k)).toNat) - 1)) p)) = false := h4
              simpa using h5
            rw [if_pos h4'] at ih
            exact ih)
theorem rcol_l2 {Q : AV → Heap → Prop} (w : Bool) (f : Fn) (hp : smallF f) (b : Nat) (l : List (Den s_api_Block)) (b0 b3 b4 : List (Den I)) (b1 : List (Den s_api_Instr)) (b2 b6 : Int) (b5 : List (Den s_api_Edge)) (N : Nat) (hN : N = ln s_api_Instr b1 + 2) (hN2 : N ≤ 2097154) (n : Int) : ∀ k, k ≤ N → ∀ (out : List (Den (.sl 16 s_api_Pos))) (c : Nat), ln (.sl 16 s_api_Pos) out = ln I f.2.2.2.1 → bnd out c → c + (N - k) * 1048576 ≤ 4398046511104 → Runs E_C12 (r20_collect_L0 w f l n (IntKind.wrap .i64 ((b : Int) + 1)) (colB (rwF w) f b (N - k) k out)) Q → Runs E_C12 (r20_collect_L2 w f b ((k : Int) - 1) l n b out b0 b1 b2 b3 b4 b5 b6) Q :=
  up_ind (fun out c _ _ _ hn => .tree E_C12_ok (r20_collect_L2_t _ _ _ _ _ _ _ _ _ _ _ _ _ _ _) (by
    have h1 : ¬ ((N : Int) - 1 ≤ (ln s_api_Instr b1 : Int)) := by omega
    rw [Nat.sub_self] at hn
    simp only [wp_iff, chk_iff, know_iff, any_iff, rt_iff, hd_iff, true_imp_iff, true_and, and_true, and_self, lt01, Int.ofNat_lt, Int.ofNat_le, Int.natCast_nonneg, Int.toNat_natCast, decide_true, decide_false, Bool.true_eq_false, Bool.false_eq_true, false_imp_iff, Nat.lt_irrefl, imp_self, implies_true,  h1]
    exact hn))
    fun k hk ih out c ho hb hc hn => .tree E_C12_ok (r20_collect_L2_t _ _ _ _ _ _ _ _ _ _ _ _ _ _ _) (by
      have hRl := rwF_len (w := w) hp (posA b k)
      have h1 : (k : Int) - 1 ≤ (ln s_api_Instr b1 : Int) := by omega
      have hk2 : N - k = (N - (k + 1)) + 1 := by omega
      rw [hk2, colB] at hn
      rw [hk2, Nat.succ_mul] at hc
      have ih := ih (stepL (posA b k) (rwF w f (posA b k)) out) (c + ln I (rwF w f (posA b k))) (stepL_ln.trans ho) (stepL_bnd hb) (by omega) hn
      have hw : IntKind.wrap .i64 ((k : Int) - 1 + 1) = ((k + 1 : Nat) : Int) - 1 := by
        rw [wrap64 _ (by omega) (by omega)]
        omega
      have l4 := rcol_l4 (Q := Q) w f b ((k : Int) - 1) n b l b0 b3 b4 b1 b2 b6 b5 (rwF w f (posA b k)) hRl (posA b k) 0 (Nat.zero_le _) out c ho hb (by omega) (by rw [hw]; exact ih)
      simp only [wp_iff, chk_iff, know_iff, any_iff, rt_iff, hd_iff, true_imp_iff, true_and, and_true, and_self, lt01, Int.ofNat_lt, Int.ofNat_le, Int.natCast_nonneg, Int.toNat_natCast, decide_true, decide_false, Bool.true_eq_false, Bool.false_eq_true, false_imp_iff, Nat.lt_irrefl, imp_self, implies_true,  h1]
      cases w
      · exact ⟨hp, fun _ _ => ⟨fun h => absurd h (by decide), fun _ => l4⟩⟩
      · exact ⟨hp, fun _ _ => ⟨fun _ => ⟨hp, fun _ _ => l4⟩, fun h => absurd h (by decide)⟩⟩)
theorem rcol_l0 (w : Bool) (f : Fn) (hp : smallF f) (l : List (Den s_api_Block)) (hl : blocks f = l) (hr : room 136 (ln s_api_Block l)) (Y : Den (.sl 24 (.sl 16 s_api_Pos))) : ∀ b, b ≤ ln s_api_Block l → ∀ (out : List (Den (.sl 16 s_api_Pos))) (c : Nat), ln (.sl 16 s_api_Pos) out = ln I f.2.2.2.1 → bnd out c → c + 2 * szD (.sl 136 s_api_Block) (l.drop b) * 1048576 ≤ 4398046511104 → colF (rwF w) f (ln s_api_Block l - b) b out = Y → Runs E_C12 (r20_collect_L0 w f l (ln s_api_Block l : Nat) b out) (fun x h => x = .tv (.sl 24 (.sl 16 s_api_Pos)) Y ∧ h = []) :=
  up_ind (fun out c _ _ _ hY => .tree E_C12_ok (r20_collect_L0_t _ _ _ _ _ _) (by
    rw [Nat.sub_self, colF] at hY
    simp only [wp_iff, chk_iff, know_iff, any_iff, rt_iff, hd_iff, true_imp_iff, true_and, and_true, and_self, lt01, Int.ofNat_lt, Int.ofNat_le, Int.natCast_nonneg, Int.toNat_natCast, decide_true, decide_false, Bool.true_eq_false, Bool.false_eq_true, false_imp_iff, Nat.lt_irrefl, imp_self, implies_true,  hY]))
    fun b hb ih out c ho hc hM hY => .tree E_C12_ok (r20_collect_L0_t _ _ _ _ _ _) (by
      have e : ln s_api_Block l - b = (ln s_api_Block l - (b + 1)) + 1 := by omega
      rw [e, colF, hl] at hY
      rw [drop_gd hb, sz_cons] at hM
      have hsz := sz_blk (gd s_api_Block l b)
      have h80 : ln s_api_Instr (gd s_api_Block l b).2.1 ≤ szD (.sl 80 s_api_Instr) (gd s_api_Block l b).2.1 := sz_ln
      have hbl : b < ln s_api_Block (blocks f) := by rw [hl]; exact hb
      have hsm := small_b hp (n := (b : Int)) (by omega)
      have hblk : blk f (b : Int) = gd s_api_Block l b := by unfold blk; rw [hl]; rfl
      rw [hblk] at hsm
      generalize hN : ln s_api_Instr (bIns (gd s_api_Block l b)) + 2 = N at hY
      have hN' : ln s_api_Instr (gd s_api_Block l b).2.1 + 2 = N := hN
      have hcB := colB_bnd (R := rwF w) (rwF_len hp) (b := b) (n := N) (k := 0) hc
      have hN2 : N ≤ 2097154 := by omega
      have hN0 : N ≤ 2 * (szD s_api_Block (gd s_api_Block l b) + 1) := by omega
      have hA := arithN hN0 hM
      have hN3 : c + (N - 0) * 1048576 ≤ 4398046511104 := Nat.le_trans (Nat.le_add_right _ _) hA
      have hrun := ih _ _ (colB_ln.trans ho) hcB hA hY
      rw [← wrapS hb (room_lt hr)] at hrun
      have := fun x0 x1 x2 x3 x4 x5 x6 (hx : N = ln s_api_Instr x1 + 2) => rcol_l2 (Q := fun x h => x = .tv (.sl 24 (.sl 16 s_api_Pos)) Y ∧ h = []) w f hp b l x0 x3 x4 x1 x2 x6 x5 N hx hN2 (ln s_api_Block l : Nat) 0 (Nat.zero_le _) out c ho hc hN3 hrun
      simp only [wp_iff, chk_iff, know_iff, any_iff, rt_iff, hd_iff, true_imp_iff, true_and, and_true, and_self, lt01, Int.ofNat_lt, Int.ofNat_le, Int.natCast_nonneg, Int.toNat_natCast, decide_true, decide_false, Bool.true_eq_false, Bool.false_eq_true, false_imp_iff, Nat.lt_irrefl, imp_self, implies_true,  hb]
      exact this _ _ _ _ _ _ _ hN'.symm)
def k_r20_collect : Con := con [.d s_api_Func, .d .bool] (.sl 24 (.sl 16 s_api_Pos)) (fun x => smallF x.1) fun x => rwC x.1 x.2.1
theorem m_r20_collect (f : Den s_api_Func) (writes : Bool) (h_f : okD s_api_Func f) (h_writes : okD .bool writes) (hp : smallF f) : Runs E_C12 (start E_C12 f_r20_collect [(.tv s_api_Func f), (vb writes)]) (fun r_ h_ => r_ = (.tv (.sl 24 (.sl 16 s_api_Pos)) (rwC f writes)) ∧ h_ = []) := .tree E_C12_ok (r20_collect_t f writes) (by
  simp only [wp_iff, chk_iff, know_iff, any_iff, rt_iff, hd_iff, true_imp_iff, true_and, and_true, and_self, lt01]
  have ho := okB_of h_f
  have h2 := sz_func f
  have h3 := hp
  unfold smallF at h3
  refine ⟨by omega, fun _ => ⟨?_, fun _ => ?_⟩⟩
  · have : ln I f.2.2.2.1 ≤ 1048576 := by
      have := sz_I f.2.2.2.1
      omega
    unfold roomB
    omega
  · exact rcol_l0 writes f hp (blocks f) rfl ho.1 (rwC f writes) 0 (Nat.zero_le _) _ 0 (List.length_replicate ..) (fun r => by rw [gd_rep]; exact Nat.le_refl _) (by
      show 0 + 2 * szD (.sl 136 s_api_Block) f.2.2.2.2.1 * 1048576 ≤ _
      omega) rfl)
theorem c_r20_collect : SpecOK E_C12 f_r20_collect k_r20_collect.spec := spec_of fun x hx hp => ⟨rfl, m_r20_collect x.1 x.2.1 hx.1 hx.2.1 hp⟩
def L_C12 : List (FuncId × FSpec) := [(f_r20_collect, k_r20_collect.spec)] ++ L_C11
theorem L_C12_ok : ∀ x ∈ L_C12, SpecOK (ctx []) x.1 x.2 := by
  unfold L_C12
  simp only [List.cons_append, List.nil_append, List.forall_mem_cons]
  exact ⟨c_r20_collect, L_C11_ok⟩
end Burn.M20
namespace Burn.M20
open Go Go.BE Go.Proofs
set_option maxRecDepth 100000
set_option linter.unusedVariables false
set_option linter.unusedSimpArgs false
open Burn.Cfg
noncomputable abbrev E_C13 : Ctx := ctx L_C12
theorem E_C13_ok : EOK E_C13 := ctx_ok L_C12_ok
def cuts_C13 : FuncId → Nat → List Nat × List (Wh × Fx)
  | 21, 0 => ([0, 1, 12, 13], [])
  | 23, 0 => ([0, 1, 12, 13], [])
  | _, _ => ([], [])
def rets_C13 : FuncId → List (Option Fx)
  | 25 => [some (.dat (.sl 24 (.sl 16 s_api_Pos)))]
  | 27 => [some (.dat (.sl 24 (.sl 16 s_api_Pos)))]
  | _ => []
def H_C13 : Hints := ⟨cuts_C13, rets_C13⟩
noncomputable def law20_lists_int_L0 (a : List (Den (.sl 8 I))) (b : List (Den (.sl 8 I))) (t12 : Int) (t13 : Int) : Cfg := hcfg E_C13 f_law20_lists_int 0 [(0, (.tv (.sl 24 (.sl 8 I)) a)), (1, (.tv (.sl 24 (.sl 8 I)) b)), (12, (vi t12)), (13, (vi t13))] [] 0
theorem law20_lists_int_t (a : List (Den (.sl 8 I))) (b : List (Den (.sl 8 I))) : run E_C13 H_C13 f_law20_lists_int 3000 (start E_C13 f_law20_lists_int [(.tv (.sl 24 (.sl 8 I)) a), (.tv (.sl 24 (.sl 8 I)) b)]) = (cond (((ln (.sl 8 I) a) : Int) != ((ln (.sl 8 I) b) : Int)) (rt (vb false) []) (hd (law20_lists_int_L0 a b ((ln (.sl 8 I) a) : Int) (0 : Int)))) := by kernel_rfl
theorem law20_lists_int_L0_t (a : List (Den (.sl 8 I))) (b : List (Den (.sl 8 I))) (t12 : Int) (t13 : Int) : run E_C13 H_C13 f_law20_lists_int 3000 (law20_lists_int_L0 a b t12 t13) = (cond (decide (t13 < t12)) (.chk (0 ≤ t13 ∧ t13 < (ln (.sl 8 I) a)) (.chk (0 ≤ t13 ∧ t13 < (ln (.sl 8 I) b)) (.chk (True) (.know True (cond (!(eqI (gd (.sl 8 I) a ((t13).toNat)) (gd (.sl 8 I) b ((t13).toNat)))) (rt (vb false) []) (hd (law20_lists_int_L0 a b t12 (IntKind.wrap .i64 (t13 + (1 : Int)))))))))) (rt (vb true) [])) := by kernel_rfl
noncomputable def law20_lists_api_Pos_L0 (a : List (Den (.sl 16 s_api_Pos))) (b : List (Den (.sl 16 s_api_Pos))) (t12 : Int) (t13 : Int) : Cfg := hcfg E_C13 f_law20_lists_api_Pos 0 [(0, (.tv (.sl 24 (.sl 16 s_api_Pos)) a)), (1, (.tv (.sl 24 (.sl 16 s_api_Pos)) b)), (12, (vi t12)), (13, (vi t13))] [] 0
theorem law20_lists_api_Pos_t (a : List (Den (.sl 16 s_api_Pos))) (b : List (Den (.sl 16 s_api_Pos))) : run E_C13 H_C13 f_law20_lists_api_Pos 3000 (start E_C13 f_law20_lists_api_Pos [(.tv (.sl 24 (.sl 16 s_api_Pos)) a), (.tv (.sl 24 (.sl 16 s_api_Pos)) b)]) = (cond (((ln (.sl 16 s_api_Pos) a) : Int) != ((ln (.sl 16 s_api_Pos) b) : Int)) (rt (vb false) []) (hd (law20_lists_api_Pos_L0 a b ((ln (.sl 16 s_api_Pos) a) : Int) (0 : Int)))) := by kernel_rfl
theorem law20_lists_api_Pos_L0_t (a : List (Den (.sl 16 s_api_Pos))) (b : List (Den (.sl 16 s_api_Pos))) (t12 : Int) (t13 : Int) : run E_C13 H_C13 f_law20_lists_api_Pos 3000 (law20_lists_api_Pos_L0 a b t12 t13) = (cond (decide (t13 < t12)) (.chk (0 ≤ t13 ∧ t13 < (ln (.sl 16 s_api_Pos) a)) (.chk (0 ≤ t13 ∧ t13 < (ln (.sl 16 s_api_Pos) b)) (.chk (True) (.know True (cond (!(eqP (gd (.sl 16 s_api_Pos) a ((t13).toNat)) (gd (.sl 16 s_api_Pos) b ((t13).toNat)))) (rt (vb false) []) (hd (law20_lists_api_Pos_L0 a b t12 (IntKind.wrap .i64 (t13 + (1 : Int)))))))))) (rt (vb true) [])) := by kernel_rfl
theorem r20_Uses_t (f : Den s_api_Func) : run E_C13 H_C13 f_r20_Uses 3000 (start E_C13 f_r20_Uses [(.tv s_api_Func f)]) = (.chk (smallF f) (.know (okD (.sl 24 (.sl 16 s_api_Pos)) (rwC f false)) (rt (.tv (.sl 24 (.sl 16 s_api_Pos)) (rwC f false)) []))) := by kernel_rfl
theorem r20_Defs_t (f : Den s_api_Func) : run E_C13 H_C13 f_r20_Defs 3000 (start E_C13 f_r20_Defs [(.tv s_api_Func f)]) = (.chk (smallF f) (.know (okD (.sl 24 (.sl 16 s_api_Pos)) (rwC f true)) (rt (.tv (.sl 24 (.sl 16 s_api_Pos)) (rwC f true)) []))) := by kernel_rfl
def eqLI (a b : List (Den (.sl 8 I))) : Bool := eqL eqI a b
def eqLP (a b : List (Den (.sl 16 s_api_Pos))) : Bool := eqL eqP a b
def rUses (f : Fn) : Den (.sl 24 (.sl 16 s_api_Pos)) := rwC f false
def rDefs (f : Fn) : Den (.sl 24 (.sl 16 s_api_Pos)) := rwC f true
theorem law20_lists_int_l (a b : List (Den (.sl 8 I))) (h_a : ln (.sl 8 I) a < 9223372036854775807) (hl : ln (.sl 8 I) a = ln (.sl 8 I) b) : ∀ i, i ≤ ln (.sl 8 I) a → Runs E_C13 (law20_lists_int_L0 a b (ln (.sl 8 I) a : Nat) i) (fun x h => x = vb (eqL eqI (a.drop i) (b.drop i)) ∧ h = []) :=
  up_ind (.tree E_C13_ok (law20_lists_int_L0_t _ _ _ _) (by
    rw [show b.drop (ln (.sl 8 I) a) = [] from List.drop_eq_nil_of_le (by rw [hl]; exact Nat.le_refl _), drop_ln]
    simp only [wp_iff, chk_iff, know_iff, any_iff, rt_iff, hd_iff, true_imp_iff, true_and, and_true, and_self, lt01, Int.ofNat_lt, Int.ofNat_le, Int.natCast_nonneg, Int.toNat_natCast, decide_true, decide_false, Bool.true_eq_false, Bool.false_eq_true, false_imp_iff, Nat.lt_irrefl, imp_self, implies_true,  eqL]))
    fun i hi ih => .tree E_C13_ok (law20_lists_int_L0_t _ _ _ _) (by
      have hb : i < ln (.sl 8 I) b := hl ▸ hi
      rw [drop_gd (l := a) (i := i) hi, drop_gd (l := b) (i := i) hb, eqL]
      simp only [wp_iff, chk_iff, know_iff, any_iff, rt_iff, hd_iff, true_imp_iff, true_and, and_true, and_self, lt01, Int.ofNat_lt, Int.ofNat_le, Int.natCast_nonneg, Int.toNat_natCast, decide_true, decide_false, Bool.true_eq_false, Bool.false_eq_true, false_imp_iff, Nat.lt_irrefl, imp_self, implies_true,  hi, hb, wrapS hi h_a]
      exact and_step ih)
def k_law20_lists_int : Con := con [.d (.sl 24 (.sl 8 I)), .d (.sl 24 (.sl 8 I))] .bool (fun x => True) fun x => eqLI x.1 x.2.1
theorem m_law20_lists_int (a : List (Den (.sl 8 I))) (b : List (Den (.sl 8 I))) (h_a : okD (.sl 24 (.sl 8 I)) a) (h_b : okD (.sl 24 (.sl 8 I)) b) (hp : True) : Runs E_C13 (start E_C13 f_law20_lists_int [(.tv (.sl 24 (.sl 8 I)) a), (.tv (.sl 24 (.sl 8 I)) b)]) (fun r_ h_ => r_ = (vb (eqLI a b)) ∧ h_ = []) := .tree E_C13_ok (law20_lists_int_t a b) (by
  unfold eqLI
  simp only [wp_iff, chk_iff, know_iff, any_iff, rt_iff, hd_iff, true_imp_iff, true_and, and_true, and_self, lt01]
  by_cases hl : ln (.sl 8 I) a = ln (.sl 8 I) b
  · have : ((ln (.sl 8 I) a : Int) != (ln (.sl 8 I) b : Int)) = false := by simp [hl]
    rw [this]
    exact ⟨fun h => absurd h (by decide), fun _ => law20_lists_int_l a b (room_lt h_a.1) hl 0 (Nat.zero_le _)⟩
  · have h1 : ((ln (.sl 8 I) a : Int) != (ln (.sl 8 I) b : Int)) = true := by simp; omega
    rw [h1, eqL_len hl]
    exact ⟨fun _ => rfl, fun h => absurd h (by decide)⟩)
theorem c_law20_lists_int : SpecOK E_C13 f_law20_lists_int k_law20_lists_int.spec := spec_of fun x hx hp => ⟨rfl, m_law20_lists_int x.1 x.2.1 hx.1 hx.2.1 hp⟩
theorem law20_lists_api_Pos_l (a b : List (Den (.sl 16 s_api_Pos))) (h_a : ln (.sl 16 s_api_Pos) a < 9223372036854775807) (hl : ln (.sl 16 s_api_Pos) a = ln (.sl 16 s_api_Pos) b) : ∀ i, i ≤ ln (.sl 16 s_api_Pos) a → Runs E_C13 (law20_lists_api_Pos_L0 a b (ln (.sl 16 s_api_Pos) a : Nat) i) (fun x h => x = vb (eqL eqP (a.drop i) (b.drop i)) ∧ h = []) :=
  up_ind (.tree E_C13_ok (law20_lists_api_Pos_L0_t _ _ _ _) (by
    rw [show b.drop (ln (.sl 16 s_api_Pos) a) = [] from List.drop_eq_nil_of_le (by rw [hl]; exact Nat.le_refl _), drop_ln]
    simp only [wp_iff, chk_iff, know_iff, any_iff, rt_iff, hd_iff, true_imp_iff, true_and, and_true, and_self, lt01, Int.ofNat_lt, Int.ofNat_le, Int.natCast_nonneg, Int.toNat_natCast, decide_true, decide_false, Bool.true_eq_false, Bool.false_eq_true, false_imp_iff, Nat.lt_irrefl, imp_self, implies_true,  eqL]))
    fun i hi ih => .tree E_C13_ok (law20_lists_api_Pos_L0_t _ _ _ _) (by
      have hb : i < ln (.sl 16 s_api_Pos) b := hl ▸ hi
      rw [drop_gd (l := a) (i := i) hi, drop_gd (l := b) (i := i) hb, eqL]
      simp only [wp_iff, chk_iff, know_iff, any_iff, rt_iff, hd_iff, true_imp_iff, true_and, and_true, and_self, lt01, Int.ofNat_lt, Int.ofNat_le, Int.natCast_nonneg, Int.toNat_natCast, decide_true, decide_false, Bool.true_eq_false, Bool.false_eq_true, false_imp_iff, Nat.lt_irrefl, imp_self, implies_true,  hi, hb, wrapS hi h_a]
      exact and_step ih)
def k_law20_lists_api_Pos : Con := con [.d (.sl 24 (.sl 16 s_api_Pos)), .d (.sl 24 (.sl 16 s_api_Pos))] .bool (fun x => True) fun x => eqLP x.1 x.2.1
theorem m_law20_lists_api_Pos (a : List (Den (.sl 16 s_api_Pos))) (b : List (Den (.sl 16 s_api_Pos))) (h_a : okD (.sl 24 (.sl 16 s_api_Pos)) a) (h_b : okD (.sl 24 (.sl 16 s_api_Pos)) b) (hp : True) : Runs E_C13 (start E_C13 f_law20_lists_api_Pos [(.tv (.sl 24 (.sl 16 s_api_Pos)) a), (.tv (.sl 24 (.sl 16 s_api_Pos)) b)]) (fun r_ h_ => r_ = (vb (eqLP a b)) ∧ h_ = []) := .tree E_C13_ok (law20_lists_api_Pos_t a b) (by
  unfold eqLP
  simp only [wp_iff, chk_iff, know_iff, any_iff, rt_iff, hd_iff, true_imp_iff, true_and, and_true, and_self, lt01]
  by_cases hl : ln (.sl 16 s_api_Pos) a = ln (.sl 16 s_api_Pos) b
  · have : ((ln (.sl 16 s_api_Pos) a : Int) != (ln (.sl 16 s_api_Pos) b : Int)) = false := by simp [hl]
    rw [this]
    exact ⟨fun h => absurd h (by decide), fun _ => law20_lists_api_Pos_l a b (room_lt h_a.1) hl 0 (Nat.zero_le _)⟩
  · have h1 : ((ln (.sl 16 s_api_Pos) a : Int) != (ln (.sl 16 s_api_Pos) b : Int)) = true := by simp; omega
    rw [h1, eqL_len hl]
    exact ⟨fun _ => rfl, fun h => absurd h (by decide)⟩)
theorem c_law20_lists_api_Pos : SpecOK E_C13 f_law20_lists_api_Pos k_law20_lists_api_Pos.spec := spec_of fun x hx hp => ⟨rfl, m_law20_lists_api_Pos x.1 x.2.1 hx.1 hx.2.1 hp⟩

def k_r20_Uses : Con := con [.d s_api_Func] (.sl 24 (.sl 16 s_api_Pos)) (fun x => smallF x.1) fun x => rUses x.1
theorem m_r20_Uses (f : Den s_api_Func) (h_f : okD s_api_Func f) (hp : smallF f) : Runs E_C13 (start E_C13 f_r20_Uses [(.tv s_api_Func f)]) (fun r_ h_ => r_ = (.tv (.sl 24 (.sl 16 s_api_Pos)) (rUses f)) ∧ h_ = []) := .tree E_C13_ok (r20_Uses_t f) (by
  simp only [wp_iff, chk_iff, know_iff, any_iff, rt_iff, hd_iff, true_imp_iff, true_and, and_true, and_self, lt01]
  exact ⟨hp, fun _ _ => rfl⟩)
theorem c_r20_Uses : SpecOK E_C13 f_r20_Uses k_r20_Uses.spec := spec_of fun x hx hp => ⟨rfl, m_r20_Uses x.1 hx.1 hp⟩

def k_r20_Defs : Con := con [.d s_api_Func] (.sl 24 (.sl 16 s_api_Pos)) (fun x => smallF x.1) fun x => rDefs x.1
theorem m_r20_Defs (f : Den s_api_Func) (h_f : okD s_api_Func f) (hp : smallF f) : Runs E_C13 (start E_C13 f_r20_Defs [(.tv s_api_Func f)]) (fun r_ h_ => r_ = (.tv (.sl 24 (.sl 16 s_api_Pos)) (rDefs f)) ∧ h_ = []) := .tree E_C13_ok (r20_Defs_t f) (by
  simp only [wp_iff, chk_iff, know_iff, any_iff, rt_iff, hd_iff, true_imp_iff, true_and, and_true, and_self, lt01]
  exact ⟨hp, fun _ _ => rfl⟩)
theorem c_r20_Defs : SpecOK E_C13 f_r20_Defs k_r20_Defs.spec := spec_of fun x hx hp => ⟨rfl, m_r20_Defs x.1 hx.1 hp⟩
def L_C13 : List (FuncId × FSpec) := [(f_law20_lists_int, k_law20_lists_int.spec), (f_law20_lists_api_Pos, k_law20_lists_api_Pos.spec), (f_r20_Uses, k_r20_Uses.spec), (f_r20_Defs, k_r20_Defs.spec)] ++ L_C12
theorem L_C13_ok : ∀ x ∈ L_C13, SpecOK (ctx []) x.1 x.2 := by
  unfold L_C13
  simp only [List.cons_append, List.nil_append, List.forall_mem_cons]
  exact ⟨c_law20_lists_int, c_law20_lists_api_Pos, c_r20_Uses, c_r20_Defs, L_C12_ok⟩
end Burn.M20
namespace Burn.M20
open Go Go.BE Go.Proofs
set_option maxRecDepth 100000
set_option linter.unusedVariables false
set_option linter.unusedSimpArgs false
open Burn.Cfg
noncomputable abbrev E_C14 : Ctx := ctx L_C13
theorem E_C14_ok : EOK E_C14 := ctx_ok L_C13_ok
def cuts_C14 : FuncId → Nat → List Nat × List (Wh × Fx)
  | _, _ => ([], [])
def rets_C14 : FuncId → List (Option Fx)
  | _ => []
def H_C14 : Hints := ⟨cuts_C14, rets_C14⟩
theorem law20_CfgGraph_t (f : Den s_api_Func) : run E_C14 H_C14 f_law20_CfgGraph 3000 (start E_C14 f_law20_CfgGraph [(.tv s_api_Func f)]) = (.chk ((0 : Nat) < (1 : Nat)) (.chk (True) (.know True (cond (largeF f) (.chk (True) (.know True (rt (vb (worksR)) []))) (.chk ((0 : Nat) < (1 : Nat)) (.chk (True) (.chk ((0 : Nat) < (1 : Nat)) (.chk (True) (.chk (True) (cond (eqLI (graphF f).1 (graphF f).1) (.chk ((0 : Nat) < (1 : Nat)) (.chk (smallF f) (.chk ((0 : Nat) < (1 : Nat)) (.chk (smallF f) (.chk (True) (cond (eqLP (defsF f) (rDefs f)) (.chk ((0 : Nat) < (1 : Nat)) (.chk (smallF f) (.chk ((0 : Nat) < (1 : Nat)) (.chk (smallF f) (.chk (True) (cond (eqLP (usesF f) (rUses f)) (.chk (True) (.know (okD s_api_Graph (graphF f)) (.know (okD s_api_Graph (graphF f)) (.know True (.know (okD (.sl 24 (.sl 16 s_api_Pos)) (defsF f)) (.know (okD (.sl 24 (.sl 16 s_api_Pos)) (rDefs f)) (.know True (.know (okD (.sl 24 (.sl 16 s_api_Pos)) (usesF f)) (.know (okD (.sl 24 (.sl 16 s_api_Pos)) (rUses f)) (.know True (.know True (rt (vb (worksR)) [])))))))))))) (.know (okD s_api_Graph (graphF f)) (.know (okD s_api_Graph (graphF f)) (.know True (.know (okD (.sl 24 (.sl 16 s_api_Pos)) (defsF f)) (.know (okD (.sl 24 (.sl 16 s_api_Pos)) (rDefs f)) (.know True (.know (okD (.sl 24 (.sl 16 s_api_Pos)) (usesF f)) (.know (okD (.sl 24 (.sl 16 s_api_Pos)) (rUses f)) (.know True (rt (vb false) [])))))))))))))))) (.know (okD s_api_Graph (graphF f)) (.know (okD s_api_Graph (graphF f)) (.know True (.know (okD (.sl 24 (.sl 16 s_api_Pos)) (defsF f)) (.know (okD (.sl 24 (.sl 16 s_api_Pos)) (rDefs f)) (.know True (rt (vb false) []))))))))))))) (.know (okD s_api_Graph (graphF f)) (.know (okD s_api_Graph (graphF f)) (.know True (rt (vb false) [])))))))))))))) := by kernel_rfl
theorem eqLI_refl (l : List (Den (.sl 8 I))) : eqLI l l = true := eqL_refl eqI_refl l
theorem eqLP_refl (l : List (Den (.sl 16 s_api_Pos))) : eqLP l l = true := eqL_refl eqP_refl l
theorem uses_eq (f : Fn) : rUses f = usesF f := rfl
theorem defs_eq (f : Fn) : rDefs f = defsF f := rfl
def yesGr (_ : Fn) : Bool := true

def k_law20_CfgGraph : Con := con [.d s_api_Func] .bool (fun x => smallF x.1) fun x => yesGr x.1
theorem m_law20_CfgGraph (f : Den s_api_Func) (h_f : okD s_api_Func f) (hp : smallF f) : Runs E_C14 (start E_C14 f_law20_CfgGraph [(.tv s_api_Func f)]) (fun r_ h_ => r_ = (vb (yesGr f)) ∧ h_ = []) := .tree E_C14_ok (law20_CfgGraph_t f) (by
  simp only [wp_iff, chk_iff, know_iff, any_iff, rt_iff, hd_iff, true_imp_iff, true_and, and_true, and_self, lt01,  worksR, yesGr, uses_eq, defs_eq, eqLI_refl, eqLP_refl, hp, true_imp_iff, implies_true, Bool.true_eq_false, false_imp_iff])
theorem c_law20_CfgGraph : SpecOK E_C14 f_law20_CfgGraph k_law20_CfgGraph.spec := spec_of fun x hx hp => ⟨rfl, m_law20_CfgGraph x.1 hx.1 hp⟩
def L_C14 : List (FuncId × FSpec) := [(f_law20_CfgGraph, k_law20_CfgGraph.spec)] ++ L_C13
theorem L_C14_ok : ∀ x ∈ L_C14, SpecOK (ctx []) x.1 x.2 := by
  unfold L_C14
  simp only [List.cons_append, List.nil_append, List.forall_mem_cons]
  exact ⟨c_law20_CfgGraph, L_C13_ok⟩
end Burn.M20
namespace Burn.M20
open Go Go.BE Go.Proofs
set_option maxRecDepth 100000
set_option linter.unusedVariables false
set_option linter.unusedSimpArgs false
open Burn.Cfg
noncomputable abbrev E_C15 : Ctx := ctx L_C14
theorem E_C15_ok : EOK E_C15 := ctx_ok L_C14_ok
def cuts_C15 : FuncId → Nat → List Nat × List (Wh × Fx)
  | 20, 0 => ([2, 3, 14, 15, 16], [])
  | 20, 2 => ([2, 3, 4, 14, 15, 16, 23, 24, 25], [])
  | _, _ => ([], [])
def rets_C15 : FuncId → List (Option Fx)
  | _ => []
def H_C15 : Hints := ⟨cuts_C15, rets_C15⟩
noncomputable def GraphO_L0 (t14 : List (Den s_api_Block)) (t15 : Int) (t16 : Int) (g_0 : List (Den (.sl 8 I))) : Cfg := hcfg E_C15 f_cfg_Graph 0 [(2, (.ref 0 0)), (3, (.ref 1 0)), (14, (.tv (.sl 136 s_api_Block) t14)), (15, (vi t15)), (16, (vi t16))] [(0, ⟨(.cells [(.val (.slice none 0 0))]), 0, [], false, none⟩), (1, ⟨(.cells [(.osl 2 2 [] none)]), 1, [], false, none⟩), (2, ⟨(.arr 1 24 (.sl 8 I) g_0), 2, [], false, none⟩)] 3
noncomputable def GraphO_L2 (i : Int) (t14 : List (Den s_api_Block)) (t15 : Int) (t16 : Int) (t23 : List (Den s_api_Edge)) (t24 : Int) (t25 : Int) (g_0 : List (Den (.sl 8 I))) : Cfg := hcfg E_C15 f_cfg_Graph 2 [(2, (.ref 0 0)), (3, (.ref 1 0)), (4, (vi i)), (14, (.tv (.sl 136 s_api_Block) t14)), (15, (vi t15)), (16, (vi t16)), (23, (.tv (.sl 32 s_api_Edge) t23)), (24, (vi t24)), (25, (vi t25))] [(0, ⟨(.cells [(.val (.slice none 0 0))]), 0, [], false, none⟩), (1, ⟨(.cells [(.osl 2 2 [] none)]), 1, [], false, none⟩), (2, ⟨(.arr 1 24 (.sl 8 I) g_0), 2, [], false, none⟩)] 3
theorem GraphO_t (f : Den s_api_Func) : run E_C15 H_C15 f_cfg_Graph 3000 (start E_C15 f_cfg_Graph [(.tv s_api_Func f)]) = (.chk (((ln s_api_Block f.2.2.2.2.1) : Int) = ((ln s_api_Block f.2.2.2.2.1) : Int)) (.chk (0 ≤ ((ln s_api_Block f.2.2.2.2.1) : Int)) (.chk ((ln s_api_Block f.2.2.2.2.1) * 24 ≤ roomB) (hd (GraphO_L0 f.2.2.2.2.1 ((ln s_api_Block f.2.2.2.2.1) : Int) (0 : Int) (List.replicate (ln s_api_Block f.2.2.2.2.1) (dz (.sl 8 I)))))))) := by kernel_rfl
theorem GraphO_L0_t (t14 : List (Den s_api_Block)) (t15 : Int) (t16 : Int) (g_0 : List (Den (.sl 8 I))) : run E_C15 H_C15 f_cfg_Graph 3000 (GraphO_L0 t14 t15 t16 g_0) = (cond (decide (t16 < t15)) (.chk (0 ≤ t16 ∧ t16 < (ln s_api_Block t14)) (hd (GraphO_L2 t16 t14 t15 t16 ((((((((gd s_api_Block t14 ((t16).toNat)).2).2).1).2).2).2).1) ((ln s_api_Edge ((((((((gd s_api_Block t14 ((t16).toNat)).2).2).1).2).2).2).1)) : Int) (0 : Int) g_0))) (rt (.agg [(.osl 0 0 [] none)]) [(0, ⟨(.arr 1 24 (.sl 8 I) g_0), 0, [], false, none⟩)])) := by kernel_rfl
theorem GraphO_L2_t (i : Int) (t14 : List (Den s_api_Block)) (t15 : Int) (t16 : Int) (t23 : List (Den s_api_Edge)) (t24 : Int) (t25 : Int) (g_0 : List (Den (.sl 8 I))) : run E_C15 H_C15 f_cfg_Graph 3000 (GraphO_L2 i t14 t15 t16 t23 t24 t25 g_0) = (cond (decide (t25 < t24)) (.chk (0 ≤ t25 ∧ t25 < (ln s_api_Edge t23)) (.chk (0 ≤ i ∧ i < (ln (.sl 8 I) g_0)) (.chk ((i).toNat < (ln (.sl 8 I) g_0)) (.chk ((i).toNat < (ln (.sl 8 I) g_0)) (.chk (((ln I (gd (.sl 8 I) g_0 ((i).toNat))) + (1 : Nat)) * 8 ≤ roomB) (.chk (0 ≤ i ∧ i < (ln (.sl 8 I) (st (.sl 8 I) g_0 ((i).toNat) (ap I (gd (.sl 8 I) g_0 ((i).toNat)) ([(gd s_api_Edge t23 ((t25).toNat)).1] : List (Den I)))))) (.chk ((i).toNat = (i).toNat) (.chk ((i).toNat = (i).toNat) (hd (GraphO_L2 i t14 t15 t16 t23 t24 (IntKind.wrap .i64 (t25 + (1 : Int))) (st (.sl 8 I) g_0 ((i).toNat) (ap I (gd (.sl 8 I) g_0 ((i).toNat)) ([(gd s_api_Edge t23 ((t25).toNat)).1] : List (Den I)))))))))))))) (hd (GraphO_L0 t14 t15 (IntKind.wrap .i64 (t16 + (1 : Int))) g_0))) := by kernel_rfl
def retG (f : Fn) (x : AV) (h : Heap) : Prop := x = (ownRes 99 s_api_Graph (graphF f)).1 ∧ h = (ownRes 99 s_api_Graph (graphF f)).2
theorem GraphO_l (f : Fn) (l : List (Den s_api_Block)) (hf : blocks f = l) (ho : okB l) : ∀ i, i ≤ ln s_api_Block l → Runs E_C15 (GraphO_L0 l (ln s_api_Block l : Nat) i (mapTo (S := s_api_Block) (T := .sl 8 I) headsB nilB l i)) (retG f) :=
  up_ind (.tree E_C15_ok (GraphO_L0_t _ _ _ _) (by
    rw [mapTo_n]
    simp only [wp_iff, chk_iff, know_iff, any_iff, rt_iff, hd_iff, true_imp_iff, true_and, and_true, and_self, lt01, Int.ofNat_lt, Int.ofNat_le, Int.natCast_nonneg, Int.toNat_natCast, decide_true, decide_false, Bool.true_eq_false, Bool.false_eq_true, false_imp_iff, Nat.lt_irrefl, imp_self, implies_true,  retG, graphF, hf]
    exact ⟨rfl, rfl⟩))
    fun i hi ih => .tree E_C15_ok (GraphO_L0_t _ _ _ _) (by
      simp only [wp_iff, chk_iff, know_iff, any_iff, rt_iff, hd_iff, true_imp_iff, true_and, and_true, and_self, lt01, Int.ofNat_lt, Int.ofNat_le, Int.natCast_nonneg, Int.toNat_natCast, decide_true, decide_false, Bool.true_eq_false, Bool.false_eq_true, false_imp_iff, Nat.lt_irrefl, imp_self, implies_true,  hi]
      have hro := (okB_suc ho hi).1
      generalize hs : tSuc (gd s_api_Block l i) = s at hro
      have hg : mapTo (S := s_api_Block) (T := .sl 8 I) headsB nilB l i = st (.sl 8 I) (mapTo (S := s_api_Block) (T := .sl 8 I) headsB nilB l i) i (List.map hd1 (s.take 0)) := by
        have := st_gd (S := .sl 8 I) (l := mapTo (S := s_api_Block) (T := .sl 8 I) headsB nilB l i) (i := i)
        rw [mapTo_gd hi] at this
        exact this.symm
      have key : ∀ k, k ≤ ln s_api_Edge s → Runs E_C15 (GraphO_L2 i l (ln s_api_Block l : Nat) i s (ln s_api_Edge s : Nat) k (st (.sl 8 I) (mapTo (S := s_api_Block) (T := .sl 8 I) headsB nilB l i) i (List.map hd1 (s.take k)))) (retG f) :=
        up_ind (.tree E_C15_ok (GraphO_L2_t _ _ _ _ _ _ _ _) (by
          have := mapTo_st (S := s_api_Block) (T := .sl 8 I) (f := headsB) (g := nilB) hi
          rw [take_ln]
          simp only [wp_iff, chk_iff, know_iff, any_iff, rt_iff, hd_iff, true_imp_iff, true_and, and_true, and_self, lt01, Int.ofNat_lt, Int.ofNat_le, Int.natCast_nonneg, Int.toNat_natCast, decide_true, decide_false, Bool.true_eq_false, Bool.false_eq_true, false_imp_iff, Nat.lt_irrefl, imp_self, implies_true,  wrapS hi (room_lt ho.1)]
          rw [show List.map hd1 s = headsB (gd s_api_Block l i) by rw [← hs]; rfl, this]
          exact ih))
          fun k hk ihk => .tree E_C15_ok (GraphO_L2_t _ _ _ _ _ _ _ _) (by
            simp only [wp_iff, chk_iff, know_iff, any_iff, rt_iff, hd_iff, true_imp_iff, true_and, and_true, and_self, lt01, Int.ofNat_lt, Int.ofNat_le, Int.natCast_nonneg, Int.toNat_natCast, decide_true, decide_false, Bool.true_eq_false, Bool.false_eq_true, false_imp_iff, Nat.lt_irrefl, imp_self, implies_true,  hk, hi, ln_st, mapTo_len, gd_st, st_st, wrapS hk (room_lt hro), heads_step hk]
            exact ⟨heads_room hro hk, fun _ => ihk⟩)
      rw [hg]
      subst hs
      exact key 0 (Nat.zero_le _))
def k_GraphO : Con := conO 99 [.d s_api_Func] s_api_Graph (fun x => True) fun x => graphF x.1
theorem m_GraphO (f : Den s_api_Func) (h_f : okD s_api_Func f) (hp : True) : Runs E_C15 (start E_C15 f_cfg_Graph [(.tv s_api_Func f)]) (fun r_ h_ => r_ = (ownRes 99 s_api_Graph (graphF f)).1 ∧ h_ = (ownRes 99 s_api_Graph (graphF f)).2) := .tree E_C15_ok (GraphO_t f) (by
  simp only [wp_iff, chk_iff, know_iff, any_iff, rt_iff, hd_iff, true_imp_iff, true_and, and_true, and_self, lt01]
  obtain ho := okB_of h_f
  have := GraphO_l f _ rfl ho 0 (Nat.zero_le _)
  rw [mapTo_0] at this
  refine ⟨by omega, fun _ => ⟨room_part ho.1 (Nat.le_refl _) (by decide), fun _ => ?_⟩⟩
  rw [show List.replicate (ln s_api_Block f.2.2.2.2.1) (dz (.sl 8 I)) = List.map nilB f.2.2.2.2.1 from (List.map_const' ..).symm]
  exact this)
theorem c_GraphO : SpecOK E_C15 f_cfg_Graph k_GraphO.spec := spec_of fun x hx hp => ⟨rfl, m_GraphO x.1 hx.1 hp⟩
def L_C15 : List (FuncId × FSpec) := [(f_cfg_Graph, k_GraphO.spec)] ++ L_C14
theorem L_C15_ok : ∀ x ∈ L_C15, SpecOK (ctx []) x.1 x.2 := by
  unfold L_C15
  simp only [List.cons_append, List.nil_append, List.forall_mem_cons]
  exact ⟨c_GraphO, L_C14_ok⟩
end Burn.M20
namespace Burn.M20
open Go Go.BE Go.Proofs
set_option maxRecDepth 100000
set_option linter.unusedVariables false
set_option linter.unusedSimpArgs false
open Burn.Cfg
noncomputable abbrev E_C16 : Ctx := ctx L_C15
theorem E_C16_ok : EOK E_C16 := ctx_ok L_C15_ok
def cuts_C16 : FuncId → Nat → List Nat × List (Wh × Fx)
  | 5, 0 => ([1, 2, 11, 12, 13, 79, 80, 81], [])
  | 5, 2 => ([1, 2, 11, 12, 13, 14, 15, 79, 80, 81, 86, 87, 88], [])
  | _, _ => ([], [])
def rets_C16 : FuncId → List (Option Fx)
  | _ => []
def H_C16 : Hints := ⟨cuts_C16, rets_C16⟩
noncomputable def law20_CfgContract_L0 (block : Int) (succ : Int) (n : Int) (to : Int) (t79_lo : Nat) (t79_n : Nat) (t80 : Int) (t81 : Int) (old : List (Den (.sl 8 I))) (t79 : List (Den (.sl 8 I))) : Cfg := hcfg E_C16 f_law20_CfgContract 0 [(1, (vi block)), (2, (vi succ)), (11, (vi n)), (12, (vi to)), (13, (.osl 0 0 [] none)), (79, (.osl 1 1 [] (some (t79_lo, t79_n)))), (80, (vi t80)), (81, (vi t81))] [(0, ⟨(.arr 1 24 (.sl 8 I) old), 0, [], false, none⟩), (1, ⟨(.arr 1 24 (.sl 8 I) t79), 1, [], false, none⟩)] 2
noncomputable def law20_CfgContract_L2 (block : Int) (succ : Int) (n : Int) (to : Int) (i : Int) (l_k : Nat) (t79_lo : Nat) (t79_n : Nat) (t80 : Int) (t81 : Int) (t86_k : Nat) (t87 : Int) (t88 : Int) (old : List (Den (.sl 8 I))) (l : List (Den (.sl 8 I))) : Cfg := hcfg E_C16 f_law20_CfgContract 2 [(1, (vi block)), (2, (vi succ)), (11, (vi n)), (12, (vi to)), (13, (.osl 0 0 [] none)), (14, (vi i)), (15, (.osl 1 1 [(l_k, [])] none)), (79, (.osl 1 1 [] (some (t79_lo, t79_n)))), (80, (vi t80)), (81, (vi t81)), (86, (.osl 1 1 [(t86_k, [])] none)), (87, (vi t87)), (88, (vi t88))] [(0, ⟨(.arr 1 24 (.sl 8 I) old), 0, [], false, none⟩), (1, ⟨(.arr 1 24 (.sl 8 I) l), 1, [], false, none⟩)] 2
theorem law20_CfgContract_t (f : Den s_api_Func) (block : Int) (succ : Int) : run E_C16 H_C16 f_law20_CfgContract 3000 (start E_C16 f_law20_CfgContract [(.tv s_api_Func f), (vi block), (vi succ)]) = (.chk ((0 : Nat) < (1 : Nat)) (.chk (True) (.know True (cond (largeF f) (.chk (True) (.know True (rt (vb (worksR)) []))) (.chk ((0 : Nat) < (1 : Nat)) (.chk (ln s_api_Block f.2.2.2.2.1 ≤ 1000) (.know (okAVs [(.tv s_api_Func ((splitF f block succ).1)), (vb (bOf ((splitF f block succ).2)))]) (cond (!(bOf ((splitF f block succ).2))) (.chk ((0 : Nat) < (1 : Nat)) (.chk (ln s_api_Block f.2.2.2.2.1 ≤ 1000) (.know (okAVs [(.tv s_api_Func ((splitF f block succ).1)), (vb (bOf ((splitF f block succ).2)))]) (cond (!(bOf ((splitF f block succ).2))) (.chk (True) (.know True (rt (vb (worksR)) []))) (rt (vb false) []))))) (.chk ((0 : Nat) < (1 : Nat)) (cond (((ln s_api_Block (((((((splitF f block succ).1).2).2).2).2).1)) : Int) != (IntKind.wrap .i64 (((ln s_api_Block f.2.2.2.2.1) : Int) + (1 : Int)))) (rt (vb false) []) (.chk (0 ≤ ((ln s_api_Block f.2.2.2.2.1) : Int) ∧ ((ln s_api_Block f.2.2.2.2.1) : Int) < (ln s_api_Block (((((((splitF f block succ).1).2).2).2).2).1))) (cond (((ln s_api_Edge ((((((((gd s_api_Block (((((((splitF f block succ).1).2).2).2).2).1) (ln s_api_Block f.2.2.2.2.1)).2).2).1).2).2).2).1)) : Int) != (1 : Int)) (rt (vb false) []) (.chk (0 ≤ ((ln s_api_Block f.2.2.2.2.1) : Int) ∧ ((ln s_api_Block f.2.2.2.2.1) : Int) < (ln s_api_Block (((((((splitF f block succ).1).2).2).2).2).1))) (.chk (0 ≤ (0 : Int) ∧ (0 : Int) < (ln s_api_Edge ((((((((gd s_api_Block (((((((splitF f block succ).1).2).2).2).2).1) (ln s_api_Block f.2.2.2.2.1)).2).2).1).2).2).2).1))) (.chk ((0 : Nat) < (1 : Nat)) (.chk (True) (.know (okAVs [(.osl 0 0 [] none)]) (.chk (True) (.know (okAVs [(.osl 0 0 [] none)]) (.chk (0 ≤ (0 : Int) ∧ (0 : Int) ≤ ((ln s_api_Block f.2.2.2.2.1) : Int) ∧ ((ln s_api_Block f.2.2.2.2.1) : Int) ≤ ((ln (.sl 8 I) ((graphF (splitF f block succ).1).1)) : Int)) (hd (law20_CfgContract_L0 block succ ((ln s_api_Block f.2.2.2.2.1) : Int) (z ((gd s_api_Edge ((((((((gd s_api_Block (((((((splitF f block succ).1).2).2).2).2).1) (ln s_api_Block f.2.2.2.2.1)).2).2).1).2).2).2).1) (0 : Nat)).1)) (0 : Nat) ((ln s_api_Block f.2.2.2.2.1) - (0 : Nat)) (((ln s_api_Block f.2.2.2.2.1) - (0 : Nat)) : Int) (0 : Int) ((graphF f).1) ((graphF (splitF f block succ).1).1))))))))))))))))))))))) := by kernel_rfl
theorem law20_CfgContract_L0_t (block : Int) (succ : Int) (n : Int) (to : Int) (t79_lo : Nat) (t79_n : Nat) (t80 : Int) (t81 : Int) (old : List (Den (.sl 8 I))) (t79 : List (Den (.sl 8 I))) : run E_C16 H_C16 f_law20_CfgContract 3000 (law20_CfgContract_L0 block succ n to t79_lo t79_n t80 t81 old t79) = (cond (decide (t81 < t80)) (.chk (0 ≤ t81 ∧ t81 < t79_n) (.chk ((t79_lo + (t81).toNat) < (ln (.sl 8 I) t79)) (.chk ((t79_lo + (t81).toNat) < (ln (.sl 8 I) t79)) (hd (law20_CfgContract_L2 block succ n to t81 (t79_lo + (t81).toNat) t79_lo t79_n t80 t81 (t79_lo + (t81).toNat) ((ln I (gd (.sl 8 I) t79 (t79_lo + (t81).toNat))) : Int) (0 : Int) old t79))))) (.chk (True) (.know True (rt (vb (worksR)) [])))) := by kernel_rfl
theorem law20_CfgContract_L2_t (block : Int) (succ : Int) (n : Int) (to : Int) (i : Int) (l_k : Nat) (t79_lo : Nat) (t79_n : Nat) (t80 : Int) (t81 : Int) (t86_k : Nat) (t87 : Int) (t88 : Int) (old : List (Den (.sl 8 I))) (l : List (Den (.sl 8 I))) : run E_C16 H_C16 f_law20_CfgContract 3000 (law20_CfgContract_L2 block succ n to i l_k t79_lo t79_n t80 t81 t86_k t87 t88 old l) = (cond (decide (t88 < t87)) (.chk (t86_k < (ln (.sl 8 I) l)) (.chk (0 ≤ t88 ∧ t88 < (ln I (gd (.sl 8 I) l t86_k))) (.chk (t86_k < (ln (.sl 8 I) l)) (.chk ((t88).toNat < (ln I (gd (.sl 8 I) l t86_k))) (cond (i == block) (cond (t88 == succ) (cond ((z (gd I (gd (.sl 8 I) l t86_k) ((t88).toNat))) == n) (.chk (l_k < (ln (.sl 8 I) l)) (.chk (0 ≤ t88 ∧ t88 < (ln I (gd (.sl 8 I) l l_k))) (.chk (l_k < (ln (.sl 8 I) l)) (.chk ((t88).toNat < (ln I (gd (.sl 8 I) l l_k))) (hd (law20_CfgContract_L2 block succ n to i l_k t79_lo t79_n t80 t81 t86_k t87 (IntKind.wrap .i64 (t88 + (1 : Int))) old (st (.sl 8 I) l l_k (st I (gd (.sl 8 I) l l_k) ((t88).toNat) to)))))))) (hd (law20_CfgContract_L2 block succ n to i l_k t79_lo t79_n t80 t81 t86_k t87 (IntKind.wrap .i64 (t88 + (1 : Int))) old l))) (hd (law20_CfgContract_L2 block succ n to i l_k t79_lo t79_n t80 t81 t86_k t87 (IntKind.wrap .i64 (t88 + (1 : Int))) old l))) (hd (law20_CfgContract_L2 block succ n to i l_k t79_lo t79_n t80 t81 t86_k t87 (IntKind.wrap .i64 (t88 + (1 : Int))) old l))))))) (.chk (0 ≤ i ∧ i < (ln (.sl 8 I) old)) (.chk ((i).toNat < (ln (.sl 8 I) old)) (.chk (l_k < (ln (.sl 8 I) l)) (.chk ((i).toNat < (ln (.sl 8 I) old)) (.chk (True) (.know True (cond (!(eqI (gd (.sl 8 I) l l_k) (gd (.sl 8 I) old ((i).toNat)))) (rt (vb false) []) (hd (law20_CfgContract_L0 block succ n to t79_lo t79_n t80 (IntKind.wrap .i64 (t81 + (1 : Int))) old l)))))))))) := by kernel_rfl
/-- the lists of successors while the new block is taken out again -/
structure CF (b s n : Nat) (to : Int) (A G : List (Den (.sl 8 I))) : Prop where
  lA : ln (.sl 8 I) A = n
  lG : ln (.sl 8 I) G = n + 1
  ne : ∀ i, i < n → i ≠ b → gd (.sl 8 I) G i = gd (.sl 8 I) A i
  hb : b < n
  eq : gd (.sl 8 I) G b = st I (gd (.sl 8 I) A b) s (n : Int)
  hs : s < ln I (gd (.sl 8 I) A b)
  to : gd I (gd (.sl 8 I) A b) s = to
def stG (b : Nat) (A G : List (Den (.sl 8 I))) : List (Den (.sl 8 I)) := st (.sl 8 I) G b (gd (.sl 8 I) A b)
def Ist (b s : Nat) (A G : List (Den (.sl 8 I))) (i k : Nat) : List (Den (.sl 8 I)) := if (i = b ∧ s < k) ∨ b < i then stG b A G else G
theorem Ist_ln {b s n : Nat} {to : Int} {A G : List (Den (.sl 8 I))} (h : CF b s n to A G) {i k : Nat} : ln (.sl 8 I) (Ist b s A G i k) = n + 1 := by
  unfold Ist stG
  split
  · rw [ln_st, h.lG]
  · exact h.lG
theorem Ist_len {b s n : Nat} {to : Int} {A G : List (Den (.sl 8 I))} (h : CF b s n to A G) {i k : Nat} (hi : i < n) : ln I (gd (.sl 8 I) (Ist b s A G i k) i) = ln I (gd (.sl 8 I) A i) := by
  have hG := h.lG
  have h1 : ln I (gd (.sl 8 I) G i) = ln I (gd (.sl 8 I) A i) := by
    by_cases hib : i = b
    · rw [hib, h.eq, ln_st]
    · rw [h.ne i hi hib]
  unfold Ist stG
  split
  · rw [gd_st_any]
    split
    · rename_i h2
      rw [h2.1]
    · exact h1
  · exact h1
theorem Ist_end {b s n : Nat} {to : Int} {A G : List (Den (.sl 8 I))} (h : CF b s n to A G) {i : Nat} (hi : i < n) : gd (.sl 8 I) (Ist b s A G (i + 1) 0) i = gd (.sl 8 I) A i := by
  have hG := h.lG
  have hb := h.hb
  unfold Ist stG
  by_cases hib : i = b
  · subst hib
    rw [if_pos (.inr (by omega)), gd_st (by omega)]
  · split
    · rw [gd_st_any, if_neg (fun h2 => hib h2.1.symm), h.ne i hi hib]
    · exact h.ne i hi hib
theorem Ist_next {b s n : Nat} {to : Int} {A G : List (Den (.sl 8 I))} (h : CF b s n to A G) {i : Nat} : Ist b s A G i (ln I (gd (.sl 8 I) A i)) = Ist b s A G (i + 1) 0 := by
  have hs := h.hs
  unfold Ist
  by_cases hib : i = b
  · subst hib
    rw [if_pos (.inl ⟨rfl, hs⟩), if_pos (.inr (by omega))]
  · by_cases hlt : b < i
    · rw [if_pos (.inr hlt), if_pos (.inr (by omega))]
    · rw [if_neg (by omega), if_neg (by omega)]
theorem Ist_same {b s : Nat} {A G : List (Den (.sl 8 I))} {i k : Nat} (h : ¬ (i = b ∧ k = s)) : Ist b s A G i (k + 1) = Ist b s A G i k := by
  unfold Ist
  by_cases h1 : (i = b ∧ s < k) ∨ b < i
  · rw [if_pos h1, if_pos (by omega)]
  · rw [if_neg h1, if_neg (by omega)]
theorem Ist_at {b s n : Nat} {to : Int} {A G : List (Den (.sl 8 I))} (h : CF b s n to A G) : Ist b s A G b s = G ∧ z (gd I (gd (.sl 8 I) G b) s) = (n : Int) ∧ st (.sl 8 I) G b (st I (gd (.sl 8 I) G b) s to) = Ist b s A G b (s + 1) := by
  have hs := h.hs
  refine ⟨?_, ?_, ?_⟩
  · unfold Ist
    rw [if_neg (by omega)]
  · rw [h.eq, gd_st hs]
  · unfold Ist stG
    rw [if_pos (.inl ⟨rfl, Nat.lt_succ_self s⟩), h.eq, st_st, ← h.to, st_gd]
theorem con_l2 {b s n : Nat} {to : Int} {A G : List (Den (.sl 8 I))} (h : CF b s n to A G) (hn : n ≤ 1000) {i : Nat} (hi : i < n) (hr : ln I (gd (.sl 8 I) A i) < 9223372036854775807) (hk0 : Runs E_C16 (law20_CfgContract_L0 b s n to 0 n n ((i + 1 : Nat) : Int) A (Ist b s A G (i + 1) 0)) (fun x h => x = vb true ∧ h = [])) : ∀ k, k ≤ ln I (gd (.sl 8 I) A i) → Runs E_C16 (law20_CfgContract_L2 b s n to i i 0 n n i i (ln I (gd (.sl 8 I) A i) : Nat) k A (Ist b s A G i k)) (fun x h => x = vb true ∧ h = []) :=
  up_ind (.tree E_C16_ok (law20_CfgContract_L2_t _ _ _ _ _ _ _ _ _ _ _ _ _ _ _) (by
    have hA := h.lA
    have hiA : i < ln (.sl 8 I) A := by omega
    have hL : i < ln (.sl 8 I) (Ist b s A G (i + 1) 0) := by rw [Ist_ln h]; omega
    rw [Ist_next h]
    simp only [wp_iff, chk_iff, know_iff, any_iff, rt_iff, hd_iff, true_imp_iff, true_and, and_true, and_self, lt01, Int.ofNat_lt, Int.ofNat_le, Int.natCast_nonneg, Int.toNat_natCast, decide_true, decide_false, Bool.true_eq_false, Bool.false_eq_true, false_imp_iff, Nat.lt_irrefl, imp_self, implies_true,  hiA, hL, Ist_end h hi, eqI_refl, wrapS hi (show n < 9223372036854775807 by omega), Bool.not_true]
    exact hk0))
    fun k hk ih => .tree E_C16_ok (law20_CfgContract_L2_t _ _ _ _ _ _ _ _ _ _ _ _ _ _ _) (by
      have hL : i < ln (.sl 8 I) (Ist b s A G i k) := by rw [Ist_ln h]; omega
      have hk2 : k < ln I (gd (.sl 8 I) (Ist b s A G i k) i) := by rw [Ist_len h hi]; exact hk
      by_cases hat : i = b ∧ k = s
      · obtain ⟨rfl, rfl⟩ := hat
        obtain ⟨e1, e2, e3⟩ := Ist_at h
        rw [e1] at hL hk2
        rw [← e3] at ih
        rw [e1]
        simp only [wp_iff, chk_iff, know_iff, any_iff, rt_iff, hd_iff, true_imp_iff, true_and, and_true, and_self, lt01, Int.ofNat_lt, Int.ofNat_le, Int.natCast_nonneg, Int.toNat_natCast, decide_true, decide_false, Bool.true_eq_false, Bool.false_eq_true, false_imp_iff, Nat.lt_irrefl, imp_self, implies_true,  hk, hL, hk2, wrapS hk hr, e2, beq_self_eq_true]
        exact ih
      · rw [Ist_same hat] at ih
        simp only [wp_iff, chk_iff, know_iff, any_iff, rt_iff, hd_iff, true_imp_iff, true_and, and_true, and_self, lt01, Int.ofNat_lt, Int.ofNat_le, Int.natCast_nonneg, Int.toNat_natCast, decide_true, decide_false, Bool.true_eq_false, Bool.false_eq_true, false_imp_iff, Nat.lt_irrefl, imp_self, implies_true,  hk, hL, hk2, wrapS hk hr]
        refine ⟨fun h1 => ⟨fun h2 => ?_, fun _ => ih⟩, fun _ => ih⟩
        have g1 : (i : Int) = (b : Int) := by simpa using h1
        have g2 : (k : Int) = (s : Int) := by simpa using h2
        exact absurd ⟨by omega, by omega⟩ hat)
theorem con_l0 {b s n : Nat} {to : Int} {A G : List (Den (.sl 8 I))} (h : CF b s n to A G) (hn : n ≤ 1000) (hr : ∀ i, i < n → ln I (gd (.sl 8 I) A i) < 9223372036854775807) : ∀ i, i ≤ n → Runs E_C16 (law20_CfgContract_L0 b s n to 0 n n i A (Ist b s A G i 0)) (fun x h => x = vb true ∧ h = []) :=
  up_ind (.tree E_C16_ok (law20_CfgContract_L0_t _ _ _ _ _ _ _ _ _ _) (by
    simp only [wp_iff, chk_iff, know_iff, any_iff, rt_iff, hd_iff, true_imp_iff, true_and, and_true, and_self, lt01, Int.ofNat_lt, Int.ofNat_le, Int.natCast_nonneg, Int.toNat_natCast, decide_true, decide_false, Bool.true_eq_false, Bool.false_eq_true, false_imp_iff, Nat.lt_irrefl, imp_self, implies_true,  worksR]))
    fun i hi ih => .tree E_C16_ok (law20_CfgContract_L0_t _ _ _ _ _ _ _ _ _ _) (by
      have hL : i < ln (.sl 8 I) (Ist b s A G i 0) := by rw [Ist_ln h]; omega
      simp only [wp_iff, chk_iff, know_iff, any_iff, rt_iff, hd_iff, true_imp_iff, true_and, and_true, and_self, lt01, Int.ofNat_lt, Int.ofNat_le, Int.natCast_nonneg, Int.toNat_natCast, decide_true, decide_false, Bool.true_eq_false, Bool.false_eq_true, false_imp_iff, Nat.lt_irrefl, imp_self, implies_true,  hi, hL, Nat.zero_add, Ist_len h hi]
      exact con_l2 h hn hi (hr i hi) ih 0 (Nat.zero_le _))
theorem gd_map {S T : Sh} {f : Den S → Den T} {l : List (Den S)} {i : Nat} (h : i < ln S l) : gd T (l.map f) i = f (gd S l i) := by
  unfold gd
  have h' : i < l.length := h
  rw [List.getD_eq_getElem?_getD, List.getElem?_map, List.getD_eq_getElem?_getD, List.getElem?_eq_getElem h']
  rfl
theorem heads_set (B : Blk) (s : Nat) (e : Den s_api_Edge) : headsB (setSuc B s e) = st I (headsB B) s e.1 := List.map_set ..
theorem heads_ln (B : Blk) : ln I (headsB B) = ln s_api_Edge (tSuc B) := ln_map (S := s_api_Edge) (T := I)
theorem split_b {f : Fn} {b s : Int} (h : splitIs f b s = true) : 0 ≤ b ∧ b < (ln s_api_Block f.2.2.2.2.1 : Int) ∧ 0 ≤ s ∧ s < (ln s_api_Edge (tSuc (blk f b)) : Int) := by
  unfold splitIs at h
  simp only [Bool.not_eq_true', Bool.or_eq_false_iff, decide_eq_false_iff_not] at h
  have e : ln s_api_Block (blocks f) = ln s_api_Block f.2.2.2.2.1 := rfl
  exact ⟨by omega, by omega, by omega, by omega⟩
theorem split_ln {f : Fn} {b s : Int} : ln s_api_Block (splitOK f b s).2.2.2.2.1 = ln s_api_Block f.2.2.2.2.1 + 1 := by
  show ln s_api_Block (ap s_api_Block (st s_api_Block f.2.2.2.2.1 _ _) [_]) = _
  rw [ln_ap, ln_st, ln_one]
theorem split_last {f : Fn} {b s : Int} : gd s_api_Block (splitOK f b s).2.2.2.2.1 (ln s_api_Block f.2.2.2.2.1) = newB f b s := by
  have := gd_last (S := s_api_Block) (l := st s_api_Block (blocks f) b.toNat (setSuc (blk f b) s.toNat ((ln s_api_Block (blocks f) : Int), ([] : List (Den I)), ()))) (x := newB f b s)
  rw [ln_st] at this
  exact this
theorem cf_of {f : Fn} {b s : Int} (h : splitIs f b s = true) : CF b.toNat s.toNat (ln s_api_Block f.2.2.2.2.1) (gd s_api_Edge (tSuc (blk f b)) s.toNat).1 (graphF f).1 (graphF (splitOK f b s)).1 := by
  obtain ⟨h1, h2, h3, h4⟩ := split_b h
  have hb : b.toNat < ln s_api_Block f.2.2.2.2.1 := by omega
  have hs : s.toNat < ln s_api_Edge (tSuc (blk f b)) := by omega
  have gA : ∀ i, i < ln s_api_Block f.2.2.2.2.1 → gd (.sl 8 I) (graphF f).1 i = headsB (gd s_api_Block f.2.2.2.2.1 i) := fun i hi => gd_map (S := s_api_Block) (T := (.sl 8 I)) hi
  have gG : ∀ i, i < ln s_api_Block f.2.2.2.2.1 → gd (.sl 8 I) (graphF (splitOK f b s)).1 i = headsB (gd s_api_Block (st s_api_Block f.2.2.2.2.1 b.toNat (setSuc (blk f b) s.toNat ((ln s_api_Block (blocks f) : Int), ([] : List (Den I)), ()))) i) := fun i hi => by
    have e1 := gd_map (S := s_api_Block) (T := (.sl 8 I)) (f := headsB) (l := (splitOK f b s).2.2.2.2.1) (i := i) (by rw [split_ln]; omega)
    have e2 : gd s_api_Block (splitOK f b s).2.2.2.2.1 i = _ := gd_ap (S := s_api_Block) (l := st s_api_Block f.2.2.2.2.1 b.toNat (setSuc (blk f b) s.toNat ((ln s_api_Block (blocks f) : Int), ([] : List (Den I)), ()))) (m := [newB f b s]) (i := i) (by rw [ln_st]; exact hi)
    exact e1.trans (congrArg headsB e2)
  have gb : gd (.sl 8 I) (graphF f).1 b.toNat = headsB (blk f b) := gA _ hb
  refine ⟨ln_map (S := s_api_Block) (T := (.sl 8 I)), (ln_map (S := s_api_Block) (T := (.sl 8 I))).trans split_ln, fun i hi hne => ?_, hb, ?_, ?_, ?_⟩
  · rw [gG i hi, gA i hi, gd_st_any, if_neg (fun h => hne h.1.symm)]
  · rw [gG _ hb, gd_st hb, heads_set, gb]
  · rw [gb, heads_ln]
    exact hs
  · rw [gb]
    exact gd_map (S := s_api_Edge) (T := I) (f := fun e => e.1) hs
def yesCon (_ : Fn) (_ _ : Int) : Bool := true

def k_law20_CfgContract : Con := con [.d s_api_Func, .d I, .d I] .bool (fun x => True) fun x => yesCon x.1 x.2.1 x.2.2.1
theorem m_law20_CfgContract (f : Den s_api_Func) (block : Int) (succ : Int) (h_f : okD s_api_Func f) (h_block : okD I block) (h_succ : okD I succ) (hp : True) : Runs E_C16 (start E_C16 f_law20_CfgContract [(.tv s_api_Func f), (vi block), (vi succ)]) (fun r_ h_ => r_ = (vb (yesCon f block succ)) ∧ h_ = []) := .tree E_C16_ok (law20_CfgContract_t f block succ) (by
  simp only [wp_iff, chk_iff, know_iff, any_iff, rt_iff, hd_iff, true_imp_iff, true_and, and_true, and_self, lt01,  worksR, yesCon]
  refine ⟨fun _ => trivial, fun hl => ?_⟩
  have hb := (not_large hl).1
  refine ⟨by omega, fun _ _ => ⟨fun h1 => ⟨by omega, fun _ _ => ⟨fun _ => trivial, fun h2 => absurd (h1.symm.trans h2) (by decide)⟩⟩, fun h1 => ?_⟩⟩
  have hs : splitIs f block succ = true := by
    by_cases h : splitIs f block succ = true
    · exact h
    · unfold splitF at h1
      rw [if_neg h] at h1
      exact absurd h1 (by decide)
  have e : splitF f block succ = (splitOK f block succ, true) := if_pos hs
  have c := cf_of hs
  obtain ⟨g1, g2, g3, g4⟩ := split_b hs
  have hw : IntKind.wrap .i64 ((ln s_api_Block f.2.2.2.2.1 : Int) + 1) = ((ln s_api_Block f.2.2.2.2.1 + 1 : Nat) : Int) := by
    rw [wrap64 _ (by omega) (by omega)]
    omega
  have hE : (newB f block succ).2.2.1.2.2.2.1 = [gd s_api_Edge (tSuc (blk f block)) succ.toNat] := rfl
  have hE0 : gd s_api_Edge [gd s_api_Edge (tSuc (blk f block)) succ.toNat] 0 = gd s_api_Edge (tSuc (blk f block)) succ.toNat := rfl
  have f1 : (0 : Int) ≤ (ln s_api_Block f.2.2.2.2.1 : Int) ∧ (ln s_api_Block f.2.2.2.2.1 : Int) < ((ln s_api_Block f.2.2.2.2.1 + 1 : Nat) : Int) := ⟨by omega, by omega⟩
  have f2 : (0 : Int) ≤ 0 ∧ (0 : Int) ≤ (ln s_api_Block f.2.2.2.2.1 : Int) ∧ (ln s_api_Block f.2.2.2.2.1 : Int) ≤ ((ln s_api_Block f.2.2.2.2.1 + 1 : Nat) : Int) := ⟨by omega, by omega, by omega⟩
  have f3 : (0 : Int) ≤ 0 ∧ (0 : Int) < ((1 : Nat) : Int) := by decide
  have f4 : (((1 : Nat) : Int) != 1) = false := by decide
  have hE1 : ln s_api_Edge [gd s_api_Edge (tSuc (blk f block)) succ.toNat] = 1 := rfl
  have hz : (ln s_api_Block f.2.2.2.2.1 : Int) - ((0 : Nat) : Int) = (ln s_api_Block f.2.2.2.2.1 : Int) := by omega
  rw [e]
  simp only [split_ln, split_last, hw, hE, hE0, hE1, hz, c.lG, f1, f2, f3, f4, bne_self_eq_false, Bool.false_eq_true, false_imp_iff, true_imp_iff, true_and, and_self, Nat.sub_zero]
  intro _ _
  have hfin := con_l0 c (by omega) (fun i hi => by
    have gA : gd (.sl 8 I) (graphF f).1 i = headsB (gd s_api_Block f.2.2.2.2.1 i) := gd_map (S := s_api_Block) (T := .sl 8 I) hi
    rw [gA, heads_ln]
    exact room_lt (okB_suc (okB_of h_f) hi).1) 0 (Nat.zero_le _)
  unfold Ist at hfin
  rw [if_neg (by omega), show ((block.toNat : Nat) : Int) = block by omega, show ((succ.toNat : Nat) : Int) = succ by omega] at hfin
  exact hfin)
theorem c_law20_CfgContract : SpecOK E_C16 f_law20_CfgContract k_law20_CfgContract.spec := spec_of fun x hx hp => ⟨rfl, m_law20_CfgContract x.1 x.2.1 x.2.2.1 hx.1 hx.2.1 hx.2.2.1 hp⟩
def L_C16 : List (FuncId × FSpec) := [(f_law20_CfgContract, k_law20_CfgContract.spec)] ++ L_C15
theorem L_C16_ok : ∀ x ∈ L_C16, SpecOK (ctx []) x.1 x.2 := by
  unfold L_C16
  simp only [List.cons_append, List.nil_append, List.forall_mem_cons]
  exact ⟨c_law20_CfgContract, L_C15_ok⟩
end Burn.M20

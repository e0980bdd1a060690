/- What the functions that the law reaches compute, one contract each. No conditions beyond those written. -/
import Derived.Test.YtoajppfhcnocmaaWalkA
namespace Burn.M20
open Go Go.BE Go.Proofs
set_option maxRecDepth 100000
set_option linter.unusedVariables false
set_option linter.unusedSimpArgs false
open Burn.Cfg
noncomputable abbrev E_C11 : Ctx := ctx L_C10
theorem E_C11_ok : EOK E_C11 := ctx_ok L_C10_ok
def cuts_C11 : CutL := []
def rets_C11 : FuncId → List (Option Fx)
  | _ => []
def H_C11 : Hints := { cut := cutOf cuts_C11, ret := rets_C11 }
theorem law20_CfgSplit_t (f : Den s_api_Func) (block : Int) (succ : Int) : run E_C11 H_C11 f_law20_CfgSplit 3000 (start E_C11 f_law20_CfgSplit [(.tv s_api_Func f), (vi block), (vi succ)]) = (.chk ((0 : Nat) < (1 : Nat)) (.chk (True) (.know True (cond (largeF f) (.chk (True) (.know True (rt (vb (worksR)) []))) (.chk ((0 : Nat) < (1 : Nat)) (.chk (True) (.know (okD s_api_Func (idF f)) (.chk ((0 : Nat) < (1 : Nat)) (.chk ((0 : Nat) < (1 : Nat)) (.chk (ln s_api_Block f.2.2.2.2.1 ≤ 1000) (.know (okAVs [(.tv s_api_Func ((splitF f block succ).1)), (vb (bOf ((splitF f block succ).2)))]) (.chk ((0 : Nat) < (1 : Nat)) (.chk ((0 : Nat) < (1 : Nat)) (.chk (ln s_api_Block f.2.2.2.2.1 ≤ 1000) (.know (okAVs [(.tv s_api_Func ((splitF f block succ).1)), (vb (bOf ((splitF f block succ).2)))]) (.chk ((0 : Nat) < (1 : Nat)) (cond ((bOf ((splitF f block succ).2)) == (bOf ((splitF f block succ).2))) (.chk ((0 : Nat) < (1 : Nat)) (.chk ((0 : Nat) < (1 : Nat)) (.chk (True) (.know True (cond (eqFn (splitF f block succ).1 (splitF f block succ).1) (.chk ((0 : Nat) < (1 : Nat)) (.chk ((0 : Nat) < (1 : Nat)) (.chk (True) (.know True (cond (eqFn f (idF f)) (.chk (True) (.know True (rt (vb (worksR)) []))) (rt (vb false) [])))))) (rt (vb false) [])))))) (rt (vb false) [])))))))))))))))))) := by kernel_rfl
theorem law20_CfgNewReg_t (f : Den s_api_Func) (t : Int) : run E_C11 H_C11 f_law20_CfgNewReg 3000 (start E_C11 f_law20_CfgNewReg [(.tv s_api_Func f), (vi t)]) = (.chk ((0 : Nat) < (1 : Nat)) (.chk (True) (.know True (cond (largeF f) (.chk (True) (.know True (rt (vb (worksR)) []))) (.chk ((0 : Nat) < (1 : Nat)) (.chk (ln I f.2.2.2.1 ≤ 1000) (.know (okAVs [(.tv s_api_Func ((newRegF f t).1)), (vi (z ((newRegF f t).2)))]) (.chk ((0 : Nat) < (1 : Nat)) (.chk ((0 : Nat) < (1 : Nat)) (cond ((z ((newRegF f t).2)) != ((ln I f.2.2.2.1) : Int)) (rt (vb false) []) (.chk ((0 : Nat) < (1 : Nat)) (.chk ((0 : Nat) < (1 : Nat)) (cond (((ln I ((((((newRegF f t).1).2).2).2).1)) : Int) != (IntKind.wrap .i64 (((ln I f.2.2.2.1) : Int) + (1 : Int)))) (rt (vb false) []) (.chk ((0 : Nat) < (1 : Nat)) (.chk (0 ≤ (z ((newRegF f t).2)) ∧ (z ((newRegF f t).2)) < (ln I ((((((newRegF f t).1).2).2).2).1))) (cond ((z (gd I ((((((newRegF f t).1).2).2).2).1) (((z ((newRegF f t).2))).toNat))) != t) (rt (vb false) []) (.chk ((0 : Nat) < (1 : Nat)) (.chk (0 ≤ (0 : Int) ∧ (0 : Int) ≤ (z ((newRegF f t).2)) ∧ (z ((newRegF f t).2)) ≤ ((ln I ((((((newRegF f t).1).2).2).2).1)) : Int)) (.chk ((0 : Nat) < (1 : Nat)) (.chk ((0 : Nat) < (1 : Nat)) (.chk ((0 : Nat) < (1 : Nat)) (.chk (True) (.know True (cond (eqFn f (((newRegF f t).1).1, (((newRegF f t).1).2).1, ((((newRegF f t).1).2).2).1, (wn I ((((((newRegF f t).1).2).2).2).1) (0 : Nat) (((z ((newRegF f t).2))).toNat - (0 : Nat))), (((((newRegF f t).1).2).2).2).2)) (.chk (True) (.know True (rt (vb (worksR)) []))) (rt (vb false) []))))))))))))))))))))))))) := by kernel_rfl
theorem law20_CfgReads_t (f : Den s_api_Func) (at_ : Den s_api_Pos) : run E_C11 H_C11 f_law20_CfgReads 3000 (start E_C11 f_law20_CfgReads [(.tv s_api_Func f), (.tv s_api_Pos at_)]) = (.chk ((0 : Nat) < (1 : Nat)) (.chk (True) (.know True (cond (largeF f) (.chk (True) (.know True (rt (vb (worksR)) []))) (.chk ((0 : Nat) < (1 : Nat)) (.chk ((0 : Nat) < (1 : Nat)) (.chk (smallF f) (.chk ((0 : Nat) < (1 : Nat)) (.chk ((0 : Nat) < (1 : Nat)) (.chk (smallF f) (.chk (True) (cond (eqI (readsF f at_) (readsF f at_)) (.chk ((0 : Nat) < (1 : Nat)) (.chk ((0 : Nat) < (1 : Nat)) (.chk (smallF f) (.chk ((0 : Nat) < (1 : Nat)) (.chk ((0 : Nat) < (1 : Nat)) (.chk (smallF f) (.chk (True) (cond (eqI (writesF f at_) (writesF f at_)) (.chk (True) (.know (okD (.sl 8 I) (readsF f at_)) (.know (okD (.sl 8 I) (readsF f at_)) (.know True (.know (okD (.sl 8 I) (writesF f at_)) (.know (okD (.sl 8 I) (writesF f at_)) (.know True (.know True (rt (vb (worksR)) []))))))))) (.know (okD (.sl 8 I) (readsF f at_)) (.know (okD (.sl 8 I) (readsF f at_)) (.know True (.know (okD (.sl 8 I) (writesF f at_)) (.know (okD (.sl 8 I) (writesF f at_)) (.know True (rt (vb false) []))))))))))))))) (.know (okD (.sl 8 I) (readsF f at_)) (.know (okD (.sl 8 I) (readsF f at_)) (.know True (rt (vb false) [])))))))))))))))) := by kernel_rfl
theorem eI_refl (x : Den I) : eI x x = true := by unfold eI; simp
theorem eqI_refl (l : List (Den I)) : eqI l l = true := eqL_refl eI_refl l
theorem eP_refl (x : Den s_api_Pos) : eP x x = true := by unfold eP; simp
theorem eqP_refl (l : List (Den s_api_Pos)) : eqP l l = true := eqL_refl eP_refl l
theorem eqIn_refl (x : Den s_api_Instr) : eqIn x x = true := by unfold eqIn; simp [eqI_refl]
theorem eqEd_refl (x : Den s_api_Edge) : eqEd x x = true := by unfold eqEd; simp [eqI_refl]
theorem eqBl_refl (x : Blk) : eqBl x x = true := by unfold eqBl; simp [eqI_refl, eqL_refl eqIn_refl, eqL_refl eqEd_refl]
theorem eqFn_refl (x : Fn) : eqFn x x = true := by unfold eqFn; simp [eqI_refl, eqL_refl eqBl_refl]
theorem not_large {f : Fn} (h : largeF f = false) : ln s_api_Block f.2.2.2.2.1 ≤ 100 ∧ ln I f.2.2.2.1 ≤ 500 := by
  unfold largeF at h
  simp only [Bool.or_eq_false_iff, decide_eq_false_iff_not] at h
  have h1 := h.1.1
  have h2 := h.1.2.1
  have e : ln s_api_Block (blocks f) = ln s_api_Block f.2.2.2.2.1 := rfl
  omega
def yesSplit (_ : Fn) (_ _ : Int) : Bool := true
def yesReg (_ : Fn) (_ : Int) : Bool := true

def k_law20_CfgSplit : Con := con [.d s_api_Func, .d I, .d I] .bool (fun x => True) fun x => yesSplit x.1 x.2.1 x.2.2.1
theorem m_law20_CfgSplit (f : Den s_api_Func) (block : Int) (succ : Int) (h_f : okD s_api_Func f) (h_block : okD I block) (h_succ : okD I succ) (hp : True) : Runs E_C11 (start E_C11 f_law20_CfgSplit [(.tv s_api_Func f), (vi block), (vi succ)]) (fun r_ h_ => r_ = (vb (yesSplit f block succ)) ∧ h_ = []) := .tree E_C11_ok (law20_CfgSplit_t f block succ) (by
  simp only [wp_iff, chk_iff, know_iff, any_iff, rt_iff, hd_iff, true_imp_iff, true_and, and_true, and_self, lt01,  worksR, yesSplit, idF, eqFn_refl]
  refine ⟨fun _ => trivial, fun hl => ?_⟩
  have hb := (not_large hl).1
  exact fun _ => ⟨by omega, fun _ _ => ⟨by omega, fun _ _ => ⟨fun _ h => absurd h (by decide), fun h => absurd h (by simp)⟩⟩⟩)
theorem c_law20_CfgSplit : SpecOK E_C11 f_law20_CfgSplit k_law20_CfgSplit.spec := spec_of fun x hx hp => ⟨rfl, m_law20_CfgSplit x.1 x.2.1 x.2.2.1 hx.1 hx.2.1 hx.2.2.1 hp⟩

def k_law20_CfgNewReg : Con := con [.d s_api_Func, .d I] .bool (fun x => True) fun x => yesReg x.1 x.2.1
theorem m_law20_CfgNewReg (f : Den s_api_Func) (t : Int) (h_f : okD s_api_Func f) (h_t : okD I t) (hp : True) : Runs E_C11 (start E_C11 f_law20_CfgNewReg [(.tv s_api_Func f), (vi t)]) (fun r_ h_ => r_ = (vb (yesReg f t)) ∧ h_ = []) := .tree E_C11_ok (law20_CfgNewReg_t f t) (by
  simp only [wp_iff, chk_iff, know_iff, any_iff, rt_iff, hd_iff, true_imp_iff, true_and, and_true, and_self, lt01,  worksR, yesReg]
  refine ⟨fun _ => trivial, fun hl => ?_⟩
  have hb := (not_large hl).2
  have hw : IntKind.wrap .i64 ((ln I f.2.2.2.1 : Int) + 1) = (ln I f.2.2.2.1 : Int) + 1 := wrap64 _ (by omega) (by omega)
  have h1 : ln I (ap I f.2.2.2.1 [t]) = ln I f.2.2.2.1 + 1 := by rw [ln_ap, ln_one]
  have f1 : (0 : Int) ≤ (ln I f.2.2.2.1 : Int) ∧ (ln I f.2.2.2.1 : Int) < ((ln I f.2.2.2.1 + 1 : Nat) : Int) := ⟨by omega, by omega⟩
  have f2 : (0 : Int) ≤ (ln I f.2.2.2.1 : Int) ∧ (ln I f.2.2.2.1 : Int) ≤ ((ln I f.2.2.2.1 + 1 : Nat) : Int) := ⟨by omega, by omega⟩
  simp only [newRegF, h1, hw, f1, f2, Int.toNat_natCast, gd_last, Nat.sub_zero, wn_ap, eqFn_refl, true_imp_iff, true_and, and_self, Int.le_refl, implies_true, bne_self_eq_false, Bool.false_eq_true, false_imp_iff, Bool.true_eq_false, and_true, Int.natCast_add, Int.natCast_one]
  have h3 : (z (gd I (ap I f.2.2.2.1 [t]) (ln I f.2.2.2.1)) != t) = false := by
    rw [gd_last]
    exact bne_self_eq_false t
  exact ⟨by omega, fun _ _ => ⟨f1.2, fun _ => ⟨fun h => absurd (h3.symm.trans h) (by decide), fun _ => f2.2⟩⟩⟩)
theorem c_law20_CfgNewReg : SpecOK E_C11 f_law20_CfgNewReg k_law20_CfgNewReg.spec := spec_of fun x hx hp => ⟨rfl, m_law20_CfgNewReg x.1 x.2.1 hx.1 hx.2.1 hp⟩
def yesRd (_ : Fn) (_ : Den s_api_Pos) : Bool := true

def k_law20_CfgReads : Con := con [.d s_api_Func, .d s_api_Pos] .bool (fun x => smallF x.1) fun x => yesRd x.1 x.2.1
theorem m_law20_CfgReads (f : Den s_api_Func) (at_ : Den s_api_Pos) (h_f : okD s_api_Func f) (h_at_ : okD s_api_Pos at_) (hp : smallF f) : Runs E_C11 (start E_C11 f_law20_CfgReads [(.tv s_api_Func f), (.tv s_api_Pos at_)]) (fun r_ h_ => r_ = (vb (yesRd f at_)) ∧ h_ = []) := .tree E_C11_ok (law20_CfgReads_t f at_) (by
  simp only [wp_iff, chk_iff, know_iff, any_iff, rt_iff, hd_iff, true_imp_iff, true_and, and_true, and_self, lt01,  worksR, yesRd, eqI_refl]
  simp only [hp, true_imp_iff, true_and, implies_true, and_self, Bool.true_eq_false, false_imp_iff])
theorem c_law20_CfgReads : SpecOK E_C11 f_law20_CfgReads k_law20_CfgReads.spec := spec_of fun x hx hp => ⟨rfl, m_law20_CfgReads x.1 x.2.1 hx.1 hx.2.1 hp⟩
def L_C11 : List (FuncId × FSpec) := [(f_law20_CfgSplit, k_law20_CfgSplit.spec), (f_law20_CfgNewReg, k_law20_CfgNewReg.spec), (f_law20_CfgReads, k_law20_CfgReads.spec)] ++ L_C10
theorem L_C11_ok : ∀ x ∈ L_C11, SpecOK (ctx []) x.1 x.2 := by
  unfold L_C11
  simp only [List.cons_append, List.nil_append, List.forall_mem_cons]
  exact ⟨c_law20_CfgSplit, c_law20_CfgNewReg, c_law20_CfgReads, L_C10_ok⟩
end Burn.M20
namespace Burn.M20
open Go Go.BE Go.Proofs
set_option maxRecDepth 100000
set_option linter.unusedVariables false
set_option linter.unusedSimpArgs false
open Burn.Cfg
noncomputable abbrev E_C12 : Ctx := ctx L_C11
theorem E_C12_ok : EOK E_C12 := ctx_ok L_C11_ok
def cuts_C12 : CutL := [([], 41, 0, [1, 2, 5, 19, 20, 21], [], []),
  ([], 41, 2, [1, 2, 5, 6, 7, 8, 19, 20, 21], [], []),
  ([], 41, 4, [1, 2, 5, 6, 7, 8, 9, 19, 20, 21, 43, 44, 45], [], [])]
def rets_C12 : FuncId → List (Option Fx)
  | 41 => [some (.dat (.sl 24 (.sl 16 s_api_Pos)))]
  | _ => []
def H_C12 : Hints := { cut := cutOf cuts_C12, ret := rets_C12 }
noncomputable def r20_collect_L0 (writes : Bool) (f : Den s_api_Func) (t19 : List (Den s_api_Block)) (t20 : Int) (t21 : Int) (out : List (Den (.sl 16 s_api_Pos))) : Cfg := hcfg E_C12 f_r20_collect 0 [(1, (vb writes)), (2, (.rtp s_api_Func f)), (5, (.osl 0 0 [] none)), (19, (.tv (.sl 136 s_api_Block) t19)), (20, (vi t20)), (21, (vi t21))] [(0, ⟨(.arr 1 24 (.sl 16 s_api_Pos) out), 0, [], false, none⟩)] 1
noncomputable def r20_collect_L2 (writes : Bool) (f : Den s_api_Func) (i : Int) (k : Int) (t19 : List (Den s_api_Block)) (t20 : Int) (t21 : Int) (out : List (Den (.sl 16 s_api_Pos))) (b_0 : List (Den I)) (b_1 : List (Den s_api_Instr)) (b_2 : Int) (b_3 : List (Den I)) (b_4 : List (Den I)) (b_5 : List (Den s_api_Edge)) (b_6 : Int) : Cfg := hcfg E_C12 f_r20_collect 2 [(1, (vb writes)), (2, (.rtp s_api_Func f)), (5, (.osl 0 0 [] none)), (6, (vi i)), (7, (.ref 1 0)), (8, (vi k)), (19, (.tv (.sl 136 s_api_Block) t19)), (20, (vi t20)), (21, (vi t21))] [(0, ⟨(.arr 1 24 (.sl 16 s_api_Pos) out), 0, [], false, none⟩), (1, ⟨(.cells [(.tv (.sl 8 I) b_0), (.tv (.sl 80 s_api_Instr) b_1), (vi b_2), (.tv (.sl 8 I) b_3), (.tv (.sl 8 I) b_4), (.tv (.sl 32 s_api_Edge) b_5), (vi b_6)]), 1, [], false, none⟩)] 2
noncomputable def r20_collect_L4 (writes : Bool) (f : Den s_api_Func) (i : Int) (k : Int) (t19 : List (Den s_api_Block)) (t20 : Int) (t21 : Int) (t43 : List (Den I)) (t44 : Int) (t45 : Int) (out : List (Den (.sl 16 s_api_Pos))) (b_0 : List (Den I)) (b_1 : List (Den s_api_Instr)) (b_2 : Int) (b_3 : List (Den I)) (b_4 : List (Den I)) (b_5 : List (Den s_api_Edge)) (b_6 : Int) (at_ : Den s_api_Pos) : Cfg := hcfg E_C12 f_r20_collect 4 [(1, (vb writes)), (2, (.rtp s_api_Func f)), (5, (.osl 0 0 [] none)), (6, (vi i)), (7, (.ref 1 0)), (8, (vi k)), (9, (.tref 2 2 [] (0 : Nat) [])), (19, (.tv (.sl 136 s_api_Block) t19)), (20, (vi t20)), (21, (vi t21)), (43, (.tv (.sl 8 I) t43)), (44, (vi t44)), (45, (vi t45))] [(0, ⟨(.arr 1 24 (.sl 16 s_api_Pos) out), 0, [], false, none⟩), (1, ⟨(.cells [(.tv (.sl 8 I) b_0), (.tv (.sl 80 s_api_Instr) b_1), (vi b_2), (.tv (.sl 8 I) b_3), (.tv (.sl 8 I) b_4), (.tv (.sl 32 s_api_Edge) b_5), (vi b_6)]), 1, [], false, none⟩), (2, ⟨(.arr 0 16 s_api_Pos ([at_] : List (Den s_api_Pos))), 2, [], false, none⟩)] 3
theorem r20_collect_t (f : Den s_api_Func) (writes : Bool) : run E_C12 H_C12 f_r20_collect 3000 (start E_C12 f_r20_collect [(.tv s_api_Func f), (vb writes)]) = (.chk (((ln I f.2.2.2.1) : Int) = ((ln I f.2.2.2.1) : Int)) (.chk (0 ≤ ((ln I f.2.2.2.1) : Int)) (.chk ((ln I f.2.2.2.1) * 24 ≤ roomB) (hd (r20_collect_L0 writes f f.2.2.2.2.1 ((ln s_api_Block f.2.2.2.2.1) : Int) (0 : Int) (List.replicate (ln I f.2.2.2.1) (dz (.sl 16 s_api_Pos)))))))) := by kernel_rfl
theorem r20_collect_L0_t (writes : Bool) (f : Den s_api_Func) (t19 : List (Den s_api_Block)) (t20 : Int) (t21 : Int) (out : List (Den (.sl 16 s_api_Pos))) : run E_C12 H_C12 f_r20_collect 3000 (r20_collect_L0 writes f t19 t20 t21 out) = (cond (decide (t21 < t20)) (.chk (0 ≤ t21 ∧ t21 < (ln s_api_Block t19)) (hd (r20_collect_L2 writes f t21 (-1 : Int) t19 t20 t21 out ((gd s_api_Block t19 ((t21).toNat)).1) (((gd s_api_Block t19 ((t21).toNat)).2).1) (z (((((gd s_api_Block t19 ((t21).toNat)).2).2).1).1)) ((((((gd s_api_Block t19 ((t21).toNat)).2).2).1).2).1) (((((((gd s_api_Block t19 ((t21).toNat)).2).2).1).2).2).1) ((((((((gd s_api_Block t19 ((t21).toNat)).2).2).1).2).2).2).1) (z (((((((((gd s_api_Block t19 ((t21).toNat)).2).2).1).2).2).2).2).1))))) (rt (.tv (.sl 24 (.sl 16 s_api_Pos)) out) [])) := by kernel_rfl
theorem r20_collect_L2_t (writes : Bool) (f : Den s_api_Func) (i : Int) (k : Int) (t19 : List (Den s_api_Block)) (t20 : Int) (t21 : Int) (out : List (Den (.sl 16 s_api_Pos))) (b_0 : List (Den I)) (b_1 : List (Den s_api_Instr)) (b_2 : Int) (b_3 : List (Den I)) (b_4 : List (Den I)) (b_5 : List (Den s_api_Edge)) (b_6 : Int) : run E_C12 H_C12 f_r20_collect 3000 (r20_collect_L2 writes f i k t19 t20 t21 out b_0 b_1 b_2 b_3 b_4 b_5 b_6) = (cond (decide (k ≤ ((ln s_api_Instr b_1) : Int))) (.chk ((0 : Nat) < (1 : Nat)) (.chk ((0 : Nat) < (1 : Nat)) (.chk (smallF f) (.know (okD (.sl 8 I) (readsF f (i, k, ()))) (cond writes (.chk ((0 : Nat) < (1 : Nat)) (.chk (smallF f) (.know (okD (.sl 8 I) (writesF f (i, k, ()))) (hd (r20_collect_L4 writes f i k t19 t20 t21 (writesF f (i, k, ())) ((ln I (writesF f (i, k, ()))) : Int) (0 : Int) out b_0 b_1 b_2 b_3 b_4 b_5 b_6 (i, k, ())))))) (hd (r20_collect_L4 writes f i k t19 t20 t21 (readsF f (i, k, ())) ((ln I (readsF f (i, k, ()))) : Int) (0 : Int) out b_0 b_1 b_2 b_3 b_4 b_5 b_6 (i, k, ())))))))) (hd (r20_collect_L0 writes f t19 t20 (IntKind.wrap .i64 (t21 + (1 : Int))) out))) := by kernel_rfl
theorem r20_collect_L4_t (writes : Bool) (f : Den s_api_Func) (i : Int) (k : Int) (t19 : List (Den s_api_Block)) (t20 : Int) (t21 : Int) (t43 : List (Den I)) (t44 : Int) (t45 : Int) (out : List (Den (.sl 16 s_api_Pos))) (b_0 : List (Den I)) (b_1 : List (Den s_api_Instr)) (b_2 : Int) (b_3 : List (Den I)) (b_4 : List (Den I)) (b_5 : List (Den s_api_Edge)) (b_6 : Int) (at_ : Den s_api_Pos) : run E_C12 H_C12 f_r20_collect 3000 (r20_collect_L4 writes f i k t19 t20 t21 t43 t44 t45 out b_0 b_1 b_2 b_3 b_4 b_5 b_6 at_) = (cond (decide (t45 < t44)) (.chk (0 ≤ t45 ∧ t45 < (ln I t43)) (cond (decide ((z (gd I t43 ((t45).toNat))) < (0 : Int))) (hd (r20_collect_L4 writes f i k t19 t20 t21 t43 t44 (IntKind.wrap .i64 (t45 + (1 : Int))) out b_0 b_1 b_2 b_3 b_4 b_5 b_6 at_)) (cond (decide ((z (gd I t43 ((t45).toNat))) ≥ ((ln I f.2.2.2.1) : Int))) (hd (r20_collect_L4 writes f i k t19 t20 t21 t43 t44 (IntKind.wrap .i64 (t45 + (1 : Int))) out b_0 b_1 b_2 b_3 b_4 b_5 b_6 at_)) (.chk (0 ≤ (z (gd I t43 ((t45).toNat))) ∧ (z (gd I t43 ((t45).toNat))) < (ln (.sl 16 s_api_Pos) out)) (.chk (((z (gd I t43 ((t45).toNat)))).toNat < (ln (.sl 16 s_api_Pos) out)) (.chk (((z (gd I t43 ((t45).toNat)))).toNat < (ln (.sl 16 s_api_Pos) out)) (cond (((ln s_api_Pos (gd (.sl 16 s_api_Pos) out (((z (gd I t43 ((t45).toNat)))).toNat))) : Int) == (0 : Int)) (.chk (0 ≤ (z (gd I t43 ((t45).toNat))) ∧ (z (gd I t43 ((t45).toNat))) < (ln (.sl 16 s_api_Pos) out)) (.chk (((z (gd I t43 ((t45).toNat)))).toNat < (ln (.sl 16 s_api_Pos) out)) (.chk ((0 : Nat) < (1 : Nat)) (.chk (((z (gd I t43 ((t45).toNat)))).toNat < (ln (.sl 16 s_api_Pos) out)) (.chk (((ln s_api_Pos (gd (.sl 16 s_api_Pos) out (((z (gd I t43 ((t45).toNat)))).toNat))) + (1 : Nat)) * 16 ≤ roomB) (.chk (0 ≤ (z (gd I t43 ((t45).toNat))) ∧ (z (gd I t43 ((t45).toNat))) < (ln (.sl 16 s_api_Pos) (st (.sl 16 s_api_Pos) out (((z (gd I t43 ((t45).toNat)))).toNat) (ap s_api_Pos (gd (.sl 16 s_api_Pos) out (((z (gd I t43 ((t45).toNat)))).toNat)) ([at_] : List (Den s_api_Pos)))))) (.chk (((z (gd I t43 ((t45).toNat)))).toNat = ((z (gd I t43 ((t45).toNat)))).toNat) (.chk (((z (gd I t43 ((t45).toNat)))).toNat = ((z (gd I t43 ((t45).toNat)))).toNat) (hd (r20_collect_L4 writes f i k t19 t20 t21 t43 t44 (IntKind.wrap .i64 (t45 + (1 : Int))) (st (.sl 16 s_api_Pos) out (((z (gd I t43 ((t45).toNat)))).toNat) (ap s_api_Pos (gd (.sl 16 s_api_Pos) out (((z (gd I t43 ((t45).toNat)))).toNat)) ([at_] : List (Den s_api_Pos)))) b_0 b_1 b_2 b_3 b_4 b_5 b_6 at_)))))))))) (.chk (0 ≤ (z (gd I t43 ((t45).toNat))) ∧ (z (gd I t43 ((t45).toNat))) < (ln (.sl 16 s_api_Pos) out)) (.chk (((z (gd I t43 ((t45).toNat)))).toNat < (ln (.sl 16 s_api_Pos) out)) (.chk (((z (gd I t43 ((t45).toNat)))).toNat < (ln (.sl 16 s_api_Pos) out)) (.chk (0 ≤ (IntKind.wrap .i64 (((ln s_api_Pos (gd (.sl 16 s_api_Pos) out (((z (gd I t43 ((t45).toNat)))).toNat))) : Int) - (1 : Int))) ∧ (IntKind.wrap .i64 (((ln s_api_Pos (gd (.sl 16 s_api_Pos) out (((z (gd I t43 ((t45).toNat)))).toNat))) : Int) - (1 : Int))) < (ln s_api_Pos (gd (.sl 16 s_api_Pos) out (((z (gd I t43 ((t45).toNat)))).toNat)))) (.chk (((z (gd I t43 ((t45).toNat)))).toNat < (ln (.sl 16 s_api_Pos) out)) (.chk (((IntKind.wrap .i64 (((ln s_api_Pos (gd (.sl 16 s_api_Pos) out (((z (gd I t43 ((t45).toNat)))).toNat))) : Int) - (1 : Int)))).toNat < (ln s_api_Pos (gd (.sl 16 s_api_Pos) out (((z (gd I t43 ((t45).toNat)))).toNat)))) (.chk ((0 : Nat) < (1 : Nat)) (cond (!(((z ((gd s_api_Pos (gd (.sl 16 s_api_Pos) out (((z (gd I t43 ((t45).toNat)))).toNat)) (((IntKind.wrap .i64 (((ln s_api_Pos (gd (.sl 16 s_api_Pos) out (((z (gd I t43 ((t45).toNat)))).toNat))) : Int) - (1 : Int)))).toNat)).1)) == (z at_.1)) && (((z (((gd s_api_Pos (gd (.sl 16 s_api_Pos) out (((z (gd I t43 ((t45).toNat)))).toNat)) (((IntKind.wrap .i64 (((ln s_api_Pos (gd (.sl 16 s_api_Pos) out (((z (gd I t43 ((t45).toNat)))).toNat))) : Int) - (1 : Int)))).toNat)).2).1)) == (z at_.2.1)) && true))) (.chk (0 ≤ (z (gd I t43 ((t45).toNat))) ∧ (z (gd I t43 ((t45).toNat))) < (ln (.sl 16 s_api_Pos) out)) (.chk (((z (gd I t43 ((t45).toNat)))).toNat < (ln (.sl 16 s_api_Pos) out)) (.chk ((0 : Nat) < (1 : Nat)) (.chk (((z (gd I t43 ((t45).toNat)))).toNat < (ln (.sl 16 s_api_Pos) out)) (.chk (((ln s_api_Pos (gd (.sl 16 s_api_Pos) out (((z (gd I t43 ((t45).toNat)))).toNat))) + (1 : Nat)) * 16 ≤ roomB) (.chk (0 ≤ (z (gd I t43 ((t45).toNat))) ∧ (z (gd I t43 ((t45).toNat))) < (ln (.sl 16 s_api_Pos) (st (.sl 16 s_api_Pos) out (((z (gd I t43 ((t45).toNat)))).toNat) (ap s_api_Pos (gd (.sl 16 s_api_Pos) out (((z (gd I t43 ((t45).toNat)))).toNat)) ([at_] : List (Den s_api_Pos)))))) (.chk (((z (gd I t43 ((t45).toNat)))).toNat = ((z (gd I t43 ((t45).toNat)))).toNat) (.chk (((z (gd I t43 ((t45).toNat)))).toNat = ((z (gd I t43 ((t45).toNat)))).toNat) (hd (r20_collect_L4 writes f i k t19 t20 t21 t43 t44 (IntKind.wrap .i64 (t45 + (1 : Int))) (st (.sl 16 s_api_Pos) out (((z (gd I t43 ((t45).toNat)))).toNat) (ap s_api_Pos (gd (.sl 16 s_api_Pos) out (((z (gd I t43 ((t45).toNat)))).toNat)) ([at_] : List (Den s_api_Pos)))) b_0 b_1 b_2 b_3 b_4 b_5 b_6 at_)))))))))) (hd (r20_collect_L4 writes f i k t19 t20 t21 t43 t44 (IntKind.wrap .i64 (t45 + (1 : Int))) out b_0 b_1 b_2 b_3 b_4 b_5 b_6 at_))))))))))))))))) (hd (r20_collect_L2 writes f i (IntKind.wrap .i64 (k + (1 : Int))) t19 t20 t21 out b_0 b_1 b_2 b_3 b_4 b_5 b_6))) := by kernel_rfl
def rwF (w : Bool) (f : Fn) (p : Den s_api_Pos) : Den (.sl 8 I) := cond w (writesF f p) (readsF f p)
theorem rwF_len {w : Bool} {f : Fn} (hp : smallF f) (p : Den s_api_Pos) : ln I (rwF w f p) ≤ 1048576 := by
  cases w
  · exact readsF_len hp p
  · exact writesF_len hp p
def rwC (f : Fn) (w : Bool) : Den (.sl 24 (.sl 16 s_api_Pos)) := collectF (rwF w) f
theorem stepL_ln {p : Den s_api_Pos} : ∀ {rs : List (Den I)} {out : List (Den (.sl 16 s_api_Pos))}, ln (.sl 16 s_api_Pos) (stepL p rs out) = ln (.sl 16 s_api_Pos) out
  | [], _ => rfl
  | r :: rs, out => (stepL_ln (rs := rs)).trans step1_ln
theorem colB_ln {R : Fn → Den s_api_Pos → Den (.sl 8 I)} {f : Fn} {b : Nat} : ∀ {n k : Nat} {out : List (Den (.sl 16 s_api_Pos))}, ln (.sl 16 s_api_Pos) (colB R f b n k out) = ln (.sl 16 s_api_Pos) out
  | 0, _, _ => rfl
  | n + 1, k, out => (colB_ln (n := n) (k := k + 1)).trans stepL_ln
theorem rcol_l4 {Q : AV → Heap → Prop} (w : Bool) (f : Fn) (i k0 n b : Int) (l : List (Den s_api_Block)) (b0 b3 b4 : List (Den I)) (b1 : List (Den s_api_Instr)) (b2 b6 : Int) (b5 : List (Den s_api_Edge)) (rs : List (Den I)) (hrs : ln I rs ≤ 1048576) (p : Den s_api_Pos) : ∀ k, k ≤ ln I rs → ∀ (out : List (Den (.sl 16 s_api_Pos))) (c : Nat), ln (.sl 16 s_api_Pos) out = ln I f.2.2.2.1 → bnd out c → c + (ln I rs - k) ≤ 4398046511104 → Runs E_C12 (r20_collect_L2 w f i (IntKind.wrap .i64 (k0 + 1)) l n b (stepL p (rs.drop k) out) b0 b1 b2 b3 b4 b5 b6) Q → Runs E_C12 (r20_collect_L4 w f i k0 l n b rs (ln I rs : Nat) k out b0 b1 b2 b3 b4 b5 b6 p) Q :=
  up_ind (fun out c _ _ _ hn => .tree E_C12_ok (r20_collect_L4_t _ _ _ _ _ _ _ _ _ _ _ _ _ _ _ _ _ _ _) (by
    rw [drop_ln] at hn
    simp only [wp_iff, chk_iff, know_iff, any_iff, rt_iff, hd_iff, true_imp_iff, true_and, and_true, and_self, lt01, Int.ofNat_lt, Int.ofNat_le, Int.natCast_nonneg, Int.toNat_natCast, decide_true, decide_false, Bool.true_eq_false, Bool.false_eq_true, false_imp_iff, Nat.lt_irrefl, imp_self, implies_true,  stepL] at hn ⊢
    exact hn))
    fun k hk ih out c ho hb hc hn => .tree E_C12_ok (r20_collect_L4_t _ _ _ _ _ _ _ _ _ _ _ _ _ _ _ _ _ _ _) (by
      rw [drop_gd hk, stepL] at hn
      have ih := ih (step1 p out (z (gd I rs k))) (c + 1) (step1_ln.trans ho) (step1_bnd hb) (by omega) hn
      clear hn
      simp only [wp_iff, chk_iff, know_iff, any_iff, rt_iff, hd_iff, true_imp_iff, true_and, and_true, and_self, lt01, Int.ofNat_lt, Int.ofNat_le, Int.natCast_nonneg, Int.toNat_natCast, decide_true, decide_false, Bool.true_eq_false, Bool.false_eq_true, false_imp_iff, Nat.lt_irrefl, imp_self, implies_true,  hk, wrapS hk (show ln I rs < 9223372036854775807 by omega)]
      rw [← ho]
      unfold step1 at ih
      refine ⟨fun h1 => ?_, fun h1 => ⟨fun h2 => ?_, fun h2 => ?_⟩⟩
      · rw [if_pos (.inl (of_decide_eq_true h1))] at ih
        exact ih
      · rw [if_pos (.inr (of_decide_eq_true h2))] at ih
        exact ih
      · have a1 := of_decide_eq_false h1
        have a2 := of_decide_eq_false h2
        rw [if_neg (by omega)] at ih
        have f1 : 0 ≤ z (gd I rs k) ∧ z (gd I rs k) < (ln (.sl 16 s_api_Pos) out : Int) := ⟨by omega, by omega⟩
        have f2 : (z (gd I rs k)).toNat < ln (.sl 16 s_api_Pos) out := by omega
        have hG := hb (z (gd I rs k)).toNat
        have f3 : (ln s_api_Pos (gd (.sl 16 s_api_Pos) out (z (gd I rs k)).toNat) + 1) * 16 ≤ roomB := roomM (by omega)
        simp only [f1, f2, f3, ln_st, true_imp_iff, true_and, and_self, lt01]
        refine ⟨fun h3 => ?_, fun h3 => ?_⟩
        · have a3 : ln s_api_Pos (gd (.sl 16 s_api_Pos) out (z (gd I rs k)).toNat) = 0 := by simpa using h3
          rw [if_neg (by unfold lastIs; rw [a3]; simp)] at ih
          exact ih
        · have a3 : 0 < ln s_api_Pos (gd (.sl 16 s_api_Pos) out (z (gd I rs k)).toNat) := by
            have : (ln s_api_Pos (gd (.sl 16 s_api_Pos) out (z (gd I rs k)).toNat) : Int) ≠ 0 := by simpa using h3
            omega
          have hw : IntKind.wrap .i64 ((ln s_api_Pos (gd (.sl 16 s_api_Pos) out (z (gd I rs k)).toNat) : Int) - 1) = ((ln s_api_Pos (gd (.sl 16 s_api_Pos) out (z (gd I rs k)).toNat) - 1 : Nat) : Int) := by
            rw [wrap64 _ (by omega) (by omega)]
            omega
          have f4 : (0 : Int) ≤ ((ln s_api_Pos (gd (.sl 16 s_api_Pos) out (z (gd I rs k)).toNat) - 1 : Nat) : Int) ∧ ((ln s_api_Pos (gd (.sl 16 s_api_Pos) out (z (gd I rs k)).toNat) - 1 : Nat) : Int) < (ln s_api_Pos (gd (.sl 16 s_api_Pos) out (z (gd I rs k)).toNat) : Int) := ⟨by omega, by omega⟩
          have f5 : ln s_api_Pos (gd (.sl 16 s_api_Pos) out (z (gd I rs k)).toNat) - 1 < ln s_api_Pos (gd (.sl 16 s_api_Pos) out (z (gd I rs k)).toNat) := by omega
          simp only [hw, f4, f5, Int.toNat_natCast, true_imp_iff, true_and, and_self, lt01]
          have hl : lastIs (gd (.sl 16 s_api_Pos) out (z (gd I rs k)).toNat) p = eP (gd s_api_Pos (gd (.sl 16 s_api_Pos) out (z (gd I rs k)).toNat) (ln s_api_Pos (gd (.sl 16 s_api_Pos) out (z (gd I rs k)).toNat) - 1)) p := by
            unfold lastIs
            rw [show decide ((ln s_api_Pos (gd (.sl 16 s_api_Pos) out (z (gd I rs k)).toNat) : Int) > 0) = true by simp; omega, Bool.true_and]
          rw [hl] at ih
          refine ⟨fun h4 => ?_, fun h4 => ?_⟩
          · have h4' : eP (gd s_api_Pos (gd (.sl 16 s_api_Pos) out (z (gd I rs k)).toNat) (ln s_api_Pos (gd (.sl 16 s_api_Pos) out (z (gd I rs k)).toNat) - 1)) p = false := by
              have h5 : (!(eP (gd s_api_Pos (gd (.sl 16 s_api_Pos) out (z (gd I rs k)).toNat) (ln s_api_Pos (gd (.sl 16 s_api_Pos) out (z (gd I rs k)).toNat) - 1)) p)) = true := h4
              simpa using h5
            rw [if_neg (by rw [h4']; decide)] at ih
            exact ih
          · have h4' : eP (gd s_api_Pos (gd (.sl 16 s_api_Pos) out (z (gd I rs k)).toNat) (ln s_api_Pos (gd (.sl 16 s_api_Pos) out (z (gd I rs k)).toNat) - 1)) p = true := by
              have h5 : (!(eP (gd s_api_Pos (gd (.sl 16 s_api_Pos) out (z (gd I rs k)).toNat) (ln s_api_Pos (gd (.sl 16 s_api_Pos) out (z (gd I rs k)).toNat) - 1)) p)) = false := h4
              simpa using h5
            rw [if_pos h4'] at ih
            exact ih)
theorem rcol_l2 {Q : AV → Heap → Prop} (w : Bool) (f : Fn) (hp : smallF f) (b : Nat) (l : List (Den s_api_Block)) (b0 b3 b4 : List (Den I)) (b1 : List (Den s_api_Instr)) (b2 b6 : Int) (b5 : List (Den s_api_Edge)) (N : Nat) (hN : N = ln s_api_Instr b1 + 2) (hN2 : N ≤ 2097154) (n : Int) : ∀ k, k ≤ N → ∀ (out : List (Den (.sl 16 s_api_Pos))) (c : Nat), ln (.sl 16 s_api_Pos) out = ln I f.2.2.2.1 → bnd out c → c + (N - k) * 1048576 ≤ 4398046511104 → Runs E_C12 (r20_collect_L0 w f l n (IntKind.wrap .i64 ((b : Int) + 1)) (colB (rwF w) f b (N - k) k out)) Q → Runs E_C12 (r20_collect_L2 w f b ((k : Int) - 1) l n b out b0 b1 b2 b3 b4 b5 b6) Q :=
  up_ind (fun out c _ _ _ hn => .tree E_C12_ok (r20_collect_L2_t _ _ _ _ _ _ _ _ _ _ _ _ _ _ _) (by
    have h1 : ¬ ((N : Int) - 1 ≤ (ln s_api_Instr b1 : Int)) := by omega
    rw [Nat.sub_self] at hn
    simp only [wp_iff, chk_iff, know_iff, any_iff, rt_iff, hd_iff, true_imp_iff, true_and, and_true, and_self, lt01, Int.ofNat_lt, Int.ofNat_le, Int.natCast_nonneg, Int.toNat_natCast, decide_true, decide_false, Bool.true_eq_false, Bool.false_eq_true, false_imp_iff, Nat.lt_irrefl, imp_self, implies_true,  h1]
    exact hn))
    fun k hk ih out c ho hb hc hn => .tree E_C12_ok (r20_collect_L2_t _ _ _ _ _ _ _ _ _ _ _ _ _ _ _) (by
      have hRl := rwF_len (w := w) hp (posA b k)
      have h1 : (k : Int) - 1 ≤ (ln s_api_Instr b1 : Int) := by omega
      have hk2 : N - k = (N - (k + 1)) + 1 := by omega
      rw [hk2, colB] at hn
      rw [hk2, Nat.succ_mul] at hc
      have ih := ih (stepL (posA b k) (rwF w f (posA b k)) out) (c + ln I (rwF w f (posA b k))) (stepL_ln.trans ho) (stepL_bnd hb) (by omega) hn
      have hw : IntKind.wrap .i64 ((k : Int) - 1 + 1) = ((k + 1 : Nat) : Int) - 1 := by
        rw [wrap64 _ (by omega) (by omega)]
        omega
      have l4 := rcol_l4 (Q := Q) w f b ((k : Int) - 1) n b l b0 b3 b4 b1 b2 b6 b5 (rwF w f (posA b k)) hRl (posA b k) 0 (Nat.zero_le _) out c ho hb (by omega) (by rw [hw]; exact ih)
      simp only [wp_iff, chk_iff, know_iff, any_iff, rt_iff, hd_iff, true_imp_iff, true_and, and_true, and_self, lt01, Int.ofNat_lt, Int.ofNat_le, Int.natCast_nonneg, Int.toNat_natCast, decide_true, decide_false, Bool.true_eq_false, Bool.false_eq_true, false_imp_iff, Nat.lt_irrefl, imp_self, implies_true,  h1]
      cases w
      · exact ⟨hp, fun _ _ => ⟨fun h => absurd h (by decide), fun _ => l4⟩⟩
      · exact ⟨hp, fun _ _ => ⟨fun _ => ⟨hp, fun _ _ => l4⟩, fun h => absurd h (by decide)⟩⟩)
theorem rcol_l0 (w : Bool) (f : Fn) (hp : smallF f) (l : List (Den s_api_Block)) (hl : blocks f = l) (hr : room 136 (ln s_api_Block l)) (Y : Den (.sl 24 (.sl 16 s_api_Pos))) : ∀ b, b ≤ ln s_api_Block l → ∀ (out : List (Den (.sl 16 s_api_Pos))) (c : Nat), ln (.sl 16 s_api_Pos) out = ln I f.2.2.2.1 → bnd out c → c + 2 * szD (.sl 136 s_api_Block) (l.drop b) * 1048576 ≤ 4398046511104 → colF (rwF w) f (ln s_api_Block l - b) b out = Y → Runs E_C12 (r20_collect_L0 w f l (ln s_api_Block l : Nat) b out) (fun x h => x = .tv (.sl 24 (.sl 16 s_api_Pos)) Y ∧ h = []) :=
  up_ind (fun out c _ _ _ hY => .tree E_C12_ok (r20_collect_L0_t _ _ _ _ _ _) (by
    rw [Nat.sub_self, colF] at hY
    simp only [wp_iff, chk_iff, know_iff, any_iff, rt_iff, hd_iff, true_imp_iff, true_and, and_true, and_self, lt01, Int.ofNat_lt, Int.ofNat_le, Int.natCast_nonneg, Int.toNat_natCast, decide_true, decide_false, Bool.true_eq_false, Bool.false_eq_true, false_imp_iff, Nat.lt_irrefl, imp_self, implies_true,  hY]))
    fun b hb ih out c ho hc hM hY => .tree E_C12_ok (r20_collect_L0_t _ _ _ _ _ _) (by
      have e : ln s_api_Block l - b = (ln s_api_Block l - (b + 1)) + 1 := by omega
      rw [e, colF, hl] at hY
      rw [drop_gd hb, sz_cons] at hM
      have hsz := sz_blk (gd s_api_Block l b)
      have h80 : ln s_api_Instr (gd s_api_Block l b).2.1 ≤ szD (.sl 80 s_api_Instr) (gd s_api_Block l b).2.1 := sz_ln
      have hbl : b < ln s_api_Block (blocks f) := by rw [hl]; exact hb
      have hsm := small_b hp (n := (b : Int)) (by omega)
      have hblk : blk f (b : Int) = gd s_api_Block l b := by unfold blk; rw [hl]; rfl
      rw [hblk] at hsm
      generalize hN : ln s_api_Instr (bIns (gd s_api_Block l b)) + 2 = N at hY
      have hN' : ln s_api_Instr (gd s_api_Block l b).2.1 + 2 = N := hN
      have hcB := colB_bnd (R := rwF w) (rwF_len hp) (b := b) (n := N) (k := 0) hc
      have hN2 : N ≤ 2097154 := by omega
      have hN0 : N ≤ 2 * (szD s_api_Block (gd s_api_Block l b) + 1) := by omega
      have hA := arithN hN0 hM
      have hN3 : c + (N - 0) * 1048576 ≤ 4398046511104 := Nat.le_trans (Nat.le_add_right _ _) hA
      have hrun := ih _ _ (colB_ln.trans ho) hcB hA hY
      rw [← wrapS hb (room_lt hr)] at hrun
      have := fun x0 x1 x2 x3 x4 x5 x6 (hx : N = ln s_api_Instr x1 + 2) => rcol_l2 (Q := fun x h => x = .tv (.sl 24 (.sl 16 s_api_Pos)) Y ∧ h = []) w f hp b l x0 x3 x4 x1 x2 x6 x5 N hx hN2 (ln s_api_Block l : Nat) 0 (Nat.zero_le _) out c ho hc hN3 hrun
      simp only [wp_iff, chk_iff, know_iff, any_iff, rt_iff, hd_iff, true_imp_iff, true_and, and_true, and_self, lt01, Int.ofNat_lt, Int.ofNat_le, Int.natCast_nonneg, Int.toNat_natCast, decide_true, decide_false, Bool.true_eq_false, Bool.false_eq_true, false_imp_iff, Nat.lt_irrefl, imp_self, implies_true,  hb]
      exact this _ _ _ _ _ _ _ hN'.symm)
def k_r20_collect : Con := con [.d s_api_Func, .d .bool] (.sl 24 (.sl 16 s_api_Pos)) (fun x => smallF x.1) fun x => rwC x.1 x.2.1
theorem m_r20_collect (f : Den s_api_Func) (writes : Bool) (h_f : okD s_api_Func f) (h_writes : okD .bool writes) (hp : smallF f) : Runs E_C12 (start E_C12 f_r20_collect [(.tv s_api_Func f), (vb writes)]) (fun r_ h_ => r_ = (.tv (.sl 24 (.sl 16 s_api_Pos)) (rwC f writes)) ∧ h_ = []) := .tree E_C12_ok (r20_collect_t f writes) (by
  simp only [wp_iff, chk_iff, know_iff, any_iff, rt_iff, hd_iff, true_imp_iff, true_and, and_true, and_self, lt01]
  have ho := okB_of h_f
  have h2 := sz_func f
  have h3 := hp
  unfold smallF at h3
  refine ⟨by omega, fun _ => ⟨?_, fun _ => ?_⟩⟩
  · have : ln I f.2.2.2.1 ≤ 1048576 := by
      have := sz_I f.2.2.2.1
      omega
    unfold roomB
    omega
  · exact rcol_l0 writes f hp (blocks f) rfl ho.1 (rwC f writes) 0 (Nat.zero_le _) _ 0 (List.length_replicate ..) (fun r => by rw [gd_rep]; exact Nat.le_refl _) (by
      show 0 + 2 * szD (.sl 136 s_api_Block) f.2.2.2.2.1 * 1048576 ≤ _
      omega) rfl)
theorem c_r20_collect : SpecOK E_C12 f_r20_collect k_r20_collect.spec := spec_of fun x hx hp => ⟨rfl, m_r20_collect x.1 x.2.1 hx.1 hx.2.1 hp⟩
def L_C12 : List (FuncId × FSpec) := [(f_r20_collect, k_r20_collect.spec)] ++ L_C11
theorem L_C12_ok : ∀ x ∈ L_C12, SpecOK (ctx []) x.1 x.2 := by
  unfold L_C12
  simp only [List.cons_append, List.nil_append, List.forall_mem_cons]
  exact ⟨c_r20_collect, L_C11_ok⟩
end Burn.M20
namespace Burn.M20
open Go Go.BE Go.Proofs
set_option maxRecDepth 100000
set_option linter.unusedVariables false
set_option linter.unusedSimpArgs false
open Burn.Cfg
noncomputable abbrev E_C13 : Ctx := ctx L_C12
theorem E_C13_ok : EOK E_C13 := ctx_ok L_C12_ok
def cuts_C13 : CutL := [([], 21, 0, [0, 1, 12, 13], [], []),
  ([], 23, 0, [0, 1, 12, 13], [], [])]
def rets_C13 : FuncId → List (Option Fx)
  | 25 => [some (.dat (.sl 24 (.sl 16 s_api_Pos)))]
  | 27 => [some (.dat (.sl 24 (.sl 16 s_api_Pos)))]
  | _ => []
def H_C13 : Hints := { cut := cutOf cuts_C13, ret := rets_C13 }
noncomputable def law20_lists_int_L0 (a : List (Den (.sl 8 I))) (b : List (Den (.sl 8 I))) (t12 : Int) (t13 : Int) : Cfg := hcfg E_C13 f_law20_lists_int 0 [(0, (.tv (.sl 24 (.sl 8 I)) a)), (1, (.tv (.sl 24 (.sl 8 I)) b)), (12, (vi t12)), (13, (vi t13))] [] 0
theorem law20_lists_int_t (a : List (Den (.sl 8 I))) (b : List (Den (.sl 8 I))) : run E_C13 H_C13 f_law20_lists_int 3000 (start E_C13 f_law20_lists_int [(.tv (.sl 24 (.sl 8 I)) a), (.tv (.sl 24 (.sl 8 I)) b)]) = (cond (((ln (.sl 8 I) a) : Int) != ((ln (.sl 8 I) b) : Int)) (rt (vb false) []) (hd (law20_lists_int_L0 a b ((ln (.sl 8 I) a) : Int) (0 : Int)))) := by kernel_rfl
theorem law20_lists_int_L0_t (a : List (Den (.sl 8 I))) (b : List (Den (.sl 8 I))) (t12 : Int) (t13 : Int) : run E_C13 H_C13 f_law20_lists_int 3000 (law20_lists_int_L0 a b t12 t13) = (cond (decide (t13 < t12)) (.chk (0 ≤ t13 ∧ t13 < (ln (.sl 8 I) a)) (.chk (0 ≤ t13 ∧ t13 < (ln (.sl 8 I) b)) (.chk (True) (.know True (cond (!(eqI (gd (.sl 8 I) a ((t13).toNat)) (gd (.sl 8 I) b ((t13).toNat)))) (rt (vb false) []) (hd (law20_lists_int_L0 a b t12 (IntKind.wrap .i64 (t13 + (1 : Int)))))))))) (rt (vb true) [])) := by kernel_rfl
noncomputable def law20_lists_api_Pos_L0 (a : List (Den (.sl 16 s_api_Pos))) (b : List (Den (.sl 16 s_api_Pos))) (t12 : Int) (t13 : Int) : Cfg := hcfg E_C13 f_law20_lists_api_Pos 0 [(0, (.tv (.sl 24 (.sl 16 s_api_Pos)) a)), (1, (.tv (.sl 24 (.sl 16 s_api_Pos)) b)), (12, (vi t12)), (13, (vi t13))] [] 0
theorem law20_lists_api_Pos_t (a : List (Den (.sl 16 s_api_Pos))) (b : List (Den (.sl 16 s_api_Pos))) : run E_C13 H_C13 f_law20_lists_api_Pos 3000 (start E_C13 f_law20_lists_api_Pos [(.tv (.sl 24 (.sl 16 s_api_Pos)) a), (.tv (.sl 24 (.sl 16 s_api_Pos)) b)]) = (cond (((ln (.sl 16 s_api_Pos) a) : Int) != ((ln (.sl 16 s_api_Pos) b) : Int)) (rt (vb false) []) (hd (law20_lists_api_Pos_L0 a b ((ln (.sl 16 s_api_Pos) a) : Int) (0 : Int)))) := by kernel_rfl
theorem law20_lists_api_Pos_L0_t (a : List (Den (.sl 16 s_api_Pos))) (b : List (Den (.sl 16 s_api_Pos))) (t12 : Int) (t13 : Int) : run E_C13 H_C13 f_law20_lists_api_Pos 3000 (law20_lists_api_Pos_L0 a b t12 t13) = (cond (decide (t13 < t12)) (.chk (0 ≤ t13 ∧ t13 < (ln (.sl 16 s_api_Pos) a)) (.chk (0 ≤ t13 ∧ t13 < (ln (.sl 16 s_api_Pos) b)) (.chk (True) (.know True (cond (!(eqP (gd (.sl 16 s_api_Pos) a ((t13).toNat)) (gd (.sl 16 s_api_Pos) b ((t13).toNat)))) (rt (vb false) []) (hd (law20_lists_api_Pos_L0 a b t12 (IntKind.wrap .i64 (t13 + (1 : Int)))))))))) (rt (vb true) [])) := by kernel_rfl
theorem r20_Uses_t (f : Den s_api_Func) : run E_C13 H_C13 f_r20_Uses 3000 (start E_C13 f_r20_Uses [(.tv s_api_Func f)]) = (.chk (smallF f) (.know (okD (.sl 24 (.sl 16 s_api_Pos)) (rwC f false)) (rt (.tv (.sl 24 (.sl 16 s_api_Pos)) (rwC f false)) []))) := by kernel_rfl
theorem r20_Defs_t (f : Den s_api_Func) : run E_C13 H_C13 f_r20_Defs 3000 (start E_C13 f_r20_Defs [(.tv s_api_Func f)]) = (.chk (smallF f) (.know (okD (.sl 24 (.sl 16 s_api_Pos)) (rwC f true)) (rt (.tv (.sl 24 (.sl 16 s_api_Pos)) (rwC f true)) []))) := by kernel_rfl
def eqLI (a b : List (Den (.sl 8 I))) : Bool := eqL eqI a b
def eqLP (a b : List (Den (.sl 16 s_api_Pos))) : Bool := eqL eqP a b
def rUses (f : Fn) : Den (.sl 24 (.sl 16 s_api_Pos)) := rwC f false
def rDefs (f : Fn) : Den (.sl 24 (.sl 16 s_api_Pos)) := rwC f true
theorem law20_lists_int_l (a b : List (Den (.sl 8 I))) (h_a : ln (.sl 8 I) a < 9223372036854775807) (hl : ln (.sl 8 I) a = ln (.sl 8 I) b) : ∀ i, i ≤ ln (.sl 8 I) a → Runs E_C13 (law20_lists_int_L0 a b (ln (.sl 8 I) a : Nat) i) (fun x h => x = vb (eqL eqI (a.drop i) (b.drop i)) ∧ h = []) :=
  up_ind (.tree E_C13_ok (law20_lists_int_L0_t _ _ _ _) (by
    rw [show b.drop (ln (.sl 8 I) a) = [] from List.drop_eq_nil_of_le (by rw [hl]; exact Nat.le_refl _), drop_ln]
    simp only [wp_iff, chk_iff, know_iff, any_iff, rt_iff, hd_iff, true_imp_iff, true_and, and_true, and_self, lt01, Int.ofNat_lt, Int.ofNat_le, Int.natCast_nonneg, Int.toNat_natCast, decide_true, decide_false, Bool.true_eq_false, Bool.false_eq_true, false_imp_iff, Nat.lt_irrefl, imp_self, implies_true,  eqL]))
    fun i hi ih => .tree E_C13_ok (law20_lists_int_L0_t _ _ _ _) (by
      have hb : i < ln (.sl 8 I) b := hl ▸ hi
      rw [drop_gd (l := a) (i := i) hi, drop_gd (l := b) (i := i) hb, eqL]
      simp only [wp_iff, chk_iff, know_iff, any_iff, rt_iff, hd_iff, true_imp_iff, true_and, and_true, and_self, lt01, Int.ofNat_lt, Int.ofNat_le, Int.natCast_nonneg, Int.toNat_natCast, decide_true, decide_false, Bool.true_eq_false, Bool.false_eq_true, false_imp_iff, Nat.lt_irrefl, imp_self, implies_true,  hi, hb, wrapS hi h_a]
      exact and_step ih)
def k_law20_lists_int : Con := con [.d (.sl 24 (.sl 8 I)), .d (.sl 24 (.sl 8 I))] .bool (fun x => True) fun x => eqLI x.1 x.2.1
theorem m_law20_lists_int (a : List (Den (.sl 8 I))) (b : List (Den (.sl 8 I))) (h_a : okD (.sl 24 (.sl 8 I)) a) (h_b : okD (.sl 24 (.sl 8 I)) b) (hp : True) : Runs E_C13 (start E_C13 f_law20_lists_int [(.tv (.sl 24 (.sl 8 I)) a), (.tv (.sl 24 (.sl 8 I)) b)]) (fun r_ h_ => r_ = (vb (eqLI a b)) ∧ h_ = []) := .tree E_C13_ok (law20_lists_int_t a b) (by
  unfold eqLI
  simp only [wp_iff, chk_iff, know_iff, any_iff, rt_iff, hd_iff, true_imp_iff, true_and, and_true, and_self, lt01]
  by_cases hl : ln (.sl 8 I) a = ln (.sl 8 I) b
  · have : ((ln (.sl 8 I) a : Int) != (ln (.sl 8 I) b : Int)) = false := by simp [hl]
    rw [this]
    exact ⟨fun h => absurd h (by decide), fun _ => law20_lists_int_l a b (room_lt h_a.1) hl 0 (Nat.zero_le _)⟩
  · have h1 : ((ln (.sl 8 I) a : Int) != (ln (.sl 8 I) b : Int)) = true := by simp; omega
    rw [h1, eqL_len hl]
    exact ⟨fun _ => rfl, fun h => absurd h (by decide)⟩)
theorem c_law20_lists_int : SpecOK E_C13 f_law20_lists_int k_law20_lists_int.spec := spec_of fun x hx hp => ⟨rfl, m_law20_lists_int x.1 x.2.1 hx.1 hx.2.1 hp⟩
theorem law20_lists_api_Pos_l (a b : List (Den (.sl 16 s_api_Pos))) (h_a : ln (.sl 16 s_api_Pos) a < 9223372036854775807) (hl : ln (.sl 16 s_api_Pos) a = ln (.sl 16 s_api_Pos) b) : ∀ i, i ≤ ln (.sl 16 s_api_Pos) a → Runs E_C13 (law20_lists_api_Pos_L0 a b (ln (.sl 16 s_api_Pos) a : Nat) i) (fun x h => x = vb (eqL eqP (a.drop i) (b.drop i)) ∧ h = []) :=
  up_ind (.tree E_C13_ok (law20_lists_api_Pos_L0_t _ _ _ _) (by
    rw [show b.drop (ln (.sl 16 s_api_Pos) a) = [] from List.drop_eq_nil_of_le (by rw [hl]; exact Nat.le_refl _), drop_ln]
    simp only [wp_iff, chk_iff, know_iff, any_iff, rt_iff, hd_iff, true_imp_iff, true_and, and_true, and_self, lt01, Int.ofNat_lt, Int.ofNat_le, Int.natCast_nonneg, Int.toNat_natCast, decide_true, decide_false, Bool.true_eq_false, Bool.false_eq_true, false_imp_iff, Nat.lt_irrefl, imp_self, implies_true,  eqL]))
    fun i hi ih => .tree E_C13_ok (law20_lists_api_Pos_L0_t _ _ _ _) (by
      have hb : i < ln (.sl 16 s_api_Pos) b := hl ▸ hi
      rw [drop_gd (l := a) (i := i) hi, drop_gd (l := b) (i := i) hb, eqL]
      simp only [wp_iff, chk_iff, know_iff, any_iff, rt_iff, hd_iff, true_imp_iff, true_and, and_true, and_self, lt01, Int.ofNat_lt, Int.ofNat_le, Int.natCast_nonneg, Int.toNat_natCast, decide_true, decide_false, Bool.true_eq_false, Bool.false_eq_true, false_imp_iff, Nat.lt_irrefl, imp_self, implies_true,  hi, hb, wrapS hi h_a]
      exact and_step ih)
def k_law20_lists_api_Pos : Con := con [.d (.sl 24 (.sl 16 s_api_Pos)), .d (.sl 24 (.sl 16 s_api_Pos))] .bool (fun x => True) fun x => eqLP x.1 x.2.1
theorem m_law20_lists_api_Pos (a : List (Den (.sl 16 s_api_Pos))) (b : List (Den (.sl 16 s_api_Pos))) (h_a : okD (.sl 24 (.sl 16 s_api_Pos)) a) (h_b : okD (.sl 24 (.sl 16 s_api_Pos)) b) (hp : True) : Runs E_C13 (start E_C13 f_law20_lists_api_Pos [(.tv (.sl 24 (.sl 16 s_api_Pos)) a), (.tv (.sl 24 (.sl 16 s_api_Pos)) b)]) (fun r_ h_ => r_ = (vb (eqLP a b)) ∧ h_ = []) := .tree E_C13_ok (law20_lists_api_Pos_t a b) (by
  unfold eqLP
  simp only [wp_iff, chk_iff, know_iff, any_iff, rt_iff, hd_iff, true_imp_iff, true_and, and_true, and_self, lt01]
  by_cases hl : ln (.sl 16 s_api_Pos) a = ln (.sl 16 s_api_Pos) b
  · have : ((ln (.sl 16 s_api_Pos) a : Int) != (ln (.sl 16 s_api_Pos) b : Int)) = false := by simp [hl]
    rw [this]
    exact ⟨fun h => absurd h (by decide), fun _ => law20_lists_api_Pos_l a b (room_lt h_a.1) hl 0 (Nat.zero_le _)⟩
  · have h1 : ((ln (.sl 16 s_api_Pos) a : Int) != (ln (.sl 16 s_api_Pos) b : Int)) = true := by simp; omega
    rw [h1, eqL_len hl]
    exact ⟨fun _ => rfl, fun h => absurd h (by decide)⟩)
theorem c_law20_lists_api_Pos : SpecOK E_C13 f_law20_lists_api_Pos k_law20_lists_api_Pos.spec := spec_of fun x hx hp => ⟨rfl, m_law20_lists_api_Pos x.1 x.2.1 hx.1 hx.2.1 hp⟩

def k_r20_Uses : Con := con [.d s_api_Func] (.sl 24 (.sl 16 s_api_Pos)) (fun x => smallF x.1) fun x => rUses x.1
theorem m_r20_Uses (f : Den s_api_Func) (h_f : okD s_api_Func f) (hp : smallF f) : Runs E_C13 (start E_C13 f_r20_Uses [(.tv s_api_Func f)]) (fun r_ h_ => r_ = (.tv (.sl 24 (.sl 16 s_api_Pos)) (rUses f)) ∧ h_ = []) := .tree E_C13_ok (r20_Uses_t f) (by
  simp only [wp_iff, chk_iff, know_iff, any_iff, rt_iff, hd_iff, true_imp_iff, true_and, and_true, and_self, lt01]
  exact ⟨hp, fun _ _ => rfl⟩)
theorem c_r20_Uses : SpecOK E_C13 f_r20_Uses k_r20_Uses.spec := spec_of fun x hx hp => ⟨rfl, m_r20_Uses x.1 hx.1 hp⟩

def k_r20_Defs : Con := con [.d s_api_Func] (.sl 24 (.sl 16 s_api_Pos)) (fun x => smallF x.1) fun x => rDefs x.1
theorem m_r20_Defs (f : Den s_api_Func) (h_f : okD s_api_Func f) (hp : smallF f) : Runs E_C13 (start E_C13 f_r20_Defs [(.tv s_api_Func f)]) (fun r_ h_ => r_ = (.tv (.sl 24 (.sl 16 s_api_Pos)) (rDefs f)) ∧ h_ = []) := .tree E_C13_ok (r20_Defs_t f) (by
  simp only [wp_iff, chk_iff, know_iff, any_iff, rt_iff, hd_iff, true_imp_iff, true_and, and_true, and_self, lt01]
  exact ⟨hp, fun _ _ => rfl⟩)
theorem c_r20_Defs : SpecOK E_C13 f_r20_Defs k_r20_Defs.spec := spec_of fun x hx hp => ⟨rfl, m_r20_Defs x.1 hx.1 hp⟩
def L_C13 : List (FuncId × FSpec) := [(f_law20_lists_int, k_law20_lists_int.spec), (f_law20_lists_api_Pos, k_law20_lists_api_Pos.spec), (f_r20_Uses, k_r20_Uses.spec), (f_r20_Defs, k_r20_Defs.spec)] ++ L_C12
theorem L_C13_ok : ∀ x ∈ L_C13, SpecOK (ctx []) x.1 x.2 := by
  unfold L_C13
  simp only [List.cons_append, List.nil_append, List.forall_mem_cons]
  exact ⟨c_law20_lists_int, c_law20_lists_api_Pos, c_r20_Uses, c_r20_Defs, L_C12_ok⟩
end Burn.M20
namespace Burn.M20
open Go Go.BE Go.Proofs
set_option maxRecDepth 100000
set_option linter.unusedVariables false
set_option linter.unusedSimpArgs false
open Burn.Cfg
noncomputable abbrev E_C14 : Ctx := ctx L_C13
theorem E_C14_ok : EOK E_C14 := ctx_ok L_C13_ok
def cuts_C14 : CutL := []
def rets_C14 : FuncId → List (Option Fx)
  | _ => []
def H_C14 : Hints := { cut := cutOf cuts_C14, ret := rets_C14 }
theorem law20_CfgGraph_t (f : Den s_api_Func) : run E_C14 H_C14 f_law20_CfgGraph 3000 (start E_C14 f_law20_CfgGraph [(.tv s_api_Func f)]) = (.chk ((0 : Nat) < (1 : Nat)) (.chk (True) (.know True (cond (largeF f) (.chk (True) (.know True (rt (vb (worksR)) []))) (.chk ((0 : Nat) < (1 : Nat)) (.chk (True) (.chk ((0 : Nat) < (1 : Nat)) (.chk (True) (.chk (True) (cond (eqLI (graphF f).1 (graphF f).1) (.chk ((0 : Nat) < (1 : Nat)) (.chk (smallF f) (.chk ((0 : Nat) < (1 : Nat)) (.chk (smallF f) (.chk (True) (cond (eqLP (defsF f) (rDefs f)) (.chk ((0 : Nat) < (1 : Nat)) (.chk (smallF f) (.chk ((0 : Nat) < (1 : Nat)) (.chk (smallF f) (.chk (True) (cond (eqLP (usesF f) (rUses f)) (.chk (True) (.know (okD s_api_Graph (graphF f)) (.know (okD s_api_Graph (graphF f)) (.know True (.know (okD (.sl 24 (.sl 16 s_api_Pos)) (defsF f)) (.know (okD (.sl 24 (.sl 16 s_api_Pos)) (rDefs f)) (.know True (.know (okD (.sl 24 (.sl 16 s_api_Pos)) (usesF f)) (.know (okD (.sl 24 (.sl 16 s_api_Pos)) (rUses f)) (.know True (.know True (rt (vb (worksR)) [])))))))))))) (.know (okD s_api_Graph (graphF f)) (.know (okD s_api_Graph (graphF f)) (.know True (.know (okD (.sl 24 (.sl 16 s_api_Pos)) (defsF f)) (.know (okD (.sl 24 (.sl 16 s_api_Pos)) (rDefs f)) (.know True (.know (okD (.sl 24 (.sl 16 s_api_Pos)) (usesF f)) (.know (okD (.sl 24 (.sl 16 s_api_Pos)) (rUses f)) (.know True (rt (vb false) [])))))))))))))))) (.know (okD s_api_Graph (graphF f)) (.know (okD s_api_Graph (graphF f)) (.know True (.know (okD (.sl 24 (.sl 16 s_api_Pos)) (defsF f)) (.know (okD (.sl 24 (.sl 16 s_api_Pos)) (rDefs f)) (.know True (rt (vb false) []))))))))))))) (.know (okD s_api_Graph (graphF f)) (.know (okD s_api_Graph (graphF f)) (.know True (rt (vb false) [])))))))))))))) := by kernel_rfl
theorem eqLI_refl (l : List (Den (.sl 8 I))) : eqLI l l = true := eqL_refl eqI_refl l
theorem eqLP_refl (l : List (Den (.sl 16 s_api_Pos))) : eqLP l l = true := eqL_refl eqP_refl l
theorem uses_eq (f : Fn) : rUses f = usesF f := rfl
theorem defs_eq (f : Fn) : rDefs f = defsF f := rfl
def yesGr (_ : Fn) : Bool := true

def k_law20_CfgGraph : Con := con [.d s_api_Func] .bool (fun x => smallF x.1) fun x => yesGr x.1
theorem m_law20_CfgGraph (f : Den s_api_Func) (h_f : okD s_api_Func f) (hp : smallF f) : Runs E_C14 (start E_C14 f_law20_CfgGraph [(.tv s_api_Func f)]) (fun r_ h_ => r_ = (vb (yesGr f)) ∧ h_ = []) := .tree E_C14_ok (law20_CfgGraph_t f) (by
  simp only [wp_iff, chk_iff, know_iff, any_iff, rt_iff, hd_iff, true_imp_iff, true_and, and_true, and_self, lt01,  worksR, yesGr, uses_eq, defs_eq, eqLI_refl, eqLP_refl, hp, true_imp_iff, implies_true, Bool.true_eq_false, false_imp_iff])
theorem c_law20_CfgGraph : SpecOK E_C14 f_law20_CfgGraph k_law20_CfgGraph.spec := spec_of fun x hx hp => ⟨rfl, m_law20_CfgGraph x.1 hx.1 hp⟩
def L_C14 : List (FuncId × FSpec) := [(f_law20_CfgGraph, k_law20_CfgGraph.spec)] ++ L_C13
theorem L_C14_ok : ∀ x ∈ L_C14, SpecOK (ctx []) x.1 x.2 := by
  unfold L_C14
  simp only [List.cons_append, List.nil_append, List.forall_mem_cons]
  exact ⟨c_law20_CfgGraph, L_C13_ok⟩
end Burn.M20
namespace Burn.M20
open Go Go.BE Go.Proofs
set_option maxRecDepth 100000
set_option linter.unusedVariables false
set_option linter.unusedSimpArgs false
open Burn.Cfg
noncomputable abbrev E_C15 : Ctx := ctx L_C14
theorem E_C15_ok : EOK E_C15 := ctx_ok L_C14_ok
def cuts_C15 : CutL := [([], 20, 0, [2, 3, 14, 15, 16], [], []),
  ([], 20, 2, [2, 3, 4, 14, 15, 16, 23, 24, 25], [], [])]
def rets_C15 : FuncId → List (Option Fx)
  | _ => []
def H_C15 : Hints := { cut := cutOf cuts_C15, ret := rets_C15 }
noncomputable def GraphO_L0 (t14 : List (Den s_api_Block)) (t15 : Int) (t16 : Int) (g_0 : List (Den (.sl 8 I))) : Cfg := hcfg E_C15 f_cfg_Graph 0 [(2, (.ref 0 0)), (3, (.ref 1 0)), (14, (.tv (.sl 136 s_api_Block) t14)), (15, (vi t15)), (16, (vi t16))] [(0, ⟨(.cells [(.val (.slice none 0 0))]), 0, [], false, none⟩), (1, ⟨(.cells [(.osl 2 2 [] none)]), 1, [], false, none⟩), (2, ⟨(.arr 1 24 (.sl 8 I) g_0), 2, [], false, none⟩)] 3
noncomputable def GraphO_L2 (i : Int) (t14 : List (Den s_api_Block)) (t15 : Int) (t16 : Int) (t23 : List (Den s_api_Edge)) (t24 : Int) (t25 : Int) (g_0 : List (Den (.sl 8 I))) : Cfg := hcfg E_C15 f_cfg_Graph 2 [(2, (.ref 0 0)), (3, (.ref 1 0)), (4, (vi i)), (14, (.tv (.sl 136 s_api_Block) t14)), (15, (vi t15)), (16, (vi t16)), (23, (.tv (.sl 32 s_api_Edge) t23)), (24, (vi t24)), (25, (vi t25))] [(0, ⟨(.cells [(.val (.slice none 0 0))]), 0, [], false, none⟩), (1, ⟨(.cells [(.osl 2 2 [] none)]), 1, [], false, none⟩), (2, ⟨(.arr 1 24 (.sl 8 I) g_0), 2, [], false, none⟩)] 3
theorem GraphO_t (f : Den s_api_Func) : run E_C15 H_C15 f_cfg_Graph 3000 (start E_C15 f_cfg_Graph [(.tv s_api_Func f)]) = (.chk (((ln s_api_Block f.2.2.2.2.1) : Int) = ((ln s_api_Block f.2.2.2.2.1) : Int)) (.chk (0 ≤ ((ln s_api_Block f.2.2.2.2.1) : Int)) (.chk ((ln s_api_Block f.2.2.2.2.1) * 24 ≤ roomB) (hd (GraphO_L0 f.2.2.2.2.1 ((ln s_api_Block f.2.2.2.2.1) : Int) (0 : Int) (List.replicate (ln s_api_Block f.2.2.2.2.1) (dz (.sl 8 I)))))))) := by kernel_rfl
theorem GraphO_L0_t (t14 : List (Den s_api_Block)) (t15 : Int) (t16 : Int) (g_0 : List (Den (.sl 8 I))) : run E_C15 H_C15 f_cfg_Graph 3000 (GraphO_L0 t14 t15 t16 g_0) = (cond (decide (t16 < t15)) (.chk (0 ≤ t16 ∧ t16 < (ln s_api_Block t14)) (hd (GraphO_L2 t16 t14 t15 t16 ((((((((gd s_api_Block t14 ((t16).toNat)).2).2).1).2).2).2).1) ((ln s_api_Edge ((((((((gd s_api_Block t14 ((t16).toNat)).2).2).1).2).2).2).1)) : Int) (0 : Int) g_0))) (rt (.agg [(.osl 0 0 [] none)]) [(0, ⟨(.arr 1 24 (.sl 8 I) g_0), 0, [], false, none⟩)])) := by kernel_rfl
theorem GraphO_L2_t (i : Int) (t14 : List (Den s_api_Block)) (t15 : Int) (t16 : Int) (t23 : List (Den s_api_Edge)) (t24 : Int) (t25 : Int) (g_0 : List (Den (.sl 8 I))) : run E_C15 H_C15 f_cfg_Graph 3000 (GraphO_L2 i t14 t15 t16 t23 t24 t25 g_0) = (cond (decide (t25 < t24)) (.chk (0 ≤ t25 ∧ t25 < (ln s_api_Edge t23)) (.chk (0 ≤ i ∧ i < (ln (.sl 8 I) g_0)) (.chk ((i).toNat < (ln (.sl 8 I) g_0)) (.chk ((i).toNat < (ln (.sl 8 I) g_0)) (.chk (((ln I (gd (.sl 8 I) g_0 ((i).toNat))) + (1 : Nat)) * 8 ≤ roomB) (.chk (0 ≤ i ∧ i < (ln (.sl 8 I) (st (.sl 8 I) g_0 ((i).toNat) (ap I (gd (.sl 8 I) g_0 ((i).toNat)) ([(gd s_api_Edge t23 ((t25).toNat)).1] : List (Den I)))))) (.chk ((i).toNat = (i).toNat) (.chk ((i).toNat = (i).toNat) (hd (GraphO_L2 i t14 t15 t16 t23 t24 (IntKind.wrap .i64 (t25 + (1 : Int))) (st (.sl 8 I) g_0 ((i).toNat) (ap I (gd (.sl 8 I) g_0 ((i).toNat)) ([(gd s_api_Edge t23 ((t25).toNat)).1] : List (Den I)))))))))))))) (hd (GraphO_L0 t14 t15 (IntKind.wrap .i64 (t16 + (1 : Int))) g_0))) := by kernel_rfl
def retG (f : Fn) (x : AV) (h : Heap) : Prop := x = (ownRes 99 s_api_Graph (graphF f)).1 ∧ h = (ownRes 99 s_api_Graph (graphF f)).2
theorem GraphO_l (f : Fn) (l : List (Den s_api_Block)) (hf : blocks f = l) (ho : okB l) : ∀ i, i ≤ ln s_api_Block l → Runs E_C15 (GraphO_L0 l (ln s_api_Block l : Nat) i (mapTo (S := s_api_Block) (T := .sl 8 I) headsB nilB l i)) (retG f) :=
  up_ind (.tree E_C15_ok (GraphO_L0_t _ _ _ _) (by
    rw [mapTo_n]
    simp only [wp_iff, chk_iff, know_iff, any_iff, rt_iff, hd_iff, true_imp_iff, true_and, and_true, and_self, lt01, Int.ofNat_lt, Int.ofNat_le, Int.natCast_nonneg, Int.toNat_natCast, decide_true, decide_false, Bool.true_eq_false, Bool.false_eq_true, false_imp_iff, Nat.lt_irrefl, imp_self, implies_true,  retG, graphF, hf]
    exact ⟨rfl, rfl⟩))
    fun i hi ih => .tree E_C15_ok (GraphO_L0_t _ _ _ _) (by
      simp only [wp_iff, chk_iff, know_iff, any_iff, rt_iff, hd_iff, true_imp_iff, true_and, and_true, and_self, lt01, Int.ofNat_lt, Int.ofNat_le, Int.natCast_nonneg, Int.toNat_natCast, decide_true, decide_false, Bool.true_eq_false, Bool.false_eq_true, false_imp_iff, Nat.lt_irrefl, imp_self, implies_true,  hi]
      have hro := (okB_suc ho hi).1
      generalize hs : tSuc (gd s_api_Block l i) = s at hro
      have hg : mapTo (S := s_api_Block) (T := .sl 8 I) headsB nilB l i = st (.sl 8 I) (mapTo (S := s_api_Block) (T := .sl 8 I) headsB nilB l i) i (List.map hd1 (s.take 0)) := by
        have := st_gd (S := .sl 8 I) (l := mapTo (S := s_api_Block) (T := .sl 8 I) headsB nilB l i) (i := i)
        rw [mapTo_gd hi] at this
        exact this.symm
      have key : ∀ k, k ≤ ln s_api_Edge s → Runs E_C15 (GraphO_L2 i l (ln s_api_Block l : Nat) i s (ln s_api_Edge s : Nat) k (st (.sl 8 I) (mapTo (S := s_api_Block) (T := .sl 8 I) headsB nilB l i) i (List.map hd1 (s.take k)))) (retG f) :=
        up_ind (.tree E_C15_ok (GraphO_L2_t _ _ _ _ _ _ _ _) (by
          have := mapTo_st (S := s_api_Block) (T := .sl 8 I) (f := headsB) (g := nilB) hi
          rw [take_ln]
          simp only [wp_iff, chk_iff, know_iff, any_iff, rt_iff, hd_iff, true_imp_iff, true_and, and_true, and_self, lt01, Int.ofNat_lt, Int.ofNat_le, Int.natCast_nonneg, Int.toNat_natCast, decide_true, decide_false, Bool.true_eq_false, Bool.false_eq_true, false_imp_iff, Nat.lt_irrefl, imp_self, implies_true,  wrapS hi (room_lt ho.1)]
          rw [show List.map hd1 s = headsB (gd s_api_Block l i) by rw [← hs]; rfl, this]
          exact ih))
          fun k hk ihk => .tree E_C15_ok (GraphO_L2_t _ _ _ _ _ _ _ _) (by
            simp only [wp_iff, chk_iff, know_iff, any_iff, rt_iff, hd_iff, true_imp_iff, true_and, and_true, and_self, lt01, Int.ofNat_lt, Int.ofNat_le, Int.natCast_nonneg, Int.toNat_natCast, decide_true, decide_false, Bool.true_eq_false, Bool.false_eq_true, false_imp_iff, Nat.lt_irrefl, imp_self, implies_true,  hk, hi, ln_st, mapTo_len, gd_st, st_st, wrapS hk (room_lt hro), heads_step hk]
            exact ⟨heads_room hro hk, fun _ => ihk⟩)
      rw [hg]
      subst hs
      exact key 0 (Nat.zero_le _))
def k_GraphO : Con := conO 99 [.d s_api_Func] s_api_Graph (fun x => True) fun x => graphF x.1
theorem m_GraphO (f : Den s_api_Func) (h_f : okD s_api_Func f) (hp : True) : Runs E_C15 (start E_C15 f_cfg_Graph [(.tv s_api_Func f)]) (fun r_ h_ => r_ = (ownRes 99 s_api_Graph (graphF f)).1 ∧ h_ = (ownRes 99 s_api_Graph (graphF f)).2) := .tree E_C15_ok (GraphO_t f) (by
  simp only [wp_iff, chk_iff, know_iff, any_iff, rt_iff, hd_iff, true_imp_iff, true_and, and_true, and_self, lt01]
  obtain ho := okB_of h_f
  have := GraphO_l f _ rfl ho 0 (Nat.zero_le _)
  rw [mapTo_0] at this
  refine ⟨by omega, fun _ => ⟨room_part ho.1 (Nat.le_refl _) (by decide), fun _ => ?_⟩⟩
  rw [show List.replicate (ln s_api_Block f.2.2.2.2.1) (dz (.sl 8 I)) = List.map nilB f.2.2.2.2.1 from (List.map_const' ..).symm]
  exact this)
theorem c_GraphO : SpecOK E_C15 f_cfg_Graph k_GraphO.spec := spec_of fun x hx hp => ⟨rfl, m_GraphO x.1 hx.1 hp⟩
def L_C15 : List (FuncId × FSpec) := [(f_cfg_Graph, k_GraphO.spec)] ++ L_C14
theorem L_C15_ok : ∀ x ∈ L_C15, SpecOK (ctx []) x.1 x.2 := by
  unfold L_C15
  simp only [List.cons_append, List.nil_append, List.forall_mem_cons]
  exact ⟨c_GraphO, L_C14_ok⟩
end Burn.M20
namespace Burn.M20
open Go Go.BE Go.Proofs
set_option maxRecDepth 100000
set_option linter.unusedVariables false
set_option linter.unusedSimpArgs false
open Burn.Cfg
noncomputable abbrev E_C16 : Ctx := ctx L_C15
theorem E_C16_ok : EOK E_C16 := ctx_ok L_C15_ok
def cuts_C16 : CutL := [([], 5, 0, [1, 2, 11, 12, 13, 79, 80, 81], [], []),
  ([], 5, 2, [1, 2, 11, 12, 13, 14, 15, 79, 80, 81, 86, 87, 88], [], [])]
def rets_C16 : FuncId → List (Option Fx)
  | _ => []
def H_C16 : Hints := { cut := cutOf cuts_C16, ret := rets_C16 }
noncomputable def law20_CfgContract_L0 (block : Int) (succ : Int) (n : Int) (to : Int) (t79_lo : Nat) (t79_n : Nat) (t80 : Int) (t81 : Int) (old : List (Den (.sl 8 I))) (t79 : List (Den (.sl 8 I))) : Cfg := hcfg E_C16 f_law20_CfgContract 0 [(1, (vi block)), (2, (vi succ)), (11, (vi n)), (12, (vi to)), (13, (.osl 0 0 [] none)), (79, (.osl 1 1 [] (some (t79_lo, t79_n)))), (80, (vi t80)), (81, (vi t81))] [(0, ⟨(.arr 1 24 (.sl 8 I) old), 0, [], false, none⟩), (1, ⟨(.arr 1 24 (.sl 8 I) t79), 1, [], false, none⟩)] 2
noncomputable def law20_CfgContract_L2 (block : Int) (succ : Int) (n : Int) (to : Int) (i : Int) (l_k : Nat) (t79_lo : Nat) (t79_n : Nat) (t80 : Int) (t81 : Int) (t86_k : Nat) (t87 : Int) (t88 : Int) (old : List (Den (.sl 8 I))) (l : List (Den (.sl 8 I))) : Cfg := hcfg E_C16 f_law20_CfgContract 2 [(1, (vi block)), (2, (vi succ)), (11, (vi n)), (12, (vi to)), (13, (.osl 0 0 [] none)), (14, (vi i)), (15, (.osl 1 1 [(l_k, [])] none)), (79, (.osl 1 1 [] (some (t79_lo, t79_n)))), (80, (vi t80)), (81, (vi t81)), (86, (.osl 1 1 [(t86_k, [])] none)), (87, (vi t87)), (88, (vi t88))] [(0, ⟨(.arr 1 24 (.sl 8 I) old), 0, [], false, none⟩), (1, ⟨(.arr 1 24 (.sl 8 I) l), 1, [], false, none⟩)] 2
theorem law20_CfgContract_t (f : Den s_api_Func) (block : Int) (succ : Int) : run E_C16 H_C16 f_law20_CfgContract 3000 (start E_C16 f_law20_CfgContract [(.tv s_api_Func f), (vi block), (vi succ)]) = (.chk ((0 : Nat) < (1 : Nat)) (.chk (True) (.know True (cond (largeF f) (.chk (True) (.know True (rt (vb (worksR)) []))) (.chk ((0 : Nat) < (1 : Nat)) (.chk (ln s_api_Block f.2.2.2.2.1 ≤ 1000) (.know (okAVs [(.tv s_api_Func ((splitF f block succ).1)), (vb (bOf ((splitF f block succ).2)))]) (cond (!(bOf ((splitF f block succ).2))) (.chk ((0 : Nat) < (1 : Nat)) (.chk (ln s_api_Block f.2.2.2.2.1 ≤ 1000) (.know (okAVs [(.tv s_api_Func ((splitF f block succ).1)), (vb (bOf ((splitF f block succ).2)))]) (cond (!(bOf ((splitF f block succ).2))) (.chk (True) (.know True (rt (vb (worksR)) []))) (rt (vb false) []))))) (.chk ((0 : Nat) < (1 : Nat)) (cond (((ln s_api_Block (((((((splitF f block succ).1).2).2).2).2).1)) : Int) != (IntKind.wrap .i64 (((ln s_api_Block f.2.2.2.2.1) : Int) + (1 : Int)))) (rt (vb false) []) (.chk (0 ≤ ((ln s_api_Block f.2.2.2.2.1) : Int) ∧ ((ln s_api_Block f.2.2.2.2.1) : Int) < (ln s_api_Block (((((((splitF f block succ).1).2).2).2).2).1))) (cond (((ln s_api_Edge ((((((((gd s_api_Block (((((((splitF f block succ).1).2).2).2).2).1) (ln s_api_Block f.2.2.2.2.1)).2).2).1).2).2).2).1)) : Int) != (1 : Int)) (rt (vb false) []) (.chk (0 ≤ ((ln s_api_Block f.2.2.2.2.1) : Int) ∧ ((ln s_api_Block f.2.2.2.2.1) : Int) < (ln s_api_Block (((((((splitF f block succ).1).2).2).2).2).1))) (.chk (0 ≤ (0 : Int) ∧ (0 : Int) < (ln s_api_Edge ((((((((gd s_api_Block (((((((splitF f block succ).1).2).2).2).2).1) (ln s_api_Block f.2.2.2.2.1)).2).2).1).2).2).2).1))) (.chk ((0 : Nat) < (1 : Nat)) (.chk (True) (.know (okAVs [(.osl 0 0 [] none)]) (.chk (True) (.know (okAVs [(.osl 0 0 [] none)]) (.chk (0 ≤ (0 : Int) ∧ (0 : Int) ≤ ((ln s_api_Block f.2.2.2.2.1) : Int) ∧ ((ln s_api_Block f.2.2.2.2.1) : Int) ≤ ((ln (.sl 8 I) ((graphF (splitF f block succ).1).1)) : Int)) (hd (law20_CfgContract_L0 block succ ((ln s_api_Block f.2.2.2.2.1) : Int) (z ((gd s_api_Edge ((((((((gd s_api_Block (((((((splitF f block succ).1).2).2).2).2).1) (ln s_api_Block f.2.2.2.2.1)).2).2).1).2).2).2).1) (0 : Nat)).1)) (0 : Nat) ((ln s_api_Block f.2.2.2.2.1) - (0 : Nat)) (((ln s_api_Block f.2.2.2.2.1) - (0 : Nat)) : Int) (0 : Int) ((graphF f).1) ((graphF (splitF f block succ).1).1))))))))))))))))))))))) := by kernel_rfl
theorem law20_CfgContract_L0_t (block : Int) (succ : Int) (n : Int) (to : Int) (t79_lo : Nat) (t79_n : Nat) (t80 : Int) (t81 : Int) (old : List (Den (.sl 8 I))) (t79 : List (Den (.sl 8 I))) : run E_C16 H_C16 f_law20_CfgContract 3000 (law20_CfgContract_L0 block succ n to t79_lo t79_n t80 t81 old t79) = (cond (decide (t81 < t80)) (.chk (0 ≤ t81 ∧ t81 < t79_n) (.chk ((t79_lo + (t81).toNat) < (ln (.sl 8 I) t79)) (.chk ((t79_lo + (t81).toNat) < (ln (.sl 8 I) t79)) (hd (law20_CfgContract_L2 block succ n to t81 (t79_lo + (t81).toNat) t79_lo t79_n t80 t81 (t79_lo + (t81).toNat) ((ln I (gd (.sl 8 I) t79 (t79_lo + (t81).toNat))) : Int) (0 : Int) old t79))))) (.chk (True) (.know True (rt (vb (worksR)) [])))) := by kernel_rfl
theorem law20_CfgContract_L2_t (block : Int) (succ : Int) (n : Int) (to : Int) (i : Int) (l_k : Nat) (t79_lo : Nat) (t79_n : Nat) (t80 : Int) (t81 : Int) (t86_k : Nat) (t87 : Int) (t88 : Int) (old : List (Den (.sl 8 I))) (l : List (Den (.sl 8 I))) : run E_C16 H_C16 f_law20_CfgContract 3000 (law20_CfgContract_L2 block succ n to i l_k t79_lo t79_n t80 t81 t86_k t87 t88 old l) = (cond (decide (t88 < t87)) (.chk (t86_k < (ln (.sl 8 I) l)) (.chk (0 ≤ t88 ∧ t88 < (ln I (gd (.sl 8 I) l t86_k))) (.chk (t86_k < (ln (.sl 8 I) l)) (.chk ((t88).toNat < (ln I (gd (.sl 8 I) l t86_k))) (cond (i == block) (cond (t88 == succ) (cond ((z (gd I (gd (.sl 8 I) l t86_k) ((t88).toNat))) == n) (.chk (l_k < (ln (.sl 8 I) l)) (.chk (0 ≤ t88 ∧ t88 < (ln I (gd (.sl 8 I) l l_k))) (.chk (l_k < (ln (.sl 8 I) l)) (.chk ((t88).toNat < (ln I (gd (.sl 8 I) l l_k))) (hd (law20_CfgContract_L2 block succ n to i l_k t79_lo t79_n t80 t81 t86_k t87 (IntKind.wrap .i64 (t88 + (1 : Int))) old (st (.sl 8 I) l l_k (st I (gd (.sl 8 I) l l_k) ((t88).toNat) to)))))))) (hd (law20_CfgContract_L2 block succ n to i l_k t79_lo t79_n t80 t81 t86_k t87 (IntKind.wrap .i64 (t88 + (1 : Int))) old l))) (hd (law20_CfgContract_L2 block succ n to i l_k t79_lo t79_n t80 t81 t86_k t87 (IntKind.wrap .i64 (t88 + (1 : Int))) old l))) (hd (law20_CfgContract_L2 block succ n to i l_k t79_lo t79_n t80 t81 t86_k t87 (IntKind.wrap .i64 (t88 + (1 : Int))) old l))))))) (.chk (0 ≤ i ∧ i < (ln (.sl 8 I) old)) (.chk ((i).toNat < (ln (.sl 8 I) old)) (.chk (l_k < (ln (.sl 8 I) l)) (.chk ((i).toNat < (ln (.sl 8 I) old)) (.chk (True) (.know True (cond (!(eqI (gd (.sl 8 I) l l_k) (gd (.sl 8 I) old ((i).toNat)))) (rt (vb false) []) (hd (law20_CfgContract_L0 block succ n to t79_lo t79_n t80 (IntKind.wrap .i64 (t81 + (1 : Int))) old l)))))))))) := by kernel_rfl
/-- the lists of successors while the new block is taken out again -/
structure CF (b s n : Nat) (to : Int) (A G : List (Den (.sl 8 I))) : Prop where
  lA : ln (.sl 8 I) A = n
  lG : ln (.sl 8 I) G = n + 1
  ne : ∀ i, i < n → i ≠ b → gd (.sl 8 I) G i = gd (.sl 8 I) A i
  hb : b < n
  eq : gd (.sl 8 I) G b = st I (gd (.sl 8 I) A b) s (n : Int)
  hs : s < ln I (gd (.sl 8 I) A b)
  to : gd I (gd (.sl 8 I) A b) s = to
def stG (b : Nat) (A G : List (Den (.sl 8 I))) : List (Den (.sl 8 I)) := st (.sl 8 I) G b (gd (.sl 8 I) A b)
def Ist (b s : Nat) (A G : List (Den (.sl 8 I))) (i k : Nat) : List (Den (.sl 8 I)) := if (i = b ∧ s < k) ∨ b < i then stG b A G else G
theorem Ist_ln {b s n : Nat} {to : Int} {A G : List (Den (.sl 8 I))} (h : CF b s n to A G) {i k : Nat} : ln (.sl 8 I) (Ist b s A G i k) = n + 1 := by
  unfold Ist stG
  split
  · rw [ln_st, h.lG]
  · exact h.lG
theorem Ist_len {b s n : Nat} {to : Int} {A G : List (Den (.sl 8 I))} (h : CF b s n to A G) {i k : Nat} (hi : i < n) : ln I (gd (.sl 8 I) (Ist b s A G i k) i) = ln I (gd (.sl 8 I) A i) := by
  have hG := h.lG
  have h1 : ln I (gd (.sl 8 I) G i) = ln I (gd (.sl 8 I) A i) := by
    by_cases hib : i = b
    · rw [hib, h.eq, ln_st]
    · rw [h.ne i hi hib]
  unfold Ist stG
  split
  · rw [gd_st_any]
    split
    · rename_i h2
      rw [h2.1]
    · exact h1
  · exact h1
theorem Ist_end {b s n : Nat} {to : Int} {A G : List (Den (.sl 8 I))} (h : CF b s n to A G) {i : Nat} (hi : i < n) : gd (.sl 8 I) (Ist b s A G (i + 1) 0) i = gd (.sl 8 I) A i := by
  have hG := h.lG
  have hb := h.hb
  unfold Ist stG
  by_cases hib : i = b
  · subst hib
    rw [if_pos (.inr (by omega)), gd_st (by omega)]
  · split
    · rw [gd_st_any, if_neg (fun h2 => hib h2.1.symm), h.ne i hi hib]
    · exact h.ne i hi hib
theorem Ist_next {b s n : Nat} {to : Int} {A G : List (Den (.sl 8 I))} (h : CF b s n to A G) {i : Nat} : Ist b s A G i (ln I (gd (.sl 8 I) A i)) = Ist b s A G (i + 1) 0 := by
  have hs := h.hs
  unfold Ist
  by_cases hib : i = b
  · subst hib
    rw [if_pos (.inl ⟨rfl, hs⟩), if_pos (.inr (by omega))]
  · by_cases hlt : b < i
    · rw [if_pos (.inr hlt), if_pos (.inr (by omega))]
    · rw [if_neg (by omega), if_neg (by omega)]
theorem Ist_same {b s : Nat} {A G : List (Den (.sl 8 I))} {i k : Nat} (h : ¬ (i = b ∧ k = s)) : Ist b s A G i (k + 1) = Ist b s A G i k := by
  unfold Ist
  by_cases h1 : (i = b ∧ s < k) ∨ b < i
  · rw [if_pos h1, if_pos (by omega)]
  · rw [if_neg h1, if_neg (by omega)]
theorem Ist_at {b s n : Nat} {to : Int} {A G : List (Den (.sl 8 I))} (h : CF b s n to A G) : Ist b s A G b s = G ∧ z (gd I (gd (.sl 8 I) G b) s) = (n : Int) ∧ st (.sl 8 I) G b (st I (gd (.sl 8 I) G b) s to) = Ist b s A G b (s + 1) := by
  have hs := h.hs
  refine ⟨?_, ?_, ?_⟩
  · unfold Ist
    rw [if_neg (by omega)]
  · rw [h.eq, gd_st hs]
  · unfold Ist stG
    rw [if_pos (.inl ⟨rfl, Nat.lt_succ_self s⟩), h.eq, st_st, ← h.to, st_gd]
theorem con_l2 {b s n : Nat} {to : Int} {A G : List (Den (.sl 8 I))} (h : CF b s n to A G) (hn : n ≤ 1000) {i : Nat} (hi : i < n) (hr : ln I (gd (.sl 8 I) A i) < 9223372036854775807) (hk0 : Runs E_C16 (law20_CfgContract_L0 b s n to 0 n n ((i + 1 : Nat) : Int) A (Ist b s A G (i + 1) 0)) (fun x h => x = vb true ∧ h = [])) : ∀ k, k ≤ ln I (gd (.sl 8 I) A i) → Runs E_C16 (law20_CfgContract_L2 b s n to i i 0 n n i i (ln I (gd (.sl 8 I) A i) : Nat) k A (Ist b s A G i k)) (fun x h => x = vb true ∧ h = []) :=
  up_ind (.tree E_C16_ok (law20_CfgContract_L2_t _ _ _ _ _ _ _ _ _ _ _ _ _ _ _) (by
    have hA := h.lA
    have hiA : i < ln (.sl 8 I) A := by omega
    have hL : i < ln (.sl 8 I) (Ist b s A G (i + 1) 0) := by rw [Ist_ln h]; omega
    rw [Ist_next h]
    simp only [wp_iff, chk_iff, know_iff, any_iff, rt_iff, hd_iff, true_imp_iff, true_and, and_true, and_self, lt01, Int.ofNat_lt, Int.ofNat_le, Int.natCast_nonneg, Int.toNat_natCast, decide_true, decide_false, Bool.true_eq_false, Bool.false_eq_true, false_imp_iff, Nat.lt_irrefl, imp_self, implies_true,  hiA, hL, Ist_end h hi, eqI_refl, wrapS hi (show n < 9223372036854775807 by omega), Bool.not_true]
    exact hk0))
    fun k hk ih => .tree E_C16_ok (law20_CfgContract_L2_t _ _ _ _ _ _ _ _ _ _ _ _ _ _ _) (by
      have hL : i < ln (.sl 8 I) (Ist b s A G i k) := by rw [Ist_ln h]; omega
      have hk2 : k < ln I (gd (.sl 8 I) (Ist b s A G i k) i) := by rw [Ist_len h hi]; exact hk
      by_cases hat : i = b ∧ k = s
      · obtain ⟨rfl, rfl⟩ := hat
        obtain ⟨e1, e2, e3⟩ := Ist_at h
        rw [e1] at hL hk2
        rw [← e3] at ih
        rw [e1]
        simp only [wp_iff, chk_iff, know_iff, any_iff, rt_iff, hd_iff, true_imp_iff, true_and, and_true, and_self, lt01, Int.ofNat_lt, Int.ofNat_le, Int.natCast_nonneg, Int.toNat_natCast, decide_true, decide_false, Bool.true_eq_false, Bool.false_eq_true, false_imp_iff, Nat.lt_irrefl, imp_self, implies_true,  hk, hL, hk2, wrapS hk hr, e2, beq_self_eq_true]
        exact ih
      · rw [Ist_same hat] at ih
        simp only [wp_iff, chk_iff, know_iff, any_iff, rt_iff, hd_iff, true_imp_iff, true_and, and_true, and_self, lt01, Int.ofNat_lt, Int.ofNat_le, Int.natCast_nonneg, Int.toNat_natCast, decide_true, decide_false, Bool.true_eq_false, Bool.false_eq_true, false_imp_iff, Nat.lt_irrefl, imp_self, implies_true,  hk, hL, hk2, wrapS hk hr]
        refine ⟨fun h1 => ⟨fun h2 => ?_, fun _ => ih⟩, fun _ => ih⟩
        have g1 : (i : Int) = (b : Int) := by simpa using h1
        have g2 : (k : Int) = (s : Int) := by simpa using h2
        exact absurd ⟨by omega, by omega⟩ hat)
theorem con_l0 {b s n : Nat} {to : Int} {A G : List (Den (.sl 8 I))} (h : CF b s n to A G) (hn : n ≤ 1000) (hr : ∀ i, i < n → ln I (gd (.sl 8 I) A i) < 9223372036854775807) : ∀ i, i ≤ n → Runs E_C16 (law20_CfgContract_L0 b s n to 0 n n i A (Ist b s A G i 0)) (fun x h => x = vb true ∧ h = []) :=
  up_ind (.tree E_C16_ok (law20_CfgContract_L0_t _ _ _ _ _ _ _ _ _ _) (by
    simp only [wp_iff, chk_iff, know_iff, any_iff, rt_iff, hd_iff, true_imp_iff, true_and, and_true, and_self, lt01, Int.ofNat_lt, Int.ofNat_le, Int.natCast_nonneg, Int.toNat_natCast, decide_true, decide_false, Bool.true_eq_false, Bool.false_eq_true, false_imp_iff, Nat.lt_irrefl, imp_self, implies_true,  worksR]))
    fun i hi ih => .tree E_C16_ok (law20_CfgContract_L0_t _ _ _ _ _ _ _ _ _ _) (by
      have hL : i < ln (.sl 8 I) (Ist b s A G i 0) := by rw [Ist_ln h]; omega
      simp only [wp_iff, chk_iff, know_iff, any_iff, rt_iff, hd_iff, true_imp_iff, true_and, and_true, and_self, lt01, Int.ofNat_lt, Int.ofNat_le, Int.natCast_nonneg, Int.toNat_natCast, decide_true, decide_false, Bool.true_eq_false, Bool.false_eq_true, false_imp_iff, Nat.lt_irrefl, imp_self, implies_true,  hi, hL, Nat.zero_add, Ist_len h hi]
      exact con_l2 h hn hi (hr i hi) ih 0 (Nat.zero_le _))
theorem gd_map {S T : Sh} {f : Den S → Den T} {l : List (Den S)} {i : Nat} (h : i < ln S l) : gd T (l.map f) i = f (gd S l i) := by
  unfold gd
  have h' : i < l.length := h
  rw [List.getD_eq_getElem?_getD, List.getElem?_map, List.getD_eq_getElem?_getD, List.getElem?_eq_getElem h']
  rfl
theorem heads_set (B : Blk) (s : Nat) (e : Den s_api_Edge) : headsB (setSuc B s e) = st I (headsB B) s e.1 := List.map_set ..
theorem heads_ln (B : Blk) : ln I (headsB B) = ln s_api_Edge (tSuc B) := ln_map (S := s_api_Edge) (T := I)
theorem split_b {f : Fn} {b s : Int} (h : splitIs f b s = true) : 0 ≤ b ∧ b < (ln s_api_Block f.2.2.2.2.1 : Int) ∧ 0 ≤ s ∧ s < (ln s_api_Edge (tSuc (blk f b)) : Int) := by
  unfold splitIs at h
  simp only [Bool.not_eq_true', Bool.or_eq_false_iff, decide_eq_false_iff_not] at h
  have e : ln s_api_Block (blocks f) = ln s_api_Block f.2.2.2.2.1 := rfl
  exact ⟨by omega, by omega, by omega, by omega⟩
theorem split_ln {f : Fn} {b s : Int} : ln s_api_Block (splitOK f b s).2.2.2.2.1 = ln s_api_Block f.2.2.2.2.1 + 1 := by
  show ln s_api_Block (ap s_api_Block (st s_api_Block f.2.2.2.2.1 _ _) [_]) = _
  rw [ln_ap, ln_st, ln_one]
theorem split_last {f : Fn} {b s : Int} : gd s_api_Block (splitOK f b s).2.2.2.2.1 (ln s_api_Block f.2.2.2.2.1) = newB f b s := by
  have := gd_last (S := s_api_Block) (l := st s_api_Block (blocks f) b.toNat (setSuc (blk f b) s.toNat ((ln s_api_Block (blocks f) : Int), ([] : List (Den I)), ()))) (x := newB f b s)
  rw [ln_st] at this
  exact this
theorem cf_of {f : Fn} {b s : Int} (h : splitIs f b s = true) : CF b.toNat s.toNat (ln s_api_Block f.2.2.2.2.1) (gd s_api_Edge (tSuc (blk f b)) s.toNat).1 (graphF f).1 (graphF (splitOK f b s)).1 := by
  obtain ⟨h1, h2, h3, h4⟩ := split_b h
  have hb : b.toNat < ln s_api_Block f.2.2.2.2.1 := by omega
  have hs : s.toNat < ln s_api_Edge (tSuc (blk f b)) := by omega
  have gA : ∀ i, i < ln s_api_Block f.2.2.2.2.1 → gd (.sl 8 I) (graphF f).1 i = headsB (gd s_api_Block f.2.2.2.2.1 i) := fun i hi => gd_map (S := s_api_Block) (T := (.sl 8 I)) hi
  have gG : ∀ i, i < ln s_api_Block f.2.2.2.2.1 → gd (.sl 8 I) (graphF (splitOK f b s)).1 i = headsB (gd s_api_Block (st s_api_Block f.2.2.2.2.1 b.toNat (setSuc (blk f b) s.toNat ((ln s_api_Block (blocks f) : Int), ([] : List (Den I)), ()))) i) := fun i hi => by
    have e1 := gd_map (S := s_api_Block) (T := (.sl 8 I)) (f := headsB) (l := (splitOK f b s).2.2.2.2.1) (i := i) (by rw [split_ln]; omega)
    have e2 : gd s_api_Block (splitOK f b s).2.2.2.2.1 i = _ := gd_ap (S := s_api_Block) (l := st s_api_Block f.2.2.2.2.1 b.toNat (setSuc (blk f b) s.toNat ((ln s_api_Block (blocks f) : Int), ([] : List (Den I)), ()))) (m := [newB f b s]) (i := i) (by rw [ln_st]; exact hi)
    exact e1.trans (congrArg headsB e2)
  have gb : gd (.sl 8 I) (graphF f).1 b.toNat = headsB (blk f b) := gA _ hb
  refine ⟨ln_map (S := s_api_Block) (T := (.sl 8 I)), (ln_map (S := s_api_Block) (T := (.sl 8 I))).trans split_ln, fun i hi hne => ?_, hb, ?_, ?_, ?_⟩
  · rw [gG i hi, gA i hi, gd_st_any, if_neg (fun h => hne h.1.symm)]
  · rw [gG _ hb, gd_st hb, heads_set, gb]
  · rw [gb, heads_ln]
    exact hs
  · rw [gb]
    exact gd_map (S := s_api_Edge) (T := I) (f := fun e => e.1) hs
def yesCon (_ : Fn) (_ _ : Int) : Bool := true

def k_law20_CfgContract : Con := con [.d s_api_Func, .d I, .d I] .bool (fun x => True) fun x => yesCon x.1 x.2.1 x.2.2.1
theorem m_law20_CfgContract (f : Den s_api_Func) (block : Int) (succ : Int) (h_f : okD s_api_Func f) (h_block : okD I block) (h_succ : okD I succ) (hp : True) : Runs E_C16 (start E_C16 f_law20_CfgContract [(.tv s_api_Func f), (vi block), (vi succ)]) (fun r_ h_ => r_ = (vb (yesCon f block succ)) ∧ h_ = []) := .tree E_C16_ok (law20_CfgContract_t f block succ) (by
  simp only [wp_iff, chk_iff, know_iff, any_iff, rt_iff, hd_iff, true_imp_iff, true_and, and_true, and_self, lt01,  worksR, yesCon]
  refine ⟨fun _ => trivial, fun hl => ?_⟩
  have hb := (not_large hl).1
  refine ⟨by omega, fun _ _ => ⟨fun h1 => ⟨by omega, fun _ _ => ⟨fun _ => trivial, fun h2 => absurd (h1.symm.trans h2) (by decide)⟩⟩, fun h1 => ?_⟩⟩
  have hs : splitIs f block succ = true := by
    by_cases h : splitIs f block succ = true
    · exact h
    · unfold splitF at h1
      rw [if_neg h] at h1
      exact absurd h1 (by decide)
  have e : splitF f block succ = (splitOK f block succ, true) := if_pos hs
  have c := cf_of hs
  obtain ⟨g1, g2, g3, g4⟩ := split_b hs
  have hw : IntKind.wrap .i64 ((ln s_api_Block f.2.2.2.2.1 : Int) + 1) = ((ln s_api_Block f.2.2.2.2.1 + 1 : Nat) : Int) := by
    rw [wrap64 _ (by omega) (by omega)]
    omega
  have hE : (newB f block succ).2.2.1.2.2.2.1 = [gd s_api_Edge (tSuc (blk f block)) succ.toNat] := rfl
  have hE0 : gd s_api_Edge [gd s_api_Edge (tSuc (blk f block)) succ.toNat] 0 = gd s_api_Edge (tSuc (blk f block)) succ.toNat := rfl
  have f1 : (0 : Int) ≤ (ln s_api_Block f.2.2.2.2.1 : Int) ∧ (ln s_api_Block f.2.2.2.2.1 : Int) < ((ln s_api_Block f.2.2.2.2.1 + 1 : Nat) : Int) := ⟨by omega, by omega⟩
  have f2 : (0 : Int) ≤ 0 ∧ (0 : Int) ≤ (ln s_api_Block f.2.2.2.2.1 : Int) ∧ (ln s_api_Block f.2.2.2.2.1 : Int) ≤ ((ln s_api_Block f.2.2.2.2.1 + 1 : Nat) : Int) := ⟨by omega, by omega, by omega⟩
  have f3 : (0 : Int) ≤ 0 ∧ (0 : Int) < ((1 : Nat) : Int) := by decide
  have f4 : (((1 : Nat) : Int) != 1) = false := by decide
  have hE1 : ln s_api_Edge [gd s_api_Edge (tSuc (blk f block)) succ.toNat] = 1 := rfl
  have hz : (ln s_api_Block f.2.2.2.2.1 : Int) - ((0 : Nat) : Int) = (ln s_api_Block f.2.2.2.2.1 : Int) := by omega
  rw [e]
  simp only [split_ln, split_last, hw, hE, hE0, hE1, hz, c.lG, f1, f2, f3, f4, bne_self_eq_false, Bool.false_eq_true, false_imp_iff, true_imp_iff, true_and, and_self, Nat.sub_zero]
  intro _ _
  have hfin := con_l0 c (by omega) (fun i hi => by
    have gA : gd (.sl 8 I) (graphF f).1 i = headsB (gd s_api_Block f.2.2.2.2.1 i) := gd_map (S := s_api_Block) (T := .sl 8 I) hi
    rw [gA, heads_ln]
    exact room_lt (okB_suc (okB_of h_f) hi).1) 0 (Nat.zero_le _)
  unfold Ist at hfin
  rw [if_neg (by omega), show ((block.toNat : Nat) : Int) = block by omega, show ((succ.toNat : Nat) : Int) = succ by omega] at hfin
  exact hfin)
theorem c_law20_CfgContract : SpecOK E_C16 f_law20_CfgContract k_law20_CfgContract.spec := spec_of fun x hx hp => ⟨rfl, m_law20_CfgContract x.1 x.2.1 x.2.2.1 hx.1 hx.2.1 hx.2.2.1 hp⟩
def L_C16 : List (FuncId × FSpec) := [(f_law20_CfgContract, k_law20_CfgContract.spec)] ++ L_C15
theorem L_C16_ok : ∀ x ∈ L_C16, SpecOK (ctx []) x.1 x.2 := by
  unfold L_C16
  simp only [List.cons_append, List.nil_append, List.forall_mem_cons]
  exact ⟨c_law20_CfgContract, L_C15_ok⟩
end Burn.M20
namespace Burn.M20
open Go Go.BE Go.Proofs
set_option maxRecDepth 100000
set_option linter.unusedVariables false
set_option linter.unusedSimpArgs false
open Burn.Cfg
noncomputable abbrev E_C17 : Ctx := ctx L_C16
theorem E_C17_ok : EOK E_C17 := ctx_ok L_C16_ok
def cuts_C17 : CutL := [([], 43, 0, [3, 4, 5, 6, 28, 29, 30], [(.c 6 4, .own 136 s_api_Block 1)], []),
  ([], 43, 2, [3, 4, 5, 6, 8, 9, 28, 29, 30, 40, 41, 42], [(.c 9 1, .own 80 s_api_Instr)], []),
  ([], 43, 4, [3, 4, 5, 6, 9, 28, 29, 30, 82, 83, 84], [(.c 9 5, .own 32 s_api_Edge)], [])]
def rets_C17 : FuncId → List (Option Fx)
  | _ => []
def H_C17 : Hints := { cut := cutOf cuts_C17, ret := rets_C17 }
noncomputable def mapP_L0 (to_0 : List (Den I)) (all_0_0 : List (Den I)) (t28 : List (Den s_api_Block)) (t29 : Int) (t30 : Int) (t4_0 : ByteArray) (t4_2 : Int) (g_0 : ByteArray) (g_2 : Int) (g_1 : List (Den I)) (g_3 : List (Den I)) (g_4 : List (Den s_api_Block)) : Cfg := hcfg E_C17 f_cfg_mapped 0 [(3, (.rop [(.fn f_cfg_Permute_cl1 [(.rtp (.sl 8 I) to_0)])] 0)), (4, (.ref 0 0)), (5, (.fn f_cfg_mapped_cl1 [(.rop [(.fn f_cfg_Permute_cl1 [(.rtp (.sl 8 I) all_0_0)])] 0)])), (6, (.ref 1 0)), (28, (.tv (.sl 136 s_api_Block) t28)), (29, (vi t29)), (30, (vi t30))] [(0, ⟨(.cells [(vs t4_0), (.val (.slice none 0 0)), (vi t4_2), (.val (.slice none 0 0)), (.val (.slice none 0 0))]), 0, [], false, none⟩), (1, ⟨(.cells [(vs g_0), (.osl 2 2 [] none), (vi g_2), (.osl 3 3 [] none), (.osl 4 4 [] none)]), 1, [], false, none⟩), (2, ⟨(.arr 0 8 I g_1), 2, [], false, none⟩), (3, ⟨(.arr 0 8 I g_3), 3, [], false, none⟩), (4, ⟨(.arr 1 136 s_api_Block g_4), 4, [], false, none⟩)] 5
noncomputable def mapP_L2 (to_0 : List (Den I)) (all_0_0 : List (Den I)) (t28 : List (Den s_api_Block)) (t29 : Int) (t30 : Int) (t40 : List (Den s_api_Instr)) (t41 : Int) (t42 : Int) (t4_0 : ByteArray) (t4_2 : Int) (g_0 : ByteArray) (g_2 : Int) (b_0 : List (Den I)) (b_1 : List (Den s_api_Instr)) (b_2 : Int) (b_3 : List (Den I)) (b_4 : List (Den I)) (b_5 : List (Den s_api_Edge)) (b_6 : Int) (n_2 : Int) (n_6 : Int) (g_1 : List (Den I)) (g_3 : List (Den I)) (g_4 : List (Den s_api_Block)) (n_0 : List (Den I)) (n_1 : List (Den s_api_Instr)) : Cfg := hcfg E_C17 f_cfg_mapped 2 [(3, (.rop [(.fn f_cfg_Permute_cl1 [(.rtp (.sl 8 I) to_0)])] 0)), (4, (.ref 0 0)), (5, (.fn f_cfg_mapped_cl1 [(.rop [(.fn f_cfg_Permute_cl1 [(.rtp (.sl 8 I) all_0_0)])] 0)])), (6, (.ref 1 0)), (8, (.ref 2 0)), (9, (.ref 3 0)), (28, (.tv (.sl 136 s_api_Block) t28)), (29, (vi t29)), (30, (vi t30)), (40, (.tv (.sl 80 s_api_Instr) t40)), (41, (vi t41)), (42, (vi t42))] [(0, ⟨(.cells [(vs t4_0), (.val (.slice none 0 0)), (vi t4_2), (.val (.slice none 0 0)), (.val (.slice none 0 0))]), 0, [], false, none⟩), (1, ⟨(.cells [(vs g_0), (.osl 4 4 [] none), (vi g_2), (.osl 5 5 [] none), (.osl 6 6 [] none)]), 1, [], false, none⟩), (2, ⟨(.cells [(.tv (.sl 8 I) b_0), (.tv (.sl 80 s_api_Instr) b_1), (vi b_2), (.tv (.sl 8 I) b_3), (.tv (.sl 8 I) b_4), (.tv (.sl 32 s_api_Edge) b_5), (vi b_6)]), 2, [], false, none⟩), (3, ⟨(.cells [(.osl 7 7 [] none), (.osl 8 8 [] none), (vi n_2), (.val (.slice none 0 0)), (.val (.slice none 0 0)), (.val (.slice none 0 0)), (vi n_6)]), 3, [], false, none⟩), (4, ⟨(.arr 0 8 I g_1), 4, [], false, none⟩), (5, ⟨(.arr 0 8 I g_3), 5, [], false, none⟩), (6, ⟨(.arr 1 136 s_api_Block g_4), 6, [], false, none⟩), (7, ⟨(.arr 0 8 I n_0), 7, [], false, none⟩), (8, ⟨(.arr 0 80 s_api_Instr n_1), 8, [], false, none⟩)] 9
noncomputable def mapP_L4 (to_0 : List (Den I)) (all_0_0 : List (Den I)) (t28 : List (Den s_api_Block)) (t29 : Int) (t30 : Int) (t82 : List (Den s_api_Edge)) (t83 : Int) (t84 : Int) (t4_0 : ByteArray) (t4_2 : Int) (g_0 : ByteArray) (g_2 : Int) (n_2 : Int) (n_6 : Int) (g_1 : List (Den I)) (g_3 : List (Den I)) (g_4 : List (Den s_api_Block)) (n_0 : List (Den I)) (n_1 : List (Den s_api_Instr)) (n_3 : List (Den I)) (n_4 : List (Den I)) (n_5 : List (Den s_api_Edge)) : Cfg := hcfg E_C17 f_cfg_mapped 4 [(3, (.rop [(.fn f_cfg_Permute_cl1 [(.rtp (.sl 8 I) to_0)])] 0)), (4, (.ref 0 0)), (5, (.fn f_cfg_mapped_cl1 [(.rop [(.fn f_cfg_Permute_cl1 [(.rtp (.sl 8 I) all_0_0)])] 0)])), (6, (.ref 1 0)), (9, (.ref 2 0)), (28, (.tv (.sl 136 s_api_Block) t28)), (29, (vi t29)), (30, (vi t30)), (82, (.tv (.sl 32 s_api_Edge) t82)), (83, (vi t83)), (84, (vi t84))] [(0, ⟨(.cells [(vs t4_0), (.val (.slice none 0 0)), (vi t4_2), (.val (.slice none 0 0)), (.val (.slice none 0 0))]), 0, [], false, none⟩), (1, ⟨(.cells [(vs g_0), (.osl 3 3 [] none), (vi g_2), (.osl 4 4 [] none), (.osl 5 5 [] none)]), 1, [], false, none⟩), (2, ⟨(.cells [(.osl 6 6 [] none), (.osl 7 7 [] none), (vi n_2), (.osl 8 8 [] none), (.osl 9 9 [] none), (.osl 10 10 [] none), (vi n_6)]), 2, [], false, none⟩), (3, ⟨(.arr 0 8 I g_1), 3, [], false, none⟩), (4, ⟨(.arr 0 8 I g_3), 4, [], false, none⟩), (5, ⟨(.arr 1 136 s_api_Block g_4), 5, [], false, none⟩), (6, ⟨(.arr 0 8 I n_0), 6, [], false, none⟩), (7, ⟨(.arr 0 80 s_api_Instr n_1), 7, [], false, none⟩), (8, ⟨(.arr 0 8 I n_3), 8, [], false, none⟩), (9, ⟨(.arr 0 8 I n_4), 9, [], false, none⟩), (10, ⟨(.arr 0 32 s_api_Edge n_5), 10, [], false, none⟩)] 11
theorem mapP_t (f : Den s_api_Func) (c0 : List (Den I)) : run E_C17 H_C17 f_cfg_mapped 3000 (start E_C17 f_cfg_mapped [(.tv s_api_Func f), (.fn f_cfg_Permute_cl1 [(.rtp (.sl 8 I) c0)])]) = (.chk (True) (.chk (True) (.know True (.know True (hd (mapP_L0 c0 c0 f.2.2.2.2.1 ((ln s_api_Block f.2.2.2.2.1) : Int) (0 : Int) ByteArray.empty (0 : Int) (tOf f.1) (z f.2.2.1) (permL f.2.1 c0) (idL f.2.2.2.1) ([] : List (Den s_api_Block)))))))) := by kernel_rfl
theorem mapP_L0_t (to_0 : List (Den I)) (all_0_0 : List (Den I)) (t28 : List (Den s_api_Block)) (t29 : Int) (t30 : Int) (t4_0 : ByteArray) (t4_2 : Int) (g_0 : ByteArray) (g_2 : Int) (g_1 : List (Den I)) (g_3 : List (Den I)) (g_4 : List (Den s_api_Block)) : run E_C17 H_C17 f_cfg_mapped 3000 (mapP_L0 to_0 all_0_0 t28 t29 t30 t4_0 t4_2 g_0 g_2 g_1 g_3 g_4) = (cond (decide (t30 < t29)) (.chk (0 ≤ t30 ∧ t30 < (ln s_api_Block t28)) (.chk (True) (.know True (hd (mapP_L2 to_0 all_0_0 t28 t29 t30 (((gd s_api_Block t28 ((t30).toNat)).2).1) ((ln s_api_Instr (((gd s_api_Block t28 ((t30).toNat)).2).1)) : Int) (0 : Int) t4_0 t4_2 g_0 g_2 ((gd s_api_Block t28 ((t30).toNat)).1) (((gd s_api_Block t28 ((t30).toNat)).2).1) (z (((((gd s_api_Block t28 ((t30).toNat)).2).2).1).1)) ((((((gd s_api_Block t28 ((t30).toNat)).2).2).1).2).1) (((((((gd s_api_Block t28 ((t30).toNat)).2).2).1).2).2).1) ((((((((gd s_api_Block t28 ((t30).toNat)).2).2).1).2).2).2).1) (z (((((((((gd s_api_Block t28 ((t30).toNat)).2).2).1).2).2).2).2).1)) (0 : Int) (0 : Int) g_1 g_3 g_4 (permL (gd s_api_Block t28 ((t30).toNat)).1 all_0_0) ([] : List (Den s_api_Instr))))))) (rt (.agg [(vs g_0), (.osl 0 0 [] none), (vi g_2), (.osl 1 1 [] none), (.osl 2 2 [] none)]) [(0, ⟨(.arr 0 8 I g_1), 0, [], false, none⟩), (1, ⟨(.arr 0 8 I g_3), 1, [], false, none⟩), (2, ⟨(.arr 1 136 s_api_Block g_4), 2, [], false, none⟩)])) := by kernel_rfl
theorem mapP_L2_t (to_0 : List (Den I)) (all_0_0 : List (Den I)) (t28 : List (Den s_api_Block)) (t29 : Int) (t30 : Int) (t40 : List (Den s_api_Instr)) (t41 : Int) (t42 : Int) (t4_0 : ByteArray) (t4_2 : Int) (g_0 : ByteArray) (g_2 : Int) (b_0 : List (Den I)) (b_1 : List (Den s_api_Instr)) (b_2 : Int) (b_3 : List (Den I)) (b_4 : List (Den I)) (b_5 : List (Den s_api_Edge)) (b_6 : Int) (n_2 : Int) (n_6 : Int) (g_1 : List (Den I)) (g_3 : List (Den I)) (g_4 : List (Den s_api_Block)) (n_0 : List (Den I)) (n_1 : List (Den s_api_Instr)) : run E_C17 H_C17 f_cfg_mapped 3000 (mapP_L2 to_0 all_0_0 t28 t29 t30 t40 t41 t42 t4_0 t4_2 g_0 g_2 b_0 b_1 b_2 b_3 b_4 b_5 b_6 n_2 n_6 g_1 g_3 g_4 n_0 n_1) = (cond (decide (t42 < t41)) (.chk (0 ≤ t42 ∧ t42 < (ln s_api_Instr t40)) (.chk (True) (.chk (True) (.know True (.know (okD (.int .i64) (permRc (((gd s_api_Instr t40 ((t42).toNat)).2).2).1 to_0)) (.chk (((ln s_api_Instr n_1) + (1 : Nat)) * 80 ≤ roomB) (hd (mapP_L2 to_0 all_0_0 t28 t29 t30 t40 t41 (IntKind.wrap .i64 (t42 + (1 : Int))) t4_0 t4_2 g_0 g_2 b_0 b_1 b_2 b_3 b_4 b_5 b_6 n_2 n_6 g_1 g_3 g_4 n_0 (ap s_api_Instr n_1 ([((gd s_api_Instr t40 ((t42).toNat)).1, ((gd s_api_Instr t40 ((t42).toNat)).2).1, (permRc (((gd s_api_Instr t40 ((t42).toNat)).2).2).1 to_0), (permL ((((gd s_api_Instr t40 ((t42).toNat)).2).2).2).1 all_0_0), ((((gd s_api_Instr t40 ((t42).toNat)).2).2).2).2)] : List (Den s_api_Instr))))))))))) (.chk (True) (.chk (True) (.know True (.know True (hd (mapP_L4 to_0 all_0_0 t28 t29 t30 b_5 ((ln s_api_Edge b_5) : Int) (0 : Int) t4_0 t4_2 g_0 g_2 b_2 b_6 g_1 g_3 g_4 n_0 n_1 (permL b_3 all_0_0) (idL b_4) ([] : List (Den s_api_Edge))))))))) := by kernel_rfl
theorem mapP_L4_t (to_0 : List (Den I)) (all_0_0 : List (Den I)) (t28 : List (Den s_api_Block)) (t29 : Int) (t30 : Int) (t82 : List (Den s_api_Edge)) (t83 : Int) (t84 : Int) (t4_0 : ByteArray) (t4_2 : Int) (g_0 : ByteArray) (g_2 : Int) (n_2 : Int) (n_6 : Int) (g_1 : List (Den I)) (g_3 : List (Den I)) (g_4 : List (Den s_api_Block)) (n_0 : List (Den I)) (n_1 : List (Den s_api_Instr)) (n_3 : List (Den I)) (n_4 : List (Den I)) (n_5 : List (Den s_api_Edge)) : run E_C17 H_C17 f_cfg_mapped 3000 (mapP_L4 to_0 all_0_0 t28 t29 t30 t82 t83 t84 t4_0 t4_2 g_0 g_2 n_2 n_6 g_1 g_3 g_4 n_0 n_1 n_3 n_4 n_5) = (cond (decide (t84 < t83)) (.chk (0 ≤ t84 ∧ t84 < (ln s_api_Edge t82)) (.chk (True) (.chk (((ln s_api_Edge n_5) + (1 : Nat)) * 32 ≤ roomB) (.know True (hd (mapP_L4 to_0 all_0_0 t28 t29 t30 t82 t83 (IntKind.wrap .i64 (t84 + (1 : Int))) t4_0 t4_2 g_0 g_2 n_2 n_6 g_1 g_3 g_4 n_0 n_1 n_3 n_4 (ap s_api_Edge n_5 ([((gd s_api_Edge t82 ((t84).toNat)).1, (permL ((gd s_api_Edge t82 ((t84).toNat)).2).1 all_0_0), ())] : List (Den s_api_Edge))))))))) (.chk (((ln s_api_Block g_4) + (1 : Nat)) * 136 ≤ roomB) (hd (mapP_L0 to_0 all_0_0 t28 t29 (IntKind.wrap .i64 (t30 + (1 : Int))) t4_0 t4_2 g_0 g_2 g_1 g_3 (ap s_api_Block g_4 ([(n_0, n_1, (n_2, n_3, n_4, n_5, n_6, ()), ())] : List (Den s_api_Block))))))) := by kernel_rfl
def mapIn (k : List (Den I)) (i : Den s_api_Instr) : Den s_api_Instr := (i.1, i.2.1, permRc i.2.2.1 k, permL i.2.2.2.1 k, i.2.2.2.2)
def mapEd (k : List (Den I)) (e : Den s_api_Edge) : Den s_api_Edge := (e.1, permL e.2.1 k, ())
def mapBl (k : List (Den I)) (b : Blk) : Den s_api_Block := (permL b.1 k, List.map (mapIn k) (bIns b), (b.2.2.1.1, permL (tArgs b) k, b.2.2.1.2.2.1, List.map (mapEd k) (tSuc b), b.2.2.1.2.2.2.2.1, ()), ())
def mapFn (f : Fn) (k : List (Den I)) : Den s_api_Func := (f.1, permL f.2.1 k, f.2.2.1, f.2.2.2.1, List.map (mapBl k) (blocks f), ())
def retP (f : Fn) (k : List (Den I)) (x : AV) (h : Heap) : Prop := x = (ownRes 1 s_api_Func (mapFn f k)).1 ∧ h = (ownRes 1 s_api_Func (mapFn f k)).2
theorem mapP_l (f : Fn) (K : List (Den I)) (l : List (Den s_api_Block)) (hf : blocks f = l) (ho : okB l) : ∀ i, i ≤ ln s_api_Block l → ∀ a b, Runs E_C17 (mapP_L0 K K l (ln s_api_Block l : Nat) i a b (tOf f.1) (z f.2.2.1) (permL f.2.1 K) (idL f.2.2.2.1) (List.map (mapBl K) (l.take i))) (retP f K) :=
  up_ind (fun a b => .tree E_C17_ok (mapP_L0_t _ _ _ _ _ _ _ _ _ _ _ _) (by
    rw [take_ln]
    simp only [wp_iff, chk_iff, know_iff, any_iff, rt_iff, hd_iff, true_imp_iff, true_and, and_true, and_self, lt01, Int.ofNat_lt, Int.ofNat_le, Int.natCast_nonneg, Int.toNat_natCast, decide_true, decide_false, Bool.true_eq_false, Bool.false_eq_true, false_imp_iff, Nat.lt_irrefl, imp_self, implies_true,  retP]
    rw [← hf]
    exact ⟨rfl, rfl⟩))
    fun i hi ih a b => .tree E_C17_ok (mapP_L0_t _ _ _ _ _ _ _ _ _ _ _ _) (by
      simp only [wp_iff, chk_iff, know_iff, any_iff, rt_iff, hd_iff, true_imp_iff, true_and, and_true, and_self, lt01, Int.ofNat_lt, Int.ofNat_le, Int.natCast_nonneg, Int.toNat_natCast, decide_true, decide_false, Bool.true_eq_false, Bool.false_eq_true, false_imp_iff, Nat.lt_irrefl, imp_self, implies_true,  hi, idL]
      have hob := ho.2 i hi
      have hst := take_gd hi
      generalize gd s_api_Block l i = B at hob hst
      have k4 : ∀ k, k ≤ ln s_api_Edge (tSuc B) → Runs E_C17 (mapP_L4 K K l (ln s_api_Block l : Nat) i (tSuc B) (ln s_api_Edge (tSuc B) : Nat) k a b (tOf f.1) (z f.2.2.1) (z B.2.2.1.1) (z B.2.2.1.2.2.2.2.1) (permL f.2.1 K) f.2.2.2.1 (List.map (mapBl K) (l.take i)) (permL (bPar B) K) (List.map (mapIn K) (bIns B)) (permL (tArgs B) K) B.2.2.1.2.2.1 (List.map (mapEd K) ((tSuc B).take k))) (retP f K) :=
        up_ind (.tree E_C17_ok (mapP_L4_t _ _ _ _ _ _ _ _ _ _ _ _ _ _ _ _ _ _ _ _ _ _) (by
          rw [take_ln]
          simp only [wp_iff, chk_iff, know_iff, any_iff, rt_iff, hd_iff, true_imp_iff, true_and, and_true, and_self, lt01, Int.ofNat_lt, Int.ofNat_le, Int.natCast_nonneg, Int.toNat_natCast, decide_true, decide_false, Bool.true_eq_false, Bool.false_eq_true, false_imp_iff, Nat.lt_irrefl, imp_self, implies_true,  ln_map (S := s_api_Block) (T := s_api_Block), ln_take (Nat.le_of_lt hi), wrapS hi (room_lt ho.1)]
          refine ⟨room_part ho.1 hi (by decide), fun _ => ?_⟩
          have := ih a b
          rw [hst, List.map_append] at this
          exact this))
          fun k hk ihk => .tree E_C17_ok (mapP_L4_t _ _ _ _ _ _ _ _ _ _ _ _ _ _ _ _ _ _ _ _ _ _) (by
            have hr := hob.2.2.1.2.2.2.1.1
            rw [take_gd hk, List.map_append] at ihk
            simp only [wp_iff, chk_iff, know_iff, any_iff, rt_iff, hd_iff, true_imp_iff, true_and, and_true, and_self, lt01, Int.ofNat_lt, Int.ofNat_le, Int.natCast_nonneg, Int.toNat_natCast, decide_true, decide_false, Bool.true_eq_false, Bool.false_eq_true, false_imp_iff, Nat.lt_irrefl, imp_self, implies_true,  hk, ln_map (S := s_api_Edge) (T := s_api_Edge), ln_take (Nat.le_of_lt hk), wrapS hk (room_lt hr)]
            exact ⟨room_part hr hk (by decide), fun _ => ihk⟩)
      have k2 : ∀ k, k ≤ ln s_api_Instr (bIns B) → Runs E_C17 (mapP_L2 K K l (ln s_api_Block l : Nat) i (bIns B) (ln s_api_Instr (bIns B) : Nat) k a b (tOf f.1) (z f.2.2.1) (bPar B) (bIns B) (z B.2.2.1.1) (tArgs B) B.2.2.1.2.2.1 (tSuc B) (z B.2.2.1.2.2.2.2.1) 0 0 (permL f.2.1 K) f.2.2.2.1 (List.map (mapBl K) (l.take i)) (permL (bPar B) K) (List.map (mapIn K) ((bIns B).take k))) (retP f K) :=
        up_ind (.tree E_C17_ok (mapP_L2_t _ _ _ _ _ _ _ _ _ _ _ _ _ _ _ _ _ _ _ _ _ _ _ _ _ _) (by
          rw [take_ln]
          simp only [wp_iff, chk_iff, know_iff, any_iff, rt_iff, hd_iff, true_imp_iff, true_and, and_true, and_self, lt01, Int.ofNat_lt, Int.ofNat_le, Int.natCast_nonneg, Int.toNat_natCast, decide_true, decide_false, Bool.true_eq_false, Bool.false_eq_true, false_imp_iff, Nat.lt_irrefl, imp_self, implies_true,  idL]
          exact k4 0 (Nat.zero_le _)))
          fun k hk ihk => .tree E_C17_ok (mapP_L2_t _ _ _ _ _ _ _ _ _ _ _ _ _ _ _ _ _ _ _ _ _ _ _ _ _ _) (by
            have hr := hob.2.1.1
            rw [take_gd hk, List.map_append] at ihk
            simp only [wp_iff, chk_iff, know_iff, any_iff, rt_iff, hd_iff, true_imp_iff, true_and, and_true, and_self, lt01, Int.ofNat_lt, Int.ofNat_le, Int.natCast_nonneg, Int.toNat_natCast, decide_true, decide_false, Bool.true_eq_false, Bool.false_eq_true, false_imp_iff, Nat.lt_irrefl, imp_self, implies_true,  hk, ln_map (S := s_api_Instr) (T := s_api_Instr), ln_take (Nat.le_of_lt hk), wrapS hk (room_lt hr)]
            exact fun _ => ⟨room_part hr hk (by decide), fun _ => ihk⟩)
      exact k2 0 (Nat.zero_le _))
def k_mapP : Con := conO 1 [.d s_api_Func, .fn f_cfg_Permute_cl1 [(.sl 8 I)]] s_api_Func (fun x => True) fun x => mapFn x.1 x.2.1.1
theorem m_mapP (f : Den s_api_Func) (c0 : List (Den I)) (h_f : okD s_api_Func f) (h_c0 : okD (.sl 8 I) c0) (hp : True) : Runs E_C17 (start E_C17 f_cfg_mapped [(.tv s_api_Func f), (.fn f_cfg_Permute_cl1 [(.rtp (.sl 8 I) c0)])]) (fun r_ h_ => r_ = (ownRes 1 s_api_Func (mapFn f c0)).1 ∧ h_ = (ownRes 1 s_api_Func (mapFn f c0)).2) := .tree E_C17_ok (mapP_t f c0) (by
  simp only [wp_iff, chk_iff, know_iff, any_iff, rt_iff, hd_iff, true_imp_iff, true_and, and_true, and_self, lt01]
  exact mapP_l f _ _ rfl (okB_of h_f) 0 (Nat.zero_le _) _ _)
theorem c_mapP : SpecOK E_C17 f_cfg_mapped k_mapP.spec := spec_of fun x hx hp => ⟨rfl, m_mapP x.1 x.2.1.1 hx.1 hx.2.1.1 hp⟩
def L_C17 : List (FuncId × FSpec) := [(f_cfg_mapped, k_mapP.spec)] ++ L_C16
theorem L_C17_ok : ∀ x ∈ L_C17, SpecOK (ctx []) x.1 x.2 := by
  unfold L_C17
  simp only [List.cons_append, List.nil_append, List.forall_mem_cons]
  exact ⟨c_mapP, L_C16_ok⟩
end Burn.M20
namespace Burn.M20
open Go Go.BE Go.Proofs
set_option maxRecDepth 100000
set_option linter.unusedVariables false
set_option linter.unusedSimpArgs false
open Burn.Cfg
noncomputable abbrev E_C18 : Ctx := ctx L_C17
theorem E_C18_ok : EOK E_C18 := ctx_ok L_C17_ok
def cuts_C18 : CutL := [([], 42, 0, [1, 5, 14, 15, 16], [], []),
  ([], 45, 0, [1, 5, 14, 15, 16], [], [])]
def rets_C18 : FuncId → List (Option Fx)
  | _ => []
def H_C18 : Hints := { cut := cutOf cuts_C18, ret := rets_C18 }
noncomputable def cfg_permutation_L0 (n : Int) (t14 : List (Den I)) (t15 : Int) (t16 : Int) (met : List (Den .bool)) : Cfg := hcfg E_C18 f_cfg_permutation 0 [(1, (vi n)), (5, (.osl 0 0 [] none)), (14, (.tv (.sl 8 I) t14)), (15, (vi t15)), (16, (vi t16))] [(0, ⟨(.arr 0 1 .bool met), 0, [], false, none⟩)] 1
theorem cfg_permutation_t (perm : List (Den I)) (n : Int) : run E_C18 H_C18 f_cfg_permutation 3000 (start E_C18 f_cfg_permutation [(.tv (.sl 8 I) perm), (vi n)]) = (cond (((ln I perm) : Int) != n) (rt (vb false) []) (.chk (n = n) (.chk (0 ≤ n) (.chk ((n).toNat * 1 ≤ roomB) (hd (cfg_permutation_L0 n perm ((ln I perm) : Int) (0 : Int) (List.replicate ((n).toNat) (dz .bool)))))))) := by kernel_rfl
theorem cfg_permutation_L0_t (n : Int) (t14 : List (Den I)) (t15 : Int) (t16 : Int) (met : List (Den .bool)) : run E_C18 H_C18 f_cfg_permutation 3000 (cfg_permutation_L0 n t14 t15 t16 met) = (cond (decide (t16 < t15)) (.chk (0 ≤ t16 ∧ t16 < (ln I t14)) (cond (decide ((z (gd I t14 ((t16).toNat))) < (0 : Int))) (rt (vb false) []) (cond (decide ((z (gd I t14 ((t16).toNat))) ≥ n)) (rt (vb false) []) (.chk (0 ≤ (z (gd I t14 ((t16).toNat))) ∧ (z (gd I t14 ((t16).toNat))) < (ln .bool met)) (.chk (((z (gd I t14 ((t16).toNat)))).toNat < (ln .bool met)) (cond (bOf (gd .bool met (((z (gd I t14 ((t16).toNat)))).toNat))) (rt (vb false) []) (.chk (0 ≤ (z (gd I t14 ((t16).toNat))) ∧ (z (gd I t14 ((t16).toNat))) < (ln .bool met)) (.chk (((z (gd I t14 ((t16).toNat)))).toNat < (ln .bool met)) (hd (cfg_permutation_L0 n t14 t15 (IntKind.wrap .i64 (t16 + (1 : Int))) (st .bool met (((z (gd I t14 ((t16).toNat)))).toNat) true))))))))))) (rt (vb true) [])) := by kernel_rfl
noncomputable def r20_permutation_L0 (n : Int) (t14 : List (Den I)) (t15 : Int) (t16 : Int) (seen : List (Den .bool)) : Cfg := hcfg E_C18 f_r20_permutation 0 [(1, (vi n)), (5, (.osl 0 0 [] none)), (14, (.tv (.sl 8 I) t14)), (15, (vi t15)), (16, (vi t16))] [(0, ⟨(.arr 0 1 .bool seen), 0, [], false, none⟩)] 1
theorem r20_permutation_t (perm : List (Den I)) (n : Int) : run E_C18 H_C18 f_r20_permutation 3000 (start E_C18 f_r20_permutation [(.tv (.sl 8 I) perm), (vi n)]) = (cond (((ln I perm) : Int) != n) (rt (vb false) []) (.chk (n = n) (.chk (0 ≤ n) (.chk ((n).toNat * 1 ≤ roomB) (hd (r20_permutation_L0 n perm ((ln I perm) : Int) (0 : Int) (List.replicate ((n).toNat) (dz .bool)))))))) := by kernel_rfl
theorem r20_permutation_L0_t (n : Int) (t14 : List (Den I)) (t15 : Int) (t16 : Int) (seen : List (Den .bool)) : run E_C18 H_C18 f_r20_permutation 3000 (r20_permutation_L0 n t14 t15 t16 seen) = (cond (decide (t16 < t15)) (.chk (0 ≤ t16 ∧ t16 < (ln I t14)) (cond (decide ((z (gd I t14 ((t16).toNat))) < (0 : Int))) (rt (vb false) []) (cond (decide ((z (gd I t14 ((t16).toNat))) ≥ n)) (rt (vb false) []) (.chk (0 ≤ (z (gd I t14 ((t16).toNat))) ∧ (z (gd I t14 ((t16).toNat))) < (ln .bool seen)) (.chk (((z (gd I t14 ((t16).toNat)))).toNat < (ln .bool seen)) (cond (bOf (gd .bool seen (((z (gd I t14 ((t16).toNat)))).toNat))) (rt (vb false) []) (.chk (0 ≤ (z (gd I t14 ((t16).toNat))) ∧ (z (gd I t14 ((t16).toNat))) < (ln .bool seen)) (.chk (((z (gd I t14 ((t16).toNat)))).toNat < (ln .bool seen)) (hd (r20_permutation_L0 n t14 t15 (IntKind.wrap .i64 (t16 + (1 : Int))) (st .bool seen (((z (gd I t14 ((t16).toNat)))).toNat) true))))))))))) (rt (vb true) [])) := by kernel_rfl
def permGo (n : Int) : List (Den I) → List (Den .bool) → Bool
  | [], _ => true
  | r :: l, m => if z r < 0 ∨ z r ≥ n then false else if bOf (gd .bool m (z r).toNat) = true then false else permGo n l (st .bool m (z r).toNat true)
def permB (p : List (Den I)) (n : Int) : Bool := (ln I p : Int) == n && permGo n p (List.replicate n.toNat (dz .bool))
theorem cfg_permutation_l (l : List (Den I)) (n : Int) (hr : ln I l < 9223372036854775807) : ∀ i, i ≤ ln I l → ∀ m : List (Den .bool), (ln .bool m : Int) = n → Runs E_C18 (cfg_permutation_L0 n l (ln I l : Nat) i m) (fun x h => x = vb (permGo n (l.drop i) m) ∧ h = []) :=
  up_ind (fun m _ => .tree E_C18_ok (cfg_permutation_L0_t _ _ _ _ _) (by
    rw [drop_ln]
    simp only [wp_iff, chk_iff, know_iff, any_iff, rt_iff, hd_iff, true_imp_iff, true_and, and_true, and_self, lt01, Int.ofNat_lt, Int.ofNat_le, Int.natCast_nonneg, Int.toNat_natCast, decide_true, decide_false, Bool.true_eq_false, Bool.false_eq_true, false_imp_iff, Nat.lt_irrefl, imp_self, implies_true,  permGo]))
    fun i hi ih m hm => .tree E_C18_ok (cfg_permutation_L0_t _ _ _ _ _) (by
      rw [drop_gd hi, permGo]
      simp only [wp_iff, chk_iff, know_iff, any_iff, rt_iff, hd_iff, true_imp_iff, true_and, and_true, and_self, lt01, Int.ofNat_lt, Int.ofNat_le, Int.natCast_nonneg, Int.toNat_natCast, decide_true, decide_false, Bool.true_eq_false, Bool.false_eq_true, false_imp_iff, Nat.lt_irrefl, imp_self, implies_true,  hi, wrapS hi hr]
      refine ⟨fun h1 => ?_, fun h1 => ⟨fun h2 => ?_, fun h2 => ?_⟩⟩
      · rw [if_pos (.inl (of_decide_eq_true h1))]
      · rw [if_pos (.inr (of_decide_eq_true h2))]
      · have a1 := of_decide_eq_false h1
        have a2 := of_decide_eq_false h2
        have f1 : 0 ≤ z (gd I l i) ∧ z (gd I l i) < (ln .bool m : Int) := ⟨by omega, by omega⟩
        have f2 : (z (gd I l i)).toNat < ln .bool m := by omega
        rw [if_neg (by omega)]
        simp only [f1, f2, true_imp_iff, true_and, and_self]
        refine ⟨fun h3 => ?_, fun h3 => ?_⟩
        · rw [if_pos h3]
        · rw [if_neg (by rw [h3]; decide)]
          exact ih _ (by rw [ln_st]; exact hm))
def k_cfg_permutation : Con := con [.d (.sl 8 I), .d I] .bool (fun x => True) fun x => permB x.1 x.2.1
theorem m_cfg_permutation (perm : List (Den I)) (n : Int) (h_perm : okD (.sl 8 I) perm) (h_n : okD I n) (hp : True) : Runs E_C18 (start E_C18 f_cfg_permutation [(.tv (.sl 8 I) perm), (vi n)]) (fun r_ h_ => r_ = (vb (permB perm n)) ∧ h_ = []) := .tree E_C18_ok (cfg_permutation_t perm n) (by
  unfold permB
  simp only [wp_iff, chk_iff, know_iff, any_iff, rt_iff, hd_iff, true_imp_iff, true_and, and_true, and_self, lt01]
  have hr := h_perm.1
  refine ⟨fun h => ?_, fun h => ?_⟩
  · rw [show ((ln I perm : Int) == n) = false by simpa using h]
    rfl
  · have e : (ln I perm : Int) = n := by simpa using h
    rw [show ((ln I perm : Int) == n) = true by simpa using e, Bool.true_and]
    have h1 : n.toNat = ln I perm := by omega
    refine ⟨by omega, fun _ => ⟨?_, fun _ => ?_⟩⟩
    · rw [h1]
      exact room_part hr (Nat.le_refl _) (by decide)
    · exact cfg_permutation_l perm n (room_lt hr) 0 (Nat.zero_le _) _ (by
        show ((List.replicate n.toNat (dz .bool)).length : Int) = n
        rw [List.length_replicate]
        omega))
theorem c_cfg_permutation : SpecOK E_C18 f_cfg_permutation k_cfg_permutation.spec := spec_of fun x hx hp => ⟨rfl, m_cfg_permutation x.1 x.2.1 hx.1 hx.2.1 hp⟩
theorem r20_permutation_l (l : List (Den I)) (n : Int) (hr : ln I l < 9223372036854775807) : ∀ i, i ≤ ln I l → ∀ m : List (Den .bool), (ln .bool m : Int) = n → Runs E_C18 (r20_permutation_L0 n l (ln I l : Nat) i m) (fun x h => x = vb (permGo n (l.drop i) m) ∧ h = []) :=
  up_ind (fun m _ => .tree E_C18_ok (r20_permutation_L0_t _ _ _ _ _) (by
    rw [drop_ln]
    simp only [wp_iff, chk_iff, know_iff, any_iff, rt_iff, hd_iff, true_imp_iff, true_and, and_true, and_self, lt01, Int.ofNat_lt, Int.ofNat_le, Int.natCast_nonneg, Int.toNat_natCast, decide_true, decide_false, Bool.true_eq_false, Bool.false_eq_true, false_imp_iff, Nat.lt_irrefl, imp_self, implies_true,  permGo]))
    fun i hi ih m hm => .tree E_C18_ok (r20_permutation_L0_t _ _ _ _ _) (by
      rw [drop_gd hi, permGo]
      simp only [wp_iff, chk_iff, know_iff, any_iff, rt_iff, hd_iff, true_imp_iff, true_and, and_true, and_self, lt01, Int.ofNat_lt, Int.ofNat_le, Int.natCast_nonneg, Int.toNat_natCast, decide_true, decide_false, Bool.true_eq_false, Bool.false_eq_true, false_imp_iff, Nat.lt_irrefl, imp_self, implies_true,  hi, wrapS hi hr]
      refine ⟨fun h1 => ?_, fun h1 => ⟨fun h2 => ?_, fun h2 => ?_⟩⟩
      · rw [if_pos (.inl (of_decide_eq_true h1))]
      · rw [if_pos (.inr (of_decide_eq_true h2))]
      · have a1 := of_decide_eq_false h1
        have a2 := of_decide_eq_false h2
        have f1 : 0 ≤ z (gd I l i) ∧ z (gd I l i) < (ln .bool m : Int) := ⟨by omega, by omega⟩
        have f2 : (z (gd I l i)).toNat < ln .bool m := by omega
        rw [if_neg (by omega)]
        simp only [f1, f2, true_imp_iff, true_and, and_self]
        refine ⟨fun h3 => ?_, fun h3 => ?_⟩
        · rw [if_pos h3]
        · rw [if_neg (by rw [h3]; decide)]
          exact ih _ (by rw [ln_st]; exact hm))
def k_r20_permutation : Con := con [.d (.sl 8 I), .d I] .bool (fun x => True) fun x => permB x.1 x.2.1
theorem m_r20_permutation (perm : List (Den I)) (n : Int) (h_perm : okD (.sl 8 I) perm) (h_n : okD I n) (hp : True) : Runs E_C18 (start E_C18 f_r20_permutation [(.tv (.sl 8 I) perm), (vi n)]) (fun r_ h_ => r_ = (vb (permB perm n)) ∧ h_ = []) := .tree E_C18_ok (r20_permutation_t perm n) (by
  unfold permB
  simp only [wp_iff, chk_iff, know_iff, any_iff, rt_iff, hd_iff, true_imp_iff, true_and, and_true, and_self, lt01]
  have hr := h_perm.1
  refine ⟨fun h => ?_, fun h => ?_⟩
  · rw [show ((ln I perm : Int) == n) = false by simpa using h]
    rfl
  · have e : (ln I perm : Int) = n := by simpa using h
    rw [show ((ln I perm : Int) == n) = true by simpa using e, Bool.true_and]
    have h1 : n.toNat = ln I perm := by omega
    refine ⟨by omega, fun _ => ⟨?_, fun _ => ?_⟩⟩
    · rw [h1]
      exact room_part hr (Nat.le_refl _) (by decide)
    · exact r20_permutation_l perm n (room_lt hr) 0 (Nat.zero_le _) _ (by
        show ((List.replicate n.toNat (dz .bool)).length : Int) = n
        rw [List.length_replicate]
        omega))
theorem c_r20_permutation : SpecOK E_C18 f_r20_permutation k_r20_permutation.spec := spec_of fun x hx hp => ⟨rfl, m_r20_permutation x.1 x.2.1 hx.1 hx.2.1 hp⟩
def L_C18 : List (FuncId × FSpec) := [(f_cfg_permutation, k_cfg_permutation.spec), (f_r20_permutation, k_r20_permutation.spec)] ++ L_C17
theorem L_C18_ok : ∀ x ∈ L_C18, SpecOK (ctx []) x.1 x.2 := by
  unfold L_C18
  simp only [List.cons_append, List.nil_append, List.forall_mem_cons]
  exact ⟨c_cfg_permutation, c_r20_permutation, L_C17_ok⟩
end Burn.M20
namespace Burn.M20
open Go Go.BE Go.Proofs
set_option maxRecDepth 100000
set_option linter.unusedVariables false
set_option linter.unusedSimpArgs false
open Burn.Cfg
noncomputable abbrev E_C19 : Ctx := ctx L_C18
theorem E_C19_ok : EOK E_C19 := ctx_ok L_C18_ok
def cuts_C19 : CutL := [([], 29, 0, [3, 4, 5, 20, 21, 22], [], [])]
def rets_C19 : FuncId → List (Option Fx)
  | 29 => [some (.dat s_api_Func)]
  | _ => []
def H_C19 : Hints := { cut := cutOf cuts_C19, ret := rets_C19 }
noncomputable def cfg_Permute_L0 (perm : List (Den I)) (t20 : List (Den I)) (t21 : Int) (t22 : Int) (t4_0 : ByteArray) (t4_2 : Int) (g_0 : ByteArray) (g_2 : Int) (g_1 : List (Den I)) (g_3 : List (Den I)) (g_4 : List (Den s_api_Block)) : Cfg := hcfg E_C19 f_cfg_Permute 0 [(3, (.rtp (.sl 8 I) perm)), (4, (.ref 0 0)), (5, (.ref 1 0)), (20, (.tv (.sl 8 I) t20)), (21, (vi t21)), (22, (vi t22))] [(0, ⟨(.cells [(vs t4_0), (.val (.slice none 0 0)), (vi t4_2), (.val (.slice none 0 0)), (.val (.slice none 0 0))]), 0, [], false, none⟩), (1, ⟨(.cells [(vs g_0), (.osl 2 2 [] none), (vi g_2), (.osl 3 3 [] none), (.osl 4 4 [] none)]), 1, [], false, none⟩), (2, ⟨(.arr 0 8 I g_1), 2, [], false, none⟩), (3, ⟨(.arr 0 8 I g_3), 3, [], false, none⟩), (4, ⟨(.arr 1 136 s_api_Block g_4), 4, [], false, none⟩)] 5
theorem cfg_Permute_t (f : Den s_api_Func) (perm : List (Den I)) : run E_C19 H_C19 f_cfg_Permute 3000 (start E_C19 f_cfg_Permute [(.tv s_api_Func f), (.tv (.sl 8 I) perm)]) = (.chk (True) (.know True (cond (!(permB perm ((ln I f.2.2.2.1) : Int))) (.chk (True) (.know (okAVs [(vs (tOf ((idF f).1))), (.osl 0 0 [] none), (vi (z ((((idF f).2).2).1))), (.osl 1 1 [] none), (.osl 2 2 [] none)]) (rt (.tv s_api_Func (idF f)) []))) (.chk (True) (.know (okAVs [(vs (tOf ((mapFn f perm).1))), (.osl 0 0 [] none), (vi (z ((((mapFn f perm).2).2).1))), (.osl 1 1 [] none), (.osl 2 2 [] none)]) (hd (cfg_Permute_L0 perm f.2.2.2.1 ((ln I f.2.2.2.1) : Int) (0 : Int) ByteArray.empty (0 : Int) (tOf ((mapFn f perm).1)) (z ((((mapFn f perm).2).2).1)) (((mapFn f perm).2).1) (((((mapFn f perm).2).2).2).1) ((((((mapFn f perm).2).2).2).2).1)))))))) := by kernel_rfl
theorem cfg_Permute_L0_t (perm : List (Den I)) (t20 : List (Den I)) (t21 : Int) (t22 : Int) (t4_0 : ByteArray) (t4_2 : Int) (g_0 : ByteArray) (g_2 : Int) (g_1 : List (Den I)) (g_3 : List (Den I)) (g_4 : List (Den s_api_Block)) : run E_C19 H_C19 f_cfg_Permute 3000 (cfg_Permute_L0 perm t20 t21 t22 t4_0 t4_2 g_0 g_2 g_1 g_3 g_4) = (cond (decide (t22 < t21)) (.chk (0 ≤ t22 ∧ t22 < (ln I t20)) (.chk (0 ≤ t22 ∧ t22 < (ln I perm)) (.chk (0 ≤ (z (gd I perm ((t22).toNat))) ∧ (z (gd I perm ((t22).toNat))) < (ln I g_3)) (.chk (((z (gd I perm ((t22).toNat)))).toNat < (ln I g_3)) (hd (cfg_Permute_L0 perm t20 t21 (IntKind.wrap .i64 (t22 + (1 : Int))) t4_0 t4_2 g_0 g_2 g_1 (st I g_3 (((z (gd I perm ((t22).toNat)))).toNat) (gd I t20 ((t22).toNat))) g_4)))))) (rt (.tv s_api_Func (g_0, g_1, g_2, g_3, g_4, ())) [])) := by kernel_rfl
def regsGo : List (Den I) → List (Den I) → List (Den I) → List (Den I)
  | p :: ps, t :: ts, acc => regsGo ps ts (st I acc (z p).toNat t)
  | _, _, acc => acc
def permuteF (f : Fn) (perm : List (Den I)) : Den s_api_Func := if permB perm (ln I f.2.2.2.1 : Int) = true then (f.1, permL f.2.1 perm, f.2.2.1, regsGo perm f.2.2.2.1 f.2.2.2.1, List.map (mapBl perm) (blocks f), ()) else f
theorem permGo_range {n : Int} : ∀ {l : List (Den I)} {m : List (Den .bool)}, permGo n l m = true → ∀ i, i < ln I l → 0 ≤ z (gd I l i) ∧ z (gd I l i) < n
  | [], _, _, i, hi => absurd hi (Nat.not_lt_zero i)
  | r :: l, m, h, i, hi => by
    rw [permGo] at h
    split at h
    · cases h
    · rename_i h1
      split at h
      · cases h
      · cases i with
        | zero =>
          show 0 ≤ z r ∧ z r < n
          exact ⟨by omega, by omega⟩
        | succ i => exact permGo_range h i (Nat.lt_of_succ_lt_succ hi)
theorem permB_range {p : List (Den I)} {n : Int} (h : permB p n = true) : (ln I p : Int) = n ∧ ∀ i, i < ln I p → 0 ≤ z (gd I p i) ∧ z (gd I p i) < n := by
  unfold permB at h
  simp only [Bool.and_eq_true, beq_iff_eq] at h
  exact ⟨h.1, permGo_range h.2⟩
theorem cfg_Permute_l (perm : List (Den I)) (l : List (Den I)) (hr : ln I l < 9223372036854775807) (hp : permB perm (ln I l : Int) = true) (n0 : ByteArray) (n2 : Int) (g1 : List (Den I)) (g4 : List (Den s_api_Block)) : ∀ i, i ≤ ln I l → ∀ (a : ByteArray) (b : Int) (acc : List (Den I)), ln I acc = ln I l → Runs E_C19 (cfg_Permute_L0 perm l (ln I l : Nat) i a b n0 n2 g1 acc g4) (fun x h => x = .tv s_api_Func (n0, g1, n2, regsGo (perm.drop i) (l.drop i) acc, g4, ()) ∧ h = []) :=
  up_ind (fun a b acc _ => .tree E_C19_ok (cfg_Permute_L0_t _ _ _ _ _ _ _ _ _ _ _) (by
    have hl := (permB_range hp).1
    have e : perm.drop (ln I l) = [] := List.drop_eq_nil_of_le (by show ln I perm ≤ _; omega)
    rw [drop_ln, e]
    simp only [wp_iff, chk_iff, know_iff, any_iff, rt_iff, hd_iff, true_imp_iff, true_and, and_true, and_self, lt01, Int.ofNat_lt, Int.ofNat_le, Int.natCast_nonneg, Int.toNat_natCast, decide_true, decide_false, Bool.true_eq_false, Bool.false_eq_true, false_imp_iff, Nat.lt_irrefl, imp_self, implies_true,  regsGo]))
    fun i hi ih a b acc ha => .tree E_C19_ok (cfg_Permute_L0_t _ _ _ _ _ _ _ _ _ _ _) (by
      obtain ⟨hl, hrg⟩ := permB_range hp
      have hip : i < ln I perm := by omega
      have f1 := hrg i hip
      have f2 : 0 ≤ z (gd I perm i) ∧ z (gd I perm i) < (ln I acc : Int) := by rw [ha]; exact f1
      have f3 : (z (gd I perm i)).toNat < ln I acc := by omega
      have := ih a b (st I acc (z (gd I perm i)).toNat (gd I l i)) (by rw [ln_st]; exact ha)
      rw [drop_gd (l := perm) (i := i) hip, drop_gd (l := l) (i := i) hi, regsGo]
      simp only [wp_iff, chk_iff, know_iff, any_iff, rt_iff, hd_iff, true_imp_iff, true_and, and_true, and_self, lt01, Int.ofNat_lt, Int.ofNat_le, Int.natCast_nonneg, Int.toNat_natCast, decide_true, decide_false, Bool.true_eq_false, Bool.false_eq_true, false_imp_iff, Nat.lt_irrefl, imp_self, implies_true,  hi, hip, f2, f3, wrapS hi hr]
      exact this)
def k_cfg_Permute : Con := con [.d s_api_Func, .d (.sl 8 I)] s_api_Func (fun x => True) fun x => permuteF x.1 x.2.1
theorem m_cfg_Permute (f : Den s_api_Func) (perm : List (Den I)) (h_f : okD s_api_Func f) (h_perm : okD (.sl 8 I) perm) (hp : True) : Runs E_C19 (start E_C19 f_cfg_Permute [(.tv s_api_Func f), (.tv (.sl 8 I) perm)]) (fun r_ h_ => r_ = (.tv s_api_Func (permuteF f perm)) ∧ h_ = []) := .tree E_C19_ok (cfg_Permute_t f perm) (by
  unfold permuteF
  simp only [wp_iff, chk_iff, know_iff, any_iff, rt_iff, hd_iff, true_imp_iff, true_and, and_true, and_self, lt01]
  refine ⟨fun h => ?_, fun h => ?_⟩
  · rw [if_neg (by simpa using h)]
    exact fun _ => rfl
  · have hp' : permB perm (ln I f.2.2.2.1 : Int) = true := by simpa using h
    rw [if_pos hp']
    intro _
    exact cfg_Permute_l perm f.2.2.2.1 (room_lt h_f.2.2.2.1.1) hp' f.1 f.2.2.1 _ _ 0 (Nat.zero_le _) _ _ f.2.2.2.1 rfl)
theorem c_cfg_Permute : SpecOK E_C19 f_cfg_Permute k_cfg_Permute.spec := spec_of fun x hx hp => ⟨rfl, m_cfg_Permute x.1 x.2.1 hx.1 hx.2.1 hp⟩
def L_C19 : List (FuncId × FSpec) := [(f_cfg_Permute, k_cfg_Permute.spec)] ++ L_C18
theorem L_C19_ok : ∀ x ∈ L_C19, SpecOK (ctx []) x.1 x.2 := by
  unfold L_C19
  simp only [List.cons_append, List.nil_append, List.forall_mem_cons]
  exact ⟨c_cfg_Permute, L_C18_ok⟩
end Burn.M20
namespace Burn.M20
open Go Go.BE Go.Proofs
set_option maxRecDepth 100000
set_option linter.unusedVariables false
set_option linter.unusedSimpArgs false
open Burn.Cfg
def site_C20 : FuncId → Nat → Nat
  | 48, 30 => 11
  | 48, 31 => 11
  | 48, 68 => 11
  | 48, 69 => 11
  | f, t => siteOf siteTr f t
noncomputable abbrev E_C20 : Ctx := { ctx L_C19 with site := site_C20 }
theorem E_C20_ok : EOK E_C20 := have h : EOK (ctx L_C19) := ctx_ok L_C19_ok; ⟨h.ty, h.env, h.fns, h.mixed⟩
def cuts_C20 : CutL := [([], 48, 0, [1, 2, 3, 16, 17, 18], [(.c 3 1, .own 80 s_api_Instr 1)], []),
  ([], 48, 2, [2, 3, 52, 53, 54], [(.c 3 5, .own 32 s_api_Edge 1)], [])]
def rets_C20 : FuncId → List (Option Fx)
  | _ => []
def H_C20 : Hints := { cut := cutOf cuts_C20, ret := rets_C20 }
noncomputable def cbO_L0 (b : Den s_api_Block) (t16 : List (Den s_api_Instr)) (t17 : Int) (t18 : Int) (t2_2 : Int) (t2_6 : Int) (out_2 : Int) (out_3 : List (Den I)) (out_4 : List (Den I)) (out_5 : List (Den s_api_Edge)) (out_6 : Int) (out_0 : List (Den I)) (out_1 : List (Den s_api_Instr)) : Cfg := hcfg E_C20 f_r20_cloneBlock 0 [(1, (.rtp s_api_Block b)), (2, (.ref 0 0)), (3, (.ref 1 0)), (16, (.tv (.sl 80 s_api_Instr) t16)), (17, (vi t17)), (18, (vi t18))] [(0, ⟨(.cells [(.val (.slice none 0 0)), (.val (.slice none 0 0)), (vi t2_2), (.val (.slice none 0 0)), (.val (.slice none 0 0)), (.val (.slice none 0 0)), (vi t2_6)]), 0, [], false, none⟩), (1, ⟨(.cells [(.osl 2 2 [] none), (.osl 3 3 [] none), (vi out_2), (.tv (.sl 8 I) out_3), (.tv (.sl 8 I) out_4), (.tv (.sl 32 s_api_Edge) out_5), (vi out_6)]), 1, [], false, none⟩), (2, ⟨(.arr 0 8 I out_0), 2, [], false, none⟩), (3, ⟨(.arr 1 80 s_api_Instr out_1), 3, [], false, none⟩)] 4
noncomputable def cbO_L2 (t52 : List (Den s_api_Edge)) (t53 : Int) (t54 : Int) (t2_2 : Int) (t2_6 : Int) (out_2 : Int) (out_6 : Int) (out_0 : List (Den I)) (out_1 : List (Den s_api_Instr)) (out_3 : List (Den I)) (out_4 : List (Den I)) (out_5 : List (Den s_api_Edge)) : Cfg := hcfg E_C20 f_r20_cloneBlock 2 [(2, (.ref 0 0)), (3, (.ref 1 0)), (52, (.tv (.sl 32 s_api_Edge) t52)), (53, (vi t53)), (54, (vi t54))] [(0, ⟨(.cells [(.val (.slice none 0 0)), (.val (.slice none 0 0)), (vi t2_2), (.val (.slice none 0 0)), (.val (.slice none 0 0)), (.val (.slice none 0 0)), (vi t2_6)]), 0, [], false, none⟩), (1, ⟨(.cells [(.osl 2 2 [] none), (.osl 3 3 [] none), (vi out_2), (.osl 4 4 [] none), (.osl 5 5 [] none), (.osl 6 6 [] none), (vi out_6)]), 1, [], false, none⟩), (2, ⟨(.arr 0 8 I out_0), 2, [], false, none⟩), (3, ⟨(.arr 1 80 s_api_Instr out_1), 3, [], false, none⟩), (4, ⟨(.arr 0 8 I out_3), 4, [], false, none⟩), (5, ⟨(.arr 0 8 I out_4), 5, [], false, none⟩), (6, ⟨(.arr 1 32 s_api_Edge out_5), 6, [], false, none⟩)] 7
theorem cbO_t (b : Den s_api_Block) : run E_C20 H_C20 f_r20_cloneBlock 3000 (start E_C20 f_r20_cloneBlock [(.tv s_api_Block b)]) = (.chk (((0 : Nat) + (ln I b.1)) * 8 ≤ roomB) (hd (cbO_L0 b b.2.1 ((ln s_api_Instr b.2.1) : Int) (0 : Int) (0 : Int) (0 : Int) (z b.2.2.1.1) b.2.2.1.2.1 b.2.2.1.2.2.1 b.2.2.1.2.2.2.1 (z b.2.2.1.2.2.2.2.1) (ap I ([] : List (Den I)) b.1) ([] : List (Den s_api_Instr))))) := by kernel_rfl
theorem cbO_L0_t (b : Den s_api_Block) (t16 : List (Den s_api_Instr)) (t17 : Int) (t18 : Int) (t2_2 : Int) (t2_6 : Int) (out_2 : Int) (out_3 : List (Den I)) (out_4 : List (Den I)) (out_5 : List (Den s_api_Edge)) (out_6 : Int) (out_0 : List (Den I)) (out_1 : List (Den s_api_Instr)) : run E_C20 H_C20 f_r20_cloneBlock 3000 (cbO_L0 b t16 t17 t18 t2_2 t2_6 out_2 out_3 out_4 out_5 out_6 out_0 out_1) = (cond (decide (t18 < t17)) (.chk (0 ≤ t18 ∧ t18 < (ln s_api_Instr t16)) (.chk (((0 : Nat) + (ln I (((((gd s_api_Instr t16 ((t18).toNat)).2).2).2).1))) * 8 ≤ roomB) (.chk (((ln s_api_Instr out_1) + (1 : Nat)) * 80 ≤ roomB) (hd (cbO_L0 b t16 t17 (IntKind.wrap .i64 (t18 + (1 : Int))) t2_2 t2_6 out_2 out_3 out_4 out_5 out_6 out_0 (ap s_api_Instr out_1 ([((gd s_api_Instr t16 ((t18).toNat)).1, ((gd s_api_Instr t16 ((t18).toNat)).2).1, (((gd s_api_Instr t16 ((t18).toNat)).2).2).1, (ap I ([] : List (Den I)) (((((gd s_api_Instr t16 ((t18).toNat)).2).2).2).1)), ((((gd s_api_Instr t16 ((t18).toNat)).2).2).2).2)] : List (Den s_api_Instr)))))))) (.chk (((0 : Nat) + (ln I b.2.2.1.2.1)) * 8 ≤ roomB) (.chk (((0 : Nat) + (ln I b.2.2.1.2.2.1)) * 8 ≤ roomB) (hd (cbO_L2 b.2.2.1.2.2.2.1 ((ln s_api_Edge b.2.2.1.2.2.2.1) : Int) (0 : Int) t2_2 t2_6 out_2 out_6 out_0 out_1 (ap I ([] : List (Den I)) b.2.2.1.2.1) (ap I ([] : List (Den I)) b.2.2.1.2.2.1) ([] : List (Den s_api_Edge))))))) := by kernel_rfl
theorem cbO_L2_t (t52 : List (Den s_api_Edge)) (t53 : Int) (t54 : Int) (t2_2 : Int) (t2_6 : Int) (out_2 : Int) (out_6 : Int) (out_0 : List (Den I)) (out_1 : List (Den s_api_Instr)) (out_3 : List (Den I)) (out_4 : List (Den I)) (out_5 : List (Den s_api_Edge)) : run E_C20 H_C20 f_r20_cloneBlock 3000 (cbO_L2 t52 t53 t54 t2_2 t2_6 out_2 out_6 out_0 out_1 out_3 out_4 out_5) = (cond (decide (t54 < t53)) (.chk (0 ≤ t54 ∧ t54 < (ln s_api_Edge t52)) (.chk (((0 : Nat) + (ln I (((gd s_api_Edge t52 ((t54).toNat)).2).1))) * 8 ≤ roomB) (.chk (((ln s_api_Edge out_5) + (1 : Nat)) * 32 ≤ roomB) (hd (cbO_L2 t52 t53 (IntKind.wrap .i64 (t54 + (1 : Int))) t2_2 t2_6 out_2 out_6 out_0 out_1 out_3 out_4 (ap s_api_Edge out_5 ([((gd s_api_Edge t52 ((t54).toNat)).1, (ap I ([] : List (Den I)) (((gd s_api_Edge t52 ((t54).toNat)).2).1)), ())] : List (Den s_api_Edge)))))))) (rt (.agg [(.osl 0 0 [] none), (.osl 1 1 [] none), (vi out_2), (.osl 2 2 [] none), (.osl 3 3 [] none), (.osl 4 4 [] none), (vi out_6)]) [(0, ⟨(.arr 0 8 I out_0), 0, [], false, none⟩), (1, ⟨(.arr 1 80 s_api_Instr out_1), 1, [], false, none⟩), (2, ⟨(.arr 0 8 I out_3), 2, [], false, none⟩), (3, ⟨(.arr 0 8 I out_4), 3, [], false, none⟩), (4, ⟨(.arr 1 32 s_api_Edge out_5), 4, [], false, none⟩)])) := by kernel_rfl
def retBO (b : Blk) (x : AV) (h : Heap) : Prop := x = (ownRes 99 s_api_Block (idB b)).1 ∧ h = (ownRes 99 s_api_Block (idB b)).2
theorem cbO_l (b : Blk) (hb : okD s_api_Block b) : ∀ i, i ≤ ln s_api_Instr (bIns b) → Runs E_C20 (cbO_L0 b (bIns b) (ln s_api_Instr (bIns b) : Nat) i 0 0 (z b.2.2.1.1) (tArgs b) b.2.2.1.2.2.1 (tSuc b) (z b.2.2.1.2.2.2.2.1) (bPar b) ((bIns b).take i)) (retBO b) := by
  have k4 : ∀ k, k ≤ ln s_api_Edge (tSuc b) → Runs E_C20 (cbO_L2 (tSuc b) (ln s_api_Edge (tSuc b) : Nat) k 0 0 (z b.2.2.1.1) (z b.2.2.1.2.2.2.2.1) (bPar b) (bIns b) (tArgs b) b.2.2.1.2.2.1 ((tSuc b).take k)) (retBO b) :=
    up_ind (.tree E_C20_ok (cbO_L2_t _ _ _ _ _ _ _ _ _ _ _ _) (by
      rw [take_ln]
      simp only [wp_iff, chk_iff, know_iff, any_iff, rt_iff, hd_iff, true_imp_iff, true_and, and_true, and_self, lt01, Int.ofNat_lt, Int.ofNat_le, Int.natCast_nonneg, Int.toNat_natCast, decide_true, decide_false, Bool.true_eq_false, Bool.false_eq_true, false_imp_iff, Nat.lt_irrefl, imp_self, implies_true,  retBO]
      exact ⟨rfl, rfl⟩))
      fun k hk ihk => .tree E_C20_ok (cbO_L2_t _ _ _ _ _ _ _ _ _ _ _ _) (by
        have hr := hb.2.2.1.2.2.2.1
        have hi := room8 (ok_gd hr hk).2.1
        rw [take_gd hk] at ihk
        simp only [wp_iff, chk_iff, know_iff, any_iff, rt_iff, hd_iff, true_imp_iff, true_and, and_true, and_self, lt01, Int.ofNat_lt, Int.ofNat_le, Int.natCast_nonneg, Int.toNat_natCast, decide_true, decide_false, Bool.true_eq_false, Bool.false_eq_true, false_imp_iff, Nat.lt_irrefl, imp_self, implies_true,  hk, ln_take (Nat.le_of_lt hk), wrapS hk (room_lt hr.1), nil_ap]
        exact ⟨hi, fun _ => ⟨room_part hr.1 hk (by decide), fun _ => ihk⟩⟩)
  refine up_ind (.tree E_C20_ok (cbO_L0_t _ _ _ _ _ _ _ _ _ _ _ _ _) (by
      rw [take_ln]
      simp only [wp_iff, chk_iff, know_iff, any_iff, rt_iff, hd_iff, true_imp_iff, true_and, and_true, and_self, lt01, Int.ofNat_lt, Int.ofNat_le, Int.natCast_nonneg, Int.toNat_natCast, decide_true, decide_false, Bool.true_eq_false, Bool.false_eq_true, false_imp_iff, Nat.lt_irrefl, imp_self, implies_true,  nil_ap]
      exact ⟨room8 hb.2.2.1.2.1, fun _ => ⟨room8 hb.2.2.1.2.2.1, fun _ => k4 0 (Nat.zero_le _)⟩⟩))
      fun k hk ihk => .tree E_C20_ok (cbO_L0_t _ _ _ _ _ _ _ _ _ _ _ _ _) (by
        have hr := hb.2.1
        have hi := room8 (ok_gd hr hk).2.2.2.1
        rw [take_gd hk] at ihk
        simp only [wp_iff, chk_iff, know_iff, any_iff, rt_iff, hd_iff, true_imp_iff, true_and, and_true, and_self, lt01, Int.ofNat_lt, Int.ofNat_le, Int.natCast_nonneg, Int.toNat_natCast, decide_true, decide_false, Bool.true_eq_false, Bool.false_eq_true, false_imp_iff, Nat.lt_irrefl, imp_self, implies_true,  hk, ln_take (Nat.le_of_lt hk), wrapS hk (room_lt hr.1), nil_ap]
        exact ⟨hi, fun _ => ⟨room_part hr.1 hk (by decide), fun _ => ihk⟩⟩)
def k_cbO : Con := conO 99 [.d s_api_Block] s_api_Block (fun x => True) fun x => idB x.1
theorem m_cbO (b : Den s_api_Block) (h_b : okD s_api_Block b) (hp : True) : Runs E_C20 (start E_C20 f_r20_cloneBlock [(.tv s_api_Block b)]) (fun r_ h_ => r_ = (ownRes 99 s_api_Block (idB b)).1 ∧ h_ = (ownRes 99 s_api_Block (idB b)).2) := .tree E_C20_ok (cbO_t b) (by
  simp only [wp_iff, chk_iff, know_iff, any_iff, rt_iff, hd_iff, true_imp_iff, true_and, and_true, and_self, lt01]
  exact ⟨room8 h_b.1, fun _ => cbO_l b h_b 0 (Nat.zero_le _)⟩)
theorem c_cbO : SpecOK E_C20 f_r20_cloneBlock k_cbO.spec := spec_of fun x hx hp => ⟨rfl, m_cbO x.1 hx.1 hp⟩
def L_C20 : List (FuncId × FSpec) := [(f_r20_cloneBlock, k_cbO.spec)] ++ L_C19
theorem L_C20_ok : ∀ x ∈ L_C20, SpecOK (ctx []) x.1 x.2 := by
  unfold L_C20
  simp only [List.cons_append, List.nil_append, List.forall_mem_cons]
  exact ⟨c_cbO, L_C19_ok⟩
end Burn.M20
namespace Burn.M20
open Go Go.BE Go.Proofs
set_option maxRecDepth 100000
set_option linter.unusedVariables false
set_option linter.unusedSimpArgs false
open Burn.Cfg
def site_C21 : FuncId → Nat → Nat
  | 37, 29 => 12
  | 37, 30 => 12
  | f, t => siteOf siteTr f t
noncomputable abbrev E_C21 : Ctx := { ctx L_C20 with site := site_C21 }
theorem E_C21_ok : EOK E_C21 := have h : EOK (ctx L_C20) := ctx_ok L_C20_ok; ⟨h.ty, h.env, h.fns, h.mixed⟩
def cuts_C21 : CutL := [([], 37, 0, [2, 3, 19, 20, 21], [(.c 3 4, .own 136 s_api_Block 2)], [])]
def rets_C21 : FuncId → List (Option Fx)
  | _ => []
def H_C21 : Hints := { cut := cutOf cuts_C21, ret := rets_C21 }
noncomputable def clO_L0 (t19 : List (Den s_api_Block)) (t20 : Int) (t21 : Int) (t2_0 : ByteArray) (t2_2 : Int) (out_0 : ByteArray) (out_2 : Int) (out_1 : List (Den I)) (out_3 : List (Den I)) (out_4 : List (Den s_api_Block)) : Cfg := hcfg E_C21 f_r20_clone 0 [(2, (.ref 0 0)), (3, (.ref 1 0)), (19, (.tv (.sl 136 s_api_Block) t19)), (20, (vi t20)), (21, (vi t21))] [(0, ⟨(.cells [(vs t2_0), (.val (.slice none 0 0)), (vi t2_2), (.val (.slice none 0 0)), (.val (.slice none 0 0))]), 0, [], false, none⟩), (1, ⟨(.cells [(vs out_0), (.osl 2 2 [] none), (vi out_2), (.osl 3 3 [] none), (.osl 4 4 [] none)]), 1, [], false, none⟩), (2, ⟨(.arr 0 8 I out_1), 2, [], false, none⟩), (3, ⟨(.arr 0 8 I out_3), 3, [], false, none⟩), (4, ⟨(.arr 2 136 s_api_Block out_4), 4, [], false, none⟩)] 5
theorem clO_t (f : Den s_api_Func) : run E_C21 H_C21 f_r20_clone 3000 (start E_C21 f_r20_clone [(.tv s_api_Func f)]) = (.chk (((0 : Nat) + (ln I f.2.1)) * 8 ≤ roomB) (.chk (((0 : Nat) + (ln I f.2.2.2.1)) * 8 ≤ roomB) (hd (clO_L0 f.2.2.2.2.1 ((ln s_api_Block f.2.2.2.2.1) : Int) (0 : Int) ByteArray.empty (0 : Int) (tOf f.1) (z f.2.2.1) (ap I ([] : List (Den I)) f.2.1) (ap I ([] : List (Den I)) f.2.2.2.1) ([] : List (Den s_api_Block)))))) := by kernel_rfl
theorem clO_L0_t (t19 : List (Den s_api_Block)) (t20 : Int) (t21 : Int) (t2_0 : ByteArray) (t2_2 : Int) (out_0 : ByteArray) (out_2 : Int) (out_1 : List (Den I)) (out_3 : List (Den I)) (out_4 : List (Den s_api_Block)) : run E_C21 H_C21 f_r20_clone 3000 (clO_L0 t19 t20 t21 t2_0 t2_2 out_0 out_2 out_1 out_3 out_4) = (cond (decide (t21 < t20)) (.chk (0 ≤ t21 ∧ t21 < (ln s_api_Block t19)) (.chk (True) (.chk (((ln s_api_Block out_4) + (1 : Nat)) * 136 ≤ roomB) (.know (okAVs [(.osl 0 0 [] none), (.osl 1 1 [] none), (vi (z (((((idB (gd s_api_Block t19 ((t21).toNat))).2).2).1).1))), (.osl 2 2 [] none), (.osl 3 3 [] none), (.osl 4 4 [] none), (vi (z (((((((((idB (gd s_api_Block t19 ((t21).toNat))).2).2).1).2).2).2).2).1)))]) (hd (clO_L0 t19 t20 (IntKind.wrap .i64 (t21 + (1 : Int))) t2_0 t2_2 out_0 out_2 out_1 out_3 (ap s_api_Block out_4 ([(idB (gd s_api_Block t19 ((t21).toNat)))] : List (Den s_api_Block))))))))) (rt (.agg [(vs out_0), (.osl 0 0 [] none), (vi out_2), (.osl 1 1 [] none), (.osl 2 2 [] none)]) [(0, ⟨(.arr 0 8 I out_1), 0, [], false, none⟩), (1, ⟨(.arr 0 8 I out_3), 1, [], false, none⟩), (2, ⟨(.arr 2 136 s_api_Block out_4), 2, [], false, none⟩)])) := by kernel_rfl
def ret99 (f : Fn) (x : AV) (h : Heap) : Prop := x = (ownRes 99 s_api_Func (idF f)).1 ∧ h = (ownRes 99 s_api_Func (idF f)).2
theorem clO_l (f : Fn) (l : List (Den s_api_Block)) (hf : blocks f = l) (ho : okB l) : ∀ i, i ≤ ln s_api_Block l → ∀ a b, Runs E_C21 (clO_L0 l (ln s_api_Block l : Nat) i a b (tOf f.1) (z f.2.2.1) f.2.1 f.2.2.2.1 (l.take i)) (ret99 f) :=
  up_ind (fun a b => .tree E_C21_ok (clO_L0_t _ _ _ _ _ _ _ _ _ _) (by
    rw [take_ln]
    simp only [wp_iff, chk_iff, know_iff, any_iff, rt_iff, hd_iff, true_imp_iff, true_and, and_true, and_self, lt01, Int.ofNat_lt, Int.ofNat_le, Int.natCast_nonneg, Int.toNat_natCast, decide_true, decide_false, Bool.true_eq_false, Bool.false_eq_true, false_imp_iff, Nat.lt_irrefl, imp_self, implies_true,  ret99]
    rw [← hf]
    exact ⟨rfl, rfl⟩))
    fun i hi ih a b => .tree E_C21_ok (clO_L0_t _ _ _ _ _ _ _ _ _ _) (by
      have := ih a b
      rw [take_gd hi] at this
      simp only [wp_iff, chk_iff, know_iff, any_iff, rt_iff, hd_iff, true_imp_iff, true_and, and_true, and_self, lt01, Int.ofNat_lt, Int.ofNat_le, Int.natCast_nonneg, Int.toNat_natCast, decide_true, decide_false, Bool.true_eq_false, Bool.false_eq_true, false_imp_iff, Nat.lt_irrefl, imp_self, implies_true,  hi, ln_take (Nat.le_of_lt hi), wrapS hi (room_lt ho.1), idB]
      exact ⟨room_part ho.1 hi (by decide), fun _ _ => this⟩)
def k_clO : Con := conO 99 [.d s_api_Func] s_api_Func (fun x => True) fun x => idF x.1
theorem m_clO (f : Den s_api_Func) (h_f : okD s_api_Func f) (hp : True) : Runs E_C21 (start E_C21 f_r20_clone [(.tv s_api_Func f)]) (fun r_ h_ => r_ = (ownRes 99 s_api_Func (idF f)).1 ∧ h_ = (ownRes 99 s_api_Func (idF f)).2) := .tree E_C21_ok (clO_t f) (by
  simp only [wp_iff, chk_iff, know_iff, any_iff, rt_iff, hd_iff, true_imp_iff, true_and, and_true, and_self, lt01]
  exact ⟨room8 h_f.2.1, fun _ => ⟨room8 h_f.2.2.2.1, fun _ => clO_l f _ rfl (okB_of h_f) 0 (Nat.zero_le _) _ _⟩⟩)
theorem c_clO : SpecOK E_C21 f_r20_clone k_clO.spec := spec_of fun x hx hp => ⟨rfl, m_clO x.1 hx.1 hp⟩
def L_C21 : List (FuncId × FSpec) := [(f_r20_clone, k_clO.spec)] ++ L_C20
theorem L_C21_ok : ∀ x ∈ L_C21, SpecOK (ctx []) x.1 x.2 := by
  unfold L_C21
  simp only [List.cons_append, List.nil_append, List.forall_mem_cons]
  exact ⟨c_clO, L_C20_ok⟩
end Burn.M20
namespace Burn.M20
open Go Go.BE Go.Proofs
set_option maxRecDepth 100000
set_option linter.unusedVariables false
set_option linter.unusedSimpArgs false
open Burn.Cfg
noncomputable abbrev E_C22 : Ctx := ctx L_C21
theorem E_C22_ok : EOK E_C22 := ctx_ok L_C21_ok
def cuts_C22 : CutL := [([], 30, 0, [1, 4, 5, 23, 24, 25], [], []),
  ([], 30, 2, [1, 4, 5, 45, 46], [], []),
  ([], 30, 4, [1, 4, 5, 9, 45, 46, 63, 64], [], []),
  ([], 30, 6, [1, 4, 5, 9, 45, 46, 116, 117], [], []),
  ([(30, 2499)], 46, 0, [0, 1, 6, 7, 8], [], [[1, 4, 5]]),
  ([(30, 3397)], 46, 0, [0, 1, 6, 7, 8], [], [[1, 4, 5, 9, 45, 46]]),
  ([(30, 4677)], 46, 0, [0, 1, 6, 7, 8], [], [[1, 4, 5, 9, 11, 45, 46, 63, 64]]),
  ([(30, 6662)], 46, 0, [0, 1, 6, 7, 8], [], [[1, 4, 5, 9, 45, 46]]),
  ([(30, 7690)], 46, 0, [0, 1, 6, 7, 8], [], [[1, 4, 5, 9, 45, 46, 116, 117]])]
def rets_C22 : FuncId → List (Option Fx)
  | 30 => [some (.dat s_api_Func)]
  | _ => []
def H_C22 : Hints := { cut := cutOf cuts_C22, ret := rets_C22 }
noncomputable def r20_Permute_L0 (perm : List (Den I)) (t23 : List (Den I)) (t24 : Int) (t25 : Int) (t4_0 : ByteArray) (t4_2 : Int) (out_0 : ByteArray) (out_2 : Int) (out_1 : List (Den I)) (out_3 : List (Den I)) (out_4 : List (Den s_api_Block)) : Cfg := hcfg E_C22 f_r20_Permute 0 [(1, (.tv (.sl 8 I) perm)), (4, (.ref 0 0)), (5, (.ref 1 0)), (23, (.tv (.sl 8 I) t23)), (24, (vi t24)), (25, (vi t25))] [(0, ⟨(.cells [(vs t4_0), (.val (.slice none 0 0)), (vi t4_2), (.val (.slice none 0 0)), (.val (.slice none 0 0))]), 0, [], false, none⟩), (1, ⟨(.cells [(vs out_0), (.osl 2 2 [] none), (vi out_2), (.osl 3 3 [] none), (.osl 4 4 [] none)]), 1, [], false, none⟩), (2, ⟨(.arr 0 8 I out_1), 2, [], false, none⟩), (3, ⟨(.arr 0 8 I out_3), 3, [], false, none⟩), (4, ⟨(.arr 2 136 s_api_Block out_4), 4, [], false, none⟩)] 5
noncomputable def r20_Permute_renamed_L0 (perm : List (Den I)) (t7 : Int) (t8 : Int) (perm1 : List (Den I)) (l : List (Den I)) (t4_0 : ByteArray) (t4_2 : Int) (out_0 : ByteArray) (out_2 : Int) (out_3 : List (Den I)) (out_4 : List (Den s_api_Block)) : Cfg := hcfgx E_C22 f_r20_renamed 0 [(0, (.osl 0 0 [] none)), (1, (.tv (.sl 8 I) perm)), (6, (.osl 0 0 [] none)), (7, (vi t7)), (8, (vi t8))] [(0, ⟨(.arr 0 8 I l), 0, [], false, none⟩), (1, ⟨(.cells [(vs t4_0), (.val (.slice none 0 0)), (vi t4_2), (.val (.slice none 0 0)), (.val (.slice none 0 0))]), 1, [], false, none⟩), (2, ⟨(.cells [(vs out_0), (.osl 0 0 [] none), (vi out_2), (.osl 3 3 [] none), (.osl 4 4 [] none)]), 2, [], false, none⟩), (3, ⟨(.arr 0 8 I out_3), 3, [], false, none⟩), (4, ⟨(.arr 2 136 s_api_Block out_4), 4, [], false, none⟩)] 5 [cfr E_C22 f_r20_Permute 4 [(1, (.tv (.sl 8 I) perm1)), (4, (.ref 1 0)), (5, (.ref 2 0))]]
noncomputable def r20_Permute_L2 (perm : List (Den I)) (t45 : Int) (t46 : Int) (t4_0 : ByteArray) (t4_2 : Int) (out_0 : ByteArray) (out_2 : Int) (out_1 : List (Den I)) (out_3 : List (Den I)) (out_4 : List (Den s_api_Block)) : Cfg := hcfg E_C22 f_r20_Permute 2 [(1, (.tv (.sl 8 I) perm)), (4, (.ref 0 0)), (5, (.ref 1 0)), (45, (vi t45)), (46, (vi t46))] [(0, ⟨(.cells [(vs t4_0), (.val (.slice none 0 0)), (vi t4_2), (.val (.slice none 0 0)), (.val (.slice none 0 0))]), 0, [], false, none⟩), (1, ⟨(.cells [(vs out_0), (.osl 2 2 [] none), (vi out_2), (.osl 3 3 [] none), (.osl 4 4 [] none)]), 1, [], false, none⟩), (2, ⟨(.arr 0 8 I out_1), 2, [], false, none⟩), (3, ⟨(.arr 0 8 I out_3), 3, [], false, none⟩), (4, ⟨(.arr 2 136 s_api_Block out_4), 4, [], false, none⟩)] 5
noncomputable def r20_Permute_renamed_L0_1 (l_k : Nat) (perm : List (Den I)) (t6_k : Nat) (t7 : Int) (t8 : Int) (perm1 : List (Den I)) (b_i : Nat) (t45 : Int) (t46 : Int) (l : List (Den s_api_Block)) (t4_0 : ByteArray) (t4_2 : Int) (out_0 : ByteArray) (out_2 : Int) (out_1 : List (Den I)) (out_3 : List (Den I)) : Cfg := hcfgx E_C22 f_r20_renamed 0 [(0, (.osl 0 0 [(l_k, [.l])] none)), (1, (.tv (.sl 8 I) perm)), (6, (.osl 0 0 [(t6_k, [.l])] none)), (7, (vi t7)), (8, (vi t8))] [(0, ⟨(.arr 2 136 s_api_Block l), 0, [], false, none⟩), (1, ⟨(.cells [(vs t4_0), (.val (.slice none 0 0)), (vi t4_2), (.val (.slice none 0 0)), (.val (.slice none 0 0))]), 1, [], false, none⟩), (2, ⟨(.cells [(vs out_0), (.osl 3 3 [] none), (vi out_2), (.osl 4 4 [] none), (.osl 0 0 [] none)]), 2, [], false, none⟩), (3, ⟨(.arr 0 8 I out_1), 3, [], false, none⟩), (4, ⟨(.arr 0 8 I out_3), 4, [], false, none⟩)] 5 [cfr E_C22 f_r20_Permute 6 [(1, (.tv (.sl 8 I) perm1)), (4, (.ref 1 0)), (5, (.ref 2 0)), (9, (.tref 0 0 [] b_i [])), (45, (vi t45)), (46, (vi t46))]]
noncomputable def r20_Permute_L4 (perm : List (Den I)) (b_i : Nat) (t45 : Int) (t46 : Int) (t63 : Int) (t64 : Int) (t4_0 : ByteArray) (t4_2 : Int) (out_0 : ByteArray) (out_2 : Int) (out_4 : List (Den s_api_Block)) (out_1 : List (Den I)) (out_3 : List (Den I)) : Cfg := hcfg E_C22 f_r20_Permute 4 [(1, (.tv (.sl 8 I) perm)), (4, (.ref 0 0)), (5, (.ref 1 0)), (9, (.tref 2 2 [] b_i [])), (45, (vi t45)), (46, (vi t46)), (63, (vi t63)), (64, (vi t64))] [(0, ⟨(.cells [(vs t4_0), (.val (.slice none 0 0)), (vi t4_2), (.val (.slice none 0 0)), (.val (.slice none 0 0))]), 0, [], false, none⟩), (1, ⟨(.cells [(vs out_0), (.osl 3 3 [] none), (vi out_2), (.osl 4 4 [] none), (.osl 2 2 [] none)]), 1, [], false, none⟩), (2, ⟨(.arr 2 136 s_api_Block out_4), 2, [], false, none⟩), (3, ⟨(.arr 0 8 I out_1), 3, [], false, none⟩), (4, ⟨(.arr 0 8 I out_3), 4, [], false, none⟩)] 5
noncomputable def r20_Permute_renamed_L0_2 (l_k : Nat) (l_k1 : Nat) (perm : List (Den I)) (t6_k : Nat) (t6_k1 : Nat) (t7 : Int) (t8 : Int) (perm1 : List (Den I)) (b_i : Nat) (in_k : Nat) (in_i : Nat) (t45 : Int) (t46 : Int) (t63 : Int) (t64 : Int) (l : List (Den s_api_Block)) (t4_0 : ByteArray) (t4_2 : Int) (out_0 : ByteArray) (out_2 : Int) (out_1 : List (Den I)) (out_3 : List (Den I)) : Cfg := hcfgx E_C22 f_r20_renamed 0 [(0, (.osl 0 0 [(l_k, [.r, .l]), (l_k1, [.r, .r, .r, .l])] none)), (1, (.tv (.sl 8 I) perm)), (6, (.osl 0 0 [(t6_k, [.r, .l]), (t6_k1, [.r, .r, .r, .l])] none)), (7, (vi t7)), (8, (vi t8))] [(0, ⟨(.arr 2 136 s_api_Block l), 0, [], false, none⟩), (1, ⟨(.cells [(vs t4_0), (.val (.slice none 0 0)), (vi t4_2), (.val (.slice none 0 0)), (.val (.slice none 0 0))]), 1, [], false, none⟩), (2, ⟨(.cells [(vs out_0), (.osl 3 3 [] none), (vi out_2), (.osl 4 4 [] none), (.osl 0 0 [] none)]), 2, [], false, none⟩), (3, ⟨(.arr 0 8 I out_1), 3, [], false, none⟩), (4, ⟨(.arr 0 8 I out_3), 4, [], false, none⟩)] 5 [cfr E_C22 f_r20_Permute 8 [(1, (.tv (.sl 8 I) perm1)), (4, (.ref 1 0)), (5, (.ref 2 0)), (9, (.tref 0 0 [] b_i [])), (11, (.tref 0 0 [(in_k, [.r, .l])] in_i [])), (45, (vi t45)), (46, (vi t46)), (63, (vi t63)), (64, (vi t64))]]
noncomputable def r20_Permute_renamed_L0_3 (l_k : Nat) (perm : List (Den I)) (t6_k : Nat) (t7 : Int) (t8 : Int) (perm1 : List (Den I)) (b_i : Nat) (t45 : Int) (t46 : Int) (l : List (Den s_api_Block)) (t4_0 : ByteArray) (t4_2 : Int) (out_0 : ByteArray) (out_2 : Int) (out_1 : List (Den I)) (out_3 : List (Den I)) : Cfg := hcfgx E_C22 f_r20_renamed 0 [(0, (.osl 0 0 [(l_k, [.r, .r, .l, .r, .l])] none)), (1, (.tv (.sl 8 I) perm)), (6, (.osl 0 0 [(t6_k, [.r, .r, .l, .r, .l])] none)), (7, (vi t7)), (8, (vi t8))] [(0, ⟨(.arr 2 136 s_api_Block l), 0, [], false, none⟩), (1, ⟨(.cells [(vs t4_0), (.val (.slice none 0 0)), (vi t4_2), (.val (.slice none 0 0)), (.val (.slice none 0 0))]), 1, [], false, none⟩), (2, ⟨(.cells [(vs out_0), (.osl 3 3 [] none), (vi out_2), (.osl 4 4 [] none), (.osl 0 0 [] none)]), 2, [], false, none⟩), (3, ⟨(.arr 0 8 I out_1), 3, [], false, none⟩), (4, ⟨(.arr 0 8 I out_3), 4, [], false, none⟩)] 5 [cfr E_C22 f_r20_Permute 10 [(1, (.tv (.sl 8 I) perm1)), (4, (.ref 1 0)), (5, (.ref 2 0)), (9, (.tref 0 0 [] b_i [])), (45, (vi t45)), (46, (vi t46))]]
noncomputable def r20_Permute_L6 (perm : List (Den I)) (b_i : Nat) (t45 : Int) (t46 : Int) (t116 : Int) (t117 : Int) (t4_0 : ByteArray) (t4_2 : Int) (out_0 : ByteArray) (out_2 : Int) (out_4 : List (Den s_api_Block)) (out_1 : List (Den I)) (out_3 : List (Den I)) : Cfg := hcfg E_C22 f_r20_Permute 6 [(1, (.tv (.sl 8 I) perm)), (4, (.ref 0 0)), (5, (.ref 1 0)), (9, (.tref 2 2 [] b_i [])), (45, (vi t45)), (46, (vi t46)), (116, (vi t116)), (117, (vi t117))] [(0, ⟨(.cells [(vs t4_0), (.val (.slice none 0 0)), (vi t4_2), (.val (.slice none 0 0)), (.val (.slice none 0 0))]), 0, [], false, none⟩), (1, ⟨(.cells [(vs out_0), (.osl 3 3 [] none), (vi out_2), (.osl 4 4 [] none), (.osl 2 2 [] none)]), 1, [], false, none⟩), (2, ⟨(.arr 2 136 s_api_Block out_4), 2, [], false, none⟩), (3, ⟨(.arr 0 8 I out_1), 3, [], false, none⟩), (4, ⟨(.arr 0 8 I out_3), 4, [], false, none⟩)] 5
noncomputable def r20_Permute_renamed_L0_4 (l_k : Nat) (l_k1 : Nat) (perm : List (Den I)) (t6_k : Nat) (t6_k1 : Nat) (t7 : Int) (t8 : Int) (perm1 : List (Den I)) (b_i : Nat) (t45 : Int) (t46 : Int) (t116 : Int) (t117 : Int) (l : List (Den s_api_Block)) (t4_0 : ByteArray) (t4_2 : Int) (out_0 : ByteArray) (out_2 : Int) (out_1 : List (Den I)) (out_3 : List (Den I)) : Cfg := hcfgx E_C22 f_r20_renamed 0 [(0, (.osl 0 0 [(l_k, [.r, .r, .l, .r, .r, .r, .l]), (l_k1, [.r, .l])] none)), (1, (.tv (.sl 8 I) perm)), (6, (.osl 0 0 [(t6_k, [.r, .r, .l, .r, .r, .r, .l]), (t6_k1, [.r, .l])] none)), (7, (vi t7)), (8, (vi t8))] [(0, ⟨(.arr 2 136 s_api_Block l), 0, [], false, none⟩), (1, ⟨(.cells [(vs t4_0), (.val (.slice none 0 0)), (vi t4_2), (.val (.slice none 0 0)), (.val (.slice none 0 0))]), 1, [], false, none⟩), (2, ⟨(.cells [(vs out_0), (.osl 3 3 [] none), (vi out_2), (.osl 4 4 [] none), (.osl 0 0 [] none)]), 2, [], false, none⟩), (3, ⟨(.arr 0 8 I out_1), 3, [], false, none⟩), (4, ⟨(.arr 0 8 I out_3), 4, [], false, none⟩)] 5 [cfr E_C22 f_r20_Permute 12 [(1, (.tv (.sl 8 I) perm1)), (4, (.ref 1 0)), (5, (.ref 2 0)), (9, (.tref 0 0 [] b_i [])), (45, (vi t45)), (46, (vi t46)), (116, (vi t116)), (117, (vi t117))]]
theorem r20_Permute_t (f : Den s_api_Func) (perm : List (Den I)) : run E_C22 H_C22 f_r20_Permute 3000 (start E_C22 f_r20_Permute [(.tv s_api_Func f), (.tv (.sl 8 I) perm)]) = (.chk (True) (.know (okAVs [(vs (tOf ((idF f).1))), (.osl 0 0 [] none), (vi (z ((((idF f).2).2).1))), (.osl 1 1 [] none), (.osl 2 2 [] none)]) (.chk (True) (.know True (cond (!(permB perm ((ln I f.2.2.2.1) : Int))) (rt (.tv s_api_Func (idF f)) []) (hd (r20_Permute_L0 perm f.2.2.2.1 ((ln I f.2.2.2.1) : Int) (0 : Int) ByteArray.empty (0 : Int) (tOf ((idF f).1)) (z ((((idF f).2).2).1)) (((idF f).2).1) (((((idF f).2).2).2).1) ((((((idF f).2).2).2).2).1)))))))) := by kernel_rfl
theorem r20_Permute_L0_t (perm : List (Den I)) (t23 : List (Den I)) (t24 : Int) (t25 : Int) (t4_0 : ByteArray) (t4_2 : Int) (out_0 : ByteArray) (out_2 : Int) (out_1 : List (Den I)) (out_3 : List (Den I)) (out_4 : List (Den s_api_Block)) : run E_C22 H_C22 f_r20_Permute 3000 (r20_Permute_L0 perm t23 t24 t25 t4_0 t4_2 out_0 out_2 out_1 out_3 out_4) = (cond (decide (t25 < t24)) (.chk (0 ≤ t25 ∧ t25 < (ln I t23)) (.chk (0 ≤ t25 ∧ t25 < (ln I perm)) (.chk (0 ≤ (z (gd I perm ((t25).toNat))) ∧ (z (gd I perm ((t25).toNat))) < (ln I out_3)) (.chk (((z (gd I perm ((t25).toNat)))).toNat < (ln I out_3)) (hd (r20_Permute_L0 perm t23 t24 (IntKind.wrap .i64 (t25 + (1 : Int))) t4_0 t4_2 out_0 out_2 out_1 (st I out_3 (((z (gd I perm ((t25).toNat)))).toNat) (gd I t23 ((t25).toNat))) out_4)))))) (hd (r20_Permute_renamed_L0 perm ((ln I out_1) : Int) (0 : Int) perm out_1 t4_0 t4_2 out_0 out_2 out_3 out_4))) := by kernel_rfl
theorem r20_Permute_renamed_L0_t (perm : List (Den I)) (t7 : Int) (t8 : Int) (perm1 : List (Den I)) (l : List (Den I)) (t4_0 : ByteArray) (t4_2 : Int) (out_0 : ByteArray) (out_2 : Int) (out_3 : List (Den I)) (out_4 : List (Den s_api_Block)) : run E_C22 H_C22 f_r20_Permute 3000 (r20_Permute_renamed_L0 perm t7 t8 perm1 l t4_0 t4_2 out_0 out_2 out_3 out_4) = (cond (decide (t8 < t7)) (.chk (0 ≤ t8 ∧ t8 < (ln I l)) (.chk ((t8).toNat < (ln I l)) (cond (decide ((z (gd I l ((t8).toNat))) ≥ (0 : Int))) (cond (decide ((z (gd I l ((t8).toNat))) < ((ln I perm) : Int))) (.chk (0 ≤ (z (gd I l ((t8).toNat))) ∧ (z (gd I l ((t8).toNat))) < (ln I perm)) (.chk (0 ≤ t8 ∧ t8 < (ln I l)) (.chk ((t8).toNat < (ln I l)) (hd (r20_Permute_renamed_L0 perm t7 (IntKind.wrap .i64 (t8 + (1 : Int))) perm1 (st I l ((t8).toNat) (gd I perm (((z (gd I l ((t8).toNat)))).toNat))) t4_0 t4_2 out_0 out_2 out_3 out_4))))) (hd (r20_Permute_renamed_L0 perm t7 (IntKind.wrap .i64 (t8 + (1 : Int))) perm1 l t4_0 t4_2 out_0 out_2 out_3 out_4))) (hd (r20_Permute_renamed_L0 perm t7 (IntKind.wrap .i64 (t8 + (1 : Int))) perm1 l t4_0 t4_2 out_0 out_2 out_3 out_4))))) (hd (r20_Permute_L2 perm1 ((ln s_api_Block out_4) : Int) (0 : Int) t4_0 t4_2 out_0 out_2 l out_3 out_4))) := by kernel_rfl
theorem r20_Permute_L2_t (perm : List (Den I)) (t45 : Int) (t46 : Int) (t4_0 : ByteArray) (t4_2 : Int) (out_0 : ByteArray) (out_2 : Int) (out_1 : List (Den I)) (out_3 : List (Den I)) (out_4 : List (Den s_api_Block)) : run E_C22 H_C22 f_r20_Permute 3000 (r20_Permute_L2 perm t45 t46 t4_0 t4_2 out_0 out_2 out_1 out_3 out_4) = (cond (decide (t46 < t45)) (.chk (0 ≤ t46 ∧ t46 < (ln s_api_Block out_4)) (.chk ((t46).toNat < (ln s_api_Block out_4)) (.chk ((t46).toNat < (ln s_api_Block out_4)) (hd (r20_Permute_renamed_L0_1 ((t46).toNat) perm ((t46).toNat) ((ln I ((gd s_api_Block out_4 ((t46).toNat)).1)) : Int) (0 : Int) perm ((t46).toNat) t45 t46 out_4 t4_0 t4_2 out_0 out_2 out_1 out_3))))) (rt (.tv s_api_Func (out_0, out_1, out_2, out_3, out_4, ())) [])) := by kernel_rfl
theorem r20_Permute_renamed_L0_1_t (l_k : Nat) (perm : List (Den I)) (t6_k : Nat) (t7 : Int) (t8 : Int) (perm1 : List (Den I)) (b_i : Nat) (t45 : Int) (t46 : Int) (l : List (Den s_api_Block)) (t4_0 : ByteArray) (t4_2 : Int) (out_0 : ByteArray) (out_2 : Int) (out_1 : List (Den I)) (out_3 : List (Den I)) : run E_C22 H_C22 f_r20_Permute 3000 (r20_Permute_renamed_L0_1 l_k perm t6_k t7 t8 perm1 b_i t45 t46 l t4_0 t4_2 out_0 out_2 out_1 out_3) = (cond (decide (t8 < t7)) (.chk (t6_k < (ln s_api_Block l)) (.chk (0 ≤ t8 ∧ t8 < (ln I ((gd s_api_Block l t6_k).1))) (.chk (t6_k < (ln s_api_Block l)) (.chk ((t8).toNat < (ln I ((gd s_api_Block l t6_k).1))) (cond (decide ((z (gd I ((gd s_api_Block l t6_k).1) ((t8).toNat))) ≥ (0 : Int))) (cond (decide ((z (gd I ((gd s_api_Block l t6_k).1) ((t8).toNat))) < ((ln I perm) : Int))) (.chk (0 ≤ (z (gd I ((gd s_api_Block l t6_k).1) ((t8).toNat))) ∧ (z (gd I ((gd s_api_Block l t6_k).1) ((t8).toNat))) < (ln I perm)) (.chk (l_k < (ln s_api_Block l)) (.chk (0 ≤ t8 ∧ t8 < (ln I ((gd s_api_Block l l_k).1))) (.chk (l_k < (ln s_api_Block l)) (.chk ((t8).toNat < (ln I ((gd s_api_Block l l_k).1))) (hd (r20_Permute_renamed_L0_1 l_k perm t6_k t7 (IntKind.wrap .i64 (t8 + (1 : Int))) perm1 b_i t45 t46 (st s_api_Block l l_k ((st I ((gd s_api_Block l l_k).1) ((t8).toNat) (gd I perm (((z (gd I ((gd s_api_Block l t6_k).1) ((t8).toNat)))).toNat))), (gd s_api_Block l l_k).2)) t4_0 t4_2 out_0 out_2 out_1 out_3))))))) (hd (r20_Permute_renamed_L0_1 l_k perm t6_k t7 (IntKind.wrap .i64 (t8 + (1 : Int))) perm1 b_i t45 t46 l t4_0 t4_2 out_0 out_2 out_1 out_3))) (hd (r20_Permute_renamed_L0_1 l_k perm t6_k t7 (IntKind.wrap .i64 (t8 + (1 : Int))) perm1 b_i t45 t46 l t4_0 t4_2 out_0 out_2 out_1 out_3))))))) (.chk (b_i < (ln s_api_Block l)) (.chk (b_i < (ln s_api_Block l)) (hd (r20_Permute_L4 perm1 b_i t45 t46 ((ln s_api_Instr (((gd s_api_Block l b_i).2).1)) : Int) (0 : Int) t4_0 t4_2 out_0 out_2 l out_1 out_3))))) := by kernel_rfl
theorem r20_Permute_L4_t (perm : List (Den I)) (b_i : Nat) (t45 : Int) (t46 : Int) (t63 : Int) (t64 : Int) (t4_0 : ByteArray) (t4_2 : Int) (out_0 : ByteArray) (out_2 : Int) (out_4 : List (Den s_api_Block)) (out_1 : List (Den I)) (out_3 : List (Den I)) : run E_C22 H_C22 f_r20_Permute 3000 (r20_Permute_L4 perm b_i t45 t46 t63 t64 t4_0 t4_2 out_0 out_2 out_4 out_1 out_3) = (cond (decide (t64 < t63)) (.chk (b_i < (ln s_api_Block out_4)) (.chk (b_i < (ln s_api_Block out_4)) (.chk (0 ≤ t64 ∧ t64 < (ln s_api_Instr (((gd s_api_Block out_4 b_i).2).1))) (.chk (b_i < (ln s_api_Block out_4)) (.chk (b_i < (ln s_api_Block out_4)) (.chk ((t64).toNat < (ln s_api_Instr (((gd s_api_Block out_4 b_i).2).1))) (.chk (b_i < (ln s_api_Block out_4)) (.chk ((t64).toNat < (ln s_api_Instr (((gd s_api_Block out_4 b_i).2).1))) (hd (r20_Permute_renamed_L0_2 b_i ((t64).toNat) perm b_i ((t64).toNat) ((ln I (((((gd s_api_Instr (((gd s_api_Block out_4 b_i).2).1) ((t64).toNat)).2).2).2).1)) : Int) (0 : Int) perm b_i b_i ((t64).toNat) t45 t46 t63 t64 out_4 t4_0 t4_2 out_0 out_2 out_1 out_3)))))))))) (.chk (b_i < (ln s_api_Block out_4)) (.chk (b_i < (ln s_api_Block out_4)) (hd (r20_Permute_renamed_L0_3 b_i perm b_i ((ln I ((((((gd s_api_Block out_4 b_i).2).2).1).2).1)) : Int) (0 : Int) perm b_i t45 t46 out_4 t4_0 t4_2 out_0 out_2 out_1 out_3))))) := by kernel_rfl
theorem r20_Permute_renamed_L0_2_t (l_k : Nat) (l_k1 : Nat) (perm : List (Den I)) (t6_k : Nat) (t6_k1 : Nat) (t7 : Int) (t8 : Int) (perm1 : List (Den I)) (b_i : Nat) (in_k : Nat) (in_i : Nat) (t45 : Int) (t46 : Int) (t63 : Int) (t64 : Int) (l : List (Den s_api_Block)) (t4_0 : ByteArray) (t4_2 : Int) (out_0 : ByteArray) (out_2 : Int) (out_1 : List (Den I)) (out_3 : List (Den I)) : run E_C22 H_C22 f_r20_Permute 3000 (r20_Permute_renamed_L0_2 l_k l_k1 perm t6_k t6_k1 t7 t8 perm1 b_i in_k in_i t45 t46 t63 t64 l t4_0 t4_2 out_0 out_2 out_1 out_3) = (cond (decide (t8 < t7)) (.chk (t6_k < (ln s_api_Block l)) (.chk (t6_k1 < (ln s_api_Instr (((gd s_api_Block l t6_k).2).1))) (.chk (0 ≤ t8 ∧ t8 < (ln I (((((gd s_api_Instr (((gd s_api_Block l t6_k).2).1) t6_k1).2).2).2).1))) (.chk (t6_k < (ln s_api_Block l)) (.chk (t6_k1 < (ln s_api_Instr (((gd s_api_Block l t6_k).2).1))) (.chk ((t8).toNat < (ln I (((((gd s_api_Instr (((gd s_api_Block l t6_k).2).1) t6_k1).2).2).2).1))) (cond (decide ((z (gd I (((((gd s_api_Instr (((gd s_api_Block l t6_k).2).1) t6_k1).2).2).2).1) ((t8).toNat))) ≥ (0 : Int))) (cond (decide ((z (gd I (((((gd s_api_Instr (((gd s_api_Block l t6_k).2).1) t6_k1).2).2).2).1) ((t8).toNat))) < ((ln I perm) : Int))) (.chk (0 ≤ (z (gd I (((((gd s_api_Instr (((gd s_api_Block l t6_k).2).1) t6_k1).2).2).2).1) ((t8).toNat))) ∧ (z (gd I (((((gd s_api_Instr (((gd s_api_Block l t6_k).2).1) t6_k1).2).2).2).1) ((t8).toNat))) < (ln I perm)) (.chk (l_k < (ln s_api_Block l)) (.chk (l_k1 < (ln s_api_Instr (((gd s_api_Block l l_k).2).1))) (.chk (0 ≤ t8 ∧ t8 < (ln I (((((gd s_api_Instr (((gd s_api_Block l l_k).2).1) l_k1).2).2).2).1))) (.chk (l_k < (ln s_api_Block l)) (.chk (l_k1 < (ln s_api_Instr (((gd s_api_Block l l_k).2).1))) (.chk ((t8).toNat < (ln I (((((gd s_api_Instr (((gd s_api_Block l l_k).2).1) l_k1).2).2).2).1))) (hd (r20_Permute_renamed_L0_2 l_k l_k1 perm t6_k t6_k1 t7 (IntKind.wrap .i64 (t8 + (1 : Int))) perm1 b_i in_k in_i t45 t46 t63 t64 (st s_api_Block l l_k ((gd s_api_Block l l_k).1, (st s_api_Instr (((gd s_api_Block l l_k).2).1) l_k1 ((gd s_api_Instr (((gd s_api_Block l l_k).2).1) l_k1).1, ((gd s_api_Instr (((gd s_api_Block l l_k).2).1) l_k1).2).1, (((gd s_api_Instr (((gd s_api_Block l l_k).2).1) l_k1).2).2).1, (st I (((((gd s_api_Instr (((gd s_api_Block l l_k).2).1) l_k1).2).2).2).1) ((t8).toNat) (gd I perm (((z (gd I (((((gd s_api_Instr (((gd s_api_Block l t6_k).2).1) t6_k1).2).2).2).1) ((t8).toNat)))).toNat))), ((((gd s_api_Instr (((gd s_api_Block l l_k).2).1) l_k1).2).2).2).2)), ((gd s_api_Block l l_k).2).2)) t4_0 t4_2 out_0 out_2 out_1 out_3))))))))) (hd (r20_Permute_renamed_L0_2 l_k l_k1 perm t6_k t6_k1 t7 (IntKind.wrap .i64 (t8 + (1 : Int))) perm1 b_i in_k in_i t45 t46 t63 t64 l t4_0 t4_2 out_0 out_2 out_1 out_3))) (hd (r20_Permute_renamed_L0_2 l_k l_k1 perm t6_k t6_k1 t7 (IntKind.wrap .i64 (t8 + (1 : Int))) perm1 b_i in_k in_i t45 t46 t63 t64 l t4_0 t4_2 out_0 out_2 out_1 out_3))))))))) (.chk (in_k < (ln s_api_Block l)) (.chk (in_k < (ln s_api_Block l)) (.chk (in_i < (ln s_api_Instr (((gd s_api_Block l in_k).2).1))) (cond (decide ((z ((((gd s_api_Instr (((gd s_api_Block l in_k).2).1) in_i).2).2).1)) ≥ (0 : Int))) (.chk (in_k < (ln s_api_Block l)) (.chk (in_k < (ln s_api_Block l)) (.chk (in_i < (ln s_api_Instr (((gd s_api_Block l in_k).2).1))) (cond (decide ((z ((((gd s_api_Instr (((gd s_api_Block l in_k).2).1) in_i).2).2).1)) < ((ln I perm1) : Int))) (.chk (in_k < (ln s_api_Block l)) (.chk (in_k < (ln s_api_Block l)) (.chk (in_i < (ln s_api_Instr (((gd s_api_Block l in_k).2).1))) (.chk (0 ≤ (z ((((gd s_api_Instr (((gd s_api_Block l in_k).2).1) in_i).2).2).1)) ∧ (z ((((gd s_api_Instr (((gd s_api_Block l in_k).2).1) in_i).2).2).1)) < (ln I perm1)) (.chk (in_k < (ln s_api_Block l)) (.chk (in_k < (ln s_api_Block l)) (.chk (in_i < (ln s_api_Instr (((gd s_api_Block l in_k).2).1))) (hd (r20_Permute_L4 perm1 b_i t45 t46 t63 (IntKind.wrap .i64 (t64 + (1 : Int))) t4_0 t4_2 out_0 out_2 (st s_api_Block l in_k ((gd s_api_Block l in_k).1, (st s_api_Instr (((gd s_api_Block l in_k).2).1) in_i ((gd s_api_Instr (((gd s_api_Block l in_k).2).1) in_i).1, ((gd s_api_Instr (((gd s_api_Block l in_k).2).1) in_i).2).1, (gd I perm1 (((z ((((gd s_api_Instr (((gd s_api_Block l in_k).2).1) in_i).2).2).1))).toNat)), (((gd s_api_Instr (((gd s_api_Block l in_k).2).1) in_i).2).2).2)), ((gd s_api_Block l in_k).2).2)) out_1 out_3))))))))) (hd (r20_Permute_L4 perm1 b_i t45 t46 t63 (IntKind.wrap .i64 (t64 + (1 : Int))) t4_0 t4_2 out_0 out_2 l out_1 out_3)))))) (hd (r20_Permute_L4 perm1 b_i t45 t46 t63 (IntKind.wrap .i64 (t64 + (1 : Int))) t4_0 t4_2 out_0 out_2 l out_1 out_3))))))) := by kernel_rfl
theorem r20_Permute_renamed_L0_3_t (l_k : Nat) (perm : List (Den I)) (t6_k : Nat) (t7 : Int) (t8 : Int) (perm1 : List (Den I)) (b_i : Nat) (t45 : Int) (t46 : Int) (l : List (Den s_api_Block)) (t4_0 : ByteArray) (t4_2 : Int) (out_0 : ByteArray) (out_2 : Int) (out_1 : List (Den I)) (out_3 : List (Den I)) : run E_C22 H_C22 f_r20_Permute 3000 (r20_Permute_renamed_L0_3 l_k perm t6_k t7 t8 perm1 b_i t45 t46 l t4_0 t4_2 out_0 out_2 out_1 out_3) = (cond (decide (t8 < t7)) (.chk (t6_k < (ln s_api_Block l)) (.chk (0 ≤ t8 ∧ t8 < (ln I ((((((gd s_api_Block l t6_k).2).2).1).2).1))) (.chk (t6_k < (ln s_api_Block l)) (.chk ((t8).toNat < (ln I ((((((gd s_api_Block l t6_k).2).2).1).2).1))) (cond (decide ((z (gd I ((((((gd s_api_Block l t6_k).2).2).1).2).1) ((t8).toNat))) ≥ (0 : Int))) (cond (decide ((z (gd I ((((((gd s_api_Block l t6_k).2).2).1).2).1) ((t8).toNat))) < ((ln I perm) : Int))) (.chk (0 ≤ (z (gd I ((((((gd s_api_Block l t6_k).2).2).1).2).1) ((t8).toNat))) ∧ (z (gd I ((((((gd s_api_Block l t6_k).2).2).1).2).1) ((t8).toNat))) < (ln I perm)) (.chk (l_k < (ln s_api_Block l)) (.chk (0 ≤ t8 ∧ t8 < (ln I ((((((gd s_api_Block l l_k).2).2).1).2).1))) (.chk (l_k < (ln s_api_Block l)) (.chk ((t8).toNat < (ln I ((((((gd s_api_Block l l_k).2).2).1).2).1))) (hd (r20_Permute_renamed_L0_3 l_k perm t6_k t7 (IntKind.wrap .i64 (t8 + (1 : Int))) perm1 b_i t45 t46 (st s_api_Block l l_k ((gd s_api_Block l l_k).1, ((gd s_api_Block l l_k).2).1, (((((gd s_api_Block l l_k).2).2).1).1, (st I ((((((gd s_api_Block l l_k).2).2).1).2).1) ((t8).toNat) (gd I perm (((z (gd I ((((((gd s_api_Block l t6_k).2).2).1).2).1) ((t8).toNat)))).toNat))), (((((gd s_api_Block l l_k).2).2).1).2).2), (((gd s_api_Block l l_k).2).2).2)) t4_0 t4_2 out_0 out_2 out_1 out_3))))))) (hd (r20_Permute_renamed_L0_3 l_k perm t6_k t7 (IntKind.wrap .i64 (t8 + (1 : Int))) perm1 b_i t45 t46 l t4_0 t4_2 out_0 out_2 out_1 out_3))) (hd (r20_Permute_renamed_L0_3 l_k perm t6_k t7 (IntKind.wrap .i64 (t8 + (1 : Int))) perm1 b_i t45 t46 l t4_0 t4_2 out_0 out_2 out_1 out_3))))))) (.chk (b_i < (ln s_api_Block l)) (.chk (b_i < (ln s_api_Block l)) (hd (r20_Permute_L6 perm1 b_i t45 t46 ((ln s_api_Edge ((((((((gd s_api_Block l b_i).2).2).1).2).2).2).1)) : Int) (0 : Int) t4_0 t4_2 out_0 out_2 l out_1 out_3))))) := by kernel_rfl
theorem r20_Permute_L6_t (perm : List (Den I)) (b_i : Nat) (t45 : Int) (t46 : Int) (t116 : Int) (t117 : Int) (t4_0 : ByteArray) (t4_2 : Int) (out_0 : ByteArray) (out_2 : Int) (out_4 : List (Den s_api_Block)) (out_1 : List (Den I)) (out_3 : List (Den I)) : run E_C22 H_C22 f_r20_Permute 3000 (r20_Permute_L6 perm b_i t45 t46 t116 t117 t4_0 t4_2 out_0 out_2 out_4 out_1 out_3) = (cond (decide (t117 < t116)) (.chk (b_i < (ln s_api_Block out_4)) (.chk (b_i < (ln s_api_Block out_4)) (.chk (0 ≤ t117 ∧ t117 < (ln s_api_Edge ((((((((gd s_api_Block out_4 b_i).2).2).1).2).2).2).1))) (.chk (b_i < (ln s_api_Block out_4)) (.chk (b_i < (ln s_api_Block out_4)) (.chk ((t117).toNat < (ln s_api_Edge ((((((((gd s_api_Block out_4 b_i).2).2).1).2).2).2).1))) (.chk (b_i < (ln s_api_Block out_4)) (.chk ((t117).toNat < (ln s_api_Edge ((((((((gd s_api_Block out_4 b_i).2).2).1).2).2).2).1))) (hd (r20_Permute_renamed_L0_4 b_i ((t117).toNat) perm b_i ((t117).toNat) ((ln I (((gd s_api_Edge ((((((((gd s_api_Block out_4 b_i).2).2).1).2).2).2).1) ((t117).toNat)).2).1)) : Int) (0 : Int) perm b_i t45 t46 t116 t117 out_4 t4_0 t4_2 out_0 out_2 out_1 out_3)))))))))) (hd (r20_Permute_L2 perm t45 (IntKind.wrap .i64 (t46 + (1 : Int))) t4_0 t4_2 out_0 out_2 out_1 out_3 out_4))) := by kernel_rfl
theorem r20_Permute_renamed_L0_4_t (l_k : Nat) (l_k1 : Nat) (perm : List (Den I)) (t6_k : Nat) (t6_k1 : Nat) (t7 : Int) (t8 : Int) (perm1 : List (Den I)) (b_i : Nat) (t45 : Int) (t46 : Int) (t116 : Int) (t117 : Int) (l : List (Den s_api_Block)) (t4_0 : ByteArray) (t4_2 : Int) (out_0 : ByteArray) (out_2 : Int) (out_1 : List (Den I)) (out_3 : List (Den I)) : run E_C22 H_C22 f_r20_Permute 3000 (r20_Permute_renamed_L0_4 l_k l_k1 perm t6_k t6_k1 t7 t8 perm1 b_i t45 t46 t116 t117 l t4_0 t4_2 out_0 out_2 out_1 out_3) = (cond (decide (t8 < t7)) (.chk (t6_k < (ln s_api_Block l)) (.chk (t6_k1 < (ln s_api_Edge ((((((((gd s_api_Block l t6_k).2).2).1).2).2).2).1))) (.chk (0 ≤ t8 ∧ t8 < (ln I (((gd s_api_Edge ((((((((gd s_api_Block l t6_k).2).2).1).2).2).2).1) t6_k1).2).1))) (.chk (t6_k < (ln s_api_Block l)) (.chk (t6_k1 < (ln s_api_Edge ((((((((gd s_api_Block l t6_k).2).2).1).2).2).2).1))) (.chk ((t8).toNat < (ln I (((gd s_api_Edge ((((((((gd s_api_Block l t6_k).2).2).1).2).2).2).1) t6_k1).2).1))) (cond (decide ((z (gd I (((gd s_api_Edge ((((((((gd s_api_Block l t6_k).2).2).1).2).2).2).1) t6_k1).2).1) ((t8).toNat))) ≥ (0 : Int))) (cond (decide ((z (gd I (((gd s_api_Edge ((((((((gd s_api_Block l t6_k).2).2).1).2).2).2).1) t6_k1).2).1) ((t8).toNat))) < ((ln I perm) : Int))) (.chk (0 ≤ (z (gd I (((gd s_api_Edge ((((((((gd s_api_Block l t6_k).2).2).1).2).2).2).1) t6_k1).2).1) ((t8).toNat))) ∧ (z (gd I (((gd s_api_Edge ((((((((gd s_api_Block l t6_k).2).2).1).2).2).2).1) t6_k1).2).1) ((t8).toNat))) < (ln I perm)) (.chk (l_k < (ln s_api_Block l)) (.chk (l_k1 < (ln s_api_Edge ((((((((gd s_api_Block l l_k).2).2).1).2).2).2).1))) (.chk (0 ≤ t8 ∧ t8 < (ln I (((gd s_api_Edge ((((((((gd s_api_Block l l_k).2).2).1).2).2).2).1) l_k1).2).1))) (.chk (l_k < (ln s_api_Block l)) (.chk (l_k1 < (ln s_api_Edge ((((((((gd s_api_Block l l_k).2).2).1).2).2).2).1))) (.chk ((t8).toNat < (ln I (((gd s_api_Edge ((((((((gd s_api_Block l l_k).2).2).1).2).2).2).1) l_k1).2).1))) (hd (r20_Permute_renamed_L0_4 l_k l_k1 perm t6_k t6_k1 t7 (IntKind.wrap .i64 (t8 + (1 : Int))) perm1 b_i t45 t46 t116 t117 (st s_api_Block l l_k ((gd s_api_Block l l_k).1, ((gd s_api_Block l l_k).2).1, (((((gd s_api_Block l l_k).2).2).1).1, (((((gd s_api_Block l l_k).2).2).1).2).1, ((((((gd s_api_Block l l_k).2).2).1).2).2).1, (st s_api_Edge ((((((((gd s_api_Block l l_k).2).2).1).2).2).2).1) l_k1 ((gd s_api_Edge ((((((((gd s_api_Block l l_k).2).2).1).2).2).2).1) l_k1).1, (st I (((gd s_api_Edge ((((((((gd s_api_Block l l_k).2).2).1).2).2).2).1) l_k1).2).1) ((t8).toNat) (gd I perm (((z (gd I (((gd s_api_Edge ((((((((gd s_api_Block l t6_k).2).2).1).2).2).2).1) t6_k1).2).1) ((t8).toNat)))).toNat))), ((gd s_api_Edge ((((((((gd s_api_Block l l_k).2).2).1).2).2).2).1) l_k1).2).2)), (((((((gd s_api_Block l l_k).2).2).1).2).2).2).2), (((gd s_api_Block l l_k).2).2).2)) t4_0 t4_2 out_0 out_2 out_1 out_3))))))))) (hd (r20_Permute_renamed_L0_4 l_k l_k1 perm t6_k t6_k1 t7 (IntKind.wrap .i64 (t8 + (1 : Int))) perm1 b_i t45 t46 t116 t117 l t4_0 t4_2 out_0 out_2 out_1 out_3))) (hd (r20_Permute_renamed_L0_4 l_k l_k1 perm t6_k t6_k1 t7 (IntKind.wrap .i64 (t8 + (1 : Int))) perm1 b_i t45 t46 t116 t117 l t4_0 t4_2 out_0 out_2 out_1 out_3))))))))) (hd (r20_Permute_L6 perm1 b_i t45 t46 t116 (IntKind.wrap .i64 (t117 + (1 : Int))) t4_0 t4_2 out_0 out_2 l out_1 out_3))) := by kernel_rfl
theorem ren_loop {E : Ctx} {Q : AV → Heap → Prop} (K L : List (Den I)) (S : List (Den I) → Int → Cfg) (hend : Runs E (S (permL L K) (ln I L : Nat)) Q)
    (hstep : ∀ (l : List (Den I)) (i : Nat), i < ln I L → ln I l = ln I L → Runs E (S (st I l i (permD K (gd I l i))) ((i + 1 : Nat) : Int)) Q → Runs E (S l (i : Nat)) Q) : Runs E (S L 0) Q := by
  have key : ∀ i, i ≤ ln I L → Runs E (S (mapTo (S := I) (T := I) (permD K) idD L i) (i : Nat)) Q :=
    up_ind (by rw [mapTo_n]; exact hend) fun i hi ih => hstep _ i hi mapTo_len (by
      rw [mapTo_gd (S := I) (T := I) (f := permD K) (g := idD) hi]
      show Runs E (S (st I _ i (permD K (gd I L i))) _) Q
      rw [mapTo_st (S := I) (T := I) (f := permD K) (g := idD) hi]
      exact ih)
  have := key 0 (Nat.zero_le _)
  rw [mapTo_0, map_idD] at this
  exact this
theorem ren_fin {K l : List (Den I)} {i : Nat} {C : Prop} {P : List (Den I) → Prop} (hC : (0 ≤ z (gd I l i) ∧ z (gd I l i) < (ln I K : Int)) → C) (h : P (st I l i (permD K (gd I l i)))) :
    (decide (z (gd I l i) ≥ 0) = true → (decide (z (gd I l i) < (ln I K : Int)) = true → C ∧ (C → P (st I l i (gd I K (z (gd I l i)).toNat)))) ∧ (decide (z (gd I l i) < (ln I K : Int)) = false → P l)) ∧ (decide (z (gd I l i) ≥ 0) = false → P l) := by
  refine ⟨fun h1 => ⟨fun h2 => ⟨hC ⟨of_decide_eq_true h1, of_decide_eq_true h2⟩, fun _ => ?_⟩, fun h2 => ?_⟩, fun h1 => ?_⟩
  · have a := of_decide_eq_true h1
    have b := of_decide_eq_true h2
    rw [permD_in (by omega)] at h
    exact h
  · have b := of_decide_eq_false h2
    rw [permD_out (Or.inr (by omega)), st_gd] at h
    exact h
  · have b := of_decide_eq_false h1
    rw [permD_out (Or.inl (by omega)), st_gd] at h
    exact h
theorem rc_in {K : List (Den I)} {r : Int} (h : 0 ≤ r ∧ r < (ln I K : Int)) : permRc r K = z (gd I K r.toNat) := permD_in (k := K) (x := r) (by show ¬ (r < 0 ∨ r ≥ _); omega)
theorem rc_out {K : List (Den I)} {r : Int} (h : r < 0 ∨ r ≥ (ln I K : Int)) : permRc r K = r := permD_out h
def idBk (b : Blk) : Blk := b
def idIn (b : Den s_api_Instr) : Den s_api_Instr := b
def idEd (b : Den s_api_Edge) : Den s_api_Edge := b
theorem map_idBk (l : List Blk) : List.map idBk l = l := List.map_id l
theorem map_idIn (l : List (Den s_api_Instr)) : List.map idIn l = l := List.map_id l
theorem map_idEd (l : List (Den s_api_Edge)) : List.map idEd l = l := List.map_id l
section
variable {K : List (Den I)} {a n0 : ByteArray} {b n2 : Int} {g1 g3 : List (Den I)} {Q : AV → Heap → Prop} {M : List Blk} {B : Blk} {i : Nat} {N J : Int}
theorem p1 (hi : i < ln s_api_Block M) (hB : ln I B.1 < 9223372036854775807) (h : Runs E_C22 (r20_Permute_L4 K i N J (ln s_api_Instr (bIns B) : Nat) 0 a b n0 n2 (st s_api_Block M i (permL B.1 K, B.2)) g1 g3) Q) :
    Runs E_C22 (r20_Permute_renamed_L0_1 i K i (ln I B.1 : Nat) 0 K i N J (st s_api_Block M i B) a b n0 n2 g1 g3) Q :=
  ren_loop K B.1 (fun x t => r20_Permute_renamed_L0_1 i K i (ln I B.1 : Nat) t K i N J (st s_api_Block M i (x, B.2)) a b n0 n2 g1 g3)
    (.tree E_C22_ok (r20_Permute_renamed_L0_1_t _ _ _ _ _ _ _ _ _ _ _ _ _ _ _ _) (by
      simp only [wp_iff, chk_iff, know_iff, any_iff, rt_iff, hd_iff, true_imp_iff, true_and, and_true, and_self, lt01, Int.ofNat_lt, Int.ofNat_le, Int.natCast_nonneg, Int.toNat_natCast, decide_true, decide_false, Bool.true_eq_false, Bool.false_eq_true, false_imp_iff, Nat.lt_irrefl, imp_self, implies_true,  gd_st hi, ln_st, hi]
      exact h))
    fun l j hj hl ih => .tree E_C22_ok (r20_Permute_renamed_L0_1_t _ _ _ _ _ _ _ _ _ _ _ _ _ _ _ _) (by
      have hj' : j < ln I l := by omega
      simp only [wp_iff, chk_iff, know_iff, any_iff, rt_iff, hd_iff, true_imp_iff, true_and, and_true, and_self, lt01, Int.ofNat_lt, Int.ofNat_le, Int.natCast_nonneg, Int.toNat_natCast, decide_true, decide_false, Bool.true_eq_false, Bool.false_eq_true, false_imp_iff, Nat.lt_irrefl, imp_self, implies_true,  gd_st hi, ln_st, hi, hj, hj', st_st, wrapS hj hB]
      exact ren_fin (P := fun y => Runs E_C22 (r20_Permute_renamed_L0_1 i K i (ln I B.1 : Nat) ((j + 1 : Nat) : Int) K i N J (st s_api_Block M i (y, B.2)) a b n0 n2 g1 g3) Q) id ih)
theorem p2 {y : List (Den s_api_Instr)} {X : Den s_api_Instr} {k : Nat} {N' J' : Int} (hi : i < ln s_api_Block M) (hk : k < ln s_api_Instr y) (hX : ln I X.2.2.2.1 < 9223372036854775807)
    (h : Runs E_C22 (r20_Permute_L4 K i N J N' (IntKind.wrap .i64 (J' + 1)) a b n0 n2 (st s_api_Block M i (B.1, st s_api_Instr y k (mapIn K X), B.2.2)) g1 g3) Q) :
    Runs E_C22 (r20_Permute_renamed_L0_2 i k K i k (ln I X.2.2.2.1 : Nat) 0 K i i k N J N' J' (st s_api_Block M i (B.1, st s_api_Instr y k X, B.2.2)) a b n0 n2 g1 g3) Q :=
  ren_loop K X.2.2.2.1 (fun x t => r20_Permute_renamed_L0_2 i k K i k (ln I X.2.2.2.1 : Nat) t K i i k N J N' J' (st s_api_Block M i (B.1, st s_api_Instr y k (X.1, X.2.1, X.2.2.1, x, X.2.2.2.2), B.2.2)) a b n0 n2 g1 g3)
    (.tree E_C22_ok (r20_Permute_renamed_L0_2_t _ _ _ _ _ _ _ _ _ _ _ _ _ _ _ _ _ _ _ _ _ _) (by
      simp only [wp_iff, chk_iff, know_iff, any_iff, rt_iff, hd_iff, true_imp_iff, true_and, and_true, and_self, lt01, Int.ofNat_lt, Int.ofNat_le, Int.natCast_nonneg, Int.toNat_natCast, decide_true, decide_false, Bool.true_eq_false, Bool.false_eq_true, false_imp_iff, Nat.lt_irrefl, imp_self, implies_true,  gd_st hi, gd_st hk, ln_st, hi, hk, st_st]
      unfold mapIn at h
      refine ⟨fun h1 => ⟨fun h2 => ?_, fun h2 => ?_⟩, fun h1 => ?_⟩
      · have e1 := of_decide_eq_true h1
        have e2 := of_decide_eq_true h2
        rw [rc_in (K := K) (r := z X.2.2.1) (by constructor <;> omega)] at h
        exact ⟨⟨e1, e2⟩, fun _ => h⟩
      · have e2 := of_decide_eq_false h2
        rw [rc_out (K := K) (r := z X.2.2.1) (Or.inr (by omega))] at h
        exact h
      · have e1 := of_decide_eq_false h1
        rw [rc_out (K := K) (r := z X.2.2.1) (Or.inl (by omega))] at h
        exact h))
    fun l j hj hl ih => .tree E_C22_ok (r20_Permute_renamed_L0_2_t _ _ _ _ _ _ _ _ _ _ _ _ _ _ _ _ _ _ _ _ _ _) (by
      have hj' : j < ln I l := by omega
      simp only [wp_iff, chk_iff, know_iff, any_iff, rt_iff, hd_iff, true_imp_iff, true_and, and_true, and_self, lt01, Int.ofNat_lt, Int.ofNat_le, Int.natCast_nonneg, Int.toNat_natCast, decide_true, decide_false, Bool.true_eq_false, Bool.false_eq_true, false_imp_iff, Nat.lt_irrefl, imp_self, implies_true,  gd_st hi, gd_st hk, ln_st, hi, hk, hj, hj', st_st, wrapS hj hX]
      exact ren_fin (P := fun u => Runs E_C22 (r20_Permute_renamed_L0_2 i k K i k (ln I X.2.2.2.1 : Nat) ((j + 1 : Nat) : Int) K i i k N J N' J' (st s_api_Block M i (B.1, st s_api_Instr y k (X.1, X.2.1, X.2.2.1, u, X.2.2.2.2), B.2.2)) a b n0 n2 g1 g3) Q) id ih)
theorem p3 (hi : i < ln s_api_Block M) (hB : ln I (tArgs B) < 9223372036854775807) (h : Runs E_C22 (r20_Permute_L6 K i N J (ln s_api_Edge (tSuc B) : Nat) 0 a b n0 n2 (st s_api_Block M i (B.1, B.2.1, (B.2.2.1.1, permL (tArgs B) K, B.2.2.1.2.2), B.2.2.2)) g1 g3) Q) :
    Runs E_C22 (r20_Permute_renamed_L0_3 i K i (ln I (tArgs B) : Nat) 0 K i N J (st s_api_Block M i B) a b n0 n2 g1 g3) Q :=
  ren_loop K (tArgs B) (fun x t => r20_Permute_renamed_L0_3 i K i (ln I (tArgs B) : Nat) t K i N J (st s_api_Block M i (B.1, B.2.1, (B.2.2.1.1, x, B.2.2.1.2.2), B.2.2.2)) a b n0 n2 g1 g3)
    (.tree E_C22_ok (r20_Permute_renamed_L0_3_t _ _ _ _ _ _ _ _ _ _ _ _ _ _ _ _) (by
      simp only [wp_iff, chk_iff, know_iff, any_iff, rt_iff, hd_iff, true_imp_iff, true_and, and_true, and_self, lt01, Int.ofNat_lt, Int.ofNat_le, Int.natCast_nonneg, Int.toNat_natCast, decide_true, decide_false, Bool.true_eq_false, Bool.false_eq_true, false_imp_iff, Nat.lt_irrefl, imp_self, implies_true,  gd_st hi, ln_st, hi]
      exact h))
    fun l j hj hl ih => .tree E_C22_ok (r20_Permute_renamed_L0_3_t _ _ _ _ _ _ _ _ _ _ _ _ _ _ _ _) (by
      have hj' : j < ln I l := by omega
      simp only [wp_iff, chk_iff, know_iff, any_iff, rt_iff, hd_iff, true_imp_iff, true_and, and_true, and_self, lt01, Int.ofNat_lt, Int.ofNat_le, Int.natCast_nonneg, Int.toNat_natCast, decide_true, decide_false, Bool.true_eq_false, Bool.false_eq_true, false_imp_iff, Nat.lt_irrefl, imp_self, implies_true,  gd_st hi, ln_st, hi, hj, hj', st_st, wrapS hj hB]
      exact ren_fin (P := fun y => Runs E_C22 (r20_Permute_renamed_L0_3 i K i (ln I (tArgs B) : Nat) ((j + 1 : Nat) : Int) K i N J (st s_api_Block M i (B.1, B.2.1, (B.2.2.1.1, y, B.2.2.1.2.2), B.2.2.2)) a b n0 n2 g1 g3) Q) id ih)
theorem p4 {y : List (Den s_api_Edge)} {X : Den s_api_Edge} {k : Nat} {N' J' : Int} {t0 t4 : Int} {t1 : List (Den I)} {t2 : List (Den (.int .i64))} {u : Den .unit} (hi : i < ln s_api_Block M) (hk : k < ln s_api_Edge y) (hX : ln I X.2.1 < 9223372036854775807)
    (h : Runs E_C22 (r20_Permute_L6 K i N J N' (IntKind.wrap .i64 (J' + 1)) a b n0 n2 (st s_api_Block M i (B.1, B.2.1, (t0, t1, t2, st s_api_Edge y k (mapEd K X), t4, u), B.2.2.2)) g1 g3) Q) :
    Runs E_C22 (r20_Permute_renamed_L0_4 i k K i k (ln I X.2.1 : Nat) 0 K i N J N' J' (st s_api_Block M i (B.1, B.2.1, (t0, t1, t2, st s_api_Edge y k X, t4, u), B.2.2.2)) a b n0 n2 g1 g3) Q :=
  ren_loop K X.2.1 (fun x t => r20_Permute_renamed_L0_4 i k K i k (ln I X.2.1 : Nat) t K i N J N' J' (st s_api_Block M i (B.1, B.2.1, (t0, t1, t2, st s_api_Edge y k (X.1, x, X.2.2), t4, u), B.2.2.2)) a b n0 n2 g1 g3)
    (.tree E_C22_ok (r20_Permute_renamed_L0_4_t _ _ _ _ _ _ _ _ _ _ _ _ _ _ _ _ _ _ _ _) (by
      simp only [wp_iff, chk_iff, know_iff, any_iff, rt_iff, hd_iff, true_imp_iff, true_and, and_true, and_self, lt01, Int.ofNat_lt, Int.ofNat_le, Int.natCast_nonneg, Int.toNat_natCast, decide_true, decide_false, Bool.true_eq_false, Bool.false_eq_true, false_imp_iff, Nat.lt_irrefl, imp_self, implies_true,  gd_st hi, gd_st hk, ln_st, hi, hk, st_st]
      exact h))
    fun l j hj hl ih => .tree E_C22_ok (r20_Permute_renamed_L0_4_t _ _ _ _ _ _ _ _ _ _ _ _ _ _ _ _ _ _ _ _) (by
      have hj' : j < ln I l := by omega
      simp only [wp_iff, chk_iff, know_iff, any_iff, rt_iff, hd_iff, true_imp_iff, true_and, and_true, and_self, lt01, Int.ofNat_lt, Int.ofNat_le, Int.natCast_nonneg, Int.toNat_natCast, decide_true, decide_false, Bool.true_eq_false, Bool.false_eq_true, false_imp_iff, Nat.lt_irrefl, imp_self, implies_true,  gd_st hi, gd_st hk, ln_st, hi, hk, hj, hj', st_st, wrapS hj hX]
      exact ren_fin (P := fun w => Runs E_C22 (r20_Permute_renamed_L0_4 i k K i k (ln I X.2.1 : Nat) ((j + 1 : Nat) : Int) K i N J N' J' (st s_api_Block M i (B.1, B.2.1, (t0, t1, t2, st s_api_Edge y k (X.1, w, X.2.2), t4, u), B.2.2.2)) a b n0 n2 g1 g3) Q) id ih)
theorem q4 {P : List (Den I)} (hi : i < ln s_api_Block M) (hB : ln s_api_Instr (bIns B) < 9223372036854775807) (hA : ∀ k, k < ln s_api_Instr (bIns B) → ln I (gd s_api_Instr (bIns B) k).2.2.2.1 < 9223372036854775807)
    (h : Runs E_C22 (r20_Permute_renamed_L0_3 i K i (ln I (tArgs B) : Nat) 0 K i N J (st s_api_Block M i (P, List.map (mapIn K) (bIns B), B.2.2)) a b n0 n2 g1 g3) Q) :
    ∀ k, k ≤ ln s_api_Instr (bIns B) → Runs E_C22 (r20_Permute_L4 K i N J (ln s_api_Instr (bIns B) : Nat) k a b n0 n2 (st s_api_Block M i (P, mapTo (S := s_api_Instr) (T := s_api_Instr) (mapIn K) idIn (bIns B) k, B.2.2)) g1 g3) Q :=
  up_ind (.tree E_C22_ok (r20_Permute_L4_t _ _ _ _ _ _ _ _ _ _ _ _ _) (by
    rw [mapTo_n]
    simp only [wp_iff, chk_iff, know_iff, any_iff, rt_iff, hd_iff, true_imp_iff, true_and, and_true, and_self, lt01, Int.ofNat_lt, Int.ofNat_le, Int.natCast_nonneg, Int.toNat_natCast, decide_true, decide_false, Bool.true_eq_false, Bool.false_eq_true, false_imp_iff, Nat.lt_irrefl, imp_self, implies_true,  gd_st hi, ln_st, hi, ln_map (S := s_api_Instr) (T := s_api_Instr)]
    exact h))
    fun k hk ihk => .tree E_C22_ok (r20_Permute_L4_t _ _ _ _ _ _ _ _ _ _ _ _ _) (by
      have hg : gd s_api_Instr (mapTo (S := s_api_Instr) (T := s_api_Instr) (mapIn K) idIn (bIns B) k) k = gd s_api_Instr (bIns B) k := mapTo_gd hk
      have e : st s_api_Instr (mapTo (S := s_api_Instr) (T := s_api_Instr) (mapIn K) idIn (bIns B) k) k (gd s_api_Instr (bIns B) k) = mapTo (S := s_api_Instr) (T := s_api_Instr) (mapIn K) idIn (bIns B) k := by
        have := st_gd (l := mapTo (S := s_api_Instr) (T := s_api_Instr) (mapIn K) idIn (bIns B) k) (i := k)
        rw [hg] at this
        exact this
      have := p2 (K := K) (a := a) (b := b) (n0 := n0) (n2 := n2) (g1 := g1) (g3 := g3) (Q := Q) (N := N) (J := J) (B := (P, mapTo (S := s_api_Instr) (T := s_api_Instr) (mapIn K) idIn (bIns B) k, B.2.2)) (y := mapTo (S := s_api_Instr) (T := s_api_Instr) (mapIn K) idIn (bIns B) k) (X := gd s_api_Instr (bIns B) k) (N' := (ln s_api_Instr (bIns B) : Nat)) (J' := (k : Nat)) hi (by rw [mapTo_len]; exact hk) (hA k hk) (by
        rw [wrapS hk hB, mapTo_st (S := s_api_Instr) (T := s_api_Instr) (f := mapIn K) (g := idIn) hk]
        exact ihk)
      rw [e] at this
      simp only [wp_iff, chk_iff, know_iff, any_iff, rt_iff, hd_iff, true_imp_iff, true_and, and_true, and_self, lt01, Int.ofNat_lt, Int.ofNat_le, Int.natCast_nonneg, Int.toNat_natCast, decide_true, decide_false, Bool.true_eq_false, Bool.false_eq_true, false_imp_iff, Nat.lt_irrefl, imp_self, implies_true,  gd_st hi, ln_st, hi, mapTo_len, hg, hk]
      exact this)
theorem q6 {P : List (Den I)} {Y : List (Den s_api_Instr)} {t0 t4 : Int} {t1 : List (Den I)} {t2 : List (Den (.int .i64))} {u v : Den .unit} {sc : List (Den s_api_Edge)} (hi : i < ln s_api_Block M) (hB : ln s_api_Edge sc < 9223372036854775807) (hA : ∀ k, k < ln s_api_Edge sc → ln I (gd s_api_Edge sc k).2.1 < 9223372036854775807)
    (h : Runs E_C22 (r20_Permute_L2 K N (IntKind.wrap .i64 (J + 1)) a b n0 n2 g1 g3 (st s_api_Block M i (P, Y, (t0, t1, t2, List.map (mapEd K) sc, t4, u), v))) Q) :
    ∀ k, k ≤ ln s_api_Edge sc → Runs E_C22 (r20_Permute_L6 K i N J (ln s_api_Edge sc : Nat) k a b n0 n2 (st s_api_Block M i (P, Y, (t0, t1, t2, mapTo (S := s_api_Edge) (T := s_api_Edge) (mapEd K) idEd sc k, t4, u), v)) g1 g3) Q :=
  up_ind (.tree E_C22_ok (r20_Permute_L6_t _ _ _ _ _ _ _ _ _ _ _ _ _) (by
    rw [mapTo_n]
    simp only [wp_iff, chk_iff, know_iff, any_iff, rt_iff, hd_iff, true_imp_iff, true_and, and_true, and_self, lt01, Int.ofNat_lt, Int.ofNat_le, Int.natCast_nonneg, Int.toNat_natCast, decide_true, decide_false, Bool.true_eq_false, Bool.false_eq_true, false_imp_iff, Nat.lt_irrefl, imp_self, implies_true,  gd_st hi, ln_st, hi]
    exact h))
    fun k hk ihk => .tree E_C22_ok (r20_Permute_L6_t _ _ _ _ _ _ _ _ _ _ _ _ _) (by
      have hg : gd s_api_Edge (mapTo (S := s_api_Edge) (T := s_api_Edge) (mapEd K) idEd sc k) k = gd s_api_Edge sc k := mapTo_gd hk
      have e : st s_api_Edge (mapTo (S := s_api_Edge) (T := s_api_Edge) (mapEd K) idEd sc k) k (gd s_api_Edge sc k) = mapTo (S := s_api_Edge) (T := s_api_Edge) (mapEd K) idEd sc k := by
        have := st_gd (l := mapTo (S := s_api_Edge) (T := s_api_Edge) (mapEd K) idEd sc k) (i := k)
        rw [hg] at this
        exact this
      have := p4 (K := K) (a := a) (b := b) (n0 := n0) (n2 := n2) (g1 := g1) (g3 := g3) (Q := Q) (N := N) (J := J) (t0 := t0) (t1 := t1) (t2 := t2) (t4 := t4) (u := u) (B := (P, Y, (t0, t1, t2, mapTo (S := s_api_Edge) (T := s_api_Edge) (mapEd K) idEd sc k, t4, u), v)) (y := mapTo (S := s_api_Edge) (T := s_api_Edge) (mapEd K) idEd sc k) (X := gd s_api_Edge sc k) (N' := (ln s_api_Edge sc : Nat)) (J' := (k : Nat)) hi (by rw [mapTo_len]; exact hk) (hA k hk) (by
        rw [wrapS hk hB, mapTo_st (S := s_api_Edge) (T := s_api_Edge) (f := mapEd K) (g := idEd) hk]
        exact ihk)
      rw [e] at this
      simp only [wp_iff, chk_iff, know_iff, any_iff, rt_iff, hd_iff, true_imp_iff, true_and, and_true, and_self, lt01, Int.ofNat_lt, Int.ofNat_le, Int.natCast_nonneg, Int.toNat_natCast, decide_true, decide_false, Bool.true_eq_false, Bool.false_eq_true, false_imp_iff, Nat.lt_irrefl, imp_self, implies_true,  gd_st hi, ln_st, hi, mapTo_len, hg, hk]
      exact this)
end
theorem q2 {K : List (Den I)} {n0 : ByteArray} {n2 : Int} {g1 g3 : List (Den I)} (l : List Blk) (ho : okB l) : ∀ i, i ≤ ln s_api_Block l → ∀ a b, Runs E_C22 (r20_Permute_L2 K (ln s_api_Block l : Nat) i a b n0 n2 g1 g3 (mapTo (S := s_api_Block) (T := s_api_Block) (mapBl K) idBk l i)) (fun x h => x = .tv s_api_Func (n0, g1, n2, g3, List.map (mapBl K) l, ()) ∧ h = []) :=
  up_ind (fun a b => .tree E_C22_ok (r20_Permute_L2_t _ _ _ _ _ _ _ _ _ _) (by
    rw [mapTo_n]
    simp only [wp_iff, chk_iff, know_iff, any_iff, rt_iff, hd_iff, true_imp_iff, true_and, and_true, and_self, lt01, Int.ofNat_lt, Int.ofNat_le, Int.natCast_nonneg, Int.toNat_natCast, decide_true, decide_false, Bool.true_eq_false, Bool.false_eq_true, false_imp_iff, Nat.lt_irrefl, imp_self, implies_true,  true_and]))
    fun i hi ih a b => .tree E_C22_ok (r20_Permute_L2_t _ _ _ _ _ _ _ _ _ _) (by
      have hg : gd s_api_Block (mapTo (S := s_api_Block) (T := s_api_Block) (mapBl K) idBk l i) i = gd s_api_Block l i := mapTo_gd hi
      have hi' : i < ln s_api_Block (mapTo (S := s_api_Block) (T := s_api_Block) (mapBl K) idBk l i) := by rw [mapTo_len]; exact hi
      have hb := ho.2 i hi
      have s6 := q6 (K := K) (a := a) (b := b) (n0 := n0) (n2 := n2) (g1 := g1) (g3 := g3) (M := mapTo (S := s_api_Block) (T := s_api_Block) (mapBl K) idBk l i) (i := i) (N := (ln s_api_Block l : Nat)) (J := (i : Nat)) (P := permL (gd s_api_Block l i).1 K) (Y := List.map (mapIn K) (bIns (gd s_api_Block l i))) (t0 := (gd s_api_Block l i).2.2.1.1) (t1 := permL (tArgs (gd s_api_Block l i)) K) (t2 := (gd s_api_Block l i).2.2.1.2.2.1) (t4 := (gd s_api_Block l i).2.2.1.2.2.2.2.1) (u := ()) (v := ()) (sc := tSuc (gd s_api_Block l i)) hi' (room_lt hb.2.2.1.2.2.2.1.1) (fun k hk => room_lt (ok_gd hb.2.2.1.2.2.2.1 hk).2.1.1) (by
        rw [wrapS hi (room_lt ho.1)]
        have := ih a b
        rw [← mapTo_st (S := s_api_Block) (T := s_api_Block) (f := mapBl K) (g := idBk) hi] at this
        exact this) 0 (Nat.zero_le _)
      rw [mapTo_0, map_idEd] at s6
      have s3 := p3 (K := K) (a := a) (b := b) (n0 := n0) (n2 := n2) (g1 := g1) (g3 := g3) (M := mapTo (S := s_api_Block) (T := s_api_Block) (mapBl K) idBk l i) (i := i) (N := (ln s_api_Block l : Nat)) (J := (i : Nat)) (B := (permL (gd s_api_Block l i).1 K, List.map (mapIn K) (bIns (gd s_api_Block l i)), (gd s_api_Block l i).2.2)) hi' (room_lt hb.2.2.1.2.1.1) s6
      have s4 := q4 (K := K) (a := a) (b := b) (n0 := n0) (n2 := n2) (g1 := g1) (g3 := g3) (M := mapTo (S := s_api_Block) (T := s_api_Block) (mapBl K) idBk l i) (i := i) (N := (ln s_api_Block l : Nat)) (J := (i : Nat)) (B := gd s_api_Block l i) hi' (room_lt hb.2.1.1) (fun k hk => room_lt (ok_gd hb.2.1 hk).2.2.2.1.1) s3 0 (Nat.zero_le _)
      rw [mapTo_0, map_idIn] at s4
      have s1 := p1 (K := K) (a := a) (b := b) (n0 := n0) (n2 := n2) (g1 := g1) (g3 := g3) (M := mapTo (S := s_api_Block) (T := s_api_Block) (mapBl K) idBk l i) (i := i) (N := (ln s_api_Block l : Nat)) (J := (i : Nat)) (B := gd s_api_Block l i) hi' (room_lt hb.1.1) s4
      have e := st_gd (l := mapTo (S := s_api_Block) (T := s_api_Block) (mapBl K) idBk l i) (i := i)
      rw [hg] at e
      rw [e] at s1
      simp only [wp_iff, chk_iff, know_iff, any_iff, rt_iff, hd_iff, true_imp_iff, true_and, and_true, and_self, lt01, Int.ofNat_lt, Int.ofNat_le, Int.natCast_nonneg, Int.toNat_natCast, decide_true, decide_false, Bool.true_eq_false, Bool.false_eq_true, false_imp_iff, Nat.lt_irrefl, imp_self, implies_true,  hi, mapTo_len, hg]
      exact s1)
theorem q0 {K : List (Den I)} {n0 : ByteArray} {n2 : Int} {g3 : List (Den I)} (L : List (Den I)) (hL : ln I L < 9223372036854775807) (l : List Blk) (ho : okB l) (a : ByteArray) (b : Int) : Runs E_C22 (r20_Permute_renamed_L0 K (ln I L : Nat) 0 K L a b n0 n2 g3 l) (fun x h => x = .tv s_api_Func (n0, permL L K, n2, g3, List.map (mapBl K) l, ()) ∧ h = []) :=
  ren_loop K L (fun x t => r20_Permute_renamed_L0 K (ln I L : Nat) t K x a b n0 n2 g3 l)
    (.tree E_C22_ok (r20_Permute_renamed_L0_t _ _ _ _ _ _ _ _ _ _ _) (by
      have := q2 (K := K) (n0 := n0) (n2 := n2) (g1 := permL L K) (g3 := g3) l ho 0 (Nat.zero_le _) a b
      rw [mapTo_0, map_idBk] at this
      simp only [wp_iff, chk_iff, know_iff, any_iff, rt_iff, hd_iff, true_imp_iff, true_and, and_true, and_self, lt01, Int.ofNat_lt, Int.ofNat_le, Int.natCast_nonneg, Int.toNat_natCast, decide_true, decide_false, Bool.true_eq_false, Bool.false_eq_true, false_imp_iff, Nat.lt_irrefl, imp_self, implies_true,  true_and]
      exact this))
    fun x j hj hl ih => .tree E_C22_ok (r20_Permute_renamed_L0_t _ _ _ _ _ _ _ _ _ _ _) (by
      have hj' : j < ln I x := by omega
      simp only [wp_iff, chk_iff, know_iff, any_iff, rt_iff, hd_iff, true_imp_iff, true_and, and_true, and_self, lt01, Int.ofNat_lt, Int.ofNat_le, Int.natCast_nonneg, Int.toNat_natCast, decide_true, decide_false, Bool.true_eq_false, Bool.false_eq_true, false_imp_iff, Nat.lt_irrefl, imp_self, implies_true,  hj, hj', wrapS hj hL]
      exact ren_fin (P := fun w => Runs E_C22 (r20_Permute_renamed_L0 K (ln I L : Nat) ((j + 1 : Nat) : Int) K w a b n0 n2 g3 l) _) id ih)
theorem qr (perm : List (Den I)) (l : List (Den I)) (hr : ln I l < 9223372036854775807) (hp : permB perm (ln I l : Int) = true) (n0 : ByteArray) (n2 : Int) (g1 : List (Den I)) (hg1 : ln I g1 < 9223372036854775807) (g4 : List (Den s_api_Block)) (h4 : okB g4) : ∀ i, i ≤ ln I l → ∀ (a : ByteArray) (b : Int) (acc : List (Den I)), ln I acc = ln I l → Runs E_C22 (r20_Permute_L0 perm l (ln I l : Nat) i a b n0 n2 g1 acc g4) (fun x h => x = .tv s_api_Func (n0, permL g1 perm, n2, regsGo (perm.drop i) (l.drop i) acc, List.map (mapBl perm) g4, ()) ∧ h = []) :=
  up_ind (fun a b acc _ => .tree E_C22_ok (r20_Permute_L0_t _ _ _ _ _ _ _ _ _ _ _) (by
    have hl := (permB_range hp).1
    have e : perm.drop (ln I l) = [] := List.drop_eq_nil_of_le (by show ln I perm ≤ _; omega)
    rw [drop_ln, e]
    simp only [wp_iff, chk_iff, know_iff, any_iff, rt_iff, hd_iff, true_imp_iff, true_and, and_true, and_self, lt01, Int.ofNat_lt, Int.ofNat_le, Int.natCast_nonneg, Int.toNat_natCast, decide_true, decide_false, Bool.true_eq_false, Bool.false_eq_true, false_imp_iff, Nat.lt_irrefl, imp_self, implies_true,  regsGo]
    exact q0 g1 hg1 g4 h4 a b))
    fun i hi ih a b acc ha => .tree E_C22_ok (r20_Permute_L0_t _ _ _ _ _ _ _ _ _ _ _) (by
      obtain ⟨hl, hrg⟩ := permB_range hp
      have hip : i < ln I perm := by omega
      have f1 := hrg i hip
      have f2 : 0 ≤ z (gd I perm i) ∧ z (gd I perm i) < (ln I acc : Int) := by rw [ha]; exact f1
      have f3 : (z (gd I perm i)).toNat < ln I acc := by omega
      have := ih a b (st I acc (z (gd I perm i)).toNat (gd I l i)) (by rw [ln_st]; exact ha)
      rw [drop_gd (l := perm) (i := i) hip, drop_gd (l := l) (i := i) hi, regsGo]
      simp only [wp_iff, chk_iff, know_iff, any_iff, rt_iff, hd_iff, true_imp_iff, true_and, and_true, and_self, lt01, Int.ofNat_lt, Int.ofNat_le, Int.natCast_nonneg, Int.toNat_natCast, decide_true, decide_false, Bool.true_eq_false, Bool.false_eq_true, false_imp_iff, Nat.lt_irrefl, imp_self, implies_true,  hi, hip, f2, f3, wrapS hi hr]
      exact this)
def k_r20_Permute : Con := con [.d s_api_Func, .d (.sl 8 I)] s_api_Func (fun x => True) fun x => permuteF x.1 x.2.1
theorem m_r20_Permute (f : Den s_api_Func) (perm : List (Den I)) (h_f : okD s_api_Func f) (h_perm : okD (.sl 8 I) perm) (hp : True) : Runs E_C22 (start E_C22 f_r20_Permute [(.tv s_api_Func f), (.tv (.sl 8 I) perm)]) (fun r_ h_ => r_ = (.tv s_api_Func (permuteF f perm)) ∧ h_ = []) := .tree E_C22_ok (r20_Permute_t f perm) (by
  unfold permuteF
  simp only [wp_iff, chk_iff, know_iff, any_iff, rt_iff, hd_iff, true_imp_iff, true_and, and_true, and_self, lt01]
  intro _
  refine ⟨fun h => ?_, fun h => ?_⟩
  · rw [if_neg (by simpa using h)]
    rfl
  · have hp' : permB perm (ln I f.2.2.2.1 : Int) = true := by simpa using h
    rw [if_pos hp']
    exact qr perm f.2.2.2.1 (room_lt h_f.2.2.2.1.1) hp' f.1 f.2.2.1 f.2.1 (room_lt h_f.2.1.1) _ (okB_of h_f) 0 (Nat.zero_le _) _ _ f.2.2.2.1 rfl)
theorem c_r20_Permute : SpecOK E_C22 f_r20_Permute k_r20_Permute.spec := spec_of fun x hx hp => ⟨rfl, m_r20_Permute x.1 x.2.1 hx.1 hx.2.1 hp⟩
def L_C22 : List (FuncId × FSpec) := [(f_r20_Permute, k_r20_Permute.spec)] ++ L_C21
theorem L_C22_ok : ∀ x ∈ L_C22, SpecOK (ctx []) x.1 x.2 := by
  unfold L_C22
  simp only [List.cons_append, List.nil_append, List.forall_mem_cons]
  exact ⟨c_r20_Permute, L_C21_ok⟩
end Burn.M20
namespace Burn.M20
open Go Go.BE Go.Proofs
set_option maxRecDepth 100000
set_option linter.unusedVariables false
set_option linter.unusedSimpArgs false
open Burn.Cfg
noncomputable abbrev E_C23 : Ctx := ctx L_C22
theorem E_C23_ok : EOK E_C23 := ctx_ok L_C22_ok
def cuts_C23 : CutL := [([], 8, 0, [1, 2, 6, 7, 47, 48, 49], [], []),
  ([], 8, 2, [2, 6, 7, 68, 69, 70], [], [])]
def rets_C23 : FuncId → List (Option Fx)
  | _ => []
def H_C23 : Hints := { cut := cutOf cuts_C23, ret := rets_C23 }
noncomputable def law20_CfgPermute_L0 (perm : List (Den I)) (t47 : List (Den I)) (t48 : Int) (t49 : Int) (f : Den s_api_Func) (g : Den s_api_Func) (back : List (Den I)) : Cfg := hcfg E_C23 f_law20_CfgPermute 0 [(1, (.tv (.sl 8 I) perm)), (2, (.tref 0 0 [] (0 : Nat) [])), (6, (.tref 1 1 [] (0 : Nat) [])), (7, (.osl 2 2 [] none)), (47, (.tv (.sl 8 I) t47)), (48, (vi t48)), (49, (vi t49))] [(0, ⟨(.arr 0 96 s_api_Func ([f] : List (Den s_api_Func))), 0, [], false, none⟩), (1, ⟨(.arr 0 96 s_api_Func ([g] : List (Den s_api_Func))), 1, [], false, none⟩), (2, ⟨(.arr 0 8 I back), 2, [], false, none⟩)] 3
noncomputable def law20_CfgPermute_L2 (t68 : List (Den I)) (t69 : Int) (t70 : Int) (f : Den s_api_Func) (g : Den s_api_Func) (back : List (Den I)) : Cfg := hcfg E_C23 f_law20_CfgPermute 2 [(2, (.tref 0 0 [] (0 : Nat) [])), (6, (.tref 1 1 [] (0 : Nat) [])), (7, (.osl 2 2 [] none)), (68, (.tv (.sl 8 I) t68)), (69, (vi t69)), (70, (vi t70))] [(0, ⟨(.arr 0 96 s_api_Func ([f] : List (Den s_api_Func))), 0, [], false, none⟩), (1, ⟨(.arr 0 96 s_api_Func ([g] : List (Den s_api_Func))), 1, [], false, none⟩), (2, ⟨(.arr 0 8 I back), 2, [], false, none⟩)] 3
theorem law20_CfgPermute_t (f : Den s_api_Func) (perm : List (Den I)) : run E_C23 H_C23 f_law20_CfgPermute 3000 (start E_C23 f_law20_CfgPermute [(.tv s_api_Func f), (.tv (.sl 8 I) perm)]) = (.chk ((0 : Nat) < (1 : Nat)) (.chk (True) (.know True (cond (largeF f) (.chk (True) (.know True (rt (vb (worksR)) []))) (cond (decide (((ln I perm) : Int) > (600 : Int))) (.chk (True) (.know True (rt (vb (worksR)) []))) (.chk ((0 : Nat) < (1 : Nat)) (.chk (True) (.know (okD s_api_Func (idF f)) (.chk ((0 : Nat) < (1 : Nat)) (.chk ((0 : Nat) < (1 : Nat)) (.chk (True) (.know (okD s_api_Func (permuteF f perm)) (.chk ((0 : Nat) < (1 : Nat)) (.chk ((0 : Nat) < (1 : Nat)) (.chk ((0 : Nat) < (1 : Nat)) (.chk (True) (.chk (True) (cond (!(eqFn (permuteF f perm) (permuteF f perm))) (.know (okD s_api_Func (permuteF f perm)) (.know True (rt (vb false) []))) (.chk ((0 : Nat) < (1 : Nat)) (.chk ((0 : Nat) < (1 : Nat)) (.chk (True) (.know (okD s_api_Func (permuteF f perm)) (.know True (.know True (cond (!(eqFn f (idF f))) (rt (vb false) []) (.chk ((0 : Nat) < (1 : Nat)) (cond (((ln I perm) : Int) != ((ln I f.2.2.2.1) : Int)) (.chk (True) (.know True (rt (vb (worksR)) []))) (.chk (((ln I perm) : Int) = ((ln I perm) : Int)) (.chk (0 ≤ ((ln I perm) : Int)) (.chk ((ln I perm) * 8 ≤ roomB) (hd (law20_CfgPermute_L0 perm perm ((ln I perm) : Int) (0 : Int) f (permuteF f perm) (List.replicate (ln I perm) (dz I)))))))))))))))))))))))))))))))))) := by kernel_rfl
theorem law20_CfgPermute_L0_t (perm : List (Den I)) (t47 : List (Den I)) (t48 : Int) (t49 : Int) (f : Den s_api_Func) (g : Den s_api_Func) (back : List (Den I)) : run E_C23 H_C23 f_law20_CfgPermute 3000 (law20_CfgPermute_L0 perm t47 t48 t49 f g back) = (cond (decide (t49 < t48)) (.chk (0 ≤ t49 ∧ t49 < (ln I t47)) (cond (decide ((z (gd I t47 ((t49).toNat))) < (0 : Int))) (.chk (True) (.know True (rt (vb (worksR)) []))) (cond (decide ((z (gd I t47 ((t49).toNat))) ≥ ((ln I perm) : Int))) (.chk (True) (.know True (rt (vb (worksR)) []))) (.chk (0 ≤ (z (gd I t47 ((t49).toNat))) ∧ (z (gd I t47 ((t49).toNat))) < (ln I back)) (.chk (((z (gd I t47 ((t49).toNat)))).toNat < (ln I back)) (hd (law20_CfgPermute_L0 perm t47 t48 (IntKind.wrap .i64 (t49 + (1 : Int))) f g (st I back (((z (gd I t47 ((t49).toNat)))).toNat) t49)))))))) (hd (law20_CfgPermute_L2 perm ((ln I perm) : Int) (0 : Int) f g back))) := by kernel_rfl
theorem law20_CfgPermute_L2_t (t68 : List (Den I)) (t69 : Int) (t70 : Int) (f : Den s_api_Func) (g : Den s_api_Func) (back : List (Den I)) : run E_C23 H_C23 f_law20_CfgPermute 3000 (law20_CfgPermute_L2 t68 t69 t70 f g back) = (cond (decide (t70 < t69)) (.chk (0 ≤ t70 ∧ t70 < (ln I t68)) (.chk (0 ≤ (z (gd I t68 ((t70).toNat))) ∧ (z (gd I t68 ((t70).toNat))) < (ln I back)) (.chk (((z (gd I t68 ((t70).toNat)))).toNat < (ln I back)) (cond ((z (gd I back (((z (gd I t68 ((t70).toNat)))).toNat))) != t70) (.chk (True) (.know True (rt (vb (worksR)) []))) (hd (law20_CfgPermute_L2 t68 t69 (IntKind.wrap .i64 (t70 + (1 : Int))) f g back)))))) (.chk ((0 : Nat) < (1 : Nat)) (.chk (True) (.chk ((0 : Nat) < (1 : Nat)) (.chk (True) (cond (eqFn (permuteF g back) f) (.chk (True) (.know (okD s_api_Func (permuteF g back)) (.know True (.know True (rt (vb (worksR)) []))))) (.know (okD s_api_Func (permuteF g back)) (.know True (rt (vb false) []))))))))) := by kernel_rfl
theorem len_le : ∀ (n : Nat) (l : List Nat), l.Nodup → (∀ x ∈ l, x < n) → l.length ≤ n
  | 0, [], _, _ => Nat.le_refl _
  | 0, x :: l, _, h => absurd (h x List.mem_cons_self) (Nat.not_lt_zero _)
  | n + 1, l, hn, h => by
    have h1 := len_le n (l.erase n) (hn.erase n) fun x hx => by
      have hm := (hn.mem_erase_iff).1 hx
      have := h x hm.2
      have := hm.1
      omega
    by_cases hm : n ∈ l
    · have := List.length_erase_of_mem hm
      have := List.length_pos_of_mem hm
      omega
    · rw [List.erase_of_not_mem hm] at h1
      omega
theorem onto {n : Nat} {p : Nat → Nat} (hp : ∀ i, i < n → p i < n) (hi : ∀ i j, i < n → j < n → p i = p j → i = j) {j : Nat} (hj : j < n) : ∃ i, i < n ∧ p i = j := by
  by_cases h : ∃ i, i < n ∧ p i = j
  · exact h
  · exfalso
    have hnd : (j :: (List.range n).map p).Nodup := by
      refine List.nodup_cons.2 ⟨fun hm => ?_, ?_⟩
      · obtain ⟨i, h1, h2⟩ := List.mem_map.1 hm
        exact h ⟨i, List.mem_range.1 h1, h2⟩
      · unfold List.Nodup
        rw [List.pairwise_map]
        exact List.Pairwise.imp_of_mem (fun {a b} ha hb hne e => hne (hi a b (List.mem_range.1 ha) (List.mem_range.1 hb) e)) (List.nodup_range (n := n))
    have := len_le n _ hnd fun x hx => by
      rcases List.mem_cons.1 hx with rfl | hx
      · exact hj
      · obtain ⟨i, h1, rfl⟩ := List.mem_map.1 hx
        exact hp i (List.mem_range.1 h1)
    simp at this
    omega
/-- the index that stands at i -/
abbrev pn (p : List (Den I)) (i : Nat) : Nat := (z (gd I p i)).toNat
def rg (p : List (Den I)) (n : Nat) : Prop := ∀ i, i < ln I p → 0 ≤ z (gd I p i) ∧ z (gd I p i) < (n : Int)
theorem permGo_of {n : Nat} : ∀ {l : List (Den I)} {m : List (Den .bool)}, rg l n → ln .bool m = n → (∀ i, i < ln I l → bOf (gd .bool m (pn l i)) = false) → (∀ i j, i < ln I l → j < ln I l → pn l i = pn l j → i = j) → permGo n l m = true
  | [], m, _, _, _, _ => rfl
  | r :: l, m, hr, hm, hf, hi => by
    have h0 := hr 0 (Nat.succ_pos _)
    have h0 : 0 ≤ z r ∧ z r < (n : Int) := h0
    rw [permGo, if_neg (by omega)]
    have hf0 : bOf (gd .bool m (z r).toNat) = false := hf 0 (Nat.succ_pos _)
    rw [if_neg (by rw [hf0]; decide)]
    refine permGo_of (fun i h => hr (i + 1) (Nat.succ_lt_succ h)) (by rw [ln_st]; exact hm) (fun i h => ?_) fun i j h1 h2 e => by
      have := hi (i + 1) (j + 1) (Nat.succ_lt_succ h1) (Nat.succ_lt_succ h2) e
      omega
    rw [gd_st_any, if_neg]
    · exact hf (i + 1) (Nat.succ_lt_succ h)
    · intro hc
      have := hi (i + 1) 0 (Nat.succ_lt_succ h) (Nat.succ_pos _) hc.1.symm
      omega
theorem permB_of {p : List (Den I)} {n : Nat} (hl : ln I p = n) (hr : rg p n) (hi : ∀ i j, i < n → j < n → pn p i = pn p j → i = j) : permB p (n : Int) = true := by
  unfold permB
  simp only [Bool.and_eq_true, beq_iff_eq]
  refine ⟨by omega, permGo_of hr (by show (List.replicate _ _).length = n; simp) (fun i h => ?_) (by rw [hl]; exact hi)⟩
  show (List.replicate (n : Int).toNat (dz .bool)).getD _ _ = false
  rw [List.getD_eq_getElem?_getD, List.getElem?_replicate]
  split <;> rfl
theorem ext_gd {S : Sh} {a b : List (Den S)} (hl : ln S a = ln S b) (h : ∀ i, i < ln S a → gd S a i = gd S b i) : a = b := by
  apply List.ext_getElem hl
  intro i h1 h2
  have := h i h1
  unfold gd at this
  rw [List.getD_eq_getElem?_getD, List.getD_eq_getElem?_getD, List.getElem?_eq_getElem h1, List.getElem?_eq_getElem h2] at this
  exact this
theorem regsGo_sp : ∀ {p t acc : List (Den I)}, ln I p = ln I t → rg p (ln I acc) → (∀ i j, i < ln I p → j < ln I p → pn p i = pn p j → i = j) →
    ln I (regsGo p t acc) = ln I acc ∧ (∀ i, i < ln I p → gd I (regsGo p t acc) (pn p i) = gd I t i) ∧ ∀ j, (∀ i, i < ln I p → pn p i ≠ j) → gd I (regsGo p t acc) j = gd I acc j
  | [], [], acc, _, _, _ => ⟨rfl, fun i hi => absurd hi (Nat.not_lt_zero _), fun _ _ => rfl⟩
  | [], _ :: _, acc, h, _, _ => by simp [ln] at h
  | _ :: _, [], acc, h, _, _ => by simp [ln] at h
  | r :: p, x :: t, acc, hl, hr, hi => by
    have h0 : 0 ≤ z r ∧ z r < (ln I acc : Int) := hr 0 (Nat.succ_pos _)
    have ih := regsGo_sp (p := p) (t := t) (acc := st I acc (z r).toNat x) (Nat.succ.inj hl) (fun i h => by rw [ln_st]; exact hr (i + 1) (Nat.succ_lt_succ h)) fun i j h1 h2 e => by
      have := hi (i + 1) (j + 1) (Nat.succ_lt_succ h1) (Nat.succ_lt_succ h2) e
      omega
    obtain ⟨e1, e2, e3⟩ := ih
    refine ⟨e1.trans ln_st, fun i h => ?_, fun j h => ?_⟩
    · cases i with
      | zero =>
        show gd I (regsGo p t (st I acc (z r).toNat x)) (z r).toNat = x
        rw [e3 _ fun i h e => by
          have := hi (i + 1) 0 (Nat.succ_lt_succ h) (Nat.succ_pos _) e
          omega]
        exact gd_st (by omega)
      | succ i => exact e2 i (Nat.lt_of_succ_lt_succ h)
    · show gd I (regsGo p t (st I acc (z r).toNat x)) j = gd I acc j
      rw [e3 j fun i hi' => h (i + 1) (Nat.succ_lt_succ hi'), gd_st_any, if_neg]
      intro hc
      exact h 0 (Nat.succ_pos _) hc.1
/-- what the law finds of the inverse -/
structure Back (n : Nat) (p q : List (Den I)) : Prop where
  lp : ln I p = n
  lq : ln I q = n
  rp : rg p n
  rq : rg q n
  inv : ∀ i, i < n → z (gd I q (pn p i)) = (i : Int)
theorem Back.injp {n : Nat} {p q : List (Den I)} (h : Back n p q) : ∀ i j, i < n → j < n → pn p i = pn p j → i = j := fun i j hi hj e => by
  have a := h.inv i hi
  have b := h.inv j hj
  rw [e, b] at a
  omega
theorem Back.pl {n : Nat} {p q : List (Den I)} (h : Back n p q) {i : Nat} (hi : i < n) : pn p i < n := by
  have := h.rp i (by rw [h.lp]; exact hi)
  show (z (gd I p i)).toNat < n
  omega
theorem Back.on {n : Nat} {p q : List (Den I)} (h : Back n p q) {j : Nat} (hj : j < n) : ∃ i, i < n ∧ pn p i = j := onto (fun _ => h.pl) h.injp hj
theorem Back.qp {n : Nat} {p q : List (Den I)} (h : Back n p q) {i : Nat} (hi : i < n) : pn q (pn p i) = i := by
  show (z (gd I q (pn p i))).toNat = i
  rw [h.inv i hi]
  omega
theorem Back.injq {n : Nat} {p q : List (Den I)} (h : Back n p q) : ∀ i j, i < n → j < n → pn q i = pn q j → i = j := fun i j hi hj e => by
  obtain ⟨a, ha, rfl⟩ := h.on hi
  obtain ⟨b, hb, rfl⟩ := h.on hj
  rw [h.qp ha, h.qp hb] at e
  rw [e]
theorem Back.perm {n : Nat} {p q : List (Den I)} (h : Back n p q) (x : Den I) : permD q (permD p x) = x := by
  by_cases hx : z x < 0 ∨ z x ≥ (n : Int)
  · rw [permD_out (k := p) (x := x) (by rw [h.lp]; exact hx), permD_out (by rw [h.lq]; exact hx)]
  · rw [permD_in (k := p) (x := x) (by rw [h.lp]; exact hx)]
    have hi : (z x).toNat < n := by omega
    have hr := h.rp (z x).toNat (by rw [h.lp]; exact hi)
    rw [permD_in (k := q) (by rw [h.lq]; omega)]
    have := h.inv _ hi
    show z (gd I q (pn p (z x).toNat)) = x
    rw [this]
    show (((z x).toNat : Nat) : Int) = z x
    omega
theorem Back.list {n : Nat} {p q : List (Den I)} (h : Back n p q) (l : List (Den I)) : permL (permL l p) q = l := by
  unfold permL
  rw [List.map_map]
  exact (List.map_congr_left fun x _ => h.perm x).trans (List.map_id l)
theorem Back.ins {n : Nat} {p q : List (Den I)} (h : Back n p q) (x : Den s_api_Instr) : mapIn q (mapIn p x) = x := by
  have h1 : permRc (permRc x.2.2.1 p) q = x.2.2.1 := h.perm x.2.2.1
  show (x.1, x.2.1, permRc (permRc x.2.2.1 p) q, permL (permL x.2.2.2.1 p) q, x.2.2.2.2) = x
  rw [h1, h.list]
theorem Back.edge {n : Nat} {p q : List (Den I)} (h : Back n p q) (x : Den s_api_Edge) : mapEd q (mapEd p x) = x := by
  show (x.1, permL (permL x.2.1 p) q, ()) = x
  rw [h.list]
theorem Back.block {n : Nat} {p q : List (Den I)} (h : Back n p q) (x : Blk) : mapBl q (mapBl p x) = x := by
  show (permL (permL x.1 p) q, List.map (mapIn q) (List.map (mapIn p) (bIns x)), (x.2.2.1.1, permL (permL (tArgs x) p) q, x.2.2.1.2.2.1, List.map (mapEd q) (List.map (mapEd p) (tSuc x)), x.2.2.1.2.2.2.2.1, ()), ()) = x
  rw [h.list, h.list, List.map_map, List.map_map]
  have a : List.map (mapIn q ∘ mapIn p) (bIns x) = bIns x := (List.map_congr_left fun y _ => h.ins y).trans (List.map_id (bIns x))
  have b : List.map (mapEd q ∘ mapEd p) (tSuc x) = tSuc x := (List.map_congr_left fun y _ => h.edge y).trans (List.map_id (tSuc x))
  rw [a, b]
theorem Back.regs {n : Nat} {p q : List (Den I)} (h : Back n p q) (R : List (Den I)) (hR : ln I R = n) : regsGo q (regsGo p R R) (regsGo p R R) = R ∧ ln I (regsGo p R R) = n := by
  obtain ⟨e1, e2, _⟩ := regsGo_sp (p := p) (t := R) (acc := R) (by rw [h.lp, hR]) (by rw [hR]; exact h.rp) (by rw [h.lp]; exact h.injp)
  have hl : ln I (regsGo p R R) = n := e1.trans hR
  obtain ⟨f1, f2, _⟩ := regsGo_sp (p := q) (t := regsGo p R R) (acc := regsGo p R R) (by rw [h.lq, hl]) (by rw [hl]; exact h.rq) (by rw [h.lq]; exact h.injq)
  refine ⟨ext_gd (by rw [f1, hl, hR]) fun i hi => ?_, hl⟩
  have hin : i < n := by rw [f1, hl] at hi; exact hi
  have a := f2 (pn p i) (by rw [h.lq]; exact h.pl hin)
  rw [h.qp hin] at a
  rw [a]
  exact e2 i (by rw [h.lp]; exact hin)
theorem back_perm {f : Fn} {p q : List (Den I)} (h : Back (ln I f.2.2.2.1) p q) : permuteF (permuteF f p) q = f := by
  have a : permB p (ln I f.2.2.2.1 : Int) = true := permB_of h.lp h.rp h.injp
  obtain ⟨r1, r2⟩ := h.regs f.2.2.2.1 rfl
  have b : permB q (ln I (regsGo p f.2.2.2.1 f.2.2.2.1) : Int) = true := by
    rw [r2]
    exact permB_of h.lq h.rq h.injq
  have e : permuteF f p = (f.1, permL f.2.1 p, f.2.2.1, regsGo p f.2.2.2.1 f.2.2.2.1, List.map (mapBl p) (blocks f), ()) := if_pos a
  rw [e]
  unfold permuteF
  rw [if_pos b]
  show (f.1, permL (permL f.2.1 p) q, f.2.2.1, regsGo q (regsGo p f.2.2.2.1 f.2.2.2.1) (regsGo p f.2.2.2.1 f.2.2.2.1), List.map (mapBl q) (List.map (mapBl p) (blocks f)), ()) = f
  have c : List.map (mapBl q ∘ mapBl p) (blocks f) = blocks f := (List.map_congr_left fun y _ => h.block y).trans (List.map_id (blocks f))
  rw [r1, h.list, List.map_map, c]
def yesPerm (_ : Fn) (_ : List (Den I)) : Bool := true
theorem perm_l2 (f : Fn) (p q : List (Den I)) (hp : ln I p = ln I f.2.2.2.1) (hl : ln I p < 9223372036854775807) (hq : ln I q = ln I p) (rp : rg p (ln I p)) (rq : rg q (ln I p)) : ∀ i, i ≤ ln I p → (∀ k, k < i → z (gd I q (pn p k)) = (k : Int)) → Runs E_C23 (law20_CfgPermute_L2 p (ln I p : Nat) i f (permuteF f p) q) (fun x h => x = vb true ∧ h = []) :=
  up_ind (fun hinv => .tree E_C23_ok (law20_CfgPermute_L2_t _ _ _ _ _ _) (by
    have hb : Back (ln I f.2.2.2.1) p q := ⟨hp, hq.trans hp, by rw [← hp]; exact rp, by rw [← hp]; exact rq, by rw [← hp]; exact hinv⟩
    rw [back_perm hb]
    simp only [wp_iff, chk_iff, know_iff, any_iff, rt_iff, hd_iff, true_imp_iff, true_and, and_true, and_self, lt01, Int.ofNat_lt, Int.ofNat_le, Int.natCast_nonneg, Int.toNat_natCast, decide_true, decide_false, Bool.true_eq_false, Bool.false_eq_true, false_imp_iff, Nat.lt_irrefl, imp_self, implies_true,  eqFn_refl, worksR]))
    fun i hi ih hinv => .tree E_C23_ok (law20_CfgPermute_L2_t _ _ _ _ _ _) (by
      have f1 := rp i hi
      have f2 : 0 ≤ z (gd I p i) ∧ z (gd I p i) < (ln I q : Int) := by rw [hq]; exact f1
      have f3 : (z (gd I p i)).toNat < ln I q := by omega
      simp only [wp_iff, chk_iff, know_iff, any_iff, rt_iff, hd_iff, true_imp_iff, true_and, and_true, and_self, lt01, Int.ofNat_lt, Int.ofNat_le, Int.natCast_nonneg, Int.toNat_natCast, decide_true, decide_false, Bool.true_eq_false, Bool.false_eq_true, false_imp_iff, Nat.lt_irrefl, imp_self, implies_true,  hi, f2, f3, wrapS hi hl, worksR]
      intro h
      refine ih fun k hk => ?_
      rcases Nat.lt_or_eq_of_le (Nat.le_of_lt_succ hk) with h' | rfl
      · exact hinv k h'
      · simpa using h)
theorem perm_l0 (f : Fn) (p : List (Den I)) (hp : ln I p = ln I f.2.2.2.1) (hl : ln I p < 9223372036854775807) : ∀ i, i ≤ ln I p → ∀ q : List (Den I), ln I q = ln I p → (∀ k, k < i → 0 ≤ z (gd I p k) ∧ z (gd I p k) < (ln I p : Int)) → rg q (ln I p) → Runs E_C23 (law20_CfgPermute_L0 p p (ln I p : Nat) i f (permuteF f p) q) (fun x h => x = vb true ∧ h = []) :=
  up_ind (fun q hq hinv rq => .tree E_C23_ok (law20_CfgPermute_L0_t _ _ _ _ _ _ _) (by
    simp only [wp_iff, chk_iff, know_iff, any_iff, rt_iff, hd_iff, true_imp_iff, true_and, and_true, and_self, lt01, Int.ofNat_lt, Int.ofNat_le, Int.natCast_nonneg, Int.toNat_natCast, decide_true, decide_false, Bool.true_eq_false, Bool.false_eq_true, false_imp_iff, Nat.lt_irrefl, imp_self, implies_true,  true_and]
    exact perm_l2 f p q hp hl hq hinv rq 0 (Nat.zero_le _) fun k hk => absurd hk (Nat.not_lt_zero _)))
    fun i hi ih q hq hinv rq => .tree E_C23_ok (law20_CfgPermute_L0_t _ _ _ _ _ _ _) (by
      simp only [wp_iff, chk_iff, know_iff, any_iff, rt_iff, hd_iff, true_imp_iff, true_and, and_true, and_self, lt01, Int.ofNat_lt, Int.ofNat_le, Int.natCast_nonneg, Int.toNat_natCast, decide_true, decide_false, Bool.true_eq_false, Bool.false_eq_true, false_imp_iff, Nat.lt_irrefl, imp_self, implies_true,  hi, wrapS hi hl, worksR]
      intro h1 h2
      have a1 := of_decide_eq_false h1
      have a2 := of_decide_eq_false h2
      have f1 : 0 ≤ z (gd I p i) ∧ z (gd I p i) < (ln I p : Int) := ⟨by omega, by omega⟩
      refine ⟨by rw [hq]; exact f1, fun _ => ⟨by rw [hq]; omega, fun _ => ih _ (by rw [ln_st]; exact hq) (fun k hk => ?_) fun k hk => ?_⟩⟩
      · rcases Nat.lt_or_eq_of_le (Nat.le_of_lt_succ hk) with h' | rfl
        · exact hinv k h'
        · exact f1
      · rw [ln_st] at hk
        rw [gd_st_any]
        split
        · show 0 ≤ (i : Int) ∧ (i : Int) < (ln I p : Int)
          omega
        · exact rq k hk)
def k_law20_CfgPermute : Con := con [.d s_api_Func, .d (.sl 8 I)] .bool (fun x => True) fun x => yesPerm x.1 x.2.1
theorem m_law20_CfgPermute (f : Den s_api_Func) (perm : List (Den I)) (h_f : okD s_api_Func f) (h_perm : okD (.sl 8 I) perm) (hp : True) : Runs E_C23 (start E_C23 f_law20_CfgPermute [(.tv s_api_Func f), (.tv (.sl 8 I) perm)]) (fun r_ h_ => r_ = (vb (yesPerm f perm)) ∧ h_ = []) := .tree E_C23_ok (law20_CfgPermute_t f perm) (by
  simp only [wp_iff, chk_iff, know_iff, any_iff, rt_iff, hd_iff, true_imp_iff, true_and, and_true, and_self, lt01,  worksR, yesPerm, idF, eqFn_refl]
  refine ⟨fun _ => trivial, fun _ => ⟨fun _ => trivial, fun _ _ _ => ⟨fun h => absurd h (by decide), fun _ _ => ⟨fun h => absurd h (by decide), fun _ => ⟨fun _ => trivial, fun hne => ?_⟩⟩⟩⟩⟩
  have hn : ln I perm = ln I f.2.2.2.1 := by
    have : (ln I perm : Int) = (ln I f.2.2.2.1 : Int) := by simpa using hne
    omega
  have hl := room_lt h_perm.1
  refine ⟨by omega, fun _ => ⟨room_part h_perm.1 (Nat.le_refl _) (by decide), fun _ => perm_l0 f perm hn hl 0 (Nat.zero_le _) _ (by show (List.replicate _ _).length = _; simp) (fun k hk => absurd hk (Nat.not_lt_zero _)) fun k hk => ?_⟩⟩
  have hk' : k < ln I perm := by
    have : k < (List.replicate (ln I perm) (dz I)).length := hk
    simpa using this
  have e : gd I (List.replicate (ln I perm) (dz I)) k = (0 : Int) := by
    show (List.replicate _ (dz I)).getD k _ = _
    rw [List.getD_eq_getElem?_getD, List.getElem?_replicate, if_pos hk']
    rfl
  rw [e]
  show 0 ≤ (0 : Int) ∧ (0 : Int) < _
  omega)
theorem c_law20_CfgPermute : SpecOK E_C23 f_law20_CfgPermute k_law20_CfgPermute.spec := spec_of fun x hx hp => ⟨rfl, m_law20_CfgPermute x.1 x.2.1 hx.1 hx.2.1 hp⟩
def L_C23 : List (FuncId × FSpec) := [(f_law20_CfgPermute, k_law20_CfgPermute.spec)] ++ L_C22
theorem L_C23_ok : ∀ x ∈ L_C23, SpecOK (ctx []) x.1 x.2 := by
  unfold L_C23
  simp only [List.cons_append, List.nil_append, List.forall_mem_cons]
  exact ⟨c_law20_CfgPermute, L_C22_ok⟩
end Burn.M20

/- What the functions that the law reaches compute, one contract each. No conditions beyond those written. -/
import Derived.Test.YtdbjmhlgbdeihaaDoorWalkC
namespace Burn.M27N
open Go Go.BE Go.Proofs
set_option maxRecDepth 100000
set_option linter.unusedVariables false
set_option linter.unusedSimpArgs false
open Burn.Cfg Burn.Intn Burn.Ref
noncomputable abbrev E_A25 : Ctx := ctx L_A24
theorem E_A25_ok : EOK E_A25 := ctx_ok L_A24_ok
def cuts_A25 : CutL := [([], 16, 0, [3, 10, 11, 12], [], [])]
def rets_A25 : FuncId → List (Option Fx)
  | _ => []
def H_A25 : Hints := { cut := cutOf cuts_A25, ret := rets_A25 }
noncomputable def r14_Size_L0 (n : Int) (t10 : List (Den s_api_Block)) (t11 : Int) (t12 : Int) : Cfg := hcfg E_A25 f_r14_Size 0 [(3, (vi n)), (10, (.tv (.sl 136 s_api_Block) t10)), (11, (vi t11)), (12, (vi t12))] [] 0
theorem r14_Size_t (f : Den s_api_Func) : run E_A25 H_A25 f_r14_Size 3000 (start E_A25 f_r14_Size [(.tv s_api_Func f)]) = (hd (r14_Size_L0 ((ln s_api_Block f.2.2.2.2.1) : Int) f.2.2.2.2.1 ((ln s_api_Block f.2.2.2.2.1) : Int) (0 : Int))) := by kernel_rfl
theorem r14_Size_L0_t (n : Int) (t10 : List (Den s_api_Block)) (t11 : Int) (t12 : Int) : run E_A25 H_A25 f_r14_Size 3000 (r14_Size_L0 n t10 t11 t12) = (cond (decide (t12 < t11)) (.chk (0 ≤ t12 ∧ t12 < (ln s_api_Block t10)) (hd (r14_Size_L0 (IntKind.wrap .i64 (n + ((ln s_api_Instr (((gd s_api_Block t10 ((t12).toNat)).2).1)) : Int))) t10 t11 (IntKind.wrap .i64 (t12 + (1 : Int)))))) (rt (vi n) [])) := by kernel_rfl
def sizeF (f : Den s_api_Func) : Int := List.foldl (α := Int) (β := Den s_api_Block) (fun n b => IntKind.wrap .i64 (n + (ln s_api_Instr b.2.1 : Int))) (ln s_api_Block f.2.2.2.2.1 : Int) f.2.2.2.2.1
theorem r14_Size_l (l : List (Den s_api_Block)) (hl : ln s_api_Block l < 9223372036854775807) : ∀ i, i ≤ ln s_api_Block l → ∀ n : Int, Runs E_A25 (r14_Size_L0 n l (ln s_api_Block l : Nat) i) (fun x h => x = vi (List.foldl (α := Int) (β := Den s_api_Block) (fun n b => IntKind.wrap .i64 (n + (ln s_api_Instr b.2.1 : Int))) n (l.drop i)) ∧ h = []) :=
  up_ind (fun n => .tree E_A25_ok (r14_Size_L0_t _ _ _ _) (by
    rw [drop_ln]
    simp only [wp_iff, chk_iff, know_iff, any_iff, rt_iff, hd_iff, true_imp_iff, true_and, and_true, and_self, lt01, Int.ofNat_lt, Int.ofNat_le, Int.natCast_nonneg, Int.toNat_natCast, decide_true, decide_false, Bool.true_eq_false, Bool.false_eq_true, false_imp_iff, Nat.lt_irrefl, imp_self, implies_true,  List.foldl_nil]))
    fun i hi ih n => .tree E_A25_ok (r14_Size_L0_t _ _ _ _) (by
      simp only [wp_iff, chk_iff, know_iff, any_iff, rt_iff, hd_iff, true_imp_iff, true_and, and_true, and_self, lt01, Int.ofNat_lt, Int.ofNat_le, Int.natCast_nonneg, Int.toNat_natCast, decide_true, decide_false, Bool.true_eq_false, Bool.false_eq_true, false_imp_iff, Nat.lt_irrefl, imp_self, implies_true,  hi, wrapS hi hl, drop_gd hi, List.foldl_cons]
      exact ih _)
def k_r14_Size : Con := con [.d s_api_Func] I (fun x => True) fun x => sizeF x.1
theorem m_r14_Size (f : Den s_api_Func) (h_f : okD s_api_Func f) (hp : True) : Runs E_A25 (start E_A25 f_r14_Size [(.tv s_api_Func f)]) (fun r_ h_ => r_ = (vi (sizeF f)) ∧ h_ = []) := .tree E_A25_ok (r14_Size_t f) (by
  unfold sizeF
  simp only [wp_iff, chk_iff, know_iff, any_iff, rt_iff, hd_iff, true_imp_iff, true_and, and_true, and_self, lt01]
  obtain ⟨_, _, _, _, h1, _⟩ := h_f
  exact r14_Size_l _ (room_lt h1.1) 0 (Nat.zero_le _) _)
theorem c_r14_Size : SpecOK E_A25 f_r14_Size k_r14_Size.spec := spec_of fun x hx hp => ⟨rfl, m_r14_Size x.1 hx.1 hp⟩
def L_A25 : List (FuncId × FSpec) := [(f_r14_Size, k_r14_Size.spec)] ++ L_A24
theorem L_A25_ok : ∀ x ∈ L_A25, SpecOK (ctx []) x.1 x.2 := by
  unfold L_A25
  simp only [List.cons_append, List.nil_append, List.forall_mem_cons]
  exact ⟨c_r14_Size, L_A24_ok⟩
end Burn.M27N
namespace Burn.M27N
open Go Go.BE Go.Proofs
set_option maxRecDepth 100000
set_option linter.unusedVariables false
set_option linter.unusedSimpArgs false
open Burn.Cfg Burn.Intn Burn.Ref
noncomputable abbrev E_A26 : Ctx := ctx L_A25
theorem E_A26_ok : EOK E_A26 := ctx_ok L_A25_ok
def cuts_A26 : CutL := []
def rets_A26 : FuncId → List (Option Fx)
  | _ => []
def H_A26 : Hints := { cut := cutOf cuts_A26, ret := rets_A26 }
theorem law27_large_t (f : Den s_api_Func) : run E_A26 H_A26 f_law27_large 3000 (start E_A26 f_law27_large [(.tv s_api_Func f)]) = (cond (decide (((ln s_api_Block f.2.2.2.2.1) : Int) > (60 : Int))) (rt (vb true) []) (cond (decide (((ln I f.2.2.2.1) : Int) > (200 : Int))) (rt (vb true) []) (cond (decide (((ln I f.2.1) : Int) > (50 : Int))) (rt (vb true) []) (.chk (True) (.know (okD (.int .i64) (sizeF f)) (rt (vb (decide ((sizeF f) > (300 : Int)))) [])))))) := by kernel_rfl
def lrgF (f : Den s_api_Func) : Bool := (cond (decide (((ln s_api_Block f.2.2.2.2.1) : Int) > (60 : Int))) true (cond (decide (((ln I f.2.2.2.1) : Int) > (200 : Int))) true (cond (decide (((ln I f.2.1) : Int) > (50 : Int))) true (decide ((sizeF f) > (300 : Int))))))

def k_law27_large : Con := con [.d s_api_Func] .bool (fun x => True) fun x => lrgF x.1
theorem m_law27_large (f : Den s_api_Func) (h_f : okD s_api_Func f) (hp : True) : Runs E_A26 (start E_A26 f_law27_large [(.tv s_api_Func f)]) (fun r_ h_ => r_ = (vb (lrgF f)) ∧ h_ = []) := .tree E_A26_ok (law27_large_t f) (by
  refine wp_cond (fun h1 => ?_) (fun h1 => ?_)
  · have h1_ := of_decide_eq_true h1
    exact ⟨by simp only [lrgF, h1, cond_true, cond_false], rfl⟩
  · have h1_ := of_decide_eq_false h1
    refine wp_cond (fun h2 => ?_) (fun h2 => ?_)
    · have h2_ := of_decide_eq_true h2
      exact ⟨by simp only [lrgF, h1, h2, cond_true, cond_false], rfl⟩
    · have h2_ := of_decide_eq_false h2
      refine wp_cond (fun h3 => ?_) (fun h3 => ?_)
      · have h3_ := of_decide_eq_true h3
        exact ⟨by simp only [lrgF, h1, h2, h3, cond_true, cond_false], rfl⟩
      · have h3_ := of_decide_eq_false h3
        refine ⟨trivial, fun _ => ?_⟩
        refine fun _ => ?_
        exact ⟨by simp only [lrgF, h1, h2, h3, cond_true, cond_false], rfl⟩)
theorem c_law27_large : SpecOK E_A26 f_law27_large k_law27_large.spec := spec_of fun x hx hp => ⟨rfl, m_law27_large x.1 hx.1 hp⟩
def L_A26 : List (FuncId × FSpec) := [(f_law27_large, k_law27_large.spec)] ++ L_A25
theorem L_A26_ok : ∀ x ∈ L_A26, SpecOK (ctx []) x.1 x.2 := by
  unfold L_A26
  simp only [List.cons_append, List.nil_append, List.forall_mem_cons]
  exact ⟨c_law27_large, L_A25_ok⟩
end Burn.M27N
namespace Burn.M27N
open Go Go.BE Go.Proofs
set_option maxRecDepth 100000
set_option linter.unusedVariables false
set_option linter.unusedSimpArgs false
open Burn.Cfg Burn.Intn Burn.Ref
def L_A27 : List (FuncId × FSpec) := [] ++ L_A26
theorem L_A27_ok : ∀ x ∈ L_A27, SpecOK (ctx []) x.1 x.2 := L_A26_ok
end Burn.M27N
namespace Burn.M27N
open Go Go.BE Go.Proofs
set_option maxRecDepth 100000
set_option linter.unusedVariables false
set_option linter.unusedSimpArgs false
open Burn.Cfg Burn.Intn Burn.Ref
noncomputable abbrev E_A28 : Ctx := ctx L_A27
theorem E_A28_ok : EOK E_A28 := ctx_ok L_A27_ok
def cuts_A28 : CutL := [([], 6, 0, [1, 2, 5, 26, 27, 28], [], []),
  ([], 6, 2, [1, 9, 69, 70, 71], [], [])]
def rets_A28 : FuncId → List (Option Fx)
  | _ => []
def H_A28 : Hints := { cut := cutOf cuts_A28, ret := rets_A28 }
noncomputable def law27_AliasRename_L0 (perm : List (Den I)) (f : Den s_api_Func) (t26 : List (Den I)) (t27 : Int) (t28 : Int) (seen : List (Den .bool)) : Cfg := hcfg E_A28 f_law27_AliasRename 0 [(1, (.tv (.sl 8 I) perm)), (2, (.rtp s_api_Func f)), (5, (.osl 0 0 [] none)), (26, (.tv (.sl 8 I) t26)), (27, (vi t27)), (28, (vi t28))] [(0, ⟨(.arr 0 1 .bool seen), 0, [], false, none⟩)] 1
noncomputable def law27_AliasRename_L2 (perm : List (Den I)) (b : List (Den s_alias_Base)) (t69 : List (Den s_alias_Base)) (t70 : Int) (t71 : Int) : Cfg := hcfg E_A28 f_law27_AliasRename 2 [(1, (.tv (.sl 8 I) perm)), (9, (.tv (.sl 32 s_alias_Base) b)), (69, (.tv (.sl 32 s_alias_Base) t69)), (70, (vi t70)), (71, (vi t71))] [] 0
theorem law27_AliasRename_t (f : Den s_api_Func) (perm : List (Den I)) : run E_A28 H_A28 f_law27_AliasRename 3000 (start E_A28 f_law27_AliasRename [(.tv s_api_Func f), (.tv (.sl 8 I) perm)]) = (.chk (True) (.know True (cond (lrgF f) (.chk (True) (.know True (rt (vb (worksR)) []))) (cond (((ln I perm) : Int) != ((ln I f.2.2.2.1) : Int)) (.chk (True) (.know True (rt (vb (worksR)) []))) (.chk (((ln I perm) : Int) = ((ln I perm) : Int)) (.chk (0 ≤ ((ln I perm) : Int)) (.chk ((ln I perm) * 1 ≤ roomB) (hd (law27_AliasRename_L0 perm f perm ((ln I perm) : Int) (0 : Int) (List.replicate (ln I perm) (dz .bool))))))))))) := by kernel_rfl
theorem law27_AliasRename_L0_t (perm : List (Den I)) (f : Den s_api_Func) (t26 : List (Den I)) (t27 : Int) (t28 : Int) (seen : List (Den .bool)) : run E_A28 H_A28 f_law27_AliasRename 3000 (law27_AliasRename_L0 perm f t26 t27 t28 seen) = (cond (decide (t28 < t27)) (.chk (0 ≤ t28 ∧ t28 < (ln I t26)) (cond (decide ((z (gd I t26 ((t28).toNat))) < (0 : Int))) (.chk (True) (.know True (rt (vb (worksR)) []))) (cond (decide ((z (gd I t26 ((t28).toNat))) ≥ ((ln I perm) : Int))) (.chk (True) (.know True (rt (vb (worksR)) []))) (.chk (0 ≤ (z (gd I t26 ((t28).toNat))) ∧ (z (gd I t26 ((t28).toNat))) < (ln .bool seen)) (.chk (((z (gd I t26 ((t28).toNat)))).toNat < (ln .bool seen)) (cond (bOf (gd .bool seen (((z (gd I t26 ((t28).toNat)))).toNat))) (.chk (True) (.know True (rt (vb (worksR)) []))) (.chk (0 ≤ (z (gd I t26 ((t28).toNat))) ∧ (z (gd I t26 ((t28).toNat))) < (ln .bool seen)) (.chk (((z (gd I t26 ((t28).toNat)))).toNat < (ln .bool seen)) (hd (law27_AliasRename_L0 perm f t26 t27 (IntKind.wrap .i64 (t28 + (1 : Int))) (st .bool seen (((z (gd I t26 ((t28).toNat)))).toNat) true))))))))))) (.chk (smallF f) (.chk (True) (.chk (smallF (permuteF f perm)) (.know (okD (.sl 32 s_alias_Base) (basesF f)) (.know (okD s_api_Func (permuteF f perm)) (.know (okD (.sl 32 s_alias_Base) (basesF (permuteF f perm))) (cond (((ln s_alias_Base (basesF f)) : Int) != ((ln I perm) : Int)) (rt (vb false) []) (cond (((ln s_alias_Base (basesF (permuteF f perm))) : Int) != ((ln I perm) : Int)) (rt (vb false) []) (hd (law27_AliasRename_L2 perm (basesF (permuteF f perm)) (basesF f) ((ln s_alias_Base (basesF f)) : Int) (0 : Int)))))))))))) := by kernel_rfl
theorem law27_AliasRename_L2_t (perm : List (Den I)) (b : List (Den s_alias_Base)) (t69 : List (Den s_alias_Base)) (t70 : Int) (t71 : Int) : run E_A28 H_A28 f_law27_AliasRename 3000 (law27_AliasRename_L2 perm b t69 t70 t71) = (cond (decide (t71 < t70)) (.chk (0 ≤ t71 ∧ t71 < (ln s_alias_Base t69)) (.chk ((0 : Nat) < (1 : Nat)) (.chk ((0 : Nat) < (1 : Nat)) (cond ((z ((gd s_alias_Base t69 ((t71).toNat)).1)) == (2 : Int)) (.chk ((0 : Nat) < (1 : Nat)) (cond (decide ((z (((gd s_alias_Base t69 ((t71).toNat)).2).1)) < (0 : Int))) (rt (vb false) []) (.chk ((0 : Nat) < (1 : Nat)) (cond (decide ((z (((gd s_alias_Base t69 ((t71).toNat)).2).1)) ≥ ((ln I perm) : Int))) (rt (vb false) []) (.chk ((0 : Nat) < (1 : Nat)) (.chk (0 ≤ (z (((gd s_alias_Base t69 ((t71).toNat)).2).1)) ∧ (z (((gd s_alias_Base t69 ((t71).toNat)).2).1)) < (ln I perm)) (.chk ((0 : Nat) < (1 : Nat)) (.chk (0 ≤ t71 ∧ t71 < (ln I perm)) (.chk (0 ≤ (z (gd I perm ((t71).toNat))) ∧ (z (gd I perm ((t71).toNat))) < (ln s_alias_Base b)) (.chk ((0 : Nat) < (1 : Nat)) (cond (!(((z ((gd s_alias_Base b (((z (gd I perm ((t71).toNat)))).toNat)).1)) == (z ((gd s_alias_Base t69 ((t71).toNat)).1))) && (((z (((gd s_alias_Base b (((z (gd I perm ((t71).toNat)))).toNat)).2).1)) == (z (gd I perm (((z (((gd s_alias_Base t69 ((t71).toNat)).2).1))).toNat)))) && (((z ((((gd s_alias_Base b (((z (gd I perm ((t71).toNat)))).toNat)).2).2).1)) == (z ((((gd s_alias_Base t69 ((t71).toNat)).2).2).1))) && (((bOf (((((gd s_alias_Base b (((z (gd I perm ((t71).toNat)))).toNat)).2).2).2).1)) == (bOf (((((gd s_alias_Base t69 ((t71).toNat)).2).2).2).1))) && true))))) (rt (vb false) []) (hd (law27_AliasRename_L2 perm b t69 t70 (IntKind.wrap .i64 (t71 + (1 : Int)))))))))))))))) (.chk ((0 : Nat) < (1 : Nat)) (cond ((z ((gd s_alias_Base t69 ((t71).toNat)).1)) == (3 : Int)) (.chk ((0 : Nat) < (1 : Nat)) (cond (decide ((z (((gd s_alias_Base t69 ((t71).toNat)).2).1)) < (0 : Int))) (rt (vb false) []) (.chk ((0 : Nat) < (1 : Nat)) (cond (decide ((z (((gd s_alias_Base t69 ((t71).toNat)).2).1)) ≥ ((ln I perm) : Int))) (rt (vb false) []) (.chk ((0 : Nat) < (1 : Nat)) (.chk (0 ≤ (z (((gd s_alias_Base t69 ((t71).toNat)).2).1)) ∧ (z (((gd s_alias_Base t69 ((t71).toNat)).2).1)) < (ln I perm)) (.chk ((0 : Nat) < (1 : Nat)) (.chk (0 ≤ t71 ∧ t71 < (ln I perm)) (.chk (0 ≤ (z (gd I perm ((t71).toNat))) ∧ (z (gd I perm ((t71).toNat))) < (ln s_alias_Base b)) (.chk ((0 : Nat) < (1 : Nat)) (cond (!(((z ((gd s_alias_Base b (((z (gd I perm ((t71).toNat)))).toNat)).1)) == (z ((gd s_alias_Base t69 ((t71).toNat)).1))) && (((z (((gd s_alias_Base b (((z (gd I perm ((t71).toNat)))).toNat)).2).1)) == (z (gd I perm (((z (((gd s_alias_Base t69 ((t71).toNat)).2).1))).toNat)))) && (((z ((((gd s_alias_Base b (((z (gd I perm ((t71).toNat)))).toNat)).2).2).1)) == (z ((((gd s_alias_Base t69 ((t71).toNat)).2).2).1))) && (((bOf (((((gd s_alias_Base b (((z (gd I perm ((t71).toNat)))).toNat)).2).2).2).1)) == (bOf (((((gd s_alias_Base t69 ((t71).toNat)).2).2).2).1))) && true))))) (rt (vb false) []) (hd (law27_AliasRename_L2 perm b t69 t70 (IntKind.wrap .i64 (t71 + (1 : Int)))))))))))))))) (.chk (0 ≤ t71 ∧ t71 < (ln I perm)) (.chk (0 ≤ (z (gd I perm ((t71).toNat))) ∧ (z (gd I perm ((t71).toNat))) < (ln s_alias_Base b)) (.chk ((0 : Nat) < (1 : Nat)) (cond (!(((z ((gd s_alias_Base b (((z (gd I perm ((t71).toNat)))).toNat)).1)) == (z ((gd s_alias_Base t69 ((t71).toNat)).1))) && (((z (((gd s_alias_Base b (((z (gd I perm ((t71).toNat)))).toNat)).2).1)) == (z (((gd s_alias_Base t69 ((t71).toNat)).2).1))) && (((z ((((gd s_alias_Base b (((z (gd I perm ((t71).toNat)))).toNat)).2).2).1)) == (z ((((gd s_alias_Base t69 ((t71).toNat)).2).2).1))) && (((bOf (((((gd s_alias_Base b (((z (gd I perm ((t71).toNat)))).toNat)).2).2).2).1)) == (bOf (((((gd s_alias_Base t69 ((t71).toNat)).2).2).2).1))) && true))))) (rt (vb false) []) (hd (law27_AliasRename_L2 perm b t69 t70 (IntKind.wrap .i64 (t71 + (1 : Int))))))))))))))) (.chk (True) (.know True (rt (vb (worksR)) [])))) := by kernel_rfl
theorem len_le : ∀ (n : Nat) (l : List Nat), l.Nodup → (∀ x ∈ l, x < n) → l.length ≤ n
  | 0, [], _, _ => Nat.le_refl _
  | 0, x :: l, _, h => absurd (h x List.mem_cons_self) (Nat.not_lt_zero _)
  | n + 1, l, hn, h => by
    have h1 := len_le n (l.erase n) (hn.erase n) fun x hx => by
      have hm := (hn.mem_erase_iff).1 hx
      have := h x hm.2
      have := hm.1
      omega
    by_cases hm : n ∈ l
    · have := List.length_erase_of_mem hm
      have := List.length_pos_of_mem hm
      omega
    · rw [List.erase_of_not_mem hm] at h1
      omega
theorem onto {n : Nat} {p : Nat → Nat} (hp : ∀ i, i < n → p i < n) (hi : ∀ i j, i < n → j < n → p i = p j → i = j) {j : Nat} (hj : j < n) : ∃ i, i < n ∧ p i = j := by
  by_cases h : ∃ i, i < n ∧ p i = j
  · exact h
  · exfalso
    have hnd : (j :: (List.range n).map p).Nodup := by
      refine List.nodup_cons.2 ⟨fun hm => ?_, ?_⟩
      · obtain ⟨i, h1, h2⟩ := List.mem_map.1 hm
        exact h ⟨i, List.mem_range.1 h1, h2⟩
      · unfold List.Nodup
        rw [List.pairwise_map]
        exact List.Pairwise.imp_of_mem (fun {a b} ha hb hne e => hne (hi a b (List.mem_range.1 ha) (List.mem_range.1 hb) e)) (List.nodup_range (n := n))
    have := len_le n _ hnd fun x hx => by
      rcases List.mem_cons.1 hx with rfl | hx
      · exact hj
      · obtain ⟨i, h1, rfl⟩ := List.mem_map.1 hx
        exact hp i (List.mem_range.1 h1)
    simp at this
    omega
abbrev pn (p : List (Den I)) (i : Nat) : Nat := (z (gd I p i)).toNat
def rg (p : List (Den I)) (n : Nat) : Prop := ∀ i, i < ln I p → 0 ≤ z (gd I p i) ∧ z (gd I p i) < (n : Int)
theorem permGo_of {n : Nat} : ∀ {l : List (Den I)} {m : List (Den .bool)}, rg l n → ln .bool m = n → (∀ i, i < ln I l → bOf (gd .bool m (pn l i)) = false) → (∀ i j, i < ln I l → j < ln I l → pn l i = pn l j → i = j) → permGo n l m = true
  | [], m, _, _, _, _ => rfl
  | r :: l, m, hr, hm, hf, hi => by
    have h0 := hr 0 (Nat.succ_pos _)
    have h0 : 0 ≤ z r ∧ z r < (n : Int) := h0
    rw [permGo, if_neg (by omega)]
    have hf0 : bOf (gd .bool m (z r).toNat) = false := hf 0 (Nat.succ_pos _)
    rw [if_neg (by rw [hf0]; decide)]
    refine permGo_of (fun i h => hr (i + 1) (Nat.succ_lt_succ h)) (by rw [ln_st]; exact hm) (fun i h => ?_) fun i j h1 h2 e => by
      have := hi (i + 1) (j + 1) (Nat.succ_lt_succ h1) (Nat.succ_lt_succ h2) e
      omega
    rw [gd_st_any, if_neg]
    · exact hf (i + 1) (Nat.succ_lt_succ h)
    · intro hc
      have := hi (i + 1) 0 (Nat.succ_lt_succ h) (Nat.succ_pos _) hc.1.symm
      omega
theorem permB_of {p : List (Den I)} {n : Nat} (hl : ln I p = n) (hr : rg p n) (hi : ∀ i j, i < n → j < n → pn p i = pn p j → i = j) : permB p (n : Int) = true := by
  unfold permB
  simp only [Bool.and_eq_true, beq_iff_eq]
  refine ⟨by omega, permGo_of hr (by show (List.replicate _ _).length = n; simp) (fun i h => ?_) (by rw [hl]; exact hi)⟩
  show (List.replicate (n : Int).toNat (dz .bool)).getD _ _ = false
  rw [List.getD_eq_getElem?_getD, List.getElem?_replicate]
  split <;> rfl
theorem regsGo_sp : ∀ {p t acc : List (Den I)}, ln I p = ln I t → rg p (ln I acc) → (∀ i j, i < ln I p → j < ln I p → pn p i = pn p j → i = j) →
    ln I (regsGo p t acc) = ln I acc ∧ (∀ i, i < ln I p → gd I (regsGo p t acc) (pn p i) = gd I t i) ∧ ∀ j, (∀ i, i < ln I p → pn p i ≠ j) → gd I (regsGo p t acc) j = gd I acc j
  | [], [], acc, _, _, _ => ⟨rfl, fun i hi => absurd hi (Nat.not_lt_zero _), fun _ _ => rfl⟩
  | [], _ :: _, acc, h, _, _ => by simp [ln] at h
  | _ :: _, [], acc, h, _, _ => by simp [ln] at h
  | r :: p, x :: t, acc, hl, hr, hi => by
    have h0 : 0 ≤ z r ∧ z r < (ln I acc : Int) := hr 0 (Nat.succ_pos _)
    have ih := regsGo_sp (p := p) (t := t) (acc := st I acc (z r).toNat x) (Nat.succ.inj hl) (fun i h => by rw [ln_st]; exact hr (i + 1) (Nat.succ_lt_succ h)) fun i j h1 h2 e => by
      have := hi (i + 1) (j + 1) (Nat.succ_lt_succ h1) (Nat.succ_lt_succ h2) e
      omega
    obtain ⟨e1, e2, e3⟩ := ih
    refine ⟨e1.trans ln_st, fun i h => ?_, fun j h => ?_⟩
    · cases i with
      | zero =>
        show gd I (regsGo p t (st I acc (z r).toNat x)) (z r).toNat = x
        rw [e3 _ fun i h e => by
          have := hi (i + 1) 0 (Nat.succ_lt_succ h) (Nat.succ_pos _) e
          omega]
        exact gd_st (by omega)
      | succ i => exact e2 i (Nat.lt_of_succ_lt_succ h)
    · show gd I (regsGo p t (st I acc (z r).toNat x)) j = gd I acc j
      rw [e3 j fun i hi' => h (i + 1) (Nat.succ_lt_succ hi'), gd_st_any, if_neg]
      intro hc
      exact h 0 (Nat.succ_pos _) hc.1
def ren (p : List (Den I)) (b : Bs) : Bs := (b.1, (if z b.1 = 2 ∨ z b.1 = 3 then permR p (z b.2.1) else z b.2.1), b.2.2)
structure Pm (n : Nat) (p : List (Den I)) : Prop where
  hl : ln I p = n
  rp : rg p n
  inj : ∀ i j, i < n → j < n → pn p i = pn p j → i = j
theorem Pm.lt {n : Nat} {p : List (Den I)} (h : Pm n p) {i : Nat} (hi : i < n) : pn p i < n := by
  have := h.rp i (by rw [h.hl]; exact hi)
  show (z (gd I p i)).toNat < n
  omega
theorem Pm.nat {n : Nat} {p : List (Den I)} (h : Pm n p) {i : Nat} (hi : i < n) : permR p (i : Int) = (pn p i : Int) := by
  have := h.rp i (by rw [h.hl]; exact hi)
  unfold permR
  rw [if_neg (by rw [h.hl]; omega)]
  show z (gd I p (i : Int).toNat) = (((z (gd I p i)).toNat : Nat) : Int)
  rw [Int.toNat_natCast]
  omega
theorem Pm.out {n : Nat} {p : List (Den I)} (h : Pm n p) {x : Int} (hx : x < 0 ∨ x ≥ (n : Int)) : permR p x = x := if_pos (by rw [h.hl]; exact hx)
theorem Pm.in_ {n : Nat} {p : List (Den I)} (h : Pm n p) {x : Int} (hx : 0 ≤ x ∧ x < (n : Int)) : permR p x = (pn p x.toNat : Int) := by
  have := h.nat (i := x.toNat) (by omega)
  rw [← this]
  congr 1
  omega
theorem Pm.rng {n : Nat} {p : List (Den I)} (h : Pm n p) {x : Int} (hx : 0 ≤ x ∧ x < (n : Int)) : 0 ≤ permR p x ∧ permR p x < (n : Int) := by
  have := h.lt (i := x.toNat) (by omega)
  rw [h.in_ hx]
  omega
theorem Pm.rng_iff {n : Nat} {p : List (Den I)} (h : Pm n p) {x : Int} : (0 ≤ permR p x ∧ permR p x < (n : Int)) ↔ (0 ≤ x ∧ x < (n : Int)) := by
  refine ⟨fun hx => ?_, h.rng⟩
  by_cases hc : 0 ≤ x ∧ x < (n : Int)
  · exact hc
  · rw [h.out (by omega)] at hx
    exact hx
theorem Pm.injR {n : Nat} {p : List (Den I)} (h : Pm n p) {x y : Int} (e : permR p x = permR p y) : x = y := by
  by_cases hx : 0 ≤ x ∧ x < (n : Int)
  · have hy : 0 ≤ y ∧ y < (n : Int) := h.rng_iff.1 (by rw [← e]; exact h.rng hx)
    rw [h.in_ hx, h.in_ hy] at e
    have := h.inj x.toNat y.toNat (by omega) (by omega) (by omega)
    omega
  · have hy : ¬ (0 ≤ y ∧ y < (n : Int)) := fun hy => hx (h.rng_iff.1 (by rw [e]; exact h.rng hy))
    rw [h.out (by omega), h.out (by omega)] at e
    exact e
theorem Pm.eq_iff {n : Nat} {p : List (Den I)} (h : Pm n p) {x y : Int} : permR p x = permR p y ↔ x = y := ⟨h.injR, fun e => by rw [e]⟩
theorem Pm.nonneg {n : Nat} {p : List (Den I)} (h : Pm n p) {x : Int} : permR p x ≥ 0 ↔ x ≥ 0 := by
  by_cases hx : 0 ≤ x ∧ x < (n : Int)
  · have := h.rng hx
    omega
  · rw [h.out (by omega)]
theorem Pm.onto {n : Nat} {p : List (Den I)} (h : Pm n p) {j : Nat} (hj : j < n) : ∃ i, i < n ∧ pn p i = j := Burn.M27N.onto (fun _ => h.lt) h.inj hj
theorem Pm.permB {n : Nat} {p : List (Den I)} (h : Pm n p) : permB p (n : Int) = true := permB_of h.hl h.rp h.inj
def rnF (f : Fn) (p : List (Den I)) : Fn := (f.1, permL f.2.1 p, f.2.2.1, regsGo p f.2.2.2.1 f.2.2.2.1, List.map (mapBl p) (blocks f), ())
theorem Pm.fn {f : Fn} {p : List (Den I)} (h : Pm (nR f) p) : permuteF f p = rnF f p := if_pos h.permB
section
variable {f : Fn} {p : List (Den I)}
theorem Pm.regs (h : Pm (nR f) p) : nR (rnF f p) = nR f ∧ ∀ j, j < nR f → gd I (rnF f p).2.2.2.1 (pn p j) = gd I f.2.2.2.1 j := by
  have := regsGo_sp (p := p) (t := f.2.2.2.1) (acc := f.2.2.2.1) h.hl h.rp (by rw [h.hl]; exact h.inj)
  exact ⟨this.1, fun j hj => this.2.1 j (by rw [h.hl]; exact hj)⟩
theorem ptrR_iff {g : Fn} {x : Int} : ptrR g x = true ↔ (0 ≤ x ∧ x < (nR g : Int)) ∧ z (gd I g.2.2.2.1 x.toNat) = 5 := by
  unfold ptrR
  by_cases h1 : x ≥ 0
  · by_cases h2 : x < (ln I g.2.2.2.1 : Int)
    · rw [decide_eq_true h1, decide_eq_true h2]
      simp only [cond_true, beq_iff_eq]
      exact ⟨fun h => ⟨⟨h1, h2⟩, h⟩, fun h => h.2⟩
    · rw [decide_eq_true h1, decide_eq_false h2]
      simp only [cond_true, cond_false]
      exact ⟨fun h => absurd h (by decide), fun h => absurd h.1.2 h2⟩
  · rw [decide_eq_false h1]
    simp only [cond_false]
    exact ⟨fun h => absurd h (by decide), fun h => absurd h.1.1 h1⟩
theorem Pm.ptr (h : Pm (nR f) p) (x : Int) : ptrR (rnF f p) (permR p x) = ptrR f x := by
  rw [Bool.eq_iff_iff, ptrR_iff, ptrR_iff, h.regs.1, h.rng_iff]
  refine and_congr_right fun hx => ?_
  rw [h.in_ hx, Int.toNat_natCast, h.regs.2 x.toNat (by omega)]
theorem gd_map {S T : Sh} {g : Den S → Den T} {l : List (Den S)} {i : Nat} (hi : i < ln S l) : gd T (List.map g l) i = g (gd S l i) := by
  unfold gd
  have hi : i < l.length := hi
  rw [List.getD_eq_getElem?_getD, List.getD_eq_getElem?_getD, List.getElem?_map, List.getElem?_eq_getElem hi]
  rfl
theorem ren_z : ren p zB = zB := rfl
theorem ren_kind {b : Bs} : z (ren p b).1 = z b.1 := rfl
theorem ren_off {b : Bs} : (ren p b).2.2 = b.2.2 := rfl
theorem Pm.ren_id {n : Nat} (h : Pm n p) {a b : Bs} (hk : z a.1 = z b.1) : z (ren p a).2.1 = z (ren p b).2.1 ↔ z a.2.1 = z b.2.1 := by
  show (if z a.1 = 2 ∨ z a.1 = 3 then permR p (z a.2.1) else z a.2.1) = (if z b.1 = 2 ∨ z b.1 = 3 then permR p (z b.2.1) else z b.2.1) ↔ _
  rw [hk]
  by_cases hc : z b.1 = 2 ∨ z b.1 = 3
  · rw [if_pos hc, if_pos hc]
    exact h.eq_iff
  · rw [if_neg hc, if_neg hc]
theorem Pm.ren_inj {n : Nat} (h : Pm n p) {a b : Bs} (e : ren p a = ren p b) : a = b := by
  have e1 : (ren p a).1 = (ren p b).1 := congrArg (fun x : Bs => x.1) e
  have e2 : z a.2.1 = z b.2.1 := (h.ren_id (a := a) (b := b) e1).1 (congrArg (fun x : Bs => z x.2.1) e)
  have e3 : (ren p a).2.2 = (ren p b).2.2 := congrArg (fun x : Bs => x.2.2) e
  exact Prod.ext e1 (Prod.ext e2 e3)
theorem Pm.ren_eqz {n : Nat} (h : Pm n p) {b : Bs} : ren p b = zB ↔ b = zB := ⟨fun e => h.ren_inj (e.trans ren_z.symm), fun e => by rw [e]; rfl⟩
theorem Pm.ren_eqB {n : Nat} (h : Pm n p) {a b : Bs} : eqBs (ren p a) (ren p b) = eqBs a b := by
  rw [Bool.eq_iff_iff, eqBs_iff, eqBs_iff]
  exact ⟨h.ren_inj, fun e => by rw [e]⟩
theorem Pm.ren_meetP {n : Nat} (h : Pm n p) {r : Int} {a b : Bs} : ren p (meetP r a b) = meetP (permR p r) (ren p a) (ren p b) := by
  unfold meetP
  rw [ren_kind, ren_kind]
  by_cases h1 : z a.1 = z b.1
  · rw [show (z a.1 != z b.1) = false by simp [h1]]
    by_cases h2 : z a.2.1 = z b.2.1
    · rw [show (z a.2.1 != z b.2.1) = false by simp [h2], show (z (ren p a).2.1 != z (ren p b).2.1) = false by simp [(h.ren_id h1).2 h2]]
      simp only [cond_false, ren_off]
      cases bOf a.2.2.2.1 <;> cases bOf b.2.2.2.1 <;> cases (z a.2.2.1 == z b.2.2.1) <;> rfl
    · rw [show (z a.2.1 != z b.2.1) = true by simp [h2], show (z (ren p a).2.1 != z (ren p b).2.1) = true by simpa using fun e => h2 ((h.ren_id h1).1 e)]
      rfl
  · rw [show (z a.1 != z b.1) = true by simp [h1]]
    rfl
theorem Pm.ren_meet {n : Nat} (h : Pm n p) {r : Int} {a b : Bs} : ren p (meetR r a b) = meetR (permR p r) (ren p a) (ren p b) := by
  rw [meetR_eq, meetR_eq, ren_kind, ren_kind]
  by_cases h1 : z a.1 = 0
  · rw [if_pos h1, if_pos h1]
  · rw [if_neg h1, if_neg h1]
    by_cases h2 : z b.1 = 0
    · rw [if_pos h2, if_pos h2]
    · rw [if_neg h2, if_neg h2]
      exact h.ren_meetP
theorem Pm.ren_fold {n : Nat} (h : Pm n p) {r : Int} : ∀ {l : List Bs} {o : Bs}, (l.map (ren p)).foldl (meetR (permR p r)) (ren p o) = ren p (l.foldl (meetR r) o)
  | [], o => rfl
  | b :: l, o => by
    show (l.map (ren p)).foldl (meetR (permR p r)) (meetR (permR p r) (ren p o) (ren p b)) = _
    rw [← h.ren_meet]
    exact h.ren_fold
structure Rl (f : Fn) (p : List (Den I)) (now now' : List Bs) : Prop where
  l : ln s_alias_Base now = nR f
  l' : ln s_alias_Base now' = nR f
  at_ : ∀ j, j < nR f → gd s_alias_Base now' (pn p j) = ren p (gd s_alias_Base now j)
theorem Rl.ptr {now now' : List Bs} (h : Pm (nR f) p) (hn : Rl f p now now') {x : Int} (hx : ptrR f x = true) : gd s_alias_Base now' (permR p x).toNat = ren p (gd s_alias_Base now x.toNat) := by
  have hr := (ptrR_iff.1 hx).1
  rw [h.in_ hr, Int.toNat_natCast]
  exact hn.at_ _ (by omega)
theorem Pm.ix {n : Nat} (h : Pm n p) {x : Int} : ∀ {l : List (Den I)} {i : Nat}, idxGo (permR p x) (permL l p) i = idxGo x l i
  | [], i => rfl
  | y :: l, i => by
    show (if permR p (z y) = permR p x then (i : Int) else idxGo (permR p x) (permL l p) (i + 1)) = if z y = x then (i : Int) else idxGo x l (i + 1)
    rw [h.ix]
    by_cases e : z y = x
    · rw [if_pos e, if_pos (by rw [e])]
    · rw [if_neg e, if_neg fun e' => e (h.injR e')]
theorem permL_ln {l : List (Den I)} : ln I (permL l p) = ln I l := List.length_map ..
theorem permL_gd {l : List (Den I)} {i : Nat} (hi : i < ln I l) : z (gd I (permL l p) i) = permR p (z (gd I l i)) := gd_map (S := I) (T := I) (g := permD p) hi
theorem Pm.exE (h : Pm (nR f) p) {now now' : List Bs} (hn : Rl f p now now') {r bk k : Int} (hk : 0 ≤ k) (e : Den s_api_Edge) :
    exE (rnF f p) now' (permR p r) bk k (mapEd p e) = (exE f now r bk k e).map (ren p) := by
  unfold Burn.M27N.exE
  show (if z e.1 ≠ bk then none else if k ≥ (ln I (permL e.2.1 p) : Int) then some (ownP (permR p r)) else if z (gd I (permL e.2.1 p) k.toNat) = permR p r then none else if ptrR (rnF f p) (z (gd I (permL e.2.1 p) k.toNat)) = false then some (ownP (permR p r)) else some (gd s_alias_Base now' (z (gd I (permL e.2.1 p) k.toNat)).toNat)) = _
  rw [permL_ln]
  by_cases h1 : z e.1 ≠ bk
  · rw [if_pos h1, if_pos h1]; rfl
  rw [if_neg h1, if_neg h1]
  by_cases h2 : k ≥ (ln I e.2.1 : Int)
  · rw [if_pos h2, if_pos h2]; rfl
  rw [if_neg h2, if_neg h2, permL_gd (by omega)]
  by_cases h3 : z (gd I e.2.1 k.toNat) = r
  · rw [if_pos h3, if_pos (by rw [h3])]; rfl
  rw [if_neg h3, if_neg (fun e' => h3 (h.injR e')), h.ptr]
  by_cases h4 : ptrR f (z (gd I e.2.1 k.toNat)) = false
  · rw [if_pos h4, if_pos h4]; rfl
  rw [if_neg h4, if_neg h4, hn.ptr h (by simpa using h4)]
  rfl
theorem Pm.exS (h : Pm (nR f) p) {now now' : List Bs} (hn : Rl f p now now') {r bk k : Int} (hk : 0 ≤ k) : ∀ l : List (Den s_api_Edge), exS (rnF f p) now' (permR p r) bk k (List.map (mapEd p) l) = (exS f now r bk k l).map (ren p)
  | [] => rfl
  | e :: l => by
    have he := h.exE hn (r := r) (bk := bk) hk e
    have ih := h.exS hn (r := r) (bk := bk) hk l
    show (match Burn.M27N.exE (rnF f p) now' (permR p r) bk k (mapEd p e) with | none => Burn.M27N.exS (rnF f p) now' (permR p r) bk k (List.map (mapEd p) l) | some b => b :: Burn.M27N.exS (rnF f p) now' (permR p r) bk k (List.map (mapEd p) l)) = (match Burn.M27N.exE f now r bk k e with | none => Burn.M27N.exS f now r bk k l | some b => b :: Burn.M27N.exS f now r bk k l).map (ren p)
    rw [he, ih]
    cases Burn.M27N.exE f now r bk k e <;> rfl
theorem Pm.exB (h : Pm (nR f) p) {now now' : List Bs} (hn : Rl f p now now') {r bk k : Int} (hk : 0 ≤ k) : ∀ l : List Blk, exB (rnF f p) now' (permR p r) bk k (List.map (mapBl p) l) = (exB f now r bk k l).map (ren p)
  | [] => rfl
  | b :: l => by
    have he := h.exS hn (r := r) (bk := bk) hk (tSuc b)
    have ih := h.exB hn (r := r) (bk := bk) hk l
    show Burn.M27N.exS (rnF f p) now' (permR p r) bk k (List.map (mapEd p) (tSuc b)) ++ Burn.M27N.exB (rnF f p) now' (permR p r) bk k (List.map (mapBl p) l) = (Burn.M27N.exS f now r bk k (tSuc b) ++ Burn.M27N.exB f now r bk k l).map (ren p)
    rw [he, ih, List.map_append]
theorem Pm.par (h : Pm (nR f) p) {now now' : List Bs} (hn : Rl f p now now') {r : Int} (hr : ptrR f r = true) {bk k : Int} (hk : 0 ≤ k) : parG (rnF f p) now' (permR p r) bk k = ren p (parG f now r bk k) := by
  unfold parG
  rw [show blocks (rnF f p) = List.map (mapBl p) (blocks f) from rfl, h.exB hn hk, hn.ptr h hr]
  exact h.ren_fold
theorem blk_ren {n : Int} (hn : 0 ≤ n ∧ n < (ln s_api_Block (blocks f) : Int)) : blk (rnF f p) n = mapBl p (blk f n) := gd_map (S := s_api_Block) (T := s_api_Block) (by omega)
theorem ln_blocks : ln s_api_Block (blocks (rnF f p)) = ln s_api_Block (blocks f) := List.length_map ..
theorem inside_ren (q : Den s_api_Pos) : insideF (rnF f p) q = insideF f q := by
  unfold insideF
  rw [ln_blocks]
  by_cases h1 : z q.1 ≥ 0
  · by_cases h2 : z q.1 < (ln s_api_Block (blocks f) : Int)
    · rw [blk_ren ⟨h1, h2⟩, show ln s_api_Instr (bIns (mapBl p (blk f (z q.1)))) = ln s_api_Instr (bIns (blk f (z q.1))) from List.length_map ..]
    · rw [decide_eq_false h2]; simp
  · rw [decide_eq_false h1]; simp
theorem Pm.writes (h : Pm (nR f) p) (q : Den s_api_Pos) : writesF (rnF f p) q = permL (writesF f q) p := by
  unfold writesF
  rw [inside_ren]
  cases hi : insideF f q with
  | false => rfl
  | true =>
    obtain ⟨hb, hi1⟩ := inside_b hi
    rw [blk_ren hb, show ln s_api_Instr (bIns (mapBl p (blk f (z q.1)))) = ln s_api_Instr (bIns (blk f (z q.1))) from List.length_map ..]
    simp only [Bool.not_true, cond_false]
    by_cases h1 : z q.2.1 < 0
    · rw [decide_eq_true h1]
      simp only [cond_true]
      cases (z q.1 == 0) with
      | false => rfl
      | true => exact (List.map_append (f := permD p) (l₁ := f.2.1) (l₂ := bPar (blk f (z q.1)))).symm
    · rw [decide_eq_false h1]
      simp only [cond_false]
      by_cases h2 : z q.2.1 < (ln s_api_Instr (bIns (blk f (z q.1))) : Int)
      · rw [decide_eq_true h2, show gd s_api_Instr (bIns (mapBl p (blk f (z q.1)))) (z q.2.1).toNat = mapIn p (gd s_api_Instr (bIns (blk f (z q.1))) (z q.2.1).toNat) from gd_map (S := s_api_Instr) (T := s_api_Instr) (by omega)]
        simp only [cond_true]
        generalize gd s_api_Instr (bIns (blk f (z q.1))) (z q.2.1).toNat = x
        show cond (decide (permR p (iDst x) ≥ 0)) [permR p (iDst x)] [] = permL (cond (decide (iDst x ≥ 0)) [iDst x] []) p
        by_cases h3 : iDst x ≥ 0
        · rw [decide_eq_true h3, decide_eq_true (h.nonneg.2 h3)]; rfl
        · rw [decide_eq_false h3, decide_eq_false fun e => h3 (h.nonneg.1 e)]; rfl
      · rw [decide_eq_false h2]; rfl
structure Dl (n : Nat) (p : List (Den I)) (D D' : DL) : Prop where
  l : ln (.sl 16 s_api_Pos) D = n
  l' : ln (.sl 16 s_api_Pos) D' = n
  at_ : ∀ j, j < n → gd (.sl 16 s_api_Pos) D' (pn p j) = gd (.sl 16 s_api_Pos) D j
theorem Dl.step {n : Nat} (h : Pm n p) {D D' : DL} (hd : Dl n p D D') (q : Den s_api_Pos) (r : Int) : Dl n p (step1 q D r) (step1 q D' (permR p r)) := by
  unfold step1
  rw [hd.l, hd.l']
  by_cases h1 : r < 0 ∨ r ≥ (n : Int)
  · rw [if_pos h1, if_pos (by rw [h.out h1]; exact h1)]
    exact hd
  · have hr : 0 ≤ r ∧ r < (n : Int) := by omega
    have hr' := h.rng hr
    have e : gd (.sl 16 s_api_Pos) D' (permR p r).toNat = gd (.sl 16 s_api_Pos) D r.toNat := by
      rw [h.in_ hr, Int.toNat_natCast]
      exact hd.at_ _ (by omega)
    rw [if_neg h1, if_neg (show ¬ (permR p r < 0 ∨ permR p r ≥ (n : Int)) by omega), e]
    split
    · exact hd
    · refine ⟨by rw [ln_st]; exact hd.l, by rw [ln_st]; exact hd.l', fun j hj => ?_⟩
      rw [gd_st_any, gd_st_any, hd.l, hd.l', h.in_ hr, Int.toNat_natCast]
      by_cases hc : r.toNat = j
      · rw [if_pos ⟨by rw [hc], h.lt (by omega)⟩, if_pos ⟨hc, by omega⟩]
      · rw [if_neg (fun e => hc (h.inj _ _ (by omega) hj e.1)), if_neg (fun e => hc e.1)]
        exact hd.at_ j hj
theorem Dl.list {n : Nat} (h : Pm n p) (q : Den s_api_Pos) : ∀ (l : List (Den I)) {D D' : DL}, Dl n p D D' → Dl n p (stepL q l D) (stepL q (permL l p) D')
  | [], _, _, hd => hd
  | r :: l, _, _, hd => Dl.list h q l (hd.step h q (z r))
theorem Dl.block (h : Pm (nR f) p) (b : Nat) : ∀ (m k : Nat) {D D' : DL}, Dl (nR f) p D D' → Dl (nR f) p (colB writesF f b m k D) (colB writesF (rnF f p) b m k D')
  | 0, _, _, _, hd => hd
  | m + 1, k, _, _, hd => by
    show Dl (nR f) p (colB writesF f b m (k + 1) _) (colB writesF (rnF f p) b m (k + 1) _)
    rw [h.writes]
    exact Dl.block h b m (k + 1) (Dl.list h (posA b k) (writesF f (posA b k)) hd)
theorem Dl.all (h : Pm (nR f) p) : ∀ (m b : Nat) {D D' : DL}, b + m ≤ ln s_api_Block (blocks f) → Dl (nR f) p D D' → Dl (nR f) p (colF writesF f m b D) (colF writesF (rnF f p) m b D')
  | 0, _, _, _, _, hd => hd
  | m + 1, b, _, _, hb, hd => by
    show Dl (nR f) p (colF writesF f m (b + 1) _) (colF writesF (rnF f p) m (b + 1) _)
    rw [show gd s_api_Block (blocks (rnF f p)) b = mapBl p (gd s_api_Block (blocks f) b) from gd_map (S := s_api_Block) (T := s_api_Block) (by omega), show ln s_api_Instr (bIns (mapBl p (gd s_api_Block (blocks f) b))) = ln s_api_Instr (bIns (gd s_api_Block (blocks f) b)) from List.length_map ..]
    exact Dl.all h m (b + 1) (by omega) (Dl.block h b _ 0 hd)
theorem Pm.defs (h : Pm (nR f) p) : Dl (nR f) p (defsF f) (defsF (rnF f p)) := by
  unfold defsF collectF
  rw [ln_blocks, show ln I (rnF f p).2.2.2.1 = nR f from h.regs.1]
  refine Dl.all h _ 0 (by omega) ?_
  rw [tab_rep (S := .sl 16 s_api_Pos)]
  exact ⟨tab_ln, tab_ln, fun j hj => by rw [tab_gd (h.lt hj), tab_gd hj]⟩
theorem def_iff {g : Fn} {D : DL} {r : Int} : defR g D r = if 0 ≤ r ∧ r < (ln (.sl 16 s_api_Pos) D : Int) then (if (ln s_api_Pos (gd (.sl 16 s_api_Pos) D r.toNat) : Int) = 1 then (if z (gd s_api_Pos (gd (.sl 16 s_api_Pos) D r.toNat) 0).2.1 < 0 then (defR g D (-1)) else (gd s_api_Instr (bIns (blk g (z (gd s_api_Pos (gd (.sl 16 s_api_Pos) D r.toNat) 0).1))) (z (gd s_api_Pos (gd (.sl 16 s_api_Pos) D r.toNat) 0).2.1).toNat, true)) else (defR g D (-1))) else (defR g D (-1)) := by
  have e0 : defR g D (-1) = (((0 : Int), (0 : Int), (0 : Int), ([] : List (Den I)), (0 : Int), (0 : Int), (0 : Int), false, ()), false) := rfl
  rw [e0]
  unfold defR
  by_cases h1 : r < 0
  · rw [decide_eq_true h1, if_neg (by omega)]; rfl
  · rw [decide_eq_false h1]
    by_cases h2 : r ≥ (ln (.sl 16 s_api_Pos) D : Int)
    · rw [decide_eq_true h2, if_neg (by omega)]; rfl
    · rw [decide_eq_false h2, if_pos (by omega)]
      by_cases h3 : (ln s_api_Pos (gd (.sl 16 s_api_Pos) D r.toNat) : Int) = 1
      · rw [if_pos h3, show ((ln s_api_Pos (gd (.sl 16 s_api_Pos) D r.toNat) : Int) != 1) = false by simp [h3]]
        by_cases h4 : z (gd s_api_Pos (gd (.sl 16 s_api_Pos) D r.toNat) 0).2.1 < 0
        · rw [if_pos h4, decide_eq_true h4]; rfl
        · rw [if_neg h4, decide_eq_false h4]; rfl
      · rw [if_neg h3, show ((ln s_api_Pos (gd (.sl 16 s_api_Pos) D r.toNat) : Int) != 1) = true by simpa using h3]; rfl
theorem Pm.def_ (h : Pm (nR f) p) (r : Int) : (defR (rnF f p) (defsF (rnF f p)) (permR p r)).2 = (defR f (defsF f) r).2 ∧ (bOf (defR f (defsF f) r).2 = true → (defR (rnF f p) (defsF (rnF f p)) (permR p r)).1 = mapIn p (defR f (defsF f) r).1) := by
  have hd := h.defs
  rw [def_iff (g := f) (r := r), def_iff (g := rnF f p), hd.l, hd.l']
  have e0 : ∀ (g : Fn) D, defR g D (-1) = (((0 : Int), (0 : Int), (0 : Int), ([] : List (Den I)), (0 : Int), (0 : Int), (0 : Int), false, ()), false) := fun _ _ => rfl
  rw [e0, e0]
  by_cases hr : 0 ≤ r ∧ r < (nR f : Int)
  · rw [if_pos hr, if_pos (h.rng hr)]
    have e : gd (.sl 16 s_api_Pos) (defsF (rnF f p)) (permR p r).toNat = gd (.sl 16 s_api_Pos) (defsF f) r.toNat := by
      rw [h.in_ hr, Int.toNat_natCast]
      exact hd.at_ _ (by omega)
    rw [e]
    by_cases h1 : (ln s_api_Pos (gd (.sl 16 s_api_Pos) (defsF f) r.toNat) : Int) = 1
    · rw [if_pos h1, if_pos h1]
      by_cases h2 : z (gd s_api_Pos (gd (.sl 16 s_api_Pos) (defsF f) r.toNat) 0).2.1 < 0
      · rw [if_pos h2, if_pos h2]
        exact ⟨rfl, fun e => by cases e⟩
      · rw [if_neg h2, if_neg h2]
        have g := (good_defs f).2 r.toNat (by rw [(good_defs f).1]; show r.toNat < nR f; omega) 0 (by omega)
        refine ⟨rfl, fun _ => ?_⟩
        show gd s_api_Instr (bIns (blk (rnF f p) _)) _ = _
        rw [blk_ren g.1]
        exact gd_map (S := s_api_Instr) (T := s_api_Instr) (by have := g.2.1; omega)
    · rw [if_neg h1, if_neg h1]
      exact ⟨rfl, fun e => by cases e⟩
  · rw [if_neg hr, if_neg (fun e => hr (h.rng_iff.1 e))]
    exact ⟨rfl, fun e => by cases e⟩
theorem Pm.oper (h : Pm (nR f) p) {now now' : List Bs} (hn : Rl f p now now') (x : Den s_api_Instr) (r i : Int) (hi : 0 ≤ i) : operR (rnF f p) now' (mapIn p x) (permR p r) i = ren p (operR f now x r i) := by
  unfold operR
  show cond (decide (i ≥ (ln I (permL x.2.2.2.1 p) : Int))) (ownR (permR p r)) (cond (!(ptrR (rnF f p) (gd I (permL x.2.2.2.1 p) i.toNat))) (ownR (permR p r)) (gd s_alias_Base now' (z (gd I (permL x.2.2.2.1 p) i.toNat)).toNat)) = _
  rw [permL_ln]
  by_cases h1 : i ≥ (ln I x.2.2.2.1 : Int)
  · rw [decide_eq_true h1]; rfl
  · rw [decide_eq_false h1]
    have e := permL_gd (p := p) (l := x.2.2.2.1) (i := i.toNat) (by omega)
    have e' : gd I (permL x.2.2.2.1 p) i.toNat = permR p (z (gd I x.2.2.2.1 i.toNat)) := e
    rw [e', h.ptr]
    simp only [cond_false]
    cases hp : ptrR f (z (gd I x.2.2.2.1 i.toNat)) with
    | false => rfl
    | true => exact hn.ptr h hp
theorem Pm.off (h : Pm (nR f) p) (x : Den s_api_Instr) (b : Bs) : offN (rnF f p) (defsF (rnF f p)) (mapIn p x) (ren p b) = ren p (offN f (defsF f) x b) := by
  unfold offN
  rw [ren_kind, ren_off]
  show cond (z b.1 == 0) (ren p b) (cond (bOf b.2.2.2.1) (cond (decide ((ln I (permL x.2.2.2.1 p) : Int) > 1)) _ _) _) = _
  rw [permL_ln]
  cases (z b.1 == 0) with
  | true => rfl
  | false =>
    cases bOf b.2.2.2.1 with
    | false => rfl
    | true =>
      by_cases h1 : (ln I x.2.2.2.1 : Int) > 1
      · rw [decide_eq_true h1]
        have e : gd I (mapIn p x).2.2.2.1 1 = permR p (z (gd I x.2.2.2.1 1)) := permL_gd (p := p) (l := x.2.2.2.1) (i := 1) (by omega)
        obtain ⟨d1, d2⟩ := h.def_ (z (gd I x.2.2.2.1 1))
        rw [e, d1]
        cases hb : bOf (defR f (defsF f) (gd I x.2.2.2.1 1)).2 with
        | false => rfl
        | true =>
          rw [d2 hb]
          show cond (z (defR f (defsF f) (z (gd I x.2.2.2.1 1))).1.1 == 1) _ _ = ren p (cond (z (defR f (defsF f) (z (gd I x.2.2.2.1 1))).1.1 == 1) _ _)
          cases (z (defR f (defsF f) (z (gd I x.2.2.2.1 1))).1.1 == 1) <;> rfl
      · rw [decide_eq_false h1]; rfl
theorem Pm.ins (h : Pm (nR f) p) {now now' : List Bs} (hn : Rl f p now now') (r : Int) (x : Den s_api_Instr) : insN (rnF f p) (defsF (rnF f p)) now' (permR p r) (mapIn p x) = ren p (insN f (defsF f) now r x) := by
  unfold insN
  show cond (z x.1 == 25) ((1 : Int), x.2.2.2.2.2.1, (0 : Int), true, ()) (cond (z x.1 == 26) ((2 : Int), permR p r, (0 : Int), true, ()) (cond (z x.1 == 4) _ (cond (z x.1 == 27) _ (cond (z x.1 == 21) _ _)))) = _
  rw [h.oper hn x r 0 (by decide), h.oper hn x r 1 (by decide), h.oper hn x r 2 (by decide), h.off, ← h.ren_meet]
  cases (z x.1 == 25) <;> cases (z x.1 == 26) <;> cases (z x.1 == 4) <;> cases (z x.1 == 27) <;> cases (z x.1 == 21) <;> rfl
theorem Pm.next (h : Pm (nR f) p) {now now' : List Bs} (hn : Rl f p now now') (hz : okNow f now) (hz' : okNow (rnF f p) now') {r : Int} (hr : ptrR f r = true) : nextF (mkS (rnF f p) now') (permR p r) = ren p (nextF (mkS f now) r) := by
  have hrg := (ptrR_iff.1 hr).1
  have hd := h.defs
  have e : gd (.sl 16 s_api_Pos) (defsF (rnF f p)) (permR p r).toNat = gd (.sl 16 s_api_Pos) (defsF f) r.toNat := by
    rw [h.in_ hrg, Int.toNat_natCast]
    exact hd.at_ _ (by omega)
  unfold nextF
  show cond ((ln s_api_Pos (gd (.sl 16 s_api_Pos) (defsF (rnF f p)) (permR p r).toNat) : Int) != 1) (ownP (permR p r)) (cond (decide (z (gd s_api_Pos (gd (.sl 16 s_api_Pos) (defsF (rnF f p)) (permR p r).toNat) 0).2.1 ≥ 0)) (insF (rnF f p, defsF (rnF f p), now', ()) (permR p r) (gd s_api_Instr (bIns (blk (rnF f p) (z (gd s_api_Pos (gd (.sl 16 s_api_Pos) (defsF (rnF f p)) (permR p r).toNat) 0).1))) (z (gd s_api_Pos (gd (.sl 16 s_api_Pos) (defsF (rnF f p)) (permR p r).toNat) 0).2.1).toNat))
    (cond (decide (idxF (permL f.2.1 p) (permR p r) ≥ 0)) (cond (z (gd s_api_Pos (gd (.sl 16 s_api_Pos) (defsF (rnF f p)) (permR p r).toNat) 0).1 == 0) (ownP (permR p r)) (parG (rnF f p) now' (permR p r) (z (gd s_api_Pos (gd (.sl 16 s_api_Pos) (defsF (rnF f p)) (permR p r).toNat) 0).1) (idxF (bPar (blk (rnF f p) (z (gd s_api_Pos (gd (.sl 16 s_api_Pos) (defsF (rnF f p)) (permR p r).toNat) 0).1))) (permR p r)))) (parG (rnF f p) now' (permR p r) (z (gd s_api_Pos (gd (.sl 16 s_api_Pos) (defsF (rnF f p)) (permR p r).toNat) 0).1) (idxF (bPar (blk (rnF f p) (z (gd s_api_Pos (gd (.sl 16 s_api_Pos) (defsF (rnF f p)) (permR p r).toNat) 0).1))) (permR p r))))) =
    ren p (cond ((ln s_api_Pos (gd (.sl 16 s_api_Pos) (defsF f) r.toNat) : Int) != 1) (ownP r) (cond (decide (z (gd s_api_Pos (gd (.sl 16 s_api_Pos) (defsF f) r.toNat) 0).2.1 ≥ 0)) (insF (f, defsF f, now, ()) r (gd s_api_Instr (bIns (blk f (z (gd s_api_Pos (gd (.sl 16 s_api_Pos) (defsF f) r.toNat) 0).1))) (z (gd s_api_Pos (gd (.sl 16 s_api_Pos) (defsF f) r.toNat) 0).2.1).toNat))
    (cond (decide (idxF f.2.1 r ≥ 0)) (cond (z (gd s_api_Pos (gd (.sl 16 s_api_Pos) (defsF f) r.toNat) 0).1 == 0) (ownP r) (parG f now r (z (gd s_api_Pos (gd (.sl 16 s_api_Pos) (defsF f) r.toNat) 0).1) (idxF (bPar (blk f (z (gd s_api_Pos (gd (.sl 16 s_api_Pos) (defsF f) r.toNat) 0).1))) r))) (parG f now r (z (gd s_api_Pos (gd (.sl 16 s_api_Pos) (defsF f) r.toNat) 0).1) (idxF (bPar (blk f (z (gd s_api_Pos (gd (.sl 16 s_api_Pos) (defsF f) r.toNat) 0).1))) r)))))
  rw [e]
  by_cases h1 : (ln s_api_Pos (gd (.sl 16 s_api_Pos) (defsF f) r.toNat) : Int) = 1
  · rw [show ((ln s_api_Pos (gd (.sl 16 s_api_Pos) (defsF f) r.toNat) : Int) != 1) = false by simp [h1]]
    have g := (good_defs f).2 r.toNat (by rw [(good_defs f).1]; show r.toNat < nR f; omega) 0 (by omega)
    generalize gd s_api_Pos (gd (.sl 16 s_api_Pos) (defsF f) r.toNat) 0 = q at g
    rw [blk_ren g.1]
    simp only [cond_false]
    by_cases h2 : z q.2.1 ≥ 0
    · rw [decide_eq_true h2, show gd s_api_Instr (bIns (mapBl p (blk f (z q.1)))) (z q.2.1).toNat = mapIn p (gd s_api_Instr (bIns (blk f (z q.1))) (z q.2.1).toNat) from gd_map (S := s_api_Instr) (T := s_api_Instr) (by have := g.2.1; omega)]
      simp only [cond_true]
      rw [ins_eq _ _ hz, ins_eq _ _ hz']
      exact h.ins hn r _
    · rw [decide_eq_false h2]
      simp only [cond_false]
      have e1 : idxF (permL f.2.1 p) (permR p r) = idxF f.2.1 r := h.ix
      have e2 : idxF (bPar (mapBl p (blk f (z q.1)))) (permR p r) = idxF (bPar (blk f (z q.1))) r := h.ix (l := bPar (blk f (z q.1))) (i := 0)
      rw [e1, e2]
      have key : (¬ idxF f.2.1 r ≥ 0 ∨ ¬ z q.1 = 0) → parG (rnF f p) now' (permR p r) (z q.1) (idxF (bPar (blk f (z q.1))) r) = ren p (parG f now r (z q.1) (idxF (bPar (blk f (z q.1))) r)) := fun hc => by
        refine h.par hn hr ?_
        rcases g.2.2 (by omega) with ⟨a, b⟩ | b
        · have e4 : ((r.toNat : Nat) : Int) = r := by omega
          rw [e4] at b
          rcases hc with hc | hc
          · exact absurd b (idx_neg hc)
          · exact absurd a hc
        · have e4 : ((r.toNat : Nat) : Int) = r := by omega
          rw [e4] at b
          exact (idx_pos b).1
      by_cases h3 : idxF f.2.1 r ≥ 0
      · rw [decide_eq_true h3]
        simp only [cond_true]
        by_cases h4 : z q.1 = 0
        · rw [show (z q.1 == 0) = true by simp [h4]]; rfl
        · rw [show (z q.1 == 0) = false by simp [h4]]
          exact key (.inr h4)
      · rw [decide_eq_false h3]
        exact key (.inl h3)
  · rw [show ((ln s_api_Pos (gd (.sl 16 s_api_Pos) (defsF f) r.toNat) : Int) != 1) = true by simpa using h1]
    rfl
theorem Pm.out_ (h : Pm (nR f) p) {now now' : List Bs} (hn : Rl f p now now') (hz : okNow f now) (hz' : okNow (rnF f p) now') {j : Nat} (hj : j < nR f) : outB (rnF f p) now' (pn p j) = ren p (outB f now j) := by
  unfold outB
  rw [← h.nat hj, h.ptr]
  by_cases hp : ptrR f (j : Int) = true
  · rw [if_pos hp, if_pos hp]
    exact h.next hn hz hz' hp
  · rw [if_neg hp, if_neg hp]
    rfl
theorem Pm.rnd (h : Pm (nR f) p) {now now' : List Bs} (hn : Rl f p now now') (hz : okNow f now) (hz' : okNow (rnF f p) now') : Rl f p (rndF f now) (rndF (rnF f p) now') := by
  unfold rndF
  rw [h.regs.1]
  exact ⟨tab_ln, tab_ln, fun j hj => by rw [tab_gd (h.lt hj), tab_gd hj]; exact h.out_ hn hz hz' hj⟩
theorem ch_iff {g : Fn} {now : List Bs} : ∀ {n : Nat}, chG g now n = true ↔ ∃ j, j < n ∧ eqBs (outB g now j) (gd s_alias_Base now j) = false
  | 0 => ⟨fun h => Bool.noConfusion (show false = true from h), fun ⟨_, h, _⟩ => absurd h (Nat.not_lt_zero _)⟩
  | n + 1 => by
    show (chG g now n || !(eqBs (outB g now n) (gd s_alias_Base now n))) = true ↔ _
    rw [Bool.or_eq_true, ch_iff, Bool.not_eq_true']
    constructor
    · rintro (⟨j, h1, h2⟩ | h)
      · exact ⟨j, by omega, h2⟩
      · exact ⟨n, by omega, h⟩
    · rintro ⟨j, h1, h2⟩
      rcases Nat.lt_or_eq_of_le (Nat.le_of_lt_succ h1) with h3 | rfl
      · exact .inl ⟨j, h3, h2⟩
      · exact .inr h2
theorem Pm.ch (h : Pm (nR f) p) {now now' : List Bs} (hn : Rl f p now now') (hz : okNow f now) (hz' : okNow (rnF f p) now') : chG (rnF f p) now' (nR f) = chG f now (nR f) := by
  rw [Bool.eq_iff_iff, ch_iff, ch_iff]
  constructor
  · rintro ⟨j, h1, h2⟩
    obtain ⟨i, hi, rfl⟩ := h.onto h1
    refine ⟨i, hi, ?_⟩
    rw [h.out_ hn hz hz' hi, hn.at_ i hi, h.ren_eqB] at h2
    exact h2
  · rintro ⟨j, h1, h2⟩
    exact ⟨pn p j, h.lt h1, by rw [h.out_ hn hz hz' h1, hn.at_ j h1, h.ren_eqB]; exact h2⟩
theorem Pm.go (h : Pm (nR f) p) : ∀ (k : Nat) {now now' : List Bs}, Rl f p now now' → okNow f now → okNow (rnF f p) now' → (basesGo (rnF f p) k now').1 = (basesGo f k now).1 ∧ Rl f p (basesGo f k now).2 (basesGo (rnF f p) k now').2
  | 0, _, _, hn, _, _ => ⟨rfl, hn⟩
  | k + 1, now, now', hn, hz, hz' => by
    unfold basesGo
    rw [h.regs.1, h.ch hn hz hz']
    by_cases hc : chG f now (nR f) = true
    · rw [if_pos hc, if_pos hc]
      exact h.go k (h.rnd hn hz hz') (okNow_rnd hz) (okNow_rnd hz')
    · rw [if_neg hc, if_neg hc]
      exact ⟨rfl, h.rnd hn hz hz'⟩
theorem Pm.bases (h : Pm (nR f) p) {j : Nat} (hj : j < nR f) : gd s_alias_Base (basesF (rnF f p)) (pn p j) = ren p (gd s_alias_Base (basesF f) j) := by
  have hr : nR (rnF f p) = nR f := h.regs.1
  have h0 : Rl f p (zeros f) (zeros (rnF f p)) := by
    unfold zeros
    rw [hr, tab_rep (S := s_alias_Base)]
    exact ⟨tab_ln, tab_ln, fun j hj => by rw [tab_gd (h.lt hj), tab_gd hj]; rfl⟩
  have hg := h.go (8 * (nR f + 1)) h0 (okNow_zeros f) (okNow_zeros _)
  unfold basesF
  rw [hr, tab_gd (h.lt hj), tab_gd hj]
  unfold finB
  rw [hg.1, hg.2.at_ j hj, ← h.nat hj, h.ptr]
  by_cases hc : ptrR f (j : Int) = true ∧ ((basesGo f (8 * (nR f + 1)) (zeros f)).1 = false ∨ gd s_alias_Base (basesGo f (8 * (nR f + 1)) (zeros f)).2 j = zB)
  · rw [if_pos hc, if_pos ⟨hc.1, hc.2.imp id h.ren_eqz.2⟩]
    rfl
  · rw [if_neg hc, if_neg fun e => hc ⟨e.1, e.2.imp id h.ren_eqz.1⟩]
end
def okK (n : Nat) (b : Bs) : Prop := z b.1 = 2 ∨ z b.1 = 3 → 0 ≤ z b.2.1 ∧ z b.2.1 < (n : Int)
theorem okK_own {n : Nat} {r : Int} (h : 0 ≤ r ∧ r < (n : Int)) : okK n (ownP r) := fun _ => h
theorem okK_z {n : Nat} : okK n zB := fun h => absurd h (by decide : ¬ ((0 : Int) = 2 ∨ (0 : Int) = 3))
theorem okK_meetP {n : Nat} {r : Int} {a b : Bs} (hr : 0 ≤ r ∧ r < (n : Int)) (h : okK n a) : okK n (meetP r a b) := by
  unfold meetP
  simp only [Bool.cond_eq_ite]
  repeat' split
  all_goals first | exact h | exact fun _ => hr
theorem okK_meet {n : Nat} {r : Int} {a b : Bs} (hr : 0 ≤ r ∧ r < (n : Int)) (ha : okK n a) (hb : okK n b) : okK n (meetR r a b) := by
  rw [meetR_eq]
  split
  · exact hb
  · split
    · exact ha
    · exact okK_meetP hr ha
theorem okK_fold {n : Nat} {r : Int} (hr : 0 ≤ r ∧ r < (n : Int)) : ∀ {l : List Bs} {o : Bs}, okK n o → (∀ b ∈ l, okK n b) → okK n (l.foldl (meetR r) o)
  | [], o, ho, _ => ho
  | b :: l, o, ho, hl => okK_fold hr (l := l) (okK_meet hr ho (hl b List.mem_cons_self)) fun x hx => hl x (List.mem_cons_of_mem _ hx)
def allK (f : Fn) (now : List Bs) : Prop := ∀ j, j < nR f → okK (nR f) (gd s_alias_Base now j)
theorem okK_at {f : Fn} {now : List Bs} (h : allK f now) {x : Int} (hx : ptrR f x = true) : okK (nR f) (gd s_alias_Base now x.toNat) := by
  have := ptrR_in hx
  exact h _ (by show x.toNat < ln I f.2.2.2.1; omega)
theorem exE_okK {f : Fn} {now : List Bs} {r bk k : Int} {e : Den s_api_Edge} {b : Bs} (hr : 0 ≤ r ∧ r < (nR f : Int)) (hn : allK f now) (h : exE f now r bk k e = some b) : okK (nR f) b := by
  unfold exE at h
  split at h
  · cases h
  · split at h
    · injection h with h; subst h; exact okK_own hr
    · split at h
      · cases h
      · split at h
        · injection h with h; subst h; exact okK_own hr
        · rename_i hp
          injection h with h
          subst h
          exact okK_at hn (by cases hq : ptrR f (z (gd I e.2.1 k.toNat)) with | true => rfl | false => exact absurd hq hp)
theorem exS_okK {f : Fn} {now : List Bs} {r bk k : Int} (hr : 0 ≤ r ∧ r < (nR f : Int)) (hn : allK f now) : ∀ {l : List (Den s_api_Edge)}, ∀ b ∈ exS f now r bk k l, okK (nR f) b
  | [], b, hb => absurd hb (by simp [exS])
  | e :: l, b, hb => by
    unfold exS at hb
    split at hb
    · exact exS_okK hr hn b hb
    · rename_i c hc
      rcases List.mem_cons.1 hb with rfl | hb
      · exact exE_okK hr hn hc
      · exact exS_okK hr hn b hb
theorem exB_okK {f : Fn} {now : List Bs} {r bk k : Int} (hr : 0 ≤ r ∧ r < (nR f : Int)) (hn : allK f now) : ∀ {l : List Blk}, ∀ b ∈ exB f now r bk k l, okK (nR f) b
  | [], b, hb => absurd hb (by simp [exB])
  | e :: l, b, hb => by
    unfold exB at hb
    rcases List.mem_append.1 hb with hb | hb
    · exact exS_okK hr hn b hb
    · exact exB_okK hr hn b hb
theorem okK_oper {f : Fn} {now : List Bs} {r i : Int} {x : Den s_api_Instr} (hr : 0 ≤ r ∧ r < (nR f : Int)) (h : allK f now) : okK (nR f) (operR f now x r i) := by
  unfold operR
  simp only [Bool.cond_eq_ite]
  repeat' split
  all_goals first | exact okK_own hr | (exact okK_at h (by simp_all))
theorem okK_ins {f : Fn} {defs : DL} {now : List Bs} {r : Int} {x : Den s_api_Instr} (h : allK f now) (hr : 0 ≤ r ∧ r < (nR f : Int)) : okK (nR f) (insN f defs now r x) := by
  have hb := okK_oper (r := r) (i := 0) (x := x) hr h
  unfold insN offN
  simp only [Bool.cond_eq_ite]
  repeat' split
  all_goals first | exact hb | exact okK_own hr | exact okK_meet hr (okK_oper hr h) (okK_oper hr h) | exact fun h => absurd h (by decide : ¬ ((1 : Int) = 2 ∨ (1 : Int) = 3)) | exact fun _ => hr
theorem okK_next {f : Fn} {now : List Bs} (hn : okNow f now) (h : allK f now) {r : Int} (hp : ptrR f r = true) : okK (nR f) (nextF (mkS f now) r) := by
  have hr : 0 ≤ r ∧ r < (nR f : Int) := ptrR_in hp
  unfold nextF
  simp only [Bool.cond_eq_ite]
  repeat' split
  all_goals first | exact okK_own hr | (show okK (nR f) (insF (f, defsF f, now, ()) r _); rw [ins_eq r _ hn]; exact okK_ins h hr) | (show okK (nR f) (parG f now r _ _); exact okK_fold hr (h _ (by show r.toNat < nR f; omega)) (exB_okK hr h))
theorem allK_rnd {f : Fn} {now : List Bs} (hn : okNow f now) (h : allK f now) : allK f (rndF f now) := fun j hj => by
  unfold rndF
  rw [tab_gd hj]
  unfold outB
  split
  · rename_i hp
    exact okK_next hn h hp
  · exact okK_z
theorem allK_go {f : Fn} : ∀ {k : Nat} {now : List Bs}, okNow f now → allK f now → allK f (basesGo f k now).2
  | 0, now, _, h => h
  | k + 1, now, hn, h => by
    unfold basesGo
    split
    · exact allK_go (okNow_rnd hn) (allK_rnd hn h)
    · exact allK_rnd hn h
theorem allK_bases (f : Fn) : allK f (basesF f) := fun j hj => by
  unfold basesF
  rw [tab_gd hj]
  unfold finB
  split
  · exact okK_own (by omega)
  · exact allK_go (okNow_zeros f) (fun j hj => by unfold zeros; rw [tab_rep (S := s_alias_Base), tab_gd hj]; exact okK_z) j hj
theorem sz_li : ∀ l : List (Den I), szD (.sl 8 I) l = ln I l
  | [] => rfl
  | x :: l => by
    show 0 + 1 + szD (.sl 8 I) l = l.length + 1
    rw [sz_li l]
    show 0 + 1 + l.length = _
    omega
theorem sz_map {b : Nat} {S : Sh} {g : Den S → Den S} (hg : ∀ x, szD S (g x) = szD S x) : ∀ l : List (Den S), szD (.sl b S) (List.map g l) = szD (.sl b S) l
  | [] => rfl
  | x :: l => by
    show szD S (g x) + 1 + szD (.sl b S) (List.map g l) = szD S x + 1 + szD (.sl b S) l
    rw [hg, sz_map hg l]
theorem sz_permL {l p : List (Den I)} : szD (.sl 8 I) (permL l p) = szD (.sl 8 I) l := by rw [sz_li, sz_li, permL_ln]
theorem sz_in {p : List (Den I)} (x : Den s_api_Instr) : szD s_api_Instr (mapIn p x) = szD s_api_Instr x := by
  show 0 + (0 + (0 + (szD (.sl 8 I) (permL x.2.2.2.1 p) + _))) = 0 + (0 + (0 + (szD (.sl 8 I) x.2.2.2.1 + _)))
  rw [sz_permL]
  rfl
theorem sz_ed {p : List (Den I)} (x : Den s_api_Edge) : szD s_api_Edge (mapEd p x) = szD s_api_Edge x := by
  show 0 + (szD (.sl 8 I) (permL x.2.1 p) + 0) = 0 + (szD (.sl 8 I) x.2.1 + 0)
  rw [sz_permL]
theorem sz_bl {p : List (Den I)} (b : Blk) : szD s_api_Block (mapBl p b) = szD s_api_Block b := by
  show szD (.sl 8 I) (permL b.1 p) + (szD (.sl 80 s_api_Instr) (List.map (mapIn p) (bIns b)) + ((0 + (szD (.sl 8 I) (permL (tArgs b) p) + (szD (.sl 8 I) b.2.2.1.2.2.1 + (szD (.sl 32 s_api_Edge) (List.map (mapEd p) (tSuc b)) + (0 + 0))))) + 0)) =
    szD (.sl 8 I) b.1 + (szD (.sl 80 s_api_Instr) (bIns b) + ((0 + (szD (.sl 8 I) (tArgs b) + (szD (.sl 8 I) b.2.2.1.2.2.1 + (szD (.sl 32 s_api_Edge) (tSuc b) + (0 + 0))))) + 0))
  rw [sz_permL, sz_permL, sz_map sz_in, sz_map sz_ed]
theorem Pm.small {f : Fn} {p : List (Den I)} (h : Pm (nR f) p) (hs : smallF f) : smallF (rnF f p) := by
  have e : szD s_api_Func (rnF f p) = szD s_api_Func f := by
    show ByteArray.size f.1 + (szD (.sl 8 I) (permL f.2.1 p) + (0 + (szD (.sl 8 I) (rnF f p).2.2.2.1 + (szD (.sl 136 s_api_Block) (List.map (mapBl p) (blocks f)) + 0)))) =
      ByteArray.size f.1 + (szD (.sl 8 I) f.2.1 + (0 + (szD (.sl 8 I) f.2.2.2.1 + (szD (.sl 136 s_api_Block) (blocks f) + 0))))
    rw [sz_permL, sz_li (rnF f p).2.2.2.1, sz_li f.2.2.2.1, show ln I (rnF f p).2.2.2.1 = ln I f.2.2.2.1 from h.regs.1, sz_map sz_bl]
  show szD s_api_Func (rnF f p) ≤ 1048576
  rw [e]
  exact hs
structure Seen (p : List (Den I)) (i : Nat) (m : List (Den .bool)) : Prop where
  l : ln .bool m = ln I p
  rg : ∀ k, k < i → 0 ≤ z (gd I p k) ∧ z (gd I p k) < (ln I p : Int)
  inj : ∀ j k, j < i → k < i → pn p j = pn p k → j = k
  set : ∀ k, k < i → bOf (gd .bool m (pn p k)) = true
theorem Seen.next {p : List (Den I)} {i : Nat} {m : List (Den .bool)} (h : Seen p i m) (hr : 0 ≤ z (gd I p i) ∧ z (gd I p i) < (ln I p : Int)) (hf : bOf (gd .bool m (pn p i)) = false) : Seen p (i + 1) (st .bool m (pn p i) true) := by
  have hlt : pn p i < ln .bool m := by rw [h.l]; show (z (gd I p i)).toNat < _; omega
  refine ⟨by rw [ln_st]; exact h.l, fun k hk => ?_, fun j k hj hk e => ?_, fun k hk => ?_⟩
  · rcases Nat.lt_or_eq_of_le (Nat.le_of_lt_succ hk) with h1 | rfl
    · exact h.rg k h1
    · exact hr
  · rcases Nat.lt_or_eq_of_le (Nat.le_of_lt_succ hj) with h1 | rfl
    · rcases Nat.lt_or_eq_of_le (Nat.le_of_lt_succ hk) with h2 | rfl
      · exact h.inj j k h1 h2 e
      · have := h.set j h1
        rw [e, hf] at this
        cases this
    · rcases Nat.lt_or_eq_of_le (Nat.le_of_lt_succ hk) with h2 | rfl
      · have := h.set k h2
        rw [← e, hf] at this
        cases this
      · rfl
  · rw [gd_st_any]
    split
    · rfl
    · rename_i hc
      rcases Nat.lt_or_eq_of_le (Nat.le_of_lt_succ hk) with h1 | rfl
      · exact h.set k h1
      · exact absurd ⟨rfl, hlt⟩ hc
def yesN (_ : Fn) (_ : List (Den I)) : Bool := true
theorem rn_l2 (f : Fn) (p : List (Den I)) (h : Pm (nR f) p) (hl : ln s_alias_Base (basesF f) < 9223372036854775807) : ∀ i, i ≤ ln s_alias_Base (basesF f) → Runs E_A28 (law27_AliasRename_L2 p (basesF (rnF f p)) (basesF f) (ln s_alias_Base (basesF f) : Nat) i) (fun x hh => x = vb true ∧ hh = []) :=
  up_ind (.tree E_A28_ok (law27_AliasRename_L2_t _ _ _ _ _) (by
    simp only [wp_iff, chk_iff, know_iff, any_iff, rt_iff, hd_iff, true_imp_iff, true_and, and_true, and_self, lt01, Int.ofNat_lt, Int.ofNat_le, Int.natCast_nonneg, Int.toNat_natCast, decide_true, decide_false, Bool.true_eq_false, Bool.false_eq_true, false_imp_iff, Nat.lt_irrefl, imp_self, implies_true,  worksR]))
    fun i hi ih => .tree E_A28_ok (law27_AliasRename_L2_t _ _ _ _ _) (by
      have hn : i < nR f := by rw [ln_bases] at hi; exact hi
      have hk := allK_bases f i hn
      have hb := h.bases hn
      have hp := h.rp i (by rw [h.hl]; exact hn)
      have hip : i < ln I p := by rw [h.hl]; exact hn
      have hp2 : 0 ≤ z (gd I p i) ∧ z (gd I p i) < (ln s_alias_Base (basesF (rnF f p)) : Int) := by rw [ln_bases, h.regs.1]; exact hp
      have hid : (z (gd s_alias_Base (basesF f) i).1 = 2 ∨ z (gd s_alias_Base (basesF f) i).1 = 3) → z (gd I p (z (gd s_alias_Base (basesF f) i).2.1).toNat) = permR p (z (gd s_alias_Base (basesF f) i).2.1) := fun hc => by
        have := hk hc
        unfold permR
        rw [if_neg (by rw [h.hl]; omega)]
      have hpl : ((ln I p : Nat) : Int) = (nR f : Int) := by rw [h.hl]
      simp only [wp_iff, chk_iff, know_iff, any_iff, rt_iff, hd_iff, true_imp_iff, true_and, and_true, and_self, lt01, Int.ofNat_lt, Int.ofNat_le, Int.natCast_nonneg, Int.toNat_natCast, decide_true, decide_false, Bool.true_eq_false, Bool.false_eq_true, false_imp_iff, Nat.lt_irrefl, imp_self, implies_true,  hi, wrapS hi hl, hip, hp2]
      rw [show (z (gd I p i)).toNat = pn p i from rfl, hb]
      have r1 : z (ren p (gd s_alias_Base (basesF f) i)).1 = z (gd s_alias_Base (basesF f) i).1 := rfl
      have r2 : (ren p (gd s_alias_Base (basesF f) i)).2.2 = (gd s_alias_Base (basesF f) i).2.2 := rfl
      have r3 : z (ren p (gd s_alias_Base (basesF f) i)).2.1 = if z (gd s_alias_Base (basesF f) i).1 = 2 ∨ z (gd s_alias_Base (basesF f) i).1 = 3 then permR p (z (gd s_alias_Base (basesF f) i).2.1) else z (gd s_alias_Base (basesF f) i).2.1 := rfl
      rw [r1, r2, r3]
      refine ⟨fun e => ?_, fun e => ⟨fun e3 => ?_, fun e3 => ?_⟩⟩
      · have hc : z (gd s_alias_Base (basesF f) i).1 = 2 ∨ z (gd s_alias_Base (basesF f) i).1 = 3 := .inl (by simpa using e)
        have q := hk hc
        rw [if_pos hc, hid hc]
        refine ⟨fun h1 => absurd (of_decide_eq_true h1) (by omega), fun _ => ⟨fun h1 => absurd (of_decide_eq_true h1) (by omega), fun _ => ⟨by omega, fun _ => ⟨fun h1 => ?_, fun _ => ih⟩⟩⟩⟩
        simp at h1
      · have hc : z (gd s_alias_Base (basesF f) i).1 = 2 ∨ z (gd s_alias_Base (basesF f) i).1 = 3 := .inr (by simpa using e3)
        have q := hk hc
        rw [if_pos hc, hid hc]
        refine ⟨fun h1 => absurd (of_decide_eq_true h1) (by omega), fun _ => ⟨fun h1 => absurd (of_decide_eq_true h1) (by omega), fun _ => ⟨by omega, fun _ => ⟨fun h1 => ?_, fun _ => ih⟩⟩⟩⟩
        simp at h1
      · have hc : ¬ (z (gd s_alias_Base (basesF f) i).1 = 2 ∨ z (gd s_alias_Base (basesF f) i).1 = 3) := by
          rintro (h1 | h1)
          · simp [h1] at e
          · simp [h1] at e3
        rw [if_neg hc]
        refine ⟨fun h1 => ?_, fun _ => ih⟩
        simp at h1)
theorem rn_l0 (f : Fn) (p : List (Den I)) (hs : smallF f) (hp : ln I p = nR f) (hl : ln I p < 9223372036854775807) : ∀ i, i ≤ ln I p → ∀ m : List (Den .bool), Seen p i m → Runs E_A28 (law27_AliasRename_L0 p f p (ln I p : Nat) i m) (fun x hh => x = vb true ∧ hh = []) :=
  up_ind (fun m hm => .tree E_A28_ok (law27_AliasRename_L0_t _ _ _ _ _ _) (by
    have h : Pm (nR f) p := ⟨hp, by rw [← hp]; exact hm.rg, by rw [← hp]; exact hm.inj⟩
    have a1 : ((ln s_alias_Base (basesF f) : Int) != (ln I p : Int)) = false := by rw [ln_bases, hp]; simp
    have a2 : ((ln s_alias_Base (basesF (rnF f p)) : Int) != (ln I p : Int)) = false := by rw [ln_bases, h.regs.1, hp]; simp
    rw [h.fn]
    simp only [wp_iff, chk_iff, know_iff, any_iff, rt_iff, hd_iff, true_imp_iff, true_and, and_true, and_self, lt01, Int.ofNat_lt, Int.ofNat_le, Int.natCast_nonneg, Int.toNat_natCast, decide_true, decide_false, Bool.true_eq_false, Bool.false_eq_true, false_imp_iff, Nat.lt_irrefl, imp_self, implies_true,  hs, h.small hs, a1, a2, worksR]
    intro _ _ _
    exact rn_l2 f p h (by rw [ln_bases, ← hp]; exact hl) 0 (Nat.zero_le _)))
    fun i hi ih m hm => .tree E_A28_ok (law27_AliasRename_L0_t _ _ _ _ _ _) (by
      simp only [wp_iff, chk_iff, know_iff, any_iff, rt_iff, hd_iff, true_imp_iff, true_and, and_true, and_self, lt01, Int.ofNat_lt, Int.ofNat_le, Int.natCast_nonneg, Int.toNat_natCast, decide_true, decide_false, Bool.true_eq_false, Bool.false_eq_true, false_imp_iff, Nat.lt_irrefl, imp_self, implies_true,  hi, wrapS hi hl, worksR]
      intro h1 h2
      have a1 := of_decide_eq_false h1
      have a2 := of_decide_eq_false h2
      have f1 : 0 ≤ z (gd I p i) ∧ z (gd I p i) < (ln I p : Int) := ⟨by omega, by omega⟩
      have f2 : 0 ≤ z (gd I p i) ∧ z (gd I p i) < (ln .bool m : Int) := by rw [hm.l]; exact f1
      have f3 : (z (gd I p i)).toNat < ln .bool m := by omega
      refine ⟨f2, fun _ => ⟨f3, fun _ h3 => ⟨f2, fun _ => ⟨f3, fun _ => ih _ (hm.next f1 h3)⟩⟩⟩⟩)
def k_law27_AliasRename : Con := con [.d s_api_Func, .d (.sl 8 I)] .bool (fun x => smallF x.1) fun x => yesN x.1 x.2.1
theorem m_law27_AliasRename (f : Den s_api_Func) (perm : List (Den I)) (h_f : okD s_api_Func f) (h_perm : okD (.sl 8 I) perm) (hp : smallF f) : Runs E_A28 (start E_A28 f_law27_AliasRename [(.tv s_api_Func f), (.tv (.sl 8 I) perm)]) (fun r_ h_ => r_ = (vb (yesN f perm)) ∧ h_ = []) := .tree E_A28_ok (law27_AliasRename_t f perm) (by
  unfold yesN
  simp only [wp_iff, chk_iff, know_iff, any_iff, rt_iff, hd_iff, true_imp_iff, true_and, and_true, and_self, lt01,  worksR]
  refine ⟨fun _ => trivial, fun _ => ⟨fun _ => trivial, fun hne => ?_⟩⟩
  have hn : ln I perm = nR f := by
    have : (ln I perm : Int) = (ln I f.2.2.2.1 : Int) := by simpa using hne
    show ln I perm = ln I f.2.2.2.1
    omega
  have hl := room_lt h_perm.1
  refine ⟨by omega, fun _ => ⟨room_part h_perm.1 (Nat.le_refl _) (by decide), fun _ => rn_l0 f perm hp hn hl 0 (Nat.zero_le _) _ ⟨by show (List.replicate _ _).length = _; simp, fun k hk => absurd hk (Nat.not_lt_zero _), fun j k hj => absurd hj (Nat.not_lt_zero _), fun k hk => absurd hk (Nat.not_lt_zero _)⟩⟩⟩)
theorem c_law27_AliasRename : SpecOK E_A28 f_law27_AliasRename k_law27_AliasRename.spec := spec_of fun x hx hp => ⟨rfl, m_law27_AliasRename x.1 x.2.1 hx.1 hx.2.1 hp⟩
end Burn.M27N

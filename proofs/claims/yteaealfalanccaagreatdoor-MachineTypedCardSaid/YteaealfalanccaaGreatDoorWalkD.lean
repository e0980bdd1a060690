/- What the functions that the law reaches compute, one contract each. No conditions beyond those written. -/
import Derived.Test.YteaealfalanccaaGreatDoorWalkC
namespace Burn.MTT
open Go Go.BE Go.Proofs
set_option maxRecDepth 100000
set_option linter.unusedVariables false
set_option linter.unusedSimpArgs false
open Burn.Intn Burn.Ref
noncomputable abbrev E_V46 : Ctx := ctx L_V45
theorem E_V46_ok : EOK E_V46 := qbq L_V45_ok
def cuts_V46 : CutL := []
def rets_V46 : FuncId → List (Option Fx)
 | _ => []
def H_V46 : Hints := { cut := cutOf cuts_V46, ret := rets_V46 }
def H_V46_u_law50_works : Hints := { H_V46 with unr := fun _ _ => true }
theorem law50_works_t : run E_V46 H_V46_u_law50_works f_law50_works 1000000 (start E_V46 f_law50_works []) = (.chk (True) (.know (okD qao (defF)) (.chk (True) (.know (okAVs [(.tv qad (([] : List (Den qaf)), ([(⟨#[102]⟩, ([] : List (Den I)), (0 : Int), ([] : List (Den I)), ([(([] : List (Den I)), ([] : List (Den qac)), ((4 : Int), ([] : List (Den I)), ([] : List (Den I)), ([] : List (Den qae)), (0 : Int), ()), ())] : List (Den qaa)), ())] : List (Den qab)), ())), (.tv qan (⟨#[102]⟩, ([] : List (Den I)), (0 : Int), ([] : List (Den I)), (8 : Int), (0 : Int), ([(([] : List (Den I)), ([] : List (Den qac)), ((4 : Int), ([] : List (Den I)), ([] : List (Den I)), ([] : List (Den qae)), (0 : Int), ()), ())] : List (Den qaa)), ()))]) (.chk (True) (.know True (cond (valF (defF)) (.chk (True) (.know (okD (.int .i64) (latcF (defF) (7 : Int))) (cond ((latcF (defF) (7 : Int)) == (3 : Int)) (.chk (True) (.know (okD (.int .i64) (latcF (defF) (5 : Int))) (cond ((latcF (defF) (5 : Int)) == (1 : Int)) (.chk (True) (.know (okD (.int .i64) (latcF (defF) (-1 : Int))) (cond ((latcF (defF) (-1 : Int)) == (1 : Int)) (.chk (True) (.know (okD (.int .i64) (mchF (([] : List (Den qaf)), ([(⟨#[102]⟩, ([] : List (Den I)), (0 : Int), ([] : List (Den I)), ([(([] : List (Den I)), ([] : List (Den qac)), ((4 : Int), ([] : List (Den I)), ([] : List (Den I)), ([] : List (Den qae)), (0 : Int), ()), ())] : List (Den qaa)), ())] : List (Den qab)), ()) (⟨#[102]⟩, ([] : List (Den I)), (0 : Int), ([] : List (Den I)), (8 : Int), (0 : Int), ([(([] : List (Den I)), ([] : List (Den qac)), ((4 : Int), ([] : List (Den I)), ([] : List (Den I)), ([] : List (Den qae)), (0 : Int), ()), ())] : List (Den qaa)), ()))) (cond ((mchF (([] : List (Den qaf)), ([(⟨#[102]⟩, ([] : List (Den I)), (0 : Int), ([] : List (Den I)), ([(([] : List (Den I)), ([] : List (Den qac)), ((4 : Int), ([] : List (Den I)), ([] : List (Den I)), ([] : List (Den qae)), (0 : Int), ()), ())] : List (Den qaa)), ())] : List (Den qab)), ()) (⟨#[102]⟩, ([] : List (Den I)), (0 : Int), ([] : List (Den I)), (8 : Int), (0 : Int), ([(([] : List (Den I)), ([] : List (Den qac)), ((4 : Int), ([] : List (Den I)), ([] : List (Den I)), ([] : List (Den qae)), (0 : Int), ()), ())] : List (Den qaa)), ())) == (0 : Int)) (.chk (True) (.know (okD (.int .i64) (mchF (([] : List (Den qaf)), ([(⟨#[102]⟩, ([] : List (Den I)), (0 : Int), ([] : List (Den I)), ([(([] : List (Den I)), ([] : List (Den qac)), ((4 : Int), ([] : List (Den I)), ([] : List (Den I)), ([] : List (Den qae)), (0 : Int), ()), ())] : List (Den qaa)), ())] : List (Den qab)), ()) (⟨#[102]⟩, ([] : List (Den I)), (0 : Int), ([] : List (Den I)), (8 : Int), (-1 : Int), ([(([] : List (Den I)), ([] : List (Den qac)), ((4 : Int), ([] : List (Den I)), ([] : List (Den I)), ([] : List (Den qae)), (0 : Int), ()), ())] : List (Den qaa)), ()))) (cond ((mchF (([] : List (Den qaf)), ([(⟨#[102]⟩, ([] : List (Den I)), (0 : Int), ([] : List (Den I)), ([(([] : List (Den I)), ([] : List (Den qac)), ((4 : Int), ([] : List (Den I)), ([] : List (Den I)), ([] : List (Den qae)), (0 : Int), ()), ())] : List (Den qaa)), ())] : List (Den qab)), ()) (⟨#[102]⟩, ([] : List (Den I)), (0 : Int), ([] : List (Den I)), (8 : Int), (-1 : Int), ([(([] : List (Den I)), ([] : List (Den qac)), ((4 : Int), ([] : List (Den I)), ([] : List (Den I)), ([] : List (Den qae)), (0 : Int), ()), ())] : List (Den qaa)), ())) == (3 : Int)) (.chk ((1 + ln I ([] : List (Den I))) * 8 ≤ roomB) (.chk (((3 : Nat) + (1 : Nat)) * 8 ≤ roomB) (.chk ((1 + ln I ([] : List (Den I))) * 8 ≤ roomB) (.chk (((4 : Nat) + (1 : Nat)) * 8 ≤ roomB) (.know (okD (.sl 8 I) ([(0 : Int)] : List (Den I))) (.know (okD (.sl 8 I) ([(0 : Int)] : List (Den I))) (.chk (0 ≤ z (1 : Int) ∧ z (1 : Int) < 10) (.chk ((9 : Nat) ≤ roomB) (.chk ((10 : Nat) ≤ roomB) (.chk ((11 : Nat) ≤ roomB) (.chk (linOK (tOf (⟨#[109, 97, 99, 104, 105, 110, 101, 32, 49, 32, 102]⟩)) ([(0 : Int), (8 : Int), (0 : Int), (0 : Int), (0 : Int)] : List (Den I))) (.chk ((((linF ⟨#[109, 97, 99, 104, 105, 110, 101, 32, 49, 32, 102]⟩ ([(0 : Int), (8 : Int), (0 : Int), (0 : Int), (0 : Int)] : List (Den I)))).size + (1 : Nat)) ≤ roomB) (.know (okD .str (⟨#[49]⟩)) (.know (okD .str (linF ⟨#[109, 97, 99, 104, 105, 110, 101, 32, 49, 32, 102]⟩ ([(0 : Int), (8 : Int), (0 : Int), (0 : Int), (0 : Int)] : List (Den I)))) (.chk (0 ≤ (0 : Int) ∧ (0 : Int) < (1 : Nat)) (.chk ((1 + ln I ([] : List (Den I))) * 8 ≤ roomB) (.know (okD (.sl 8 I) ([(0 : Int)] : List (Den I))) (.chk (linOK (tOf (⟨#[98, 108, 111, 99, 107]⟩)) ([(0 : Int)] : List (Den I))) (.know (okD .str (linF ⟨#[98, 108, 111, 99, 107]⟩ ([(0 : Int)] : List (Den I)))) (.chk ((((linF ⟨#[98, 108, 111, 99, 107]⟩ ([(0 : Int)] : List (Den I)))).size + (1 : Nat)) ≤ roomB) (.chk (((((linF ⟨#[109, 97, 99, 104, 105, 110, 101, 32, 49, 32, 102]⟩ ([(0 : Int), (8 : Int), (0 : Int), (0 : Int), (0 : Int)] : List (Den I))) ++ ⟨#[10]⟩)).size + (((linF ⟨#[98, 108, 111, 99, 107]⟩ ([(0 : Int)] : List (Den I))) ++ ⟨#[10]⟩)).size) ≤ roomB) (.chk ((1 + ln I ([] : List (Den I))) * 8 ≤ roomB) (.chk (((2 : Nat) + (1 : Nat)) * 8 ≤ roomB) (.chk (linOK (tOf (⟨#[116, 101, 114, 109]⟩)) ([(4 : Int), (0 : Int), (0 : Int)] : List (Den I))) (.chk (linOK (tOf ByteArray.empty) ([(0 : Int)] : List (Den I))) (.chk ((((linF ⟨#[116, 101, 114, 109]⟩ ([(4 : Int), (0 : Int), (0 : Int)] : List (Den I)))).size + ((linF ByteArray.empty ([(0 : Int)] : List (Den I)))).size) ≤ roomB) (.chk ((((((linF ⟨#[109, 97, 99, 104, 105, 110, 101, 32, 49, 32, 102]⟩ ([(0 : Int), (8 : Int), (0 : Int), (0 : Int), (0 : Int)] : List (Den I))) ++ ⟨#[10]⟩) ++ ((linF ⟨#[98, 108, 111, 99, 107]⟩ ([(0 : Int)] : List (Den I))) ++ ⟨#[10]⟩))).size + (((linF ⟨#[116, 101, 114, 109]⟩ ([(4 : Int), (0 : Int), (0 : Int)] : List (Den I))) ++ (linF ByteArray.empty ([(0 : Int)] : List (Den I))))).size) ≤ roomB) (.know (okD (.sl 8 I) ([(0 : Int)] : List (Den I))) (.know (okD .str (linF ⟨#[116, 101, 114, 109]⟩ ([(4 : Int), (0 : Int), (0 : Int)] : List (Den I)))) (.know (okD .str (linF ByteArray.empty ([(0 : Int)] : List (Den I)))) (.chk (linOK (tOf ByteArray.empty) ([(0 : Int)] : List (Den I))) (.know (okD .str (linF ByteArray.empty ([(0 : Int)] : List (Den I)))) (.chk (((((((linF ⟨#[109, 97, 99, 104, 105, 110, 101, 32, 49, 32, 102]⟩ ([(0 : Int), (8 : Int), (0 : Int), (0 : Int), (0 : Int)] : List (Den I))) ++ ⟨#[10]⟩) ++ ((linF ⟨#[98, 108, 111, 99, 107]⟩ ([(0 : Int)] : List (Den I))) ++ ⟨#[10]⟩)) ++ ((linF ⟨#[116, 101, 114, 109]⟩ ([(4 : Int), (0 : Int), (0 : Int)] : List (Den I))) ++ (linF ByteArray.empty ([(0 : Int)] : List (Den I)))))).size + ((linF ByteArray.empty ([(0 : Int)] : List (Den I)))).size) ≤ roomB) (.chk ((((((((linF ⟨#[109, 97, 99, 104, 105, 110, 101, 32, 49, 32, 102]⟩ ([(0 : Int), (8 : Int), (0 : Int), (0 : Int), (0 : Int)] : List (Den I))) ++ ⟨#[10]⟩) ++ ((linF ⟨#[98, 108, 111, 99, 107]⟩ ([(0 : Int)] : List (Den I))) ++ ⟨#[10]⟩)) ++ ((linF ⟨#[116, 101, 114, 109]⟩ ([(4 : Int), (0 : Int), (0 : Int)] : List (Den I))) ++ (linF ByteArray.empty ([(0 : Int)] : List (Den I))))) ++ (linF ByteArray.empty ([(0 : Int)] : List (Den I))))).size + (1 : Nat)) ≤ roomB) (rt (vb ((((((((linF ⟨#[109, 97, 99, 104, 105, 110, 101, 32, 49, 32, 102]⟩ ([(0 : Int), (8 : Int), (0 : Int), (0 : Int), (0 : Int)] : List (Den I))) ++ ⟨#[10]⟩) ++ ((linF ⟨#[98, 108, 111, 99, 107]⟩ ([(0 : Int)] : List (Den I))) ++ ⟨#[10]⟩)) ++ ((linF ⟨#[116, 101, 114, 109]⟩ ([(4 : Int), (0 : Int), (0 : Int)] : List (Den I))) ++ (linF ByteArray.empty ([(0 : Int)] : List (Den I))))) ++ (linF ByteArray.empty ([(0 : Int)] : List (Den I)))) ++ ⟨#[10]⟩)).toList == (⟨#[109, 97, 99, 104, 105, 110, 101, 32, 49, 32, 102, 32, 48, 32, 56, 32, 48, 32, 48, 32, 48, 10, 98, 108, 111, 99, 107, 32, 48, 10, 116, 101, 114, 109, 32, 52, 32, 48, 32, 48, 32, 48, 32, 48, 10]⟩ : ByteArray).toList)) []))))))))))))))))))))))))))))))))))) (rt (vb false) [])))) (rt (vb false) [])))) (rt (vb false) [])))) (rt (vb false) [])))) (rt (vb false) [])))) (rt (vb false) [])))))))) := by kernel_rfl
def wrkT : Bool := true
theorem no_way {X : Bool} {P : Prop} (h : X = false) (ht : X = true) : P := by rw [h] at ht; exact Bool.noConfusion ht

def k_law50_works : Con := con [] .bool (fun x => True) fun x => wrkT
theorem m_law50_works (hp : True) : Runs E_V46 (start E_V46 f_law50_works []) (fun r_ h_ => r_ = (vb (wrkT)) ∧ h_ = []) := .tree E_V46_ok (law50_works_t) (by
 simp only [sS, implies_true]
 repeat' (first | refine And.intro ?_ ?_ | refine onP fun _ => ?_)
 all_goals first
 | exact of_decide_eq_true (by kernel_rfl)
 | (unfold linOK; exact of_decide_eq_true (by kernel_rfl))
 | exact no_way (by assumption) (by kernel_rfl)
 | (show _ = vb true; refine congrArg vb ?_; rw [ByteArray.toList_eq, ByteArray.toList_eq]; kernel_rfl))
theorem c_law50_works : qal E_V46 f_law50_works k_law50_works.spec := qam fun x hx hp => ⟨rfl, m_law50_works hp⟩
def L_V46 : List (FuncId × FSpec) := [(f_law50_works, k_law50_works.spec)] ++ L_V45
theorem L_V46_ok : ∀ x ∈ L_V46, qal (ctx []) x.1 x.2 := by
 unfold L_V46
 simp only [List.cons_append, List.nil_append, List.forall_mem_cons]
 exact ⟨c_law50_works, L_V45_ok⟩
end Burn.MTT
namespace Burn.MTT
open Go Go.BE Go.Proofs
set_option maxRecDepth 100000
set_option linter.unusedVariables false
set_option linter.unusedSimpArgs false
open Burn.Intn Burn.Ref
def mrg_V47 : FuncId → List Nat
 | 5 => [23, 61, 67, 77, 128, 137, 168, 192, 193, 194]
 | _ => []
noncomputable abbrev E_V47 : Ctx := { ctx L_V46 with mrg := mrg_V47 }
theorem E_V47_ok : EOK E_V47 := have h : EOK (ctx L_V46) := qbq L_V46_ok; ⟨h.ty, h.env, h.fns, h.mixed⟩
def cuts_V47 : CutL := [([], 5, 0, [1, 3, 4, 5, 6, 7], [], []),
 ([], 5, 2, [1, 3, 4, 5, 6, 8], [], []),
 ([], 5, 4, [1, 3, 4, 5, 6, 8, 9, 10], [], []),
 ([], 5, 6, [1, 3, 4, 5, 6, 8, 9, 10, 11, 12], [], []),
 ([], 5, 8, [1, 3, 4, 5, 6, 8, 9, 10, 11, 13], [], [])]
def rets_V47 : FuncId → List (Option Fx)
 | _ => []
def H_V47 : Hints := { cut := cutOf cuts_V47, ret := rets_V47 }
noncomputable def qem (m : Den qad) (n : Int) (edges : Int) (calls : Int) (wide : Bool) (i : Int) : Cfg := hcfg E_V47 qax 0 [(1, (.rtp qad m)), (3, (vi n)), (4, (vi edges)), (5, (vi calls)), (6, (vb wide)), (7, (vi i))] [] 0
noncomputable def qel (m : Den qad) (n : Int) (edges : Int) (calls : Int) (wide : Bool) (i : Int) : Cfg := hcfg E_V47 qax 2 [(1, (.rtp qad m)), (3, (vi n)), (4, (vi edges)), (5, (vi calls)), (6, (vb wide)), (8, (vi i))] [] 0
noncomputable def qdg (m : Den qad) (n : Int) (edges : Int) (calls : Int) (wide : Bool) (i : Int) (k : Int) (f_0 : ByteArray) (f_1 : List (Den I)) (f_2 : Int) (f_3 : List (Den I)) (f_4 : List (Den qaa)) : Cfg := hcfg E_V47 qax 4 [(1, (.rtp qad m)), (3, (vi n)), (4, (vi edges)), (5, (vi calls)), (6, (vb wide)), (8, (vi i)), (9, (.ref 0 0)), (10, (vi k))] [(0, ⟨(.cells [(vs f_0), (.tv (.sl 8 I) f_1), (vi f_2), (.tv (.sl 8 I) f_3), (.tv (.sl 136 qaa) f_4)]), 0, [], false, none⟩)] 1
noncomputable def qek (m : Den qad) (n : Int) (edges : Int) (calls : Int) (wide : Bool) (i : Int) (k : Int) (j : Int) (f_0 : ByteArray) (f_1 : List (Den I)) (f_2 : Int) (f_3 : List (Den I)) (f_4 : List (Den qaa)) (b_0 : List (Den I)) (b_1 : List (Den qac)) (b_2 : Int) (b_3 : List (Den I)) (b_4 : List (Den I)) (b_5 : List (Den qae)) (b_6 : Int) : Cfg := hcfg E_V47 qax 6 [(1, (.rtp qad m)), (3, (vi n)), (4, (vi edges)), (5, (vi calls)), (6, (vb wide)), (8, (vi i)), (9, (.ref 0 0)), (10, (vi k)), (11, (.ref 1 0)), (12, (vi j))] [(0, ⟨(.cells [(vs f_0), (.tv (.sl 8 I) f_1), (vi f_2), (.tv (.sl 8 I) f_3), (.tv (.sl 136 qaa) f_4)]), 0, [], false, none⟩), (1, ⟨(.cells [(.tv (.sl 8 I) b_0), (.tv (.sl 80 qac) b_1), (vi b_2), (.tv (.sl 8 I) b_3), (.tv (.sl 8 I) b_4), (.tv (.sl 32 qae) b_5), (vi b_6)]), 1, [], false, none⟩)] 2
noncomputable def qgs (m : Den qad) (n : Int) (edges : Int) (calls : Int) (wide : Bool) (i : Int) (k : Int) (j : Int) (f_0 : ByteArray) (f_1 : List (Den I)) (f_2 : Int) (f_3 : List (Den I)) (f_4 : List (Den qaa)) (b_0 : List (Den I)) (b_1 : List (Den qac)) (b_2 : Int) (b_3 : List (Den I)) (b_4 : List (Den I)) (b_5 : List (Den qae)) (b_6 : Int) : Cfg := hcfg E_V47 qax 8 [(1, (.rtp qad m)), (3, (vi n)), (4, (vi edges)), (5, (vi calls)), (6, (vb wide)), (8, (vi i)), (9, (.ref 0 0)), (10, (vi k)), (11, (.ref 1 0)), (13, (vi j))] [(0, ⟨(.cells [(vs f_0), (.tv (.sl 8 I) f_1), (vi f_2), (.tv (.sl 8 I) f_3), (.tv (.sl 136 qaa) f_4)]), 0, [], false, none⟩), (1, ⟨(.cells [(.tv (.sl 8 I) b_0), (.tv (.sl 80 qac) b_1), (vi b_2), (.tv (.sl 8 I) b_3), (.tv (.sl 8 I) b_4), (.tv (.sl 32 qae) b_5), (vi b_6)]), 1, [], false, none⟩)] 2
theorem law24_TooLarge_t (m : Den qad) : run E_V47 H_V47 qax 3000 (start E_V47 qax [(.tv qad m)]) = (cond (cond (decide (((ln qaf m.1) : Int) > (8 : Int))) true (decide (((ln qab m.2.1) : Int) > (5 : Int)))) (rt (vi (1 : Int)) []) (hd (qem m (0 : Int) (0 : Int) (0 : Int) false (0 : Int)))) := by kernel_rfl
theorem law24_TooLarge_L0_t (m : Den qad) (n : Int) (edges : Int) (calls : Int) (wide : Bool) (i : Int) : run E_V47 H_V47 qax 3000 (qem m n edges calls wide i) = (cond (decide (i < ((ln qaf m.1) : Int))) (.chk (0 ≤ i ∧ i < (ln qaf m.1)) (hd (qem m (IntKind.wrap .i64 (n + ((ln I ((gd qaf m.1 i.toNat).2.2.2.1)) : Int))) edges calls wide (IntKind.wrap .i64 (i + (1 : Int)))))) (hd (qel m n edges calls wide (0 : Int)))) := by kernel_rfl
theorem law24_TooLarge_L2_t (m : Den qad) (n : Int) (edges : Int) (calls : Int) (wide : Bool) (i : Int) : run E_V47 H_V47 qax 3000 (qel m n edges calls wide i) = (cond (decide (i < ((ln qab m.2.1) : Int))) (.chk (0 ≤ i ∧ i < (ln qab m.2.1)) (cond (cond (cond (cond (decide (((ln I ((gd qab m.2.1 i.toNat).2.2.2.1)) : Int) > (300 : Int))) true (decide (((ln qaa ((gd qab m.2.1 i.toNat).2.2.2.2.1)) : Int) > (60 : Int)))) true (decide (((ln I ((gd qab m.2.1 i.toNat).2.1)) : Int) > (10 : Int)))) true (decide ((IntKind.wrap .i64 (((ln I ((gd qab m.2.1 i.toNat).2.2.2.1)) : Int) * ((ln qaa ((gd qab m.2.1 i.toNat).2.2.2.2.1)) : Int))) > (2000 : Int)))) (rt (vi (1 : Int)) []) (hd (qdg m n edges calls wide i (0 : Int) (tOf ((gd qab m.2.1 i.toNat).1)) ((gd qab m.2.1 i.toNat).2.1) (z ((gd qab m.2.1 i.toNat).2.2.1)) ((gd qab m.2.1 i.toNat).2.2.2.1) ((gd qab m.2.1 i.toNat).2.2.2.2.1))))) (cond (cond (decide (n > (700 : Int))) true (cond wide (cond (decide (edges > (60 : Int))) true (decide (calls > (8 : Int)))) false)) (rt (vi (1 : Int)) []) (rt (vi (0 : Int)) []))) := by kernel_rfl
theorem law24_TooLarge_L4_t (m : Den qad) (n : Int) (edges : Int) (calls : Int) (wide : Bool) (i : Int) (k : Int) (f_0 : ByteArray) (f_1 : List (Den I)) (f_2 : Int) (f_3 : List (Den I)) (f_4 : List (Den qaa)) : run E_V47 H_V47 qax 3000 (qdg m n edges calls wide i k f_0 f_1 f_2 f_3 f_4) = (cond (decide (k < ((ln qaa f_4) : Int))) (.chk (0 ≤ k ∧ k < (ln qaa f_4)) (hd (qek m (IntKind.wrap .i64 ((IntKind.wrap .i64 ((IntKind.wrap .i64 ((IntKind.wrap .i64 ((IntKind.wrap .i64 (n + ((ln qac ((gd qaa f_4 k.toNat).2.1)) : Int))) + ((ln I ((gd qaa f_4 k.toNat).1)) : Int))) + ((ln I ((gd qaa f_4 k.toNat).2.2.1.2.2.1)) : Int))) + (IntKind.wrap .i64 ((3 : Int) * ((ln qae ((gd qaa f_4 k.toNat).2.2.1.2.2.2.1)) : Int))))) + ((ln I ((gd qaa f_4 k.toNat).2.2.1.2.1)) : Int))) (IntKind.wrap .i64 (edges + ((ln qae ((gd qaa f_4 k.toNat).2.2.1.2.2.2.1)) : Int))) calls (cond wide true (decide (((ln qae ((gd qaa f_4 k.toNat).2.2.1.2.2.2.1)) : Int) > (4 : Int)))) i k (0 : Int) f_0 f_1 f_2 f_3 f_4 ((gd qaa f_4 k.toNat).1) ((gd qaa f_4 k.toNat).2.1) (z ((gd qaa f_4 k.toNat).2.2.1.1)) ((gd qaa f_4 k.toNat).2.2.1.2.1) ((gd qaa f_4 k.toNat).2.2.1.2.2.1) ((gd qaa f_4 k.toNat).2.2.1.2.2.2.1) (z ((gd qaa f_4 k.toNat).2.2.1.2.2.2.2.1))))) (hd (qel m n edges calls wide (IntKind.wrap .i64 (i + (1 : Int)))))) := by kernel_rfl
theorem law24_TooLarge_L6_t (m : Den qad) (n : Int) (edges : Int) (calls : Int) (wide : Bool) (i : Int) (k : Int) (j : Int) (f_0 : ByteArray) (f_1 : List (Den I)) (f_2 : Int) (f_3 : List (Den I)) (f_4 : List (Den qaa)) (b_0 : List (Den I)) (b_1 : List (Den qac)) (b_2 : Int) (b_3 : List (Den I)) (b_4 : List (Den I)) (b_5 : List (Den qae)) (b_6 : Int) : run E_V47 H_V47 qax 3000 (qek m n edges calls wide i k j f_0 f_1 f_2 f_3 f_4 b_0 b_1 b_2 b_3 b_4 b_5 b_6) = (cond (cond (decide (j < ((ln qac b_1) : Int))) (decide (n ≤ (700 : Int))) false) (.chk (0 ≤ j ∧ j < (ln qac b_1)) (.chk ((8 : Int) ≠ 0) (.chk (0 ≤ j ∧ j < (ln qac b_1)) (cond ((z ((gd qac b_1 j.toNat).1)) == (30 : Int)) (hd (qek m (IntKind.wrap .i64 (n + (IntKind.wrap .i64 (Int.tdiv ((ln I ((gd qac b_1 j.toNat).2.2.2.1)) : Int) (8 : Int))))) edges (IntKind.wrap .i64 (calls + (1 : Int))) wide i k (IntKind.wrap .i64 (j + (1 : Int))) f_0 f_1 f_2 f_3 f_4 b_0 b_1 b_2 b_3 b_4 b_5 b_6)) (hd (qek m (IntKind.wrap .i64 (n + (IntKind.wrap .i64 (Int.tdiv ((ln I ((gd qac b_1 j.toNat).2.2.2.1)) : Int) (8 : Int))))) edges calls wide i k (IntKind.wrap .i64 (j + (1 : Int))) f_0 f_1 f_2 f_3 f_4 b_0 b_1 b_2 b_3 b_4 b_5 b_6)))))) (hd (qgs m n edges calls wide i k (0 : Int) f_0 f_1 f_2 f_3 f_4 b_0 b_1 b_2 b_3 b_4 b_5 b_6))) := by kernel_rfl
theorem law24_TooLarge_L8_t (m : Den qad) (n : Int) (edges : Int) (calls : Int) (wide : Bool) (i : Int) (k : Int) (j : Int) (f_0 : ByteArray) (f_1 : List (Den I)) (f_2 : Int) (f_3 : List (Den I)) (f_4 : List (Den qaa)) (b_0 : List (Den I)) (b_1 : List (Den qac)) (b_2 : Int) (b_3 : List (Den I)) (b_4 : List (Den I)) (b_5 : List (Den qae)) (b_6 : Int) : run E_V47 H_V47 qax 3000 (qgs m n edges calls wide i k j f_0 f_1 f_2 f_3 f_4 b_0 b_1 b_2 b_3 b_4 b_5 b_6) = (cond (cond (decide (j < ((ln qae b_5) : Int))) (decide (n ≤ (700 : Int))) false) (.chk (0 ≤ j ∧ j < (ln qae b_5)) (.chk ((2 : Int) ≠ 0) (hd (qgs m (IntKind.wrap .i64 (n + (IntKind.wrap .i64 (Int.tdiv ((ln I ((gd qae b_5 j.toNat).2.1)) : Int) (2 : Int))))) edges calls wide i k (IntKind.wrap .i64 (j + (1 : Int))) f_0 f_1 f_2 f_3 f_4 b_0 b_1 b_2 b_3 b_4 b_5 b_6)))) (hd (qdg m n edges calls wide i (IntKind.wrap .i64 (k + (1 : Int))) f_0 f_1 f_2 f_3 f_4))) := by kernel_rfl
def Ex (E : Ctx) (c : Cfg) : Prop := ∃ v, RunI E c v
def ExT (E : Ctx) (t : Tre Leaf) : Prop := ∃ v, t.wp (contL E (IsI v))
theorem ExT.cond {E : Ctx} {b : Bool} {t e : Tre Leaf} (h1 : b = true → ExT E t) (h2 : b = false → ExT E e) : ExT E (cond b t e) := by
 cases b
 ·exact h2 rfl
 ·exact h1 rfl
theorem ExT.chk {E : Ctx} {C : Prop} {t : Tre Leaf} (hC : C) (h : ExT E t) : ExT E (.chk C t) := h.elim fun v hv => ⟨v, hC, fun _ => hv⟩
theorem ExT.know {E : Ctx} {K : Prop} {t : Tre Leaf} (h : ExT E t) : ExT E (.know K t) := h.elim fun v hv => ⟨v, fun _ => hv⟩
theorem ExT.rt {E : Ctx} {k : Int} : ExT E (rt (vi k) []) := ⟨k, rt_iff.2 ⟨rfl, rfl⟩⟩
theorem ExT.hd {E : Ctx} {c : Cfg} (h : Ex E c) : ExT E (hd c) := h.elim fun v hv => ⟨v, hd_iff.2 hv⟩
theorem Ex.tree {E : Ctx} {H : Hints} {f : FuncId} {n : Nat} {c : Cfg} {t : Tre Leaf} (hE : EOK E) (h : run E H f n c = t) (ht : ExT E t) : Ex E c := ht.elim fun v hv => ⟨v, .tree hE h hv⟩
theorem not_lt_self {n : Nat} {P : Prop} {b : Bool} (h : cond (decide ((n : Int) < (n : Int))) b false = true) : P := by
 rw [decide_eq_false (Int.lt_irrefl _)] at h
 exact Bool.noConfusion h
theorem idx_ok {i n : Nat} (h : i < n) : 0 ≤ (i : Int) ∧ (i : Int) < (n : Nat) := ⟨Int.natCast_nonneg _, Int.ofNat_lt.mpr h⟩
theorem tl_l8 (m : Md) (f : Fn) (b : Blk) (i k : Int) (edges calls : Int) (wide : Bool) (hb : okD qaa b) (ih : ∀ n, Ex E_V47 (qdg m n edges calls wide i (IntKind.wrap .i64 (k + 1)) (tOf f.1) f.2.1 (z f.2.2.1) f.2.2.2.1 f.2.2.2.2.1)) : ∀ j : Nat, j ≤ ln qae b.2.2.1.2.2.2.1 → ∀ n, Ex E_V47 (qgs m n edges calls wide i k j (tOf f.1) f.2.1 (z f.2.2.1) f.2.2.2.1 f.2.2.2.2.1 b.1 b.2.1 (z b.2.2.1.1) b.2.2.1.2.1 b.2.2.1.2.2.1 b.2.2.1.2.2.2.1 (z b.2.2.1.2.2.2.2.1)) :=
 qba (fun n => .tree E_V47_ok (law24_TooLarge_L8_t ..) (.cond (fun h => not_lt_self h) fun _ => .hd (ih n)))
  fun j hj ihj n => .tree E_V47_ok (law24_TooLarge_L8_t ..) (.cond (fun _ => .chk (idx_ok hj) (.chk (by decide) (.hd (by
   rw [wrapS hj (qas hb.2.2.1.2.2.2.1.1)]
   exact ihj _)))) fun _ => .hd (ih n))
theorem tl_l6 (m : Md) (f : Fn) (b : Blk) (i k : Int) (edges : Int) (wide : Bool) (hb : okD qaa b) (ih : ∀ n calls, Ex E_V47 (qdg m n edges calls wide i (IntKind.wrap .i64 (k + 1)) (tOf f.1) f.2.1 (z f.2.2.1) f.2.2.2.1 f.2.2.2.2.1)) : ∀ j : Nat, j ≤ ln qac b.2.1 → ∀ n calls, Ex E_V47 (qek m n edges calls wide i k j (tOf f.1) f.2.1 (z f.2.2.1) f.2.2.2.1 f.2.2.2.2.1 b.1 b.2.1 (z b.2.2.1.1) b.2.2.1.2.1 b.2.2.1.2.2.1 b.2.2.1.2.2.2.1 (z b.2.2.1.2.2.2.2.1)) :=
 qba (fun n calls => .tree E_V47_ok (law24_TooLarge_L6_t ..) (.cond (fun h => not_lt_self h) fun _ => .hd (tl_l8 m f b i k edges calls wide hb (fun n => ih n calls) 0 (Nat.zero_le _) n)))
  fun j hj ihj n calls => .tree E_V47_ok (law24_TooLarge_L6_t ..) (.cond (fun _ => .chk (idx_ok hj) (.chk (by decide) (.chk (idx_ok hj) (.cond (fun _ => .hd (by
   rw [wrapS hj (qas hb.2.1.1)]
   exact ihj _ _)) (fun _ => .hd (by
   rw [wrapS hj (qas hb.2.1.1)]
   exact ihj _ _)))))) fun _ => .hd (tl_l8 m f b i k edges calls wide hb (fun n => ih n calls) 0 (Nat.zero_le _) n))
theorem tl_l4 (m : Md) (f : Fn) (i : Int) (hf : okD qab f) (ih : ∀ n edges calls wide, Ex E_V47 (qel m n edges calls wide (IntKind.wrap .i64 (i + 1)))) : ∀ k : Nat, k ≤ ln qaa f.2.2.2.2.1 → ∀ n edges calls wide, Ex E_V47 (qdg m n edges calls wide i k (tOf f.1) f.2.1 (z f.2.2.1) f.2.2.2.1 f.2.2.2.2.1) :=
 qba (fun n edges calls wide => .tree E_V47_ok (law24_TooLarge_L4_t ..) (.cond (fun h => absurd (of_decide_eq_true h) (Int.lt_irrefl _)) fun _ => .hd (ih ..)))
  fun k hk ihk n edges calls wide => .tree E_V47_ok (law24_TooLarge_L4_t ..) (.cond (fun _ => .chk (idx_ok hk) (.hd (tl_l6 m f (gd qaa f.2.2.2.2.1 k) i k _ _ (ok_gd hf.2.2.2.2.1 hk) (fun n calls => by
   rw [wrapS hk (qas hf.2.2.2.2.1.1)]
   exact ihk ..) 0 (Nat.zero_le _) _ calls))) fun _ => .hd (ih ..))
theorem tl_l2 (m : Md) (hm : okD qad m) : ∀ i : Nat, i ≤ ln qab m.2.1 → ∀ n edges calls wide, Ex E_V47 (qel m n edges calls wide i) :=
 qba (fun n edges calls wide => .tree E_V47_ok (law24_TooLarge_L2_t ..) (.cond (fun h => absurd (of_decide_eq_true h) (Int.lt_irrefl _)) fun _ => .cond (fun _ => .rt) fun _ => .rt))
  fun i hi ihi n edges calls wide => .tree E_V47_ok (law24_TooLarge_L2_t ..) (.cond (fun _ => .chk (idx_ok hi) (.cond (fun _ => .rt) fun _ => .hd (tl_l4 m (gd qab m.2.1 i) i (ok_gd hm.2.1 hi) (fun n edges calls wide => by
   rw [wrapS hi (qas hm.2.1.1)]
   exact ihi ..) 0 (Nat.zero_le _) n edges calls wide))) fun _ => .cond (fun _ => .rt) fun _ => .rt)
theorem tl_l0 (m : Md) (hm : okD qad m) : ∀ i : Nat, i ≤ ln qaf m.1 → ∀ n edges calls wide, Ex E_V47 (qem m n edges calls wide i) :=
 qba (fun n edges calls wide => .tree E_V47_ok (law24_TooLarge_L0_t ..) (.cond (fun h => absurd (of_decide_eq_true h) (Int.lt_irrefl _)) fun _ => .hd (tl_l2 m hm 0 (Nat.zero_le _) n edges calls wide)))
  fun i hi ihi n edges calls wide => .tree E_V47_ok (law24_TooLarge_L0_t ..) (.cond (fun _ => .chk (idx_ok hi) (.hd (by
   rw [wrapS hi (qas hm.1.1)]
   exact ihi ..))) fun _ => .hd (tl_l2 m hm 0 (Nat.zero_le _) n edges calls wide))
noncomputable def tlT (m : Md) : Tre Leaf := cond (cond (decide ((ln qaf m.1 : Int) > (8 : Int))) true (decide ((ln qab m.2.1 : Int) > (5 : Int)))) (rt (vi (1 : Int)) []) (hd (qem m (0 : Int) (0 : Int) (0 : Int) false (0 : Int)))
theorem tl_ex (m : Md) : ∃ v, okD qad m → (tlT m).wp (contL E_V47 (IsI v)) := by
 by_cases hm : okD qad m
 ·have h : ExT E_V47 (tlT m) := .cond (fun _ => .rt) fun _ => .hd (tl_l0 m hm 0 (Nat.zero_le _) 0 0 0 false)
  exact h.elim fun v hv => ⟨v, fun _ => hv⟩
 ·exact ⟨0, fun h => absurd h hm⟩
noncomputable def tlF (m : Md) : Int := Classical.choose (tl_ex m)
noncomputable def k_law24_TooLarge : Con := con [.d qad] I (fun x => True) fun x => tlF x.1
theorem m_law24_TooLarge (m : Den qad) (h_m : okD qad m) (hp : True) : Runs E_V47 (start E_V47 qax [(.tv qad m)]) (fun r_ h_ => r_ = (vi (tlF m)) ∧ h_ = []) := .tree E_V47_ok (law24_TooLarge_t m) (by
 show (tlT m).wp (contL _ (IsI (tlF m)))
 exact Classical.choose_spec (tl_ex m) h_m)
theorem c_law24_TooLarge : qal E_V47 qax k_law24_TooLarge.spec := qam fun x hx hp => ⟨rfl, m_law24_TooLarge x.1 hx.1 hp⟩
noncomputable def L_V47 : List (FuncId × FSpec) := [(qax, k_law24_TooLarge.spec)] ++ L_V46
theorem L_V47_ok : ∀ x ∈ L_V47, qal (ctx []) x.1 x.2 := by
 unfold L_V47
 simp only [List.cons_append, List.nil_append, List.forall_mem_cons]
 exact ⟨c_law24_TooLarge, L_V46_ok⟩
end Burn.MTT
namespace Burn.MTT
open Go Go.BE Go.Proofs
set_option maxRecDepth 100000
set_option linter.unusedVariables false
set_option linter.unusedSimpArgs false
open Burn.Intn Burn.Ref
noncomputable def L_V48 : List (FuncId × FSpec) := [] ++ L_V47
theorem L_V48_ok : ∀ x ∈ L_V48, qal (ctx []) x.1 x.2 := L_V47_ok
end Burn.MTT
namespace Burn.MTT
open Go Go.BE Go.Proofs
set_option maxRecDepth 100000
set_option linter.unusedVariables false
set_option linter.unusedSimpArgs false
open Burn.Intn Burn.Ref
def fzI (x : Ins) : Ins := ((cond (z x.1 == (3 : Int)) 4 x.1 : Int), x.2.1, x.2.2.1, x.2.2.2.1, x.2.2.2.2.1, x.2.2.2.2.2.1, x.2.2.2.2.2.2.1, false, x.2.2.2.2.2.2.2.2)
def fzE (e : Edg) : Edg := (e.1, ([] : List (Den I)), e.2.2)
def fzT (t : Trm) : Trm := (t.1, t.2.1, t.2.2.1, t.2.2.2.1.map fzE, t.2.2.2.2)
def fzB (b : Blk) : Blk := (([] : List (Den I)), b.2.1.map fzI, fzT b.2.2.1, b.2.2.2)
def mtF (f : Fn) : MFn := (f.1, f.2.1, f.2.2.1, f.2.2.2.1, (0 : Int), (0 : Int), f.2.2.2.2.1.map fzB, ())
theorem rg_mt (f : Fn) (r : Int) : rgM (mtF f) r = regP f r := by
 unfold rgM regP
 rfl
theorem gd_map {S T : Sh} {g : Den S → Den T} {l : List (Den S)} {i : Nat} (h : i < ln S l) : gd T (l.map g) i = g (gd S l i) := mapTo_gd (f := g) h (i := i) |> fun e => by
 rw [show mapTo g g l i = l.map g by unfold mapTo; rw [← List.map_append, List.take_append_drop]] at e
 exact e
theorem ln_map {S T : Sh} {g : Den S → Den T} {l : List (Den S)} : ln T (l.map g) = ln S l := List.length_map _
theorem qim {D : Nat → Int} : ∀ {n i : Nat}, (∀ j, i ≤ j → j < i + n → D j = 0) → qap D n i = 0
 | 0, _, _ => rfl
 | n + 1, i, h => by
  unfold qap
  rw [h i (Nat.le_refl _) (by omega)]
  exact qim fun j h1 h2 => h j (by omega) (by omega)
theorem orE_zero {a b : Int} (ha : a = 0) (hb : b = 0) : orE a b = 0 := by rw [ha]; exact hb
theorem fz_chk {x : Ins} {f : Fn} {m : Md} (h : chkF x f m = 0) : (1 ≤ z x.1 ∧ z x.1 ≤ 33) ∧ chkF (fzI x) (ByteArray.empty, ([] : List (Den I)), (0 : Int), f.2.2.2.1, ([] : List Blk), ()) m = 0 := by
 have h0 := h
 rw [← chk_eq] at h ⊢
 unfold chkR chkO at h
 obtain ⟨h1, h⟩ := qea (k := 8) (by decide) h
 have hop : 1 ≤ z x.1 ∧ z x.1 ≤ 33 := by
  unfold opB at h1
  cases h2 : decide (z x.1 < (1 : Int)) <;> rw [h2] at h1
  ·exact ⟨by simpa using h2, by simpa using (show decide (z x.1 > (33 : Int)) = false from h1)⟩
  ·exact Bool.noConfusion h1
 refine ⟨hop, ?_⟩
 unfold chkL at h
 obtain ⟨h2, h⟩ := qea (k := 3) (by decide) h
 unfold chkY at h
 obtain ⟨h3, h⟩ := qea (k := 8) (by decide) h
 unfold chkC at h
 obtain ⟨h4, h⟩ := qea (k := 3) (by decide) h
 obtain ⟨h5, h6⟩ := orE_ok h
 by_cases h3x : z x.1 = 3
 ·have ex : fzI x = ((4 : Int), x.2.1, x.2.2.1, x.2.2.2.1, x.2.2.2.2.1, x.2.2.2.2.2.1, x.2.2.2.2.2.2.1, false, x.2.2.2.2.2.2.2.2) := by unfold fzI; rw [h3x]; rfl
  rw [ex]
  show chkL _ _ _ (fldR _) = 0
  have hf : fldR ((4 : Int), x.2.1, x.2.2.1, x.2.2.2.1, x.2.2.2.2.1, x.2.2.2.2.2.1, x.2.2.2.2.2.2.1, false, x.2.2.2.2.2.2.2.2) = false := by
   have h2' := h2
   unfold fldR immOp at h2' ⊢
   rw [h3x] at h2'
   revert h2'
   show _ → cond (cond (z x.2.2.2.2.1 != (0 : Int)) true false) true (cond (cond (z x.2.2.2.2.2.1 != (0 : Int)) true false) true (cond (z x.2.2.2.2.2.2.1 != (0 : Int)) true false)) = false
   show cond (cond (bOf x.2.2.2.2.2.2.2.1) true false) true (cond (cond (z x.2.2.2.2.1 != (0 : Int)) true false) true (cond (cond (z x.2.2.2.2.2.1 != (0 : Int)) true false) true (cond (z x.2.2.2.2.2.2.1 != (0 : Int)) true false))) = false → _
   cases bOf x.2.2.2.2.2.2.2.1
   ·exact fun h => h
   ·exact fun h => Bool.noConfusion h
  rw [hf]
  show chkC _ _ _ (cntB _ m) = 0
  have hcn : cntB ((4 : Int), x.2.1, x.2.2.1, x.2.2.2.1, x.2.2.2.2.1, x.2.2.2.2.2.1, x.2.2.2.2.2.2.1, false, x.2.2.2.2.2.2.2.2) m = false := by
   unfold cntB cnR at h4
   rw [h3x] at h4
   exact h4
  rw [hcn]
  refine orE_zero h5 ?_
  unfold chkS at h6
  obtain ⟨h7, h8⟩ := qea (k := 10) (by decide) h6
  obtain ⟨h9, h10⟩ := qea (k := 9) (by decide) h8
  obtain ⟨h11, h12⟩ := orE_ok h10
  show cond (dstB x f) 10 _ = 0
  rw [h7]
  have hr : rsR ((4 : Int), x.2.1, x.2.2.1, x.2.2.2.1, x.2.2.2.2.1, x.2.2.2.2.2.1, x.2.2.2.2.2.2.1, false, x.2.2.2.2.2.2.2.2) m = true := by
   have h9' : rsR x m = true := by simpa using h9
   unfold rsR at h9'
   rw [h3x] at h9'
   have h13 : cond (typP x.2.1) (z x.2.1 != (5 : Int)) false = true := h9'
   show typP x.2.1 = true
   cases ht : typP x.2.1
   ·rw [ht] at h13; exact Bool.noConfusion h13
   ·rfl
  show cond (!(rsR _ m)) 9 _ = 0
  rw [hr]
  refine orE_zero ?_ ?_
  ·refine qim fun j hj1 hj2 => ?_
   have h14 := firstE_ok h11 j hj1 hj2
   unfold opnI opR at h14 ⊢
   rw [h3x] at h14
   exact h14
  ·unfold chk1 rs1 at h12 ⊢
   rw [h3x] at h12
   obtain ⟨h15, _⟩ := qea (k := 9) (by decide) h12
   show cond _ 9 0 = 0
   exact Bool.cond_neg h15
 ·have e3 : (z x.1 == (3 : Int)) = false := beq_eq_false_iff_ne.mpr h3x
  have ex : fzI x = (x.1, x.2.1, x.2.2.1, x.2.2.2.1, x.2.2.2.2.1, x.2.2.2.2.2.1, x.2.2.2.2.2.2.1, false, x.2.2.2.2.2.2.2.2) := by unfold fzI; rw [e3]; rfl
  rw [ex]
  unfold chkR chkO
  rw [show opB (x.1, x.2.1, x.2.2.1, x.2.2.2.1, x.2.2.2.2.1, x.2.2.2.2.2.1, x.2.2.2.2.2.2.1, false, x.2.2.2.2.2.2.2.2) = false from h1]
  show chkL _ _ _ (fldR _) = 0
  have hf : fldR (x.1, x.2.1, x.2.2.1, x.2.2.2.1, x.2.2.2.2.1, x.2.2.2.2.2.1, x.2.2.2.2.2.2.1, false, x.2.2.2.2.2.2.2.2) = false := by
   have h2' := h2
   unfold fldR at h2' ⊢
   cases hA : cond (bOf x.2.2.2.2.2.2.2.1) (cond (z x.1 != (5 : Int)) (cond (z x.1 != (6 : Int)) (z x.1 != (7 : Int)) false) false) false <;> rw [hA] at h2'
   ·exact h2'
   ·exact Bool.noConfusion h2'
  rw [hf]
  show chkY _ _ _ (symR _ m) = 0
  rw [show symR (x.1, x.2.1, x.2.2.1, x.2.2.2.1, x.2.2.2.2.1, x.2.2.2.2.2.1, x.2.2.2.2.2.2.1, false, x.2.2.2.2.2.2.2.2) m = false from h3]
  show chkC _ _ _ (cntB _ m) = 0
  rw [show cntB (x.1, x.2.1, x.2.2.1, x.2.2.2.1, x.2.2.2.2.1, x.2.2.2.2.2.1, x.2.2.2.2.2.2.1, false, x.2.2.2.2.2.2.2.2) m = false from h4]
  exact orE_zero h5 h6
theorem cond_e {b : Bool} {a e : Int} (he : e ≠ 0) (h : cond b a e = 0) : b = true ∧ a = 0 := by
 cases b
 ·exact absurd h he
 ·exact ⟨rfl, h⟩
theorem fz_shp {m : Md} {f : Fn} {t : Trm} (hk : 1 ≤ z t.1 ∧ z t.1 ≤ 6) (h : shpP m f t = true) : shpM m (mtF f) (fzT t) = true := by
 unfold shpP at h
 unfold shpM
 have hl : (ln qae (fzT t).2.2.2.1 : Int) = (ln qae t.2.2.2.1 : Int) := congrArg _ ln_map
 rw [hl]
 show cond (cond (z t.1 != (6 : Int)) (z t.2.2.2.2.1 != (0 : Int)) false) _ _ = true
 have : z t.1 = 1 ∨ z t.1 = 2 ∨ z t.1 = 3 ∨ z t.1 = 4 ∨ z t.1 = 5 ∨ z t.1 = 6 := by omega
 have hz : z (fzT t).1 = z t.1 := rfl
 rcases this with h1 | h1 | h1 | h1 | h1 | h1 <;> rw [hz, h1] <;> rw [h1] at h
 ·simp [Bool.cond_eq_ite] at h ⊢
  exact ⟨h.1, ⟨h.2.1, h.2.2.1⟩, h.2.2.2⟩
 ·simp [Bool.cond_eq_ite] at h ⊢
  exact ⟨h.1, ⟨h.2.1, h.2.2.1⟩, h.2.2.2⟩
 ·simp [Bool.cond_eq_ite] at h ⊢
  exact ⟨h.1, h.2.1, h.2.2⟩
 ·rw [show z (mtF f).2.2.1 = z f.2.2.1 from rfl]
  cases h5 : z f.2.2.1 == (0 : Int) <;> unfold bne at h <;> rw [h5] at h <;> simp [Bool.cond_eq_ite] at h ⊢ <;> exact ⟨h.1, ⟨h.2.1, h.2.2.1⟩, h.2.2.2⟩
 ·simp [Bool.cond_eq_ite] at h ⊢
  exact ⟨h.1, ⟨h.2.1, h.2.2.1⟩, h.2.2.2⟩
 ·simp [Bool.cond_eq_ite] at h ⊢
  exact ⟨⟨h.1, h.2.1⟩, h.2.2⟩
theorem fz_opd {m : Md} {f : Fn} {t : Trm} {i u : Int} (h : opdP m f t i u = true) : typM m (mtF f) (fzT t) i u = true := by
 unfold opdP at h
 unfold typM
 show cond (z t.1 == (2 : Int)) _ (cond (z t.1 == (3 : Int)) _ (cond (z t.1 == (4 : Int)) _ _)) = true
 cases h2 : z t.1 == (2 : Int) <;> rw [h2] at h
 ·cases h3 : z t.1 == (3 : Int) <;> rw [h3] at h
  ·cases h4 : z t.1 == (4 : Int) <;> rw [h4] at h
   ·cases hr : regP (gd qab m.2.1 (z t.2.2.2.2.1).toNat) (gd I (gd qab m.2.1 (z t.2.2.2.2.1).toNat).2.1 i.toNat)
    ·rw [hr] at h; exact Bool.noConfusion h
    ·rw [hr] at h; exact h
   ·exact h
  ·exact h
 ·exact h
theorem fz_cas {f : Fn} {t : Trm} {i : Nat} (h : casI f t i = 0) : casI5 (mtF f) (fzT t) i = 0 := by
 unfold casI at h
 unfold casI5 casT
 show cond (cond (z t.1 == (3 : Int)) (wrapZ (gd I f.2.2.2.1 (z (gd I t.2.1 0)).toNat) (gd I t.2.2.1 i) != z (gd I t.2.2.1 i)) (cond (decide (z (gd I t.2.2.1 i) < (16 : Int))) true (decide (z (gd I t.2.2.1 i) > (255 : Int))))) 10 (cond (hasI (wn I t.2.2.1 0 i) (gd I t.2.2.1 i)) 7 0) = 0
 have hD : casD t i = 0 → hasI (wn I t.2.2.1 0 i) (gd I t.2.2.1 i) = false := fun hd => by
  have := (qea (k := 7) (by decide) hd).1
  simpa using this
 cases h3 : z t.1 == (3 : Int) <;> rw [h3] at h
 ·obtain ⟨h4, h5⟩ := cond_e (e := 10) (by decide) h
  obtain ⟨h6, h7⟩ := qea (k := 10) (by decide) h5
  rw [show decide (z (gd I t.2.2.1 i) < (16 : Int)) = false by simp at h4 ⊢; omega, show decide (z (gd I t.2.2.1 i) > (255 : Int)) = false by simp at h6 ⊢; omega, hD h7]
  rfl
 ·obtain ⟨h4, h5⟩ := qea (k := 10) (by decide) h
  have h6 : fitP (gd I f.2.2.2.1 (z (gd I t.2.1 0)).toNat) (gd I t.2.2.1 i) = true := by simpa using h4
  have h7 : (wrapZ (gd I f.2.2.2.1 (z (gd I t.2.1 0)).toNat) (gd I t.2.2.1 i) == z (gd I t.2.2.1 i)) = true := by
   unfold fitP at h6
   cases hb : decide (bitsZ (gd I f.2.2.2.1 (z (gd I t.2.1 0)).toNat) > (0 : Int)) <;> rw [hb] at h6
   ·exact Bool.noConfusion h6
   ·exact h6
  unfold bne
  rw [h7, hD h5]
  rfl
theorem fz_edg {f : Fn} {l : List Edg} {i : Nat} (hi : i < ln qae l) (h : edgI f l i = 0) : tmG (mtF f) (l.map fzE) i = 0 := by
 unfold edgI edgE at h
 obtain ⟨h1, h⟩ := cond_e (e := 8) (by decide) h
 obtain ⟨h2, h⟩ := qea (k := 8) (by decide) h
 obtain ⟨h3, _⟩ := qea (k := 3) (by decide) h
 unfold tmG
 rw [gd_map (g := fzE) hi]
 have hl : (ln qaa (mtF f).2.2.2.2.2.2.1 : Int) = (ln qaa f.2.2.2.2.1 : Int) := congrArg _ ln_map
 rw [hl]
 show cond (cond (decide (z (gd qae l i).1 < (0 : Int))) true (decide (z (gd qae l i).1 ≥ (ln qaa f.2.2.2.2.1 : Int)))) 8 (cond (cond (z (gd qae l i).1 == (0 : Int)) true (decide ((0 : Int) > (0 : Int)))) 3 0) = 0
 rw [show decide (z (gd qae l i).1 < (0 : Int)) = false by simp at h1 ⊢; omega, show decide (z (gd qae l i).1 ≥ (ln qaa f.2.2.2.2.1 : Int)) = false by simp at h2 ⊢; omega, show (z (gd qae l i).1 == (0 : Int)) = false by simpa using h3]
 rfl
theorem fz_trm {m : Md} {f : Fn} {t : Trm} (h : trmE m f t = 0) : tmE m (mtF f) (fzT t) = 0 := by
 unfold trmE at h
 obtain ⟨h1, h⟩ := cond_e (e := 9) (by decide) h
 obtain ⟨h2, h⟩ := qea (k := 9) (by decide) h
 have hk : 1 ≤ z t.1 ∧ z t.1 ≤ 6 := ⟨by simpa using h1, by simpa using h2⟩
 have hB : (z t.1 = 6 → 0 ≤ z t.2.2.2.2.1 ∧ z t.2.2.2.2.1 < (ln qab m.2.1 : Nat)) ∧ trmB m f t = 0 := by
  cases h6 : z t.1 != (6 : Int) <;> rw [h6] at h
  ·obtain ⟨h3, h⟩ := cond_e (e := 8) (by decide) h
   obtain ⟨h4, h⟩ := qea (k := 8) (by decide) h
   exact ⟨fun _ => ⟨by simpa using h3, by simpa using h4⟩, h⟩
  ·exact ⟨fun e => by rw [e] at h6; exact absurd h6 (by decide), h⟩
 have hL : tmL t = false ∧ trmC m f t = 0 := by
  have hb := hB.2
  unfold trmB bne at hb
  unfold tmL
  cases h3 : z t.1 == (3 : Int) <;> rw [h3] at hb
  ·exact ⟨rfl, hb⟩
  ·obtain ⟨h4, h⟩ := qea (k := 11) (by decide) hb
   exact ⟨by rw [dle] at h4; simpa using h4, h⟩
 have hC := hL.2
 unfold trmC at hC
 obtain ⟨h5, hC⟩ := qea (k := 3) (by decide) hC
 obtain ⟨hA, hC⟩ := orE_ok hC
 obtain ⟨hS, hC⟩ := orE_ok hC
 obtain ⟨hCs, hE⟩ := orE_ok hC
 have eK : tmK (fzT t) = false := by
  unfold tmK
  rw [show decide (z (fzT t).1 < (1 : Int)) = false from decide_eq_false (by show ¬ z t.1 < 1; omega), show decide (z (fzT t).1 > (6 : Int)) = false from decide_eq_false (by show ¬ z t.1 > 6; omega)]
  rfl
 have eS : tmS m (fzT t) = false := by
  unfold tmS
  show cond (z t.1 == (6 : Int)) (cond (decide (z t.2.2.2.2.1 < (0 : Int))) true (decide (z t.2.2.2.2.1 ≥ (ln qab m.2.1 : Int)))) false = false
  cases h6 : z t.1 == (6 : Int)
  ·rfl
  ·have hq := hB.1 (beq_t h6)
   rw [decide_eq_false (show ¬ z t.2.2.2.2.1 < (0 : Int) by omega), decide_eq_false (show ¬ z t.2.2.2.2.1 ≥ (ln qab m.2.1 : Int) by omega)]
   rfl
 have eL : tmL (fzT t) = false := hL.1
 have eP : (!(shpM m (mtF f) (fzT t))) = false := by rw [fz_shp hk (by simpa using h5)]; rfl
 refine (Bool.cond_neg eK).trans ((Bool.cond_neg eS).trans ((Bool.cond_neg eL).trans ((Bool.cond_neg eP).trans (orE_zero ?_ ?_))))
 ·refine qim fun j hj1 hj2 => ?_
  have ha := firstE_ok hA j hj1 hj2
  obtain ⟨h7, ha⟩ := qea (k := 10) (by decide) ha
  obtain ⟨h8, _⟩ := qea (k := 9) (by decide) ha
  have h9 : regP f (gd I t.2.1 j) = true := by simpa using h7
  have h10 : opdP m f t j (gd I f.2.2.2.1 (z (gd I t.2.1 j)).toNat) = true := by simpa using h8
  show cond (!(rgM (mtF f) (gd I t.2.1 j))) 10 (cond (!(typM m (mtF f) (fzT t) (j : Int) (gd I f.2.2.2.1 (z (gd I t.2.1 j)).toNat))) 9 0) = 0
  rw [rg_mt, h9, fz_opd h10]
  rfl
 ·have e9 : cond (z t.1 == (6 : Int)) (z (gd qab m.2.1 (z t.2.2.2.2.1).toNat).2.2.1 != z f.2.2.1) false = false := by
   unfold trmS bne at hS
   unfold bne
   cases h6 : z t.1 == (6 : Int) <;> rw [h6] at hS
   ·rfl
   ·exact (qea (k := 9) (by decide) hS).1
  refine (Bool.cond_neg e9).trans (orE_zero ?_ ?_)
  ·exact qim fun j hj1 hj2 => fz_cas (firstE_ok hCs j hj1 hj2)
  ·have hl : ln qae (fzT t).2.2.2.1 = ln qae t.2.2.2.1 := ln_map
   rw [hl]
   exact qim fun j hj1 hj2 => fz_edg (by omega) (firstE_ok hE j hj1 hj2)
theorem fz_ins {x : Ins} {f : Fn} {m : Md} (h : chkF x f m = 0) : insR m (mtF f) (fzI x) = 0 := by
 obtain ⟨hop, hc⟩ := fz_chk h
 have ho : z (fzI x).1 ≠ 3 ∧ 1 ≤ z (fzI x).1 ∧ z (fzI x).1 ≤ 33 := by
  show (cond (z x.1 == (3 : Int)) 4 x.1 : Int) ≠ 3 ∧ (1 : Int) ≤ (cond (z x.1 == (3 : Int)) 4 x.1 : Int) ∧ (cond (z x.1 == (3 : Int)) 4 x.1 : Int) ≤ 33
  cases h3 : z x.1 == (3 : Int)
  ·exact ⟨by simpa using h3, hop⟩
  ·exact ⟨show (4 : Int) ≠ 3 by decide, show (1 : Int) ≤ 4 by decide, show (4 : Int) ≤ 33 by decide⟩
 have e40 : (z (fzI x).1 == (40 : Int)) = false := beq_eq_false_iff_ne.mpr (by omega)
 have e41 : (z (fzI x).1 == (41 : Int)) = false := beq_eq_false_iff_ne.mpr (by omega)
 have e3 : (z (fzI x).1 == (3 : Int)) = false := beq_eq_false_iff_ne.mpr ho.1
 unfold insR
 rw [e40, e41, e3, decide_eq_false (show ¬ z (fzI x).1 < (1 : Int) by omega), decide_eq_false (show ¬ z (fzI x).1 > (33 : Int) by omega)]
 exact hc
theorem cond_d {b : Bool} {p : Plc} {k : Int} {d : Dg} (hk : errB (atD p k) = true) (h : errB (cond b (atD p k) d) = false) : b = false ∧ errB d = false := by
 cases b
 ·exact ⟨rfl, h⟩
 ·rw [show cond true (atD p k) d = atD p k from rfl, hk] at h; exact Bool.noConfusion h
theorem cond_g {b : Bool} {p : Plc} {k : Int} {d : Dg} (hk : errB (atD p k) = true) (h : errB (cond b d (atD p k)) = false) : b = true ∧ errB d = false := by
 cases b
 ·rw [show cond false d (atD p k) = atD p k from rfl, hk] at h; exact Bool.noConfusion h
 ·exact ⟨rfl, h⟩
theorem at_zero' {p : Plc} {e : Int} (h : errB (atD p e) = false) : e = 0 := by
 rw [errAt] at h
 simpa using h
theorem typ_all {m : Md} {n : Nat} (h : errB (modD m) = false) (hn : n < ln qab m.2.1) : mchF m (mtF (gd qab m.2.1 n)) = 0 := by
 have h0 : (z (qeo m).1 != (0 : Int)) = false := by unfold qeo; rw [h]; rfl
 obtain ⟨h1, h2⟩ := orD_ok (orD_ok h).2
 have hsig : sigI m.2.1 n = 0 := by
  unfold sigD at h1
  obtain ⟨_, h1⟩ := cond_d rfl h1
  exact at_zero' (firstD_ok h1 n (Nat.zero_le _) (by omega))
 have hbod : errB (bodE m (gd qab m.2.1 n) n) = false := firstD_ok h2 n (Nat.zero_le _) (by omega)
 have hT : sigT (gd qab m.2.1 n) = 0 := (qea (k := 7) (by decide) (qea (k := 6) (by decide) hsig).2).2
 generalize gd qab m.2.1 n = f at hT hbod ⊢
 have hU : cond (z f.2.2.1 != (0 : Int)) (!(typP f.2.2.1)) false = false ∧ sigU f = 0 := by
  unfold sigT at hT
  unfold bne
  cases hr : z f.2.2.1 == (0 : Int) <;> rw [hr] at hT
  ·obtain ⟨h3, h4⟩ := qea (k := 9) (by decide) hT
   exact ⟨h3, h4⟩
  ·exact ⟨rfl, hT⟩
 have hV : sigV f = 0 := (qea (k := 11) (by decide) (cond_e (e := 11) (by decide) hU.2).2).2
 obtain ⟨hty, hpar⟩ := orE_ok hV
 unfold bodE at hbod
 obtain ⟨hb1, hbod⟩ := cond_d rfl hbod
 unfold bodB at hbod
 obtain ⟨_, hbod⟩ := cond_g rfl hbod
 obtain ⟨_, hbod⟩ := cond_d rfl hbod
 have hl : ln qaa (mtF f).2.2.2.2.2.2.1 = ln qaa f.2.2.2.2.1 := ln_map
 refine (Bool.cond_neg h0).trans (orE_zero ?_ ?_)
 ·have hb0 : ((ln qaa (mtF f).2.2.2.2.2.2.1 : Int) == (0 : Int)) = false := by
   rw [hl]
   simp at hb1 ⊢
   omega
  refine (Bool.cond_neg (show hdB (mtF f) = false from rfl)).trans ((Bool.cond_neg hb0).trans ((Bool.cond_neg hU.1).trans (orE_zero hty ?_)))
  refine qim fun j hj1 hj2 => ?_
  have hq := firstE_ok hpar j hj1 hj2
  show cond (!(rgM (mtF f) (gd I f.2.1 j))) 10 (cond (hasI (wn I f.2.1 0 j) (gd I f.2.1 j)) 7 0) = 0
  rw [rg_mt]
  exact hq
 ·rw [hl]
  refine qim fun j hj1 hj2 => ?_
  have hj : j < ln qaa f.2.2.2.2.1 := by omega
  have hk := firstD_ok hbod j hj1 hj2
  unfold blkD blkE at hk
  obtain ⟨_, hk⟩ := orD_ok hk
  obtain ⟨_, hk⟩ := orD_ok hk
  obtain ⟨hi, ht⟩ := orD_ok hk
  show mbK m (mtF f) (gd qaa (f.2.2.2.2.1.map fzB) j) = 0
  rw [gd_map (g := fzB) hj]
  refine (Bool.cond_neg (show decide ((ln I (fzB (gd qaa f.2.2.2.2.1 j)).1 : Int) > (0 : Int)) = false from rfl)).trans (orE_zero ?_ ?_)
  ·have hl2 : ln qac (fzB (gd qaa f.2.2.2.2.1 j)).2.1 = ln qac (gd qaa f.2.2.2.2.1 j).2.1 := ln_map
   rw [hl2]
   refine qim fun k hk1 hk2 => ?_
   have hq := at_zero' (firstD_ok hi k hk1 hk2)
   show insR m (mtF f) (gd qac ((gd qaa f.2.2.2.2.1 j).2.1.map fzI) k) = 0
   rw [gd_map (g := fzI) (by omega)]
   exact fz_ins hq
  ·exact fz_trm (at_zero' ht)
noncomputable def L_V51 : List (FuncId × FSpec) := [] ++ L_V48
theorem L_V51_ok : ∀ x ∈ L_V51, qal (ctx []) x.1 x.2 := L_V48_ok
end Burn.MTT
namespace Burn.MTT
open Go Go.BE Go.Proofs
set_option maxRecDepth 100000
set_option linter.unusedVariables false
set_option linter.unusedSimpArgs false
open Burn.Intn Burn.Ref
noncomputable abbrev E_V52 : Ctx := ctx L_V51
theorem E_V52_ok : EOK E_V52 := qbq L_V51_ok
def cuts_V52 : CutL := [([], 11, 0, [2, 3, 24, 25, 26], [(.c 3 4, .own 136 qaa 2)], []),
 ([], 11, 2, [2, 3, 5, 6, 24, 25, 26, 38, 39, 40], [(.c 6 1, .own 80 qac 1)], []),
 ([], 11, 4, [2, 3, 6, 24, 25, 26, 74, 75, 76], [(.c 6 5, .own 32 qae 1)], [])]
def rets_V52 : FuncId → List (Option Fx)
 | _ => []
def H_V52 : Hints := { cut := cutOf cuts_V52, ret := rets_V52 }
noncomputable def qhx (t24 : List (Den qaa)) (t25 : Int) (t26 : Int) (t2_0 : ByteArray) (t2_2 : Int) (out_0 : ByteArray) (out_2 : Int) (out_1 : List (Den I)) (out_3 : List (Den I)) (out_4 : List (Den qaa)) : Cfg := hcfg E_V52 qbp 0 [(2, (.ref 0 0)), (3, (.ref 1 0)), (24, (.tv (.sl 136 qaa) t24)), (25, (vi t25)), (26, (vi t26))] [(0, ⟨(.cells [(vs t2_0), (.val (.slice none 0 0)), (vi t2_2), (.val (.slice none 0 0)), (.val (.slice none 0 0))]), 0, [], false, none⟩), (1, ⟨(.cells [(vs out_0), (.osl 2 2 [] none), (vi out_2), (.osl 3 3 [] none), (.osl 4 4 [] none)]), 1, [], false, none⟩), (2, ⟨(.arr 0 8 I out_1), 2, [], false, none⟩), (3, ⟨(.arr 0 8 I out_3), 3, [], false, none⟩), (4, ⟨(.arr 2 136 qaa out_4), 4, [], false, none⟩)] 5
noncomputable def qhw (t24 : List (Den qaa)) (t25 : Int) (t26 : Int) (t38 : List (Den qac)) (t39 : Int) (t40 : Int) (t2_0 : ByteArray) (t2_2 : Int) (out_0 : ByteArray) (out_2 : Int) (b_0 : List (Den I)) (b_1 : List (Den qac)) (b_2 : Int) (b_3 : List (Den I)) (b_4 : List (Den I)) (b_5 : List (Den qae)) (b_6 : Int) (x_2 : Int) (x_3 : List (Den I)) (x_4 : List (Den I)) (x_5 : List (Den qae)) (x_6 : Int) (out_1 : List (Den I)) (out_3 : List (Den I)) (out_4 : List (Den qaa)) (x_0 : List (Den I)) (x_1 : List (Den qac)) : Cfg := hcfg E_V52 qbp 2 [(2, (.ref 0 0)), (3, (.ref 1 0)), (5, (.ref 2 0)), (6, (.ref 3 0)), (24, (.tv (.sl 136 qaa) t24)), (25, (vi t25)), (26, (vi t26)), (38, (.tv (.sl 80 qac) t38)), (39, (vi t39)), (40, (vi t40))] [(0, ⟨(.cells [(vs t2_0), (.val (.slice none 0 0)), (vi t2_2), (.val (.slice none 0 0)), (.val (.slice none 0 0))]), 0, [], false, none⟩), (1, ⟨(.cells [(vs out_0), (.osl 4 4 [] none), (vi out_2), (.osl 5 5 [] none), (.osl 6 6 [] none)]), 1, [], false, none⟩), (2, ⟨(.cells [(.tv (.sl 8 I) b_0), (.tv (.sl 80 qac) b_1), (vi b_2), (.tv (.sl 8 I) b_3), (.tv (.sl 8 I) b_4), (.tv (.sl 32 qae) b_5), (vi b_6)]), 2, [], false, none⟩), (3, ⟨(.cells [(.osl 7 7 [] none), (.osl 8 8 [] none), (vi x_2), (.tv (.sl 8 I) x_3), (.tv (.sl 8 I) x_4), (.tv (.sl 32 qae) x_5), (vi x_6)]), 3, [], false, none⟩), (4, ⟨(.arr 0 8 I out_1), 4, [], false, none⟩), (5, ⟨(.arr 0 8 I out_3), 5, [], false, none⟩), (6, ⟨(.arr 2 136 qaa out_4), 6, [], false, none⟩), (7, ⟨(.arr 0 8 I x_0), 7, [], false, none⟩), (8, ⟨(.arr 1 80 qac x_1), 8, [], false, none⟩)] 9
noncomputable def qhv (t24 : List (Den qaa)) (t25 : Int) (t26 : Int) (t74 : List (Den qae)) (t75 : Int) (t76 : Int) (t2_0 : ByteArray) (t2_2 : Int) (out_0 : ByteArray) (out_2 : Int) (x_2 : Int) (x_6 : Int) (out_1 : List (Den I)) (out_3 : List (Den I)) (out_4 : List (Den qaa)) (x_0 : List (Den I)) (x_1 : List (Den qac)) (x_3 : List (Den I)) (x_4 : List (Den I)) (x_5 : List (Den qae)) : Cfg := hcfg E_V52 qbp 4 [(2, (.ref 0 0)), (3, (.ref 1 0)), (6, (.ref 2 0)), (24, (.tv (.sl 136 qaa) t24)), (25, (vi t25)), (26, (vi t26)), (74, (.tv (.sl 32 qae) t74)), (75, (vi t75)), (76, (vi t76))] [(0, ⟨(.cells [(vs t2_0), (.val (.slice none 0 0)), (vi t2_2), (.val (.slice none 0 0)), (.val (.slice none 0 0))]), 0, [], false, none⟩), (1, ⟨(.cells [(vs out_0), (.osl 3 3 [] none), (vi out_2), (.osl 4 4 [] none), (.osl 5 5 [] none)]), 1, [], false, none⟩), (2, ⟨(.cells [(.osl 6 6 [] none), (.osl 7 7 [] none), (vi x_2), (.osl 8 8 [] none), (.osl 9 9 [] none), (.osl 10 10 [] none), (vi x_6)]), 2, [], false, none⟩), (3, ⟨(.arr 0 8 I out_1), 3, [], false, none⟩), (4, ⟨(.arr 0 8 I out_3), 4, [], false, none⟩), (5, ⟨(.arr 2 136 qaa out_4), 5, [], false, none⟩), (6, ⟨(.arr 0 8 I x_0), 6, [], false, none⟩), (7, ⟨(.arr 1 80 qac x_1), 7, [], false, none⟩), (8, ⟨(.arr 0 8 I x_3), 8, [], false, none⟩), (9, ⟨(.arr 0 8 I x_4), 9, [], false, none⟩), (10, ⟨(.arr 1 32 qae x_5), 10, [], false, none⟩)] 11
theorem r14_CloneFunc_t (f : Den qab) : run E_V52 H_V52 qbp 3000 (start E_V52 qbp [(.tv qab f)]) = (.chk (((0 : Nat) + (ln I f.2.1)) * 8 ≤ roomB) (.chk (((0 : Nat) + (ln I f.2.2.2.1)) * 8 ≤ roomB) (hd (qhx f.2.2.2.2.1 ((ln qaa f.2.2.2.2.1) : Int) (0 : Int) ByteArray.empty (0 : Int) (tOf f.1) (z f.2.2.1) (ap I ([] : List (Den I)) f.2.1) (ap I ([] : List (Den I)) f.2.2.2.1) ([] : List (Den qaa)))))) := by kernel_rfl
theorem r14_CloneFunc_L0_t (t24 : List (Den qaa)) (t25 : Int) (t26 : Int) (t2_0 : ByteArray) (t2_2 : Int) (out_0 : ByteArray) (out_2 : Int) (out_1 : List (Den I)) (out_3 : List (Den I)) (out_4 : List (Den qaa)) : run E_V52 H_V52 qbp 3000 (qhx t24 t25 t26 t2_0 t2_2 out_0 out_2 out_1 out_3 out_4) = (cond (decide (t26 < t25)) (.chk (0 ≤ t26 ∧ t26 < (ln qaa t24)) (.chk (((0 : Nat) + (ln I ((gd qaa t24 t26.toNat).1))) * 8 ≤ roomB) (hd (qhw t24 t25 t26 ((gd qaa t24 t26.toNat).2.1) ((ln qac ((gd qaa t24 t26.toNat).2.1)) : Int) (0 : Int) t2_0 t2_2 out_0 out_2 ((gd qaa t24 t26.toNat).1) ((gd qaa t24 t26.toNat).2.1) (z ((gd qaa t24 t26.toNat).2.2.1.1)) ((gd qaa t24 t26.toNat).2.2.1.2.1) ((gd qaa t24 t26.toNat).2.2.1.2.2.1) ((gd qaa t24 t26.toNat).2.2.1.2.2.2.1) (z ((gd qaa t24 t26.toNat).2.2.1.2.2.2.2.1)) (z ((gd qaa t24 t26.toNat).2.2.1.1)) ((gd qaa t24 t26.toNat).2.2.1.2.1) ((gd qaa t24 t26.toNat).2.2.1.2.2.1) ((gd qaa t24 t26.toNat).2.2.1.2.2.2.1) (z ((gd qaa t24 t26.toNat).2.2.1.2.2.2.2.1)) out_1 out_3 out_4 (ap I ([] : List (Den I)) ((gd qaa t24 t26.toNat).1)) ([] : List (Den qac)))))) (rt (.agg [(vs out_0), (.osl 0 0 [] none), (vi out_2), (.osl 1 1 [] none), (.osl 2 2 [] none)]) [(0, ⟨(.arr 0 8 I out_1), 0, [], false, none⟩), (1, ⟨(.arr 0 8 I out_3), 1, [], false, none⟩), (2, ⟨(.arr 2 136 qaa out_4), 2, [], false, none⟩)])) := by kernel_rfl
theorem r14_CloneFunc_L2_t (t24 : List (Den qaa)) (t25 : Int) (t26 : Int) (t38 : List (Den qac)) (t39 : Int) (t40 : Int) (t2_0 : ByteArray) (t2_2 : Int) (out_0 : ByteArray) (out_2 : Int) (b_0 : List (Den I)) (b_1 : List (Den qac)) (b_2 : Int) (b_3 : List (Den I)) (b_4 : List (Den I)) (b_5 : List (Den qae)) (b_6 : Int) (x_2 : Int) (x_3 : List (Den I)) (x_4 : List (Den I)) (x_5 : List (Den qae)) (x_6 : Int) (out_1 : List (Den I)) (out_3 : List (Den I)) (out_4 : List (Den qaa)) (x_0 : List (Den I)) (x_1 : List (Den qac)) : run E_V52 H_V52 qbp 3000 (qhw t24 t25 t26 t38 t39 t40 t2_0 t2_2 out_0 out_2 b_0 b_1 b_2 b_3 b_4 b_5 b_6 x_2 x_3 x_4 x_5 x_6 out_1 out_3 out_4 x_0 x_1) = (cond (decide (t40 < t39)) (.chk (0 ≤ t40 ∧ t40 < (ln qac t38)) (.chk (((0 : Nat) + (ln I ((gd qac t38 t40.toNat).2.2.2.1))) * 8 ≤ roomB) (.chk (((ln qac x_1) + (1 : Nat)) * 80 ≤ roomB) (hd (qhw t24 t25 t26 t38 t39 (IntKind.wrap .i64 (t40 + (1 : Int))) t2_0 t2_2 out_0 out_2 b_0 b_1 b_2 b_3 b_4 b_5 b_6 x_2 x_3 x_4 x_5 x_6 out_1 out_3 out_4 x_0 (ap qac x_1 ([((gd qac t38 t40.toNat).1, (gd qac t38 t40.toNat).2.1, (gd qac t38 t40.toNat).2.2.1, (ap I ([] : List (Den I)) ((gd qac t38 t40.toNat).2.2.2.1)), (gd qac t38 t40.toNat).2.2.2.2)] : List (Den qac)))))))) (.chk (((0 : Nat) + (ln I b_3)) * 8 ≤ roomB) (.chk (((0 : Nat) + (ln I b_4)) * 8 ≤ roomB) (hd (qhv t24 t25 t26 b_5 ((ln qae b_5) : Int) (0 : Int) t2_0 t2_2 out_0 out_2 x_2 x_6 out_1 out_3 out_4 x_0 x_1 (ap I ([] : List (Den I)) b_3) (ap I ([] : List (Den I)) b_4) ([] : List (Den qae))))))) := by kernel_rfl
theorem r14_CloneFunc_L4_t (t24 : List (Den qaa)) (t25 : Int) (t26 : Int) (t74 : List (Den qae)) (t75 : Int) (t76 : Int) (t2_0 : ByteArray) (t2_2 : Int) (out_0 : ByteArray) (out_2 : Int) (x_2 : Int) (x_6 : Int) (out_1 : List (Den I)) (out_3 : List (Den I)) (out_4 : List (Den qaa)) (x_0 : List (Den I)) (x_1 : List (Den qac)) (x_3 : List (Den I)) (x_4 : List (Den I)) (x_5 : List (Den qae)) : run E_V52 H_V52 qbp 3000 (qhv t24 t25 t26 t74 t75 t76 t2_0 t2_2 out_0 out_2 x_2 x_6 out_1 out_3 out_4 x_0 x_1 x_3 x_4 x_5) = (cond (decide (t76 < t75)) (.chk (0 ≤ t76 ∧ t76 < (ln qae t74)) (.chk (((0 : Nat) + (ln I ((gd qae t74 t76.toNat).2.1))) * 8 ≤ roomB) (.chk (((ln qae x_5) + (1 : Nat)) * 32 ≤ roomB) (hd (qhv t24 t25 t26 t74 t75 (IntKind.wrap .i64 (t76 + (1 : Int))) t2_0 t2_2 out_0 out_2 x_2 x_6 out_1 out_3 out_4 x_0 x_1 x_3 x_4 (ap qae x_5 ([((gd qae t74 t76.toNat).1, (ap I ([] : List (Den I)) ((gd qae t74 t76.toNat).2.1)), ())] : List (Den qae)))))))) (.chk (((ln qaa out_4) + (1 : Nat)) * 136 ≤ roomB) (hd (qhx t24 t25 (IntKind.wrap .i64 (t26 + (1 : Int))) t2_0 t2_2 out_0 out_2 out_1 out_3 (ap qaa out_4 ([(x_0, x_1, (x_2, x_3, x_4, x_5, x_6, ()), ())] : List (Den qaa))))))) := by kernel_rfl
def idF (f : Fn) : Fn := f
theorem room8 {l : List (Den I)} (h : okD (.sl 8 I) l) : (0 + ln I l) * 8 ≤ roomB := by
 have : ln I l * 8 ≤ roomB := h.1.1
 omega
theorem nil_ap {S : Sh} {l : List (Den S)} : ap S ([] : List (Den S)) l = l := rfl
theorem r14_CloneFunc_l (f : Fn) (hf : okD qab f) : ∀ i : Nat, i ≤ ln qaa f.2.2.2.2.1 → ∀ a b, Runs E_V52 (qhx f.2.2.2.2.1 (ln qaa f.2.2.2.2.1 : Nat) i a b (tOf f.1) (z f.2.2.1) f.2.1 f.2.2.2.1 (f.2.2.2.2.1.take i)) (fun x h => x = (ownRes 99 qab (idF f)).1 ∧ h = (ownRes 99 qab (idF f)).2) :=
 qba (fun a b => .tree E_V52_ok (r14_CloneFunc_L0_t ..) (by
  rw [show f.2.2.2.2.1.take (ln qaa f.2.2.2.2.1) = f.2.2.2.2.1 from take_ln]
  simp only [sS, sL,  Nat.lt_irrefl]
  exact ⟨rfl, rfl⟩))
  fun i hi ih a b => .tree E_V52_ok (r14_CloneFunc_L0_t ..) (by
   have ho := hf.2.2.2.2.1
   have hob := ok_gd ho hi
   simp only [sS, sL,  hi, nil_ap]
   have hst := take_gd hi
   generalize gd qaa f.2.2.2.2.1 i = B at hob hst
   have k4 : ∀ k : Nat, k ≤ ln qae B.2.2.1.2.2.2.1 → Runs E_V52 (qhv f.2.2.2.2.1 (ln qaa f.2.2.2.2.1 : Nat) i B.2.2.1.2.2.2.1 (ln qae B.2.2.1.2.2.2.1 : Nat) k a b (tOf f.1) (z f.2.2.1) (z B.2.2.1.1) (z B.2.2.1.2.2.2.2.1) f.2.1 f.2.2.2.1 (f.2.2.2.2.1.take i) B.1 B.2.1 B.2.2.1.2.1 B.2.2.1.2.2.1 (B.2.2.1.2.2.2.1.take k)) (fun x h => x = (ownRes 99 qab (idF f)).1 ∧ h = (ownRes 99 qab (idF f)).2) :=
    qba (.tree E_V52_ok (r14_CloneFunc_L4_t ..) (by
     rw [show B.2.2.1.2.2.2.1.take (ln qae B.2.2.1.2.2.2.1) = B.2.2.1.2.2.2.1 from take_ln]
     simp only [sS, sL,  Nat.lt_irrefl, ln_take (Nat.le_of_lt hi), wrapS hi (qas ho.1)]
     refine ⟨room_part ho.1 hi (by decide), fun _ => ?_⟩
     have := ih a b
     rw [hst] at this
     exact this))
     fun k hk ihk => .tree E_V52_ok (r14_CloneFunc_L4_t ..) (by
      have hr := hob.2.2.1.2.2.2.1
      have hi := room8 (ok_gd hr hk).2.1
      rw [take_gd hk] at ihk
      simp only [sS, sL,  hk, ln_take (Nat.le_of_lt hk), wrapS hk (qas hr.1), nil_ap]
      exact ⟨hi, fun _ => ⟨room_part hr.1 hk (by decide), fun _ => ihk⟩⟩)
   have k2 : ∀ k : Nat, k ≤ ln qac B.2.1 → Runs E_V52 (qhw f.2.2.2.2.1 (ln qaa f.2.2.2.2.1 : Nat) i B.2.1 (ln qac B.2.1 : Nat) k a b (tOf f.1) (z f.2.2.1) B.1 B.2.1 (z B.2.2.1.1) B.2.2.1.2.1 B.2.2.1.2.2.1 B.2.2.1.2.2.2.1 (z B.2.2.1.2.2.2.2.1) (z B.2.2.1.1) B.2.2.1.2.1 B.2.2.1.2.2.1 B.2.2.1.2.2.2.1 (z B.2.2.1.2.2.2.2.1) f.2.1 f.2.2.2.1 (f.2.2.2.2.1.take i) B.1 (B.2.1.take k)) (fun x h => x = (ownRes 99 qab (idF f)).1 ∧ h = (ownRes 99 qab (idF f)).2) :=
    qba (.tree E_V52_ok (r14_CloneFunc_L2_t ..) (by
     rw [show B.2.1.take (ln qac B.2.1) = B.2.1 from take_ln]
     simp only [sS, sL,  Nat.lt_irrefl, nil_ap]
     exact ⟨room8 hob.2.2.1.2.1, fun _ => ⟨room8 hob.2.2.1.2.2.1, fun _ => k4 0 (Nat.zero_le _)⟩⟩))
     fun k hk ihk => .tree E_V52_ok (r14_CloneFunc_L2_t ..) (by
      have hr := hob.2.1
      have hi := room8 (ok_gd hr hk).2.2.2.1
      rw [take_gd hk] at ihk
      simp only [sS, sL,  hk, ln_take (Nat.le_of_lt hk), wrapS hk (qas hr.1), nil_ap]
      exact ⟨hi, fun _ => ⟨room_part hr.1 hk (by decide), fun _ => ihk⟩⟩)
   exact ⟨room8 hob.1, fun _ => k2 0 (Nat.zero_le _)⟩)
def k_r14_CloneFunc : Con := conO 99 [.d qab] qab (fun x => True) fun x => idF x.1
theorem m_r14_CloneFunc (f : Den qab) (h_f : okD qab f) (hp : True) : Runs E_V52 (start E_V52 qbp [(.tv qab f)]) (fun r_ h_ => r_ = (ownRes 99 qab (idF f)).1 ∧ h_ = (ownRes 99 qab (idF f)).2) := .tree E_V52_ok (r14_CloneFunc_t f) (by
 simp only [sS, implies_true]
 exact ⟨room8 h_f.2.1, fun _ => ⟨room8 h_f.2.2.2.1, fun _ => r14_CloneFunc_l f h_f 0 (Nat.zero_le _) _ _⟩⟩)
theorem c_r14_CloneFunc : qal E_V52 qbp k_r14_CloneFunc.spec := qam fun x hx hp => ⟨rfl, m_r14_CloneFunc x.1 hx.1 hp⟩
noncomputable def L_V52 : List (FuncId × FSpec) := [(qbp, k_r14_CloneFunc.spec)] ++ L_V51
theorem L_V52_ok : ∀ x ∈ L_V52, qal (ctx []) x.1 x.2 := by
 unfold L_V52
 simp only [List.cons_append, List.nil_append, List.forall_mem_cons]
 exact ⟨c_r14_CloneFunc, L_V51_ok⟩
end Burn.MTT
namespace Burn.MTT
open Go Go.BE Go.Proofs
set_option maxRecDepth 100000
set_option linter.unusedVariables false
set_option linter.unusedSimpArgs false
open Burn.Intn Burn.Ref
def mrg_V53 : FuncId → List Nat
 | 4 => [19, 23, 30, 119]
 | _ => []
noncomputable abbrev E_V53 : Ctx := { ctx L_V52 with mrg := mrg_V53 }
theorem E_V53_ok : EOK E_V53 := have h : EOK (ctx L_V52) := qbq L_V52_ok; ⟨h.ty, h.env, h.fns, h.mixed⟩
def cuts_V53 : CutL := [([], 4, 0, [2, 5, 40, 41], [], []),
 ([], 4, 2, [2, 5, 6, 40, 41, 55, 56], [], []),
 ([], 4, 4, [2, 5, 6, 40, 41, 86, 87], [], [])]
def rets_V53 : FuncId → List (Option Fx)
 | _ => []
def H_V53 : Hints := { cut := cutOf cuts_V53, ret := rets_V53 }
noncomputable def qcf (m : Den qad) (t40 : Int) (t41 : Int) (f_0 : ByteArray) (f_2 : Int) (f_1 : List (Den I)) (f_3 : List (Den I)) (f_4 : List (Den qaa)) : Cfg := hcfg E_V53 qbd 0 [(2, (.rtp qad m)), (5, (.ref 0 0)), (40, (vi t40)), (41, (vi t41))] [(0, ⟨(.cells [(vs f_0), (.osl 1 1 [] none), (vi f_2), (.osl 2 2 [] none), (.osl 3 3 [] none)]), 0, [], false, none⟩), (1, ⟨(.arr 0 8 I f_1), 1, [], false, none⟩), (2, ⟨(.arr 0 8 I f_3), 2, [], false, none⟩), (3, ⟨(.arr 2 136 qaa f_4), 3, [], false, none⟩)] 4
noncomputable def qcv (m : Den qad) (i : Int) (t40 : Int) (t41 : Int) (t55 : Int) (t56 : Int) (f_0 : ByteArray) (f_2 : Int) (f_1 : List (Den I)) (f_3 : List (Den I)) (f_4 : List (Den qaa)) : Cfg := hcfg E_V53 qbd 2 [(2, (.rtp qad m)), (5, (.ref 0 0)), (6, (vi i)), (40, (vi t40)), (41, (vi t41)), (55, (vi t55)), (56, (vi t56))] [(0, ⟨(.cells [(vs f_0), (.osl 1 1 [] none), (vi f_2), (.osl 2 2 [] none), (.osl 3 3 [] none)]), 0, [], false, none⟩), (1, ⟨(.arr 0 8 I f_1), 1, [], false, none⟩), (2, ⟨(.arr 0 8 I f_3), 2, [], false, none⟩), (3, ⟨(.arr 2 136 qaa f_4), 3, [], false, none⟩)] 4
noncomputable def qdq (m : Den qad) (i : Int) (t40 : Int) (t41 : Int) (t86 : Int) (t87 : Int) (f_0 : ByteArray) (f_2 : Int) (f_1 : List (Den I)) (f_3 : List (Den I)) (f_4 : List (Den qaa)) : Cfg := hcfg E_V53 qbd 4 [(2, (.rtp qad m)), (5, (.ref 0 0)), (6, (vi i)), (40, (vi t40)), (41, (vi t41)), (86, (vi t86)), (87, (vi t87))] [(0, ⟨(.cells [(vs f_0), (.osl 1 1 [] none), (vi f_2), (.osl 2 2 [] none), (.osl 3 3 [] none)]), 0, [], false, none⟩), (1, ⟨(.arr 0 8 I f_1), 1, [], false, none⟩), (2, ⟨(.arr 0 8 I f_3), 2, [], false, none⟩), (3, ⟨(.arr 2 136 qaa f_4), 3, [], false, none⟩)] 4
theorem law50_MachineTyped_t (m : Den qad) (fn : Int) : run E_V53 H_V53 qbd 3000 (start E_V53 qbd [(.tv qad m), (vi fn)]) = (.chk (True) (.chk ((((tlF m) == (1 : Int)) = false → (True))) (.know (okD (.int .i64) (tlF m)) (cond (cond (cond (cond ((tlF m) == (1 : Int)) true (!(((z ((qeo m).1)) == (0 : Int)) && (((z ((qeo m).2.1)) == (0 : Int)) && (((z ((qeo m).2.2.1)) == (0 : Int)) && (((z ((qeo m).2.2.2.1)) == (0 : Int)) && (((z ((qeo m).2.2.2.2.1)) == (0 : Int)) && true))))))) true (decide (fn < (0 : Int)))) true (decide (fn ≥ ((ln qab m.2.1) : Int)))) (.chk (True) (.know True (rt (vb (wrkT)) []))) (.chk (0 ≤ fn ∧ fn < (ln qab m.2.1)) (.chk (True) (.know (okAVs [(vs (tOf ((idF (gd qab m.2.1 fn.toNat)).1))), (.osl 0 0 [] none), (vi (z ((idF (gd qab m.2.1 fn.toNat)).2.2.1))), (.osl 1 1 [] none), (.osl 2 2 [] none)]) (hd (qcf m ((ln qaa ((idF (gd qab m.2.1 fn.toNat)).2.2.2.2.1)) : Int) (0 : Int) (tOf ((idF (gd qab m.2.1 fn.toNat)).1)) (z ((idF (gd qab m.2.1 fn.toNat)).2.2.1)) ((idF (gd qab m.2.1 fn.toNat)).2.1) ((idF (gd qab m.2.1 fn.toNat)).2.2.2.1) ((idF (gd qab m.2.1 fn.toNat)).2.2.2.2.1)))))))))) := by kernel_rfl
theorem law50_MachineTyped_L0_t (m : Den qad) (t40 : Int) (t41 : Int) (f_0 : ByteArray) (f_2 : Int) (f_1 : List (Den I)) (f_3 : List (Den I)) (f_4 : List (Den qaa)) : run E_V53 H_V53 qbd 3000 (qcf m t40 t41 f_0 f_2 f_1 f_3 f_4) = (cond (decide (t41 < t40)) (.chk (0 ≤ t41 ∧ t41 < (ln qaa f_4)) (.chk (t41.toNat < (ln qaa f_4)) (.chk (0 ≤ t41 ∧ t41 < (ln qaa (st qaa f_4 t41.toNat (([] : List (Den I)), (gd qaa f_4 t41.toNat).2)))) (.chk (t41.toNat < (ln qaa (st qaa f_4 t41.toNat (([] : List (Den I)), (gd qaa f_4 t41.toNat).2)))) (.chk (t41.toNat < (ln qaa (st qaa f_4 t41.toNat (([] : List (Den I)), (gd qaa f_4 t41.toNat).2)))) (hd (qcv m t41 t40 t41 ((ln qac ((gd qaa (st qaa f_4 t41.toNat (([] : List (Den I)), (gd qaa f_4 t41.toNat).2)) t41.toNat).2.1)) : Int) (0 : Int) f_0 f_2 f_1 f_3 (st qaa f_4 t41.toNat (([] : List (Den I)), (gd qaa f_4 t41.toNat).2))))))))) (.chk ((0 : Nat) < (1 : Nat)) (.chk ((0 : Nat) < (1 : Nat)) (.chk (True) (.chk ((((mchF m (f_0, f_1, f_2, f_3, (0 : Int), (0 : Int), f_4, ())) == (0 : Int)) = true → (True))) (.know (okD (.int .i64) (mchF m (f_0, f_1, f_2, f_3, (0 : Int), (0 : Int), f_4, ()))) (rt (vb (cond ((mchF m (f_0, f_1, f_2, f_3, (0 : Int), (0 : Int), f_4, ())) == (0 : Int)) (wrkT) false)) []))))))) := by kernel_rfl
theorem law50_MachineTyped_L2_t (m : Den qad) (i : Int) (t40 : Int) (t41 : Int) (t55 : Int) (t56 : Int) (f_0 : ByteArray) (f_2 : Int) (f_1 : List (Den I)) (f_3 : List (Den I)) (f_4 : List (Den qaa)) : run E_V53 H_V53 qbd 3000 (qcv m i t40 t41 t55 t56 f_0 f_2 f_1 f_3 f_4) = (cond (decide (t56 < t55)) (.chk (0 ≤ i ∧ i < (ln qaa f_4)) (.chk (i.toNat < (ln qaa f_4)) (.chk (i.toNat < (ln qaa f_4)) (.chk (0 ≤ t56 ∧ t56 < (ln qac ((gd qaa f_4 i.toNat).2.1))) (.chk (i.toNat < (ln qaa f_4)) (.chk (i.toNat < (ln qaa f_4)) (.chk (t56.toNat < (ln qac ((gd qaa f_4 i.toNat).2.1))) (.chk (i.toNat < (ln qaa (st qaa f_4 i.toNat ((gd qaa f_4 i.toNat).1, (st qac ((gd qaa f_4 i.toNat).2.1) t56.toNat ((gd qac ((gd qaa f_4 i.toNat).2.1) t56.toNat).1, (gd qac ((gd qaa f_4 i.toNat).2.1) t56.toNat).2.1, (gd qac ((gd qaa f_4 i.toNat).2.1) t56.toNat).2.2.1, (gd qac ((gd qaa f_4 i.toNat).2.1) t56.toNat).2.2.2.1, (gd qac ((gd qaa f_4 i.toNat).2.1) t56.toNat).2.2.2.2.1, (gd qac ((gd qaa f_4 i.toNat).2.1) t56.toNat).2.2.2.2.2.1, (gd qac ((gd qaa f_4 i.toNat).2.1) t56.toNat).2.2.2.2.2.2.1, false, (gd qac ((gd qaa f_4 i.toNat).2.1) t56.toNat).2.2.2.2.2.2.2.2)), (gd qaa f_4 i.toNat).2.2)))) (.chk (i.toNat < (ln qaa (st qaa f_4 i.toNat ((gd qaa f_4 i.toNat).1, (st qac ((gd qaa f_4 i.toNat).2.1) t56.toNat ((gd qac ((gd qaa f_4 i.toNat).2.1) t56.toNat).1, (gd qac ((gd qaa f_4 i.toNat).2.1) t56.toNat).2.1, (gd qac ((gd qaa f_4 i.toNat).2.1) t56.toNat).2.2.1, (gd qac ((gd qaa f_4 i.toNat).2.1) t56.toNat).2.2.2.1, (gd qac ((gd qaa f_4 i.toNat).2.1) t56.toNat).2.2.2.2.1, (gd qac ((gd qaa f_4 i.toNat).2.1) t56.toNat).2.2.2.2.2.1, (gd qac ((gd qaa f_4 i.toNat).2.1) t56.toNat).2.2.2.2.2.2.1, false, (gd qac ((gd qaa f_4 i.toNat).2.1) t56.toNat).2.2.2.2.2.2.2.2)), (gd qaa f_4 i.toNat).2.2)))) (.chk (t56.toNat < (ln qac ((gd qaa (st qaa f_4 i.toNat ((gd qaa f_4 i.toNat).1, (st qac ((gd qaa f_4 i.toNat).2.1) t56.toNat ((gd qac ((gd qaa f_4 i.toNat).2.1) t56.toNat).1, (gd qac ((gd qaa f_4 i.toNat).2.1) t56.toNat).2.1, (gd qac ((gd qaa f_4 i.toNat).2.1) t56.toNat).2.2.1, (gd qac ((gd qaa f_4 i.toNat).2.1) t56.toNat).2.2.2.1, (gd qac ((gd qaa f_4 i.toNat).2.1) t56.toNat).2.2.2.2.1, (gd qac ((gd qaa f_4 i.toNat).2.1) t56.toNat).2.2.2.2.2.1, (gd qac ((gd qaa f_4 i.toNat).2.1) t56.toNat).2.2.2.2.2.2.1, false, (gd qac ((gd qaa f_4 i.toNat).2.1) t56.toNat).2.2.2.2.2.2.2.2)), (gd qaa f_4 i.toNat).2.2)) i.toNat).2.1))) (cond ((z ((gd qac ((gd qaa (st qaa f_4 i.toNat ((gd qaa f_4 i.toNat).1, (st qac ((gd qaa f_4 i.toNat).2.1) t56.toNat ((gd qac ((gd qaa f_4 i.toNat).2.1) t56.toNat).1, (gd qac ((gd qaa f_4 i.toNat).2.1) t56.toNat).2.1, (gd qac ((gd qaa f_4 i.toNat).2.1) t56.toNat).2.2.1, (gd qac ((gd qaa f_4 i.toNat).2.1) t56.toNat).2.2.2.1, (gd qac ((gd qaa f_4 i.toNat).2.1) t56.toNat).2.2.2.2.1, (gd qac ((gd qaa f_4 i.toNat).2.1) t56.toNat).2.2.2.2.2.1, (gd qac ((gd qaa f_4 i.toNat).2.1) t56.toNat).2.2.2.2.2.2.1, false, (gd qac ((gd qaa f_4 i.toNat).2.1) t56.toNat).2.2.2.2.2.2.2.2)), (gd qaa f_4 i.toNat).2.2)) i.toNat).2.1) t56.toNat).1)) == (3 : Int)) (.chk (i.toNat < (ln qaa (st qaa f_4 i.toNat ((gd qaa f_4 i.toNat).1, (st qac ((gd qaa f_4 i.toNat).2.1) t56.toNat ((gd qac ((gd qaa f_4 i.toNat).2.1) t56.toNat).1, (gd qac ((gd qaa f_4 i.toNat).2.1) t56.toNat).2.1, (gd qac ((gd qaa f_4 i.toNat).2.1) t56.toNat).2.2.1, (gd qac ((gd qaa f_4 i.toNat).2.1) t56.toNat).2.2.2.1, (gd qac ((gd qaa f_4 i.toNat).2.1) t56.toNat).2.2.2.2.1, (gd qac ((gd qaa f_4 i.toNat).2.1) t56.toNat).2.2.2.2.2.1, (gd qac ((gd qaa f_4 i.toNat).2.1) t56.toNat).2.2.2.2.2.2.1, false, (gd qac ((gd qaa f_4 i.toNat).2.1) t56.toNat).2.2.2.2.2.2.2.2)), (gd qaa f_4 i.toNat).2.2)))) (.chk (i.toNat < (ln qaa (st qaa f_4 i.toNat ((gd qaa f_4 i.toNat).1, (st qac ((gd qaa f_4 i.toNat).2.1) t56.toNat ((gd qac ((gd qaa f_4 i.toNat).2.1) t56.toNat).1, (gd qac ((gd qaa f_4 i.toNat).2.1) t56.toNat).2.1, (gd qac ((gd qaa f_4 i.toNat).2.1) t56.toNat).2.2.1, (gd qac ((gd qaa f_4 i.toNat).2.1) t56.toNat).2.2.2.1, (gd qac ((gd qaa f_4 i.toNat).2.1) t56.toNat).2.2.2.2.1, (gd qac ((gd qaa f_4 i.toNat).2.1) t56.toNat).2.2.2.2.2.1, (gd qac ((gd qaa f_4 i.toNat).2.1) t56.toNat).2.2.2.2.2.2.1, false, (gd qac ((gd qaa f_4 i.toNat).2.1) t56.toNat).2.2.2.2.2.2.2.2)), (gd qaa f_4 i.toNat).2.2)))) (.chk (t56.toNat < (ln qac ((gd qaa (st qaa f_4 i.toNat ((gd qaa f_4 i.toNat).1, (st qac ((gd qaa f_4 i.toNat).2.1) t56.toNat ((gd qac ((gd qaa f_4 i.toNat).2.1) t56.toNat).1, (gd qac ((gd qaa f_4 i.toNat).2.1) t56.toNat).2.1, (gd qac ((gd qaa f_4 i.toNat).2.1) t56.toNat).2.2.1, (gd qac ((gd qaa f_4 i.toNat).2.1) t56.toNat).2.2.2.1, (gd qac ((gd qaa f_4 i.toNat).2.1) t56.toNat).2.2.2.2.1, (gd qac ((gd qaa f_4 i.toNat).2.1) t56.toNat).2.2.2.2.2.1, (gd qac ((gd qaa f_4 i.toNat).2.1) t56.toNat).2.2.2.2.2.2.1, false, (gd qac ((gd qaa f_4 i.toNat).2.1) t56.toNat).2.2.2.2.2.2.2.2)), (gd qaa f_4 i.toNat).2.2)) i.toNat).2.1))) (hd (qcv m i t40 t41 t55 (IntKind.wrap .i64 (t56 + (1 : Int))) f_0 f_2 f_1 f_3 (st qaa (st qaa f_4 i.toNat ((gd qaa f_4 i.toNat).1, (st qac ((gd qaa f_4 i.toNat).2.1) t56.toNat ((gd qac ((gd qaa f_4 i.toNat).2.1) t56.toNat).1, (gd qac ((gd qaa f_4 i.toNat).2.1) t56.toNat).2.1, (gd qac ((gd qaa f_4 i.toNat).2.1) t56.toNat).2.2.1, (gd qac ((gd qaa f_4 i.toNat).2.1) t56.toNat).2.2.2.1, (gd qac ((gd qaa f_4 i.toNat).2.1) t56.toNat).2.2.2.2.1, (gd qac ((gd qaa f_4 i.toNat).2.1) t56.toNat).2.2.2.2.2.1, (gd qac ((gd qaa f_4 i.toNat).2.1) t56.toNat).2.2.2.2.2.2.1, false, (gd qac ((gd qaa f_4 i.toNat).2.1) t56.toNat).2.2.2.2.2.2.2.2)), (gd qaa f_4 i.toNat).2.2)) i.toNat ((gd qaa (st qaa f_4 i.toNat ((gd qaa f_4 i.toNat).1, (st qac ((gd qaa f_4 i.toNat).2.1) t56.toNat ((gd qac ((gd qaa f_4 i.toNat).2.1) t56.toNat).1, (gd qac ((gd qaa f_4 i.toNat).2.1) t56.toNat).2.1, (gd qac ((gd qaa f_4 i.toNat).2.1) t56.toNat).2.2.1, (gd qac ((gd qaa f_4 i.toNat).2.1) t56.toNat).2.2.2.1, (gd qac ((gd qaa f_4 i.toNat).2.1) t56.toNat).2.2.2.2.1, (gd qac ((gd qaa f_4 i.toNat).2.1) t56.toNat).2.2.2.2.2.1, (gd qac ((gd qaa f_4 i.toNat).2.1) t56.toNat).2.2.2.2.2.2.1, false, (gd qac ((gd qaa f_4 i.toNat).2.1) t56.toNat).2.2.2.2.2.2.2.2)), (gd qaa f_4 i.toNat).2.2)) i.toNat).1, (st qac ((gd qaa (st qaa f_4 i.toNat ((gd qaa f_4 i.toNat).1, (st qac ((gd qaa f_4 i.toNat).2.1) t56.toNat ((gd qac ((gd qaa f_4 i.toNat).2.1) t56.toNat).1, (gd qac ((gd qaa f_4 i.toNat).2.1) t56.toNat).2.1, (gd qac ((gd qaa f_4 i.toNat).2.1) t56.toNat).2.2.1, (gd qac ((gd qaa f_4 i.toNat).2.1) t56.toNat).2.2.2.1, (gd qac ((gd qaa f_4 i.toNat).2.1) t56.toNat).2.2.2.2.1, (gd qac ((gd qaa f_4 i.toNat).2.1) t56.toNat).2.2.2.2.2.1, (gd qac ((gd qaa f_4 i.toNat).2.1) t56.toNat).2.2.2.2.2.2.1, false, (gd qac ((gd qaa f_4 i.toNat).2.1) t56.toNat).2.2.2.2.2.2.2.2)), (gd qaa f_4 i.toNat).2.2)) i.toNat).2.1) t56.toNat ((4 : Int), (gd qac ((gd qaa (st qaa f_4 i.toNat ((gd qaa f_4 i.toNat).1, (st qac ((gd qaa f_4 i.toNat).2.1) t56.toNat ((gd qac ((gd qaa f_4 i.toNat).2.1) t56.toNat).1, (gd qac ((gd qaa f_4 i.toNat).2.1) t56.toNat).2.1, (gd qac ((gd qaa f_4 i.toNat).2.1) t56.toNat).2.2.1, (gd qac ((gd qaa f_4 i.toNat).2.1) t56.toNat).2.2.2.1, (gd qac ((gd qaa f_4 i.toNat).2.1) t56.toNat).2.2.2.2.1, (gd qac ((gd qaa f_4 i.toNat).2.1) t56.toNat).2.2.2.2.2.1, (gd qac ((gd qaa f_4 i.toNat).2.1) t56.toNat).2.2.2.2.2.2.1, false, (gd qac ((gd qaa f_4 i.toNat).2.1) t56.toNat).2.2.2.2.2.2.2.2)), (gd qaa f_4 i.toNat).2.2)) i.toNat).2.1) t56.toNat).2)), (gd qaa (st qaa f_4 i.toNat ((gd qaa f_4 i.toNat).1, (st qac ((gd qaa f_4 i.toNat).2.1) t56.toNat ((gd qac ((gd qaa f_4 i.toNat).2.1) t56.toNat).1, (gd qac ((gd qaa f_4 i.toNat).2.1) t56.toNat).2.1, (gd qac ((gd qaa f_4 i.toNat).2.1) t56.toNat).2.2.1, (gd qac ((gd qaa f_4 i.toNat).2.1) t56.toNat).2.2.2.1, (gd qac ((gd qaa f_4 i.toNat).2.1) t56.toNat).2.2.2.2.1, (gd qac ((gd qaa f_4 i.toNat).2.1) t56.toNat).2.2.2.2.2.1, (gd qac ((gd qaa f_4 i.toNat).2.1) t56.toNat).2.2.2.2.2.2.1, false, (gd qac ((gd qaa f_4 i.toNat).2.1) t56.toNat).2.2.2.2.2.2.2.2)), (gd qaa f_4 i.toNat).2.2)) i.toNat).2.2))))))) (hd (qcv m i t40 t41 t55 (IntKind.wrap .i64 (t56 + (1 : Int))) f_0 f_2 f_1 f_3 (st qaa f_4 i.toNat ((gd qaa f_4 i.toNat).1, (st qac ((gd qaa f_4 i.toNat).2.1) t56.toNat ((gd qac ((gd qaa f_4 i.toNat).2.1) t56.toNat).1, (gd qac ((gd qaa f_4 i.toNat).2.1) t56.toNat).2.1, (gd qac ((gd qaa f_4 i.toNat).2.1) t56.toNat).2.2.1, (gd qac ((gd qaa f_4 i.toNat).2.1) t56.toNat).2.2.2.1, (gd qac ((gd qaa f_4 i.toNat).2.1) t56.toNat).2.2.2.2.1, (gd qac ((gd qaa f_4 i.toNat).2.1) t56.toNat).2.2.2.2.2.1, (gd qac ((gd qaa f_4 i.toNat).2.1) t56.toNat).2.2.2.2.2.2.1, false, (gd qac ((gd qaa f_4 i.toNat).2.1) t56.toNat).2.2.2.2.2.2.2.2)), (gd qaa f_4 i.toNat).2.2))))))))))))))) (.chk (0 ≤ i ∧ i < (ln qaa f_4)) (.chk (i.toNat < (ln qaa f_4)) (.chk (i.toNat < (ln qaa f_4)) (hd (qdq m i t40 t41 ((ln qae ((gd qaa f_4 i.toNat).2.2.1.2.2.2.1)) : Int) (0 : Int) f_0 f_2 f_1 f_3 f_4)))))) := by kernel_rfl
theorem law50_MachineTyped_L4_t (m : Den qad) (i : Int) (t40 : Int) (t41 : Int) (t86 : Int) (t87 : Int) (f_0 : ByteArray) (f_2 : Int) (f_1 : List (Den I)) (f_3 : List (Den I)) (f_4 : List (Den qaa)) : run E_V53 H_V53 qbd 3000 (qdq m i t40 t41 t86 t87 f_0 f_2 f_1 f_3 f_4) = (cond (decide (t87 < t86)) (.chk (0 ≤ i ∧ i < (ln qaa f_4)) (.chk (i.toNat < (ln qaa f_4)) (.chk (i.toNat < (ln qaa f_4)) (.chk (0 ≤ t87 ∧ t87 < (ln qae ((gd qaa f_4 i.toNat).2.2.1.2.2.2.1))) (.chk (i.toNat < (ln qaa f_4)) (.chk (i.toNat < (ln qaa f_4)) (.chk (t87.toNat < (ln qae ((gd qaa f_4 i.toNat).2.2.1.2.2.2.1))) (hd (qdq m i t40 t41 t86 (IntKind.wrap .i64 (t87 + (1 : Int))) f_0 f_2 f_1 f_3 (st qaa f_4 i.toNat ((gd qaa f_4 i.toNat).1, (gd qaa f_4 i.toNat).2.1, ((gd qaa f_4 i.toNat).2.2.1.1, (gd qaa f_4 i.toNat).2.2.1.2.1, (gd qaa f_4 i.toNat).2.2.1.2.2.1, (st qae ((gd qaa f_4 i.toNat).2.2.1.2.2.2.1) t87.toNat ((gd qae ((gd qaa f_4 i.toNat).2.2.1.2.2.2.1) t87.toNat).1, ([] : List (Den I)), (gd qae ((gd qaa f_4 i.toNat).2.2.1.2.2.2.1) t87.toNat).2.2)), (gd qaa f_4 i.toNat).2.2.1.2.2.2.2), (gd qaa f_4 i.toNat).2.2.2))))))))))) (hd (qcf m t40 (IntKind.wrap .i64 (t41 + (1 : Int))) f_0 f_2 f_1 f_3 f_4))) := by kernel_rfl
def yesT (m : Md) (fn : Int) : Bool := true
theorem or_f {a b : Bool} (h : cond a true b = false) : a = false ∧ b = false := by
 cases a
 ·exact ⟨rfl, h⟩
 ·exact Bool.noConfusion h
theorem typ_end {m : Md} {f : Fn} (h : mchF m (mtF f) = 0) : vb (cond (mchF m (tOf f.1, f.2.1, z f.2.2.1, f.2.2.2.1, (0 : Int), (0 : Int), f.2.2.2.2.1.map fzB, ()) == (0 : Int)) wrkT false) = vb true := by
 show vb (cond (mchF m (mtF f) == (0 : Int)) wrkT false) = vb true
 rw [h]
 rfl
theorem mt_l4 (m : Md) (f : Fn) (i : Nat) (b : Blk) (L : List Blk) (hi : i < ln qaa L) (hb : okD qaa b) (n : Int)
  (ih : Runs E_V53 (qcf m n (IntKind.wrap .i64 ((i : Int) + 1)) (tOf f.1) (z f.2.2.1) f.2.1 f.2.2.2.1 (st qaa L i (fzB b))) (fun r h => r = vb true ∧ h = [])) : ∀ k : Nat, k ≤ ln qae b.2.2.1.2.2.2.1 → Runs E_V53 (qdq m i n i (ln qae b.2.2.1.2.2.2.1 : Nat) k (tOf f.1) (z f.2.2.1) f.2.1 f.2.2.2.1 (st qaa L i (([] : List (Den I)), b.2.1.map fzI, (b.2.2.1.1, b.2.2.1.2.1, b.2.2.1.2.2.1, mapTo fzE (fun e => e) b.2.2.1.2.2.2.1 k, b.2.2.1.2.2.2.2), b.2.2.2))) (fun r h => r = vb true ∧ h = []) :=
 qba (.tree E_V53_ok (law50_MachineTyped_L4_t ..) (by
  rw [mapTo_n]
  simp only [sS, sL,  Nat.lt_irrefl]
  exact ih))
  fun k hk ihk => .tree E_V53_ok (law50_MachineTyped_L4_t ..) (by
   have hs : k < ln qae (mapTo fzE (fun e => e) b.2.2.1.2.2.2.1 k) := by rw [mapTo_len]; exact hk
   simp only [sS, sL,  hk, wrapS hk (qas hb.2.2.1.2.2.2.1.1), gd_st hi, ln_st, hi, st_st, hs, mapTo_gd hk]
   rw [← mapTo_st hk] at ihk
   exact ihk)
theorem fzI_t {x : Ins} (h : (z x.1 == (3 : Int)) = true) : fzI x = ((4 : Int), x.2.1, x.2.2.1, x.2.2.2.1, x.2.2.2.2.1, x.2.2.2.2.2.1, x.2.2.2.2.2.2.1, false, x.2.2.2.2.2.2.2.2) := by unfold fzI; rw [h]; rfl
theorem fzI_f {x : Ins} (h : (z x.1 == (3 : Int)) = false) : fzI x = (x.1, x.2.1, x.2.2.1, x.2.2.2.1, x.2.2.2.2.1, x.2.2.2.2.2.1, x.2.2.2.2.2.2.1, false, x.2.2.2.2.2.2.2.2) := by unfold fzI; rw [h]; rfl
theorem mt_l2 (m : Md) (f : Fn) (i : Nat) (b : Blk) (L : List Blk) (hi : i < ln qaa L) (hb : okD qaa b) (n : Int)
  (ih : Runs E_V53 (qcf m n (IntKind.wrap .i64 ((i : Int) + 1)) (tOf f.1) (z f.2.2.1) f.2.1 f.2.2.2.1 (st qaa L i (fzB b))) (fun r h => r = vb true ∧ h = [])) : ∀ k : Nat, k ≤ ln qac b.2.1 → Runs E_V53 (qcv m i n i (ln qac b.2.1 : Nat) k (tOf f.1) (z f.2.2.1) f.2.1 f.2.2.2.1 (st qaa L i (([] : List (Den I)), mapTo fzI (fun x => x) b.2.1 k, b.2.2))) (fun r h => r = vb true ∧ h = []) :=
 qba (.tree E_V53_ok (law50_MachineTyped_L2_t ..) (by
  have go := mt_l4 m f i b L hi hb n ih 0 (Nat.zero_le _)
  rw [mapTo_0, List.map_id'] at go
  rw [mapTo_n]
  simp only [sS, sL,  Nat.lt_irrefl, gd_st hi, ln_st, hi]
  exact go))
  fun k hk ihk => .tree E_V53_ok (law50_MachineTyped_L2_t ..) (by
   have hs : k < ln qac (mapTo fzI (fun x => x) b.2.1 k) := by rw [mapTo_len]; exact hk
   rw [← mapTo_st hk] at ihk
   simp only [sS, sL,  hk, wrapS hk (qas hb.2.1.1), gd_st hi, gd_st hs, ln_st, hi, st_st, hs, mapTo_gd hk]
   refine ⟨fun h => ?_, fun h => ?_⟩
   ·rw [fzI_t h] at ihk
    exact ihk
   ·rw [fzI_f h] at ihk
    exact ihk)
theorem mt_l0 (m : Md) (f : Fn) (hf : okD qab f) (hok : mchF m (mtF f) = 0) : ∀ i : Nat, i ≤ ln qaa f.2.2.2.2.1 → Runs E_V53 (qcf m (ln qaa f.2.2.2.2.1 : Nat) i (tOf f.1) (z f.2.2.1) f.2.1 f.2.2.2.1 (mapTo fzB (fun b => b) f.2.2.2.2.1 i)) (fun r h => r = vb true ∧ h = []) :=
 qba (.tree E_V53_ok (law50_MachineTyped_L0_t ..) (by
  rw [mapTo_n]
  simp only [sS, sL,  Nat.lt_irrefl]
  exact fun _ => typ_end hok))
  fun i hi ih => .tree E_V53_ok (law50_MachineTyped_L0_t ..) (by
   have hs : i < ln qaa (mapTo fzB (fun b => b) f.2.2.2.2.1 i) := by rw [mapTo_len]; exact hi
   rw [← mapTo_st hi] at ih
   have go := mt_l2 m f i (gd qaa f.2.2.2.2.1 i) (mapTo fzB (fun b => b) f.2.2.2.2.1 i) hs (ok_gd hf.2.2.2.2.1 hi) (ln qaa f.2.2.2.2.1 : Nat) (by
    rw [wrapS hi (qas hf.2.2.2.2.1.1)]
    exact ih) 0 (Nat.zero_le _)
   rw [mapTo_0, List.map_id'] at go
   simp only [sS, sL,  hi, hs, gd_st hs, ln_st, mapTo_gd hi]
   exact go)
def k_law50_MachineTyped : Con := con [.d qad, .d I] .bool (fun x => True) fun x => yesT x.1 x.2.1
theorem m_law50_MachineTyped (m : Den qad) (fn : Int) (h_m : okD qad m) (h_fn : okD I fn) (hp : True) : Runs E_V53 (start E_V53 qbd [(.tv qad m), (vi fn)]) (fun r_ h_ => r_ = (vb (yesT m fn)) ∧ h_ = []) := .tree E_V53_ok (law50_MachineTyped_t m fn) (by
 simp only [sS, implies_true]
 refine fun _ => ⟨fun _ => rfl, fun h => ?_⟩
 obtain ⟨h1, h2⟩ := or_f h
 obtain ⟨h3, h4⟩ := or_f h1
 obtain ⟨_, h6⟩ := or_f h3
 have h7 : (z (qeo m).1 == (0 : Int)) = true := by
  rw [Bool.not_eq_false'] at h6
  exact (Bool.and_eq_true_iff.mp h6).1
 have hd := mod_ok (m := m) (by unfold bne; rw [h7]; rfl)
 have h8 : ¬ fn < 0 := of_decide_eq_false h4
 have h9 : ¬ fn ≥ (ln qab m.2.1 : Int) := of_decide_eq_false h2
 obtain ⟨n, rfl⟩ : ∃ n : Nat, fn = n := ⟨fn.toNat, by omega⟩
 have hn : n < ln qab m.2.1 := by omega
 refine ⟨⟨Int.natCast_nonneg _, Int.ofNat_lt.mpr hn⟩, fun _ _ => ?_⟩
 have go := mt_l0 m (gd qab m.2.1 n) (ok_gd h_m.2.1 hn) (typ_all hd hn) 0 (Nat.zero_le _)
 rw [mapTo_0, List.map_id'] at go
 exact go)
theorem c_law50_MachineTyped : qal E_V53 qbd k_law50_MachineTyped.spec := qam fun x hx hp => ⟨rfl, m_law50_MachineTyped x.1 x.2.1 hx.1 hx.2.1 hp⟩
end Burn.MTT

/- What the functions that the law reaches compute, one contract each. No conditions beyond those written. -/
import Derived.Test.YteaealfalanccaaDoorWalkB
namespace Burn.MM
open Go Go.BE Go.Proofs
set_option maxRecDepth 100000
set_option linter.unusedVariables false
set_option linter.unusedSimpArgs false
open Burn.Intn Burn.Ref
noncomputable abbrev E_V43 : Ctx := ctx L_V42
def nodF (x : Den (.int .u64)) : Int := 0
def nobF (a : List (Den (.int .u8))) (x : Den (.int .u64)) (b : Int) (n p : Bool) : List (Den (.int .u8)) × ByteArray := ([], ByteArray.empty)

def qev : Con := con [.d (.int .u64)] I (fun x => False) fun x => nodF x.1
theorem c_internal_strconv_numDigits : qal E_V43 qew qev.spec := qan fun x hx hp => hp.elim

def qeh : Con := conT2 [.d (.sl 1 (.int .u8)), .d (.int .u64), .d I, .d .bool, .d .bool] (.sl 1 (.int .u8)) .str (fun x => False) fun x => nobF x.1 x.2.1 x.2.2.1 x.2.2.2.1 x.2.2.2.2.1
theorem c_internal_strconv_formatBits : qal E_V43 qeo qeh.spec := qan fun x hx hp => hp.elim
def L_V43 : List (FuncId × FSpec) := [(qew, qev.spec), (qeo, qeh.spec)] ++ L_V42
theorem L_V43_ok : ∀ x ∈ L_V43, qal (ctx []) x.1 x.2 := by
 unfold L_V43
 simp only [List.cons_append, List.nil_append, List.forall_mem_cons]
 exact ⟨c_internal_strconv_numDigits, c_internal_strconv_formatBits, L_V42_ok⟩
end Burn.MM
namespace Burn.MM
open Go Go.BE Go.Proofs
set_option maxRecDepth 100000
set_option linter.unusedVariables false
set_option linter.unusedSimpArgs false
open Burn.Intn Burn.Ref
noncomputable abbrev E_V44 : Ctx := ctx L_V43
theorem E_V44_ok : EOK E_V44 := qch L_V43_ok
def cuts_V44 : CutL := []
def rets_V44 : FuncId → List (Option Fx)
 | 12 => [some (.dat qah), some (.dat qam)]
 | 21 => [some (.dat (.sl 8 I))]
 | _ => []
def H_V44 : Hints := { cut := cutOf cuts_V44, ret := rets_V44 }
theorem law50_empty_t : run E_V44 H_V44 f_law50_empty 3000 (start E_V44 f_law50_empty []) = (rt (.tup [(.tv qah (([] : List (Den qaf)), ([(⟨#[102]⟩, ([] : List (Den I)), (0 : Int), ([] : List (Den I)), ([(([] : List (Den I)), ([] : List (Den qad)), ((4 : Int), ([] : List (Den I)), ([] : List (Den I)), ([] : List (Den qae)), (0 : Int), ()), ())] : List (Den qac)), ())] : List (Den qaa)), ())), (.tv qam (⟨#[102]⟩, ([] : List (Den I)), (0 : Int), ([] : List (Den I)), (8 : Int), (0 : Int), ([(([] : List (Den I)), ([] : List (Den qad)), ((4 : Int), ([] : List (Den I)), ([] : List (Den I)), ([] : List (Den qae)), (0 : Int), ()), ())] : List (Den qac)), ()))]) []) := by kernel_rfl
theorem machine_counted_t (l : List (Den I)) : run E_V44 H_V44 qdy 3000 (start E_V44 qdy [(.tv (.sl 8 I) l)]) = (.chk (((1 : Nat) + (ln I l)) * 8 ≤ roomB) (rt (.tv (.sl 8 I) (ap I ([((ln I l) : Int)] : List (Den I)) l)) [])) := by kernel_rfl
theorem strconv_Itoa_t (i : Int) : run E_V44 H_V44 qgm 3000 (start E_V44 qgm [(vi i)]) = (cond (decide ((0 : Int) ≤ i)) (cond (decide (i < (100 : Int))) (cond (decide (i < (10 : Int))) (.chk (0 ≤ i ∧ i ≤ (IntKind.wrap .i64 (i + (1 : Int))) ∧ (IntKind.wrap .i64 (i + (1 : Int))) ≤ (36 : Int)) (rt (vs (ByteArray.extract ⟨#[48, 49, 50, 51, 52, 53, 54, 55, 56, 57, 97, 98, 99, 100, 101, 102, 103, 104, 105, 106, 107, 108, 109, 110, 111, 112, 113, 114, 115, 116, 117, 118, 119, 120, 121, 122]⟩ i.toNat ((IntKind.wrap .i64 (i + (1 : Int)))).toNat)) [])) (.chk (0 ≤ (IntKind.wrap .i64 (i * (2 : Int))) ∧ (IntKind.wrap .i64 (i * (2 : Int))) ≤ (IntKind.wrap .i64 ((IntKind.wrap .i64 (i * (2 : Int))) + (2 : Int))) ∧ (IntKind.wrap .i64 ((IntKind.wrap .i64 (i * (2 : Int))) + (2 : Int))) ≤ (200 : Int)) (rt (vs (ByteArray.extract ⟨#[48, 48, 48, 49, 48, 50, 48, 51, 48, 52, 48, 53, 48, 54, 48, 55, 48, 56, 48, 57, 49, 48, 49, 49, 49, 50, 49, 51, 49, 52, 49, 53, 49, 54, 49, 55, 49, 56, 49, 57, 50, 48, 50, 49, 50, 50, 50, 51, 50, 52, 50, 53, 50, 54, 50, 55, 50, 56, 50, 57, 51, 48, 51, 49, 51, 50, 51, 51, 51, 52, 51, 53, 51, 54, 51, 55, 51, 56, 51, 57, 52, 48, 52, 49, 52, 50, 52, 51, 52, 52, 52, 53, 52, 54, 52, 55, 52, 56, 52, 57, 53, 48, 53, 49, 53, 50, 53, 51, 53, 52, 53, 53, 53, 54, 53, 55, 53, 56, 53, 57, 54, 48, 54, 49, 54, 50, 54, 51, 54, 52, 54, 53, 54, 54, 54, 55, 54, 56, 54, 57, 55, 48, 55, 49, 55, 50, 55, 51, 55, 52, 55, 53, 55, 54, 55, 55, 55, 56, 55, 57, 56, 48, 56, 49, 56, 50, 56, 51, 56, 52, 56, 53, 56, 54, 56, 55, 56, 56, 56, 57, 57, 48, 57, 49, 57, 50, 57, 51, 57, 52, 57, 53, 57, 54, 57, 55, 57, 56, 57, 57]⟩ ((IntKind.wrap .i64 (i * (2 : Int)))).toNat ((IntKind.wrap .i64 ((IntKind.wrap .i64 (i * (2 : Int))) + (2 : Int)))).toNat)) []))) (cond (decide (i < (0 : Int))) (.chk (False) (.know (okD (.int .i64) (nodF (IntKind.wrap .u64 ((0 : Int) - (IntKind.wrap .u64 i))))) .bad)) (.chk (False) (.know (okD (.int .i64) (nodF (IntKind.wrap .u64 i))) .bad)))) (cond (decide (i < (0 : Int))) (.chk (False) (.know (okD (.int .i64) (nodF (IntKind.wrap .u64 ((0 : Int) - (IntKind.wrap .u64 i))))) .bad)) (.chk (False) (.know (okD (.int .i64) (nodF (IntKind.wrap .u64 i))) .bad)))) := by kernel_rfl
def empF : Den qah × Den qam := ((([] : List (Den qaf)), ([(⟨#[102]⟩, ([] : List (Den I)), (0 : Int), ([] : List (Den I)), ([(([] : List (Den I)), ([] : List (Den qad)), ((4 : Int), ([] : List (Den I)), ([] : List (Den I)), ([] : List (Den qae)), (0 : Int), ()), ())] : List (Den qac)), ())] : List (Den qaa)), ()), (⟨#[102]⟩, ([] : List (Den I)), (0 : Int), ([] : List (Den I)), (8 : Int), (0 : Int), ([(([] : List (Den I)), ([] : List (Den qad)), ((4 : Int), ([] : List (Den I)), ([] : List (Den I)), ([] : List (Den qae)), (0 : Int), ()), ())] : List (Den qac)), ()))

def k_law50_empty : Con := conT2 [] qah qam (fun x => True) fun x => empF
theorem m_law50_empty (hp : True) : Runs E_V44 (start E_V44 f_law50_empty []) (fun r_ h_ => r_ = (.tup [(.tv qah (([] : List (Den qaf)), ([(⟨#[102]⟩, ([] : List (Den I)), (0 : Int), ([] : List (Den I)), ([(([] : List (Den I)), ([] : List (Den qad)), ((4 : Int), ([] : List (Den I)), ([] : List (Den I)), ([] : List (Den qae)), (0 : Int), ()), ())] : List (Den qac)), ())] : List (Den qaa)), ())), (.tv qam (⟨#[102]⟩, ([] : List (Den I)), (0 : Int), ([] : List (Den I)), (8 : Int), (0 : Int), ([(([] : List (Den I)), ([] : List (Den qad)), ((4 : Int), ([] : List (Den I)), ([] : List (Den I)), ([] : List (Den qae)), (0 : Int), ()), ())] : List (Den qac)), ()))]) ∧ h_ = []) := .tree E_V44_ok (law50_empty_t) (by
 show Tre.wp (Qv _ (fun x_ => (.tup [(.tv qah x_.1), (.tv qam x_.2)])) (empF)) _
 unfold empF
 exact ⟨rfl, rfl⟩)
theorem c_law50_empty : qal E_V44 f_law50_empty k_law50_empty.spec := qan fun x hx hp => ⟨rfl, m_law50_empty hp⟩
def cntL (l : List (Den I)) : Den (.sl 8 I) := (ap I ([((ln I l) : Int)] : List (Den I)) l)

def k_machine_counted : Con := con [.d (.sl 8 I)] (.sl 8 I) (fun x => (1 + ln I x.1) * 8 ≤ roomB) fun x => cntL x.1
theorem m_machine_counted (l : List (Den I)) (h_l : okD (.sl 8 I) l) (hp : (1 + ln I l) * 8 ≤ roomB) : Runs E_V44 (start E_V44 qdy [(.tv (.sl 8 I) l)]) (fun r_ h_ => r_ = (.tv (.sl 8 I) (ap I ([((ln I l) : Int)] : List (Den I)) l)) ∧ h_ = []) := .tree E_V44_ok (machine_counted_t l) (by
 have hp_ := hp
 try simp only [z] at hp_
 show Tre.wp (Qv _ (fun x_ => (.tv (.sl 8 I) x_)) (cntL l)) _
 unfold cntL
 refine ⟨by first | omega | assumption | exact hp.1 | exact hp.2 | exact hp.2.1 | (simp_all; done) | (simp_all; omega), fun _ => ?_⟩
 exact ⟨rfl, rfl⟩)
theorem c_machine_counted : qal E_V44 qdy k_machine_counted.spec := qan fun x hx hp => ⟨rfl, m_machine_counted x.1 hx.1 hp⟩
def itoF (n : Int) : ByteArray := ByteArray.extract ⟨#[48, 49, 50, 51, 52, 53, 54, 55, 56, 57, 97, 98, 99, 100, 101, 102, 103, 104, 105, 106, 107, 108, 109, 110, 111, 112, 113, 114, 115, 116, 117, 118, 119, 120, 121, 122]⟩ n.toNat (IntKind.wrap .i64 (n + 1)).toNat

def k_strconv_Itoa : Con := con [.d I] .str (fun x => 0 ≤ z x.1 ∧ z x.1 < 10) fun x => itoF x.1
theorem m_strconv_Itoa (i : Int) (h_i : okD I i) (hp : 0 ≤ z i ∧ z i < 10) : Runs E_V44 (start E_V44 qgm [(vi i)]) (fun r_ h_ => r_ = (vs (itoF i)) ∧ h_ = []) := .tree E_V44_ok (strconv_Itoa_t i) (by
 have h1 : 0 ≤ i := hp.1
 have h2 : i < 10 := hp.2
 have hw : IntKind.wrap .i64 (i + 1) = i + 1 := wrap64 _ (by omega) (by omega)
 rw [decide_eq_true h1, decide_eq_true (show i < 100 by omega), decide_eq_true h2]
 simp only [cond_true]
 simp only [sS, implies_true]
 exact ⟨by rw [hw]; omega, fun _ => rfl⟩)
theorem c_strconv_Itoa : qal E_V44 qgm k_strconv_Itoa.spec := qan fun x hx hp => ⟨rfl, m_strconv_Itoa x.1 hx.1 hp⟩
def L_V44 : List (FuncId × FSpec) := [(f_law50_empty, k_law50_empty.spec), (qdy, k_machine_counted.spec), (qgm, k_strconv_Itoa.spec)] ++ L_V43
theorem L_V44_ok : ∀ x ∈ L_V44, qal (ctx []) x.1 x.2 := by
 unfold L_V44
 simp only [List.cons_append, List.nil_append, List.forall_mem_cons]
 exact ⟨c_law50_empty, c_machine_counted, c_strconv_Itoa, L_V43_ok⟩
end Burn.MM
namespace Burn.MM
open Go Go.BE Go.Proofs
set_option maxRecDepth 100000
set_option linter.unusedVariables false
set_option linter.unusedSimpArgs false
open Burn.Intn Burn.Ref
noncomputable abbrev E_V45 : Ctx := ctx L_V44
theorem E_V45_ok : EOK E_V45 := qch L_V44_ok
def cuts_V45 : CutL := [([], 22, 0, [0, 7, 8, 9], [], [])]
def rets_V45 : FuncId → List (Option Fx)
 | _ => []
def H_V45 : Hints := { cut := cutOf cuts_V45, ret := rets_V45 }
noncomputable def machine_line_L0 (word : ByteArray) (t7 : List (Den I)) (t8 : Int) (t9 : Int) : Cfg := hcfg E_V45 qdj 0 [(0, (vs word)), (7, (.tv (.sl 8 I) t7)), (8, (vi t8)), (9, (vi t9))] [] 0
theorem machine_line_t (word : ByteArray) (l : List (Den I)) : run E_V45 H_V45 qdj 3000 (start E_V45 qdj [(vs word), (.tv (.sl 8 I) l)]) = (hd (machine_line_L0 word l ((ln I l) : Int) (0 : Int))) := by kernel_rfl
theorem machine_line_L0_t (word : ByteArray) (t7 : List (Den I)) (t8 : Int) (t9 : Int) : run E_V45 H_V45 qdj 3000 (machine_line_L0 word t7 t8 t9) = (cond (decide (t9 < t8)) (.chk (0 ≤ t9 ∧ t9 < (ln I t7)) (.chk (0 ≤ z (gd I t7 t9.toNat) ∧ z (gd I t7 t9.toNat) < 10) (.know (okD .str (itoF (gd I t7 t9.toNat))) (.chk (((1 : Nat) + ((itoF (gd I t7 t9.toNat))).size) ≤ roomB) (.chk (((word).size + ((⟨#[32]⟩ ++ (itoF (gd I t7 t9.toNat)))).size) ≤ roomB) (hd (machine_line_L0 (word ++ (⟨#[32]⟩ ++ (itoF (gd I t7 t9.toNat)))) t7 t8 (IntKind.wrap .i64 (t9 + (1 : Int)))))))))) (rt (vs word) [])) := by kernel_rfl
def linF : ByteArray → List (Den I) → ByteArray
 | w, [] => w
 | w, n :: l => linF (w ++ (⟨#[32]⟩ ++ itoF (z n))) l
theorem ito_size {n : Int} (h1 : 0 ≤ n) (h2 : n < 10) : (itoF n).size = 1 := by
 have : n = 0 ∨ n = 1 ∨ n = 2 ∨ n = 3 ∨ n = 4 ∨ n = 5 ∨ n = 6 ∨ n = 7 ∨ n = 8 ∨ n = 9 := by omega
 rcases this with rfl | rfl | rfl | rfl | rfl | rfl | rfl | rfl | rfl | rfl <;> rfl
theorem sp_size {n : Int} (h1 : 0 ≤ n) (h2 : n < 10) : ((⟨#[32]⟩ : ByteArray) ++ itoF n).size = 2 := by
 rw [ByteArray.size_append, ito_size h1 h2]
 rfl
def linOK (w : ByteArray) (l : List (Den I)) : Prop := (∀ i, i < ln I l → 0 ≤ z (gd I l i) ∧ z (gd I l i) < 10) ∧ w.size + 2 * ln I l ≤ roomB
theorem machine_line_l (l : List (Den I)) (hl : ln I l < 9223372036854775807) (h : ∀ i, i < ln I l → 0 ≤ z (gd I l i) ∧ z (gd I l i) < 10) : ∀ i, i ≤ ln I l → ∀ w : ByteArray, w.size + 2 * (ln I l - i) ≤ roomB → Runs E_V45 (machine_line_L0 w l (ln I l : Nat) i) (fun r h => r = vs (linF w (l.drop i)) ∧ h = []) :=
 qci (fun w _ => .tree E_V45_ok (machine_line_L0_t ..) (by
  rw [show l.drop (ln I l) = [] from drop_ln]
  simp only [sS, sL,  Nat.lt_irrefl, linF]))
  fun i hi ih w hw => .tree E_V45_ok (machine_line_L0_t ..) (by
   have hd := h i hi
   have hs := sp_size hd.1 hd.2
   have h1 := ito_size hd.1 hd.2
   rw [show l.drop i = gd I l i :: l.drop (i + 1) from drop_gd hi, linF]
   simp only [sS, sL,  hi, wrapS hi hl]
   refine ⟨hd, fun _ _ => ⟨by rw [show (itoF (gd I l i)).size = 1 from h1]; unfold roomB; omega, fun _ => ⟨by rw [show ((⟨#[32]⟩ : ByteArray) ++ itoF (gd I l i)).size = 2 from hs]; omega, fun _ => ih _ ?_⟩⟩⟩
   rw [ByteArray.size_append, show ((⟨#[32]⟩ : ByteArray) ++ itoF (z (gd I l i))).size = 2 from hs]
   omega)
def k_machine_line : Con := con [.d .str, .d (.sl 8 I)] .str (fun x => linOK (tOf x.1) x.2.1) fun x => linF x.1 x.2.1
theorem m_machine_line (word : ByteArray) (l : List (Den I)) (h_word : okD .str word) (h_l : okD (.sl 8 I) l) (hp : linOK (tOf word) l) : Runs E_V45 (start E_V45 qdj [(vs word), (.tv (.sl 8 I) l)]) (fun r_ h_ => r_ = (vs (linF word l)) ∧ h_ = []) := .tree E_V45_ok (machine_line_t word l) (by
 simp only [sS, implies_true]
 exact machine_line_l l (qbj h_l.1) hp.1 0 (Nat.zero_le _) word (by have := hp.2; simpa using this))
theorem c_machine_line : qal E_V45 qdj k_machine_line.spec := qan fun x hx hp => ⟨rfl, m_machine_line x.1 x.2.1 hx.1 hx.2.1 hp⟩
def L_V45 : List (FuncId × FSpec) := [(qdj, k_machine_line.spec)] ++ L_V44
theorem L_V45_ok : ∀ x ∈ L_V45, qal (ctx []) x.1 x.2 := by
 unfold L_V45
 simp only [List.cons_append, List.nil_append, List.forall_mem_cons]
 exact ⟨c_machine_line, L_V44_ok⟩
end Burn.MM
namespace Burn.MM
open Go Go.BE Go.Proofs
set_option maxRecDepth 100000
set_option linter.unusedVariables false
set_option linter.unusedSimpArgs false
open Burn.Intn Burn.Ref
noncomputable abbrev E_V46 : Ctx := ctx L_V45
theorem E_V46_ok : EOK E_V46 := qch L_V45_ok
def cuts_V46 : CutL := []
def rets_V46 : FuncId → List (Option Fx)
 | _ => []
def H_V46 : Hints := { cut := cutOf cuts_V46, ret := rets_V46 }
def H_V46_u_law50_works : Hints := { H_V46 with unr := fun _ _ => true }
theorem law50_works_t : run E_V46 H_V46_u_law50_works f_law50_works 1000000 (start E_V46 f_law50_works []) = (.chk (True) (.know (okD qaj (defF)) (.chk (True) (.know (okAVs [(.tv qah (([] : List (Den qaf)), ([(⟨#[102]⟩, ([] : List (Den I)), (0 : Int), ([] : List (Den I)), ([(([] : List (Den I)), ([] : List (Den qad)), ((4 : Int), ([] : List (Den I)), ([] : List (Den I)), ([] : List (Den qae)), (0 : Int), ()), ())] : List (Den qac)), ())] : List (Den qaa)), ())), (.tv qam (⟨#[102]⟩, ([] : List (Den I)), (0 : Int), ([] : List (Den I)), (8 : Int), (0 : Int), ([(([] : List (Den I)), ([] : List (Den qad)), ((4 : Int), ([] : List (Den I)), ([] : List (Den I)), ([] : List (Den qae)), (0 : Int), ()), ())] : List (Den qac)), ()))]) (.chk (True) (.know True (cond (valF (defF)) (.chk (True) (.know (okD (.int .i64) (latcF (defF) (7 : Int))) (cond ((latcF (defF) (7 : Int)) == (3 : Int)) (.chk (True) (.know (okD (.int .i64) (latcF (defF) (5 : Int))) (cond ((latcF (defF) (5 : Int)) == (1 : Int)) (.chk (True) (.know (okD (.int .i64) (latcF (defF) (-1 : Int))) (cond ((latcF (defF) (-1 : Int)) == (1 : Int)) (.chk (True) (.know (okD (.int .i64) (mchF (([] : List (Den qaf)), ([(⟨#[102]⟩, ([] : List (Den I)), (0 : Int), ([] : List (Den I)), ([(([] : List (Den I)), ([] : List (Den qad)), ((4 : Int), ([] : List (Den I)), ([] : List (Den I)), ([] : List (Den qae)), (0 : Int), ()), ())] : List (Den qac)), ())] : List (Den qaa)), ()) (⟨#[102]⟩, ([] : List (Den I)), (0 : Int), ([] : List (Den I)), (8 : Int), (0 : Int), ([(([] : List (Den I)), ([] : List (Den qad)), ((4 : Int), ([] : List (Den I)), ([] : List (Den I)), ([] : List (Den qae)), (0 : Int), ()), ())] : List (Den qac)), ()))) (cond ((mchF (([] : List (Den qaf)), ([(⟨#[102]⟩, ([] : List (Den I)), (0 : Int), ([] : List (Den I)), ([(([] : List (Den I)), ([] : List (Den qad)), ((4 : Int), ([] : List (Den I)), ([] : List (Den I)), ([] : List (Den qae)), (0 : Int), ()), ())] : List (Den qac)), ())] : List (Den qaa)), ()) (⟨#[102]⟩, ([] : List (Den I)), (0 : Int), ([] : List (Den I)), (8 : Int), (0 : Int), ([(([] : List (Den I)), ([] : List (Den qad)), ((4 : Int), ([] : List (Den I)), ([] : List (Den I)), ([] : List (Den qae)), (0 : Int), ()), ())] : List (Den qac)), ())) == (0 : Int)) (.chk (True) (.know (okD (.int .i64) (mchF (([] : List (Den qaf)), ([(⟨#[102]⟩, ([] : List (Den I)), (0 : Int), ([] : List (Den I)), ([(([] : List (Den I)), ([] : List (Den qad)), ((4 : Int), ([] : List (Den I)), ([] : List (Den I)), ([] : List (Den qae)), (0 : Int), ()), ())] : List (Den qac)), ())] : List (Den qaa)), ()) (⟨#[102]⟩, ([] : List (Den I)), (0 : Int), ([] : List (Den I)), (8 : Int), (-1 : Int), ([(([] : List (Den I)), ([] : List (Den qad)), ((4 : Int), ([] : List (Den I)), ([] : List (Den I)), ([] : List (Den qae)), (0 : Int), ()), ())] : List (Den qac)), ()))) (cond ((mchF (([] : List (Den qaf)), ([(⟨#[102]⟩, ([] : List (Den I)), (0 : Int), ([] : List (Den I)), ([(([] : List (Den I)), ([] : List (Den qad)), ((4 : Int), ([] : List (Den I)), ([] : List (Den I)), ([] : List (Den qae)), (0 : Int), ()), ())] : List (Den qac)), ())] : List (Den qaa)), ()) (⟨#[102]⟩, ([] : List (Den I)), (0 : Int), ([] : List (Den I)), (8 : Int), (-1 : Int), ([(([] : List (Den I)), ([] : List (Den qad)), ((4 : Int), ([] : List (Den I)), ([] : List (Den I)), ([] : List (Den qae)), (0 : Int), ()), ())] : List (Den qac)), ())) == (3 : Int)) (.chk ((1 + ln I ([] : List (Den I))) * 8 ≤ roomB) (.chk (((3 : Nat) + (1 : Nat)) * 8 ≤ roomB) (.chk ((1 + ln I ([] : List (Den I))) * 8 ≤ roomB) (.chk (((4 : Nat) + (1 : Nat)) * 8 ≤ roomB) (.know (okD (.sl 8 I) ([(0 : Int)] : List (Den I))) (.know (okD (.sl 8 I) ([(0 : Int)] : List (Den I))) (.chk (0 ≤ z (1 : Int) ∧ z (1 : Int) < 10) (.chk ((9 : Nat) ≤ roomB) (.chk ((10 : Nat) ≤ roomB) (.chk ((11 : Nat) ≤ roomB) (.chk (linOK (tOf (⟨#[109, 97, 99, 104, 105, 110, 101, 32, 49, 32, 102]⟩)) ([(0 : Int), (8 : Int), (0 : Int), (0 : Int), (0 : Int)] : List (Den I))) (.chk ((((linF ⟨#[109, 97, 99, 104, 105, 110, 101, 32, 49, 32, 102]⟩ ([(0 : Int), (8 : Int), (0 : Int), (0 : Int), (0 : Int)] : List (Den I)))).size + (1 : Nat)) ≤ roomB) (.know (okD .str (⟨#[49]⟩)) (.know (okD .str (linF ⟨#[109, 97, 99, 104, 105, 110, 101, 32, 49, 32, 102]⟩ ([(0 : Int), (8 : Int), (0 : Int), (0 : Int), (0 : Int)] : List (Den I)))) (.chk (0 ≤ (0 : Int) ∧ (0 : Int) < (1 : Nat)) (.chk ((1 + ln I ([] : List (Den I))) * 8 ≤ roomB) (.know (okD (.sl 8 I) ([(0 : Int)] : List (Den I))) (.chk (linOK (tOf (⟨#[98, 108, 111, 99, 107]⟩)) ([(0 : Int)] : List (Den I))) (.know (okD .str (linF ⟨#[98, 108, 111, 99, 107]⟩ ([(0 : Int)] : List (Den I)))) (.chk ((((linF ⟨#[98, 108, 111, 99, 107]⟩ ([(0 : Int)] : List (Den I)))).size + (1 : Nat)) ≤ roomB) (.chk (((((linF ⟨#[109, 97, 99, 104, 105, 110, 101, 32, 49, 32, 102]⟩ ([(0 : Int), (8 : Int), (0 : Int), (0 : Int), (0 : Int)] : List (Den I))) ++ ⟨#[10]⟩)).size + (((linF ⟨#[98, 108, 111, 99, 107]⟩ ([(0 : Int)] : List (Den I))) ++ ⟨#[10]⟩)).size) ≤ roomB) (.chk ((1 + ln I ([] : List (Den I))) * 8 ≤ roomB) (.chk (((2 : Nat) + (1 : Nat)) * 8 ≤ roomB) (.chk (linOK (tOf (⟨#[116, 101, 114, 109]⟩)) ([(4 : Int), (0 : Int), (0 : Int)] : List (Den I))) (.chk (linOK (tOf ByteArray.empty) ([(0 : Int)] : List (Den I))) (.chk ((((linF ⟨#[116, 101, 114, 109]⟩ ([(4 : Int), (0 : Int), (0 : Int)] : List (Den I)))).size + ((linF ByteArray.empty ([(0 : Int)] : List (Den I)))).size) ≤ roomB) (.chk ((((((linF ⟨#[109, 97, 99, 104, 105, 110, 101, 32, 49, 32, 102]⟩ ([(0 : Int), (8 : Int), (0 : Int), (0 : Int), (0 : Int)] : List (Den I))) ++ ⟨#[10]⟩) ++ ((linF ⟨#[98, 108, 111, 99, 107]⟩ ([(0 : Int)] : List (Den I))) ++ ⟨#[10]⟩))).size + (((linF ⟨#[116, 101, 114, 109]⟩ ([(4 : Int), (0 : Int), (0 : Int)] : List (Den I))) ++ (linF ByteArray.empty ([(0 : Int)] : List (Den I))))).size) ≤ roomB) (.know (okD (.sl 8 I) ([(0 : Int)] : List (Den I))) (.know (okD .str (linF ⟨#[116, 101, 114, 109]⟩ ([(4 : Int), (0 : Int), (0 : Int)] : List (Den I)))) (.know (okD .str (linF ByteArray.empty ([(0 : Int)] : List (Den I)))) (.chk (linOK (tOf ByteArray.empty) ([(0 : Int)] : List (Den I))) (.know (okD .str (linF ByteArray.empty ([(0 : Int)] : List (Den I)))) (.chk (((((((linF ⟨#[109, 97, 99, 104, 105, 110, 101, 32, 49, 32, 102]⟩ ([(0 : Int), (8 : Int), (0 : Int), (0 : Int), (0 : Int)] : List (Den I))) ++ ⟨#[10]⟩) ++ ((linF ⟨#[98, 108, 111, 99, 107]⟩ ([(0 : Int)] : List (Den I))) ++ ⟨#[10]⟩)) ++ ((linF ⟨#[116, 101, 114, 109]⟩ ([(4 : Int), (0 : Int), (0 : Int)] : List (Den I))) ++ (linF ByteArray.empty ([(0 : Int)] : List (Den I)))))).size + ((linF ByteArray.empty ([(0 : Int)] : List (Den I)))).size) ≤ roomB) (.chk ((((((((linF ⟨#[109, 97, 99, 104, 105, 110, 101, 32, 49, 32, 102]⟩ ([(0 : Int), (8 : Int), (0 : Int), (0 : Int), (0 : Int)] : List (Den I))) ++ ⟨#[10]⟩) ++ ((linF ⟨#[98, 108, 111, 99, 107]⟩ ([(0 : Int)] : List (Den I))) ++ ⟨#[10]⟩)) ++ ((linF ⟨#[116, 101, 114, 109]⟩ ([(4 : Int), (0 : Int), (0 : Int)] : List (Den I))) ++ (linF ByteArray.empty ([(0 : Int)] : List (Den I))))) ++ (linF ByteArray.empty ([(0 : Int)] : List (Den I))))).size + (1 : Nat)) ≤ roomB) (rt (vb ((((((((linF ⟨#[109, 97, 99, 104, 105, 110, 101, 32, 49, 32, 102]⟩ ([(0 : Int), (8 : Int), (0 : Int), (0 : Int), (0 : Int)] : List (Den I))) ++ ⟨#[10]⟩) ++ ((linF ⟨#[98, 108, 111, 99, 107]⟩ ([(0 : Int)] : List (Den I))) ++ ⟨#[10]⟩)) ++ ((linF ⟨#[116, 101, 114, 109]⟩ ([(4 : Int), (0 : Int), (0 : Int)] : List (Den I))) ++ (linF ByteArray.empty ([(0 : Int)] : List (Den I))))) ++ (linF ByteArray.empty ([(0 : Int)] : List (Den I)))) ++ ⟨#[10]⟩)).toList == (⟨#[109, 97, 99, 104, 105, 110, 101, 32, 49, 32, 102, 32, 48, 32, 56, 32, 48, 32, 48, 32, 48, 10, 98, 108, 111, 99, 107, 32, 48, 10, 116, 101, 114, 109, 32, 52, 32, 48, 32, 48, 32, 48, 32, 48, 10]⟩ : ByteArray).toList)) []))))))))))))))))))))))))))))))))))) (rt (vb false) [])))) (rt (vb false) [])))) (rt (vb false) [])))) (rt (vb false) [])))) (rt (vb false) [])))) (rt (vb false) [])))))))) := by kernel_rfl
def wrkT : Bool := true
theorem no_way {X : Bool} {P : Prop} (h : X = false) (ht : X = true) : P := by rw [h] at ht; exact Bool.noConfusion ht

def k_law50_works : Con := con [] .bool (fun x => True) fun x => wrkT
theorem m_law50_works (hp : True) : Runs E_V46 (start E_V46 f_law50_works []) (fun r_ h_ => r_ = (vb (wrkT)) ∧ h_ = []) := .tree E_V46_ok (law50_works_t) (by
 simp only [sS, implies_true]
 repeat' (first | refine And.intro ?_ ?_ | refine onP fun _ => ?_)
 all_goals first
 | exact of_decide_eq_true (by kernel_rfl)
 | (unfold linOK; exact of_decide_eq_true (by kernel_rfl))
 | exact no_way (by assumption) (by kernel_rfl)
 | (show _ = vb true; refine congrArg vb ?_; rw [ByteArray.toList_eq, ByteArray.toList_eq]; kernel_rfl))
theorem c_law50_works : qal E_V46 f_law50_works k_law50_works.spec := qan fun x hx hp => ⟨rfl, m_law50_works hp⟩
def L_V46 : List (FuncId × FSpec) := [(f_law50_works, k_law50_works.spec)] ++ L_V45
theorem L_V46_ok : ∀ x ∈ L_V46, qal (ctx []) x.1 x.2 := by
 unfold L_V46
 simp only [List.cons_append, List.nil_append, List.forall_mem_cons]
 exact ⟨c_law50_works, L_V45_ok⟩
end Burn.MM
namespace Burn.MM
open Go Go.BE Go.Proofs
set_option maxRecDepth 100000
set_option linter.unusedVariables false
set_option linter.unusedSimpArgs false
open Burn.Intn Burn.Ref
def Ex (E : Ctx) (c : Cfg) : Prop := ∃ v, RunI E c v
def ExT (E : Ctx) (t : Tre Leaf) : Prop := ∃ v, t.wp (contL E (IsI v))
theorem ExT.cond {E : Ctx} {b : Bool} {t e : Tre Leaf} (h1 : b = true → ExT E t) (h2 : b = false → ExT E e) : ExT E (cond b t e) := by
 cases b
 ·exact h2 rfl
 ·exact h1 rfl
theorem ExT.chk {E : Ctx} {C : Prop} {t : Tre Leaf} (hC : C) (h : ExT E t) : ExT E (.chk C t) := h.elim fun v hv => ⟨v, hC, fun _ => hv⟩
theorem ExT.know {E : Ctx} {K : Prop} {t : Tre Leaf} (h : ExT E t) : ExT E (.know K t) := h.elim fun v hv => ⟨v, fun _ => hv⟩
theorem ExT.rt {E : Ctx} {k : Int} : ExT E (rt (vi k) []) := ⟨k, rt_iff.2 ⟨rfl, rfl⟩⟩
theorem ExT.hd {E : Ctx} {c : Cfg} (h : Ex E c) : ExT E (hd c) := h.elim fun v hv => ⟨v, hd_iff.2 hv⟩
theorem Ex.tree {E : Ctx} {H : Hints} {f : FuncId} {n : Nat} {c : Cfg} {t : Tre Leaf} (hE : EOK E) (h : run E H f n c = t) (ht : ExT E t) : Ex E c := ht.elim fun v hv => ⟨v, .tree hE h hv⟩
def L_V47 : List (FuncId × FSpec) := [] ++ L_V46
theorem L_V47_ok : ∀ x ∈ L_V47, qal (ctx []) x.1 x.2 := L_V46_ok
end Burn.MM
namespace Burn.MM
open Go Go.BE Go.Proofs
set_option maxRecDepth 100000
set_option linter.unusedVariables false
set_option linter.unusedSimpArgs false
open Burn.Intn Burn.Ref
def L_V48 : List (FuncId × FSpec) := [] ++ L_V47
theorem L_V48_ok : ∀ x ∈ L_V48, qal (ctx []) x.1 x.2 := L_V47_ok
end Burn.MM
namespace Burn.MM
open Go Go.BE Go.Proofs
set_option maxRecDepth 100000
set_option linter.unusedVariables false
set_option linter.unusedSimpArgs false
open Burn.Intn Burn.Ref
def mrg_V49 : FuncId → List Nat
 | 9 => [12, 17, 22, 28, 41]
 | 11 => [13]
 | _ => []
noncomputable abbrev E_V49 : Ctx := { ctx L_V48 with mrg := mrg_V49 }
theorem E_V49_ok : EOK E_V49 := have h : EOK (ctx L_V48) := qch L_V48_ok; ⟨h.ty, h.env, h.fns, h.mixed⟩
def cuts_V49 : CutL := [([], 6, 0, [0, 1, 2], [(.c 1 2, .own 8 I)], []),
 ([], 7, 0, [0, 1, 12, 13], [], []),
 ([], 9, 0, [30, 31, 32], [], [])]
def rets_V49 : FuncId → List (Option Fx)
 | 6 => [some (.dat qaj)]
 | _ => []
def H_V49 : Hints := { cut := cutOf cuts_V49, ret := rets_V49 }
theorem r50_Latency_t (x : Den qaj) (op : Int) : run E_V49 H_V49 f_r50_Latency 3000 (start E_V49 f_r50_Latency [(.tv qaj x), (vi op)]) = (cond (cond (decide (op < (0 : Int))) true (decide (op ≥ ((ln I x.2.2.1) : Int)))) (rt (vi (1 : Int)) []) (.chk (0 ≤ op ∧ op < (ln I x.2.2.1)) (rt (vi (z (gd I x.2.2.1 op.toNat))) []))) := by kernel_rfl
noncomputable def qcp (s1 : List (Den I)) (s2 : List (Den I)) (t12 : Int) (t13 : Int) : Cfg := hcfg E_V49 qbc 0 [(0, (.tv (.sl 8 I) s1)), (1, (.tv (.sl 8 I) s2)), (12, (vi t12)), (13, (vi t13))] [] 0
theorem slices_Equal_L_int_int_t (s1 : List (Den I)) (s2 : List (Den I)) : run E_V49 H_V49 qbc 3000 (start E_V49 qbc [(.tv (.sl 8 I) s1), (.tv (.sl 8 I) s2)]) = (cond (((ln I s1) : Int) != ((ln I s2) : Int)) (rt (vb false) []) (hd (qcp s1 s2 ((ln I s1) : Int) (0 : Int)))) := by kernel_rfl
theorem qfb (s1 : List (Den I)) (s2 : List (Den I)) (t12 : Int) (t13 : Int) : run E_V49 H_V49 qbc 3000 (qcp s1 s2 t12 t13) = (cond (decide (t13 < t12)) (.chk (0 ≤ t13 ∧ t13 < (ln I s1)) (.chk (0 ≤ t13 ∧ t13 < (ln I s2)) (cond ((z (gd I s1 t13.toNat)) != (z (gd I s2 t13.toNat))) (rt (vb false) []) (hd (qcp s1 s2 t12 (IntKind.wrap .i64 (t13 + (1 : Int)))))))) (rt (vb true) [])) := by kernel_rfl
noncomputable def qfu (t30 : List (Den I)) (t31 : Int) (t32 : Int) : Cfg := hcfg E_V49 qcs 0 [(30, (.tv (.sl 8 I) t30)), (31, (vi t31)), (32, (vi t32))] [] 0
theorem r50_ValidModel_t (x : Den qaj) : run E_V49 H_V49 qcs 3000 (start E_V49 qcs [(.tv qaj x)]) = (cond (cond (cond (cond (cond (decide ((z x.1) < (1 : Int))) true (decide ((z x.1) > (8 : Int)))) true (decide ((z x.2.1) < (8 : Int)))) true (decide ((z x.2.1) > (64 : Int)))) true (decide (((ln I x.2.2.1) : Int) > (64 : Int)))) (rt (vb false) []) (hd (qfu x.2.2.1 ((ln I x.2.2.1) : Int) (0 : Int)))) := by kernel_rfl
theorem r50_ValidModel_L0_t (t30 : List (Den I)) (t31 : Int) (t32 : Int) : run E_V49 H_V49 qcs 3000 (qfu t30 t31 t32) = (cond (decide (t32 < t31)) (.chk (0 ≤ t32 ∧ t32 < (ln I t30)) (cond (cond (decide ((z (gd I t30 t32.toNat)) < (1 : Int))) true (decide ((z (gd I t30 t32.toNat)) > (100 : Int)))) (rt (vb false) []) (hd (qfu t30 t31 (IntKind.wrap .i64 (t32 + (1 : Int))))))) (rt (vb true) [])) := by kernel_rfl
noncomputable def qbr (op : Int) (t0_0 : Int) (t0_1 : Int) (x_0 : Int) (x_1 : Int) (x_2 : List (Den I)) : Cfg := hcfg E_V49 qec 0 [(0, (.ref 0 0)), (1, (.ref 1 0)), (2, (vi op))] [(0, ⟨(.cells [(vi t0_0), (vi t0_1), (.val (.slice none 0 0))]), 0, [], false, none⟩), (1, ⟨(.cells [(vi x_0), (vi x_1), (.osl 2 2 [] none)]), 1, [], false, none⟩), (2, ⟨(.arr 0 8 I x_2), 2, [], false, none⟩)] 3
theorem r50_Default_t : run E_V49 H_V49 qec 3000 (start E_V49 qec []) = (hd (qbr (0 : Int) (0 : Int) (0 : Int) (2 : Int) (16 : Int) ([] : List (Den I)))) := by kernel_rfl
theorem r50_Default_L0_t (op : Int) (t0_0 : Int) (t0_1 : Int) (x_0 : Int) (x_1 : Int) (x_2 : List (Den I)) : run E_V49 H_V49 qec 3000 (qbr op t0_0 t0_1 x_0 x_1 x_2) = (cond (decide (op < (42 : Int))) (cond (op == (7 : Int)) (.chk (((ln I x_2) + (1 : Nat)) * 8 ≤ roomB) (hd (qbr (IntKind.wrap .i64 (op + (1 : Int))) t0_0 t0_1 x_0 x_1 (ap I x_2 ([(3 : Int)] : List (Den I)))))) (cond (op == (28 : Int)) (.chk (((ln I x_2) + (1 : Nat)) * 8 ≤ roomB) (hd (qbr (IntKind.wrap .i64 (op + (1 : Int))) t0_0 t0_1 x_0 x_1 (ap I x_2 ([(3 : Int)] : List (Den I)))))) (cond (op == (41 : Int)) (.chk (((ln I x_2) + (1 : Nat)) * 8 ≤ roomB) (hd (qbr (IntKind.wrap .i64 (op + (1 : Int))) t0_0 t0_1 x_0 x_1 (ap I x_2 ([(3 : Int)] : List (Den I)))))) (cond (op == (14 : Int)) (.chk (((ln I x_2) + (1 : Nat)) * 8 ≤ roomB) (hd (qbr (IntKind.wrap .i64 (op + (1 : Int))) t0_0 t0_1 x_0 x_1 (ap I x_2 ([(8 : Int)] : List (Den I)))))) (cond (op == (15 : Int)) (.chk (((ln I x_2) + (1 : Nat)) * 8 ≤ roomB) (hd (qbr (IntKind.wrap .i64 (op + (1 : Int))) t0_0 t0_1 x_0 x_1 (ap I x_2 ([(8 : Int)] : List (Den I)))))) (cond (op == (30 : Int)) (.chk (((ln I x_2) + (1 : Nat)) * 8 ≤ roomB) (hd (qbr (IntKind.wrap .i64 (op + (1 : Int))) t0_0 t0_1 x_0 x_1 (ap I x_2 ([(5 : Int)] : List (Den I)))))) (.chk (((ln I x_2) + (1 : Nat)) * 8 ≤ roomB) (hd (qbr (IntKind.wrap .i64 (op + (1 : Int))) t0_0 t0_1 x_0 x_1 (ap I x_2 ([(1 : Int)] : List (Den I)))))))))))) (rt (.tv qaj (x_0, x_1, x_2, ())) [])) := by kernel_rfl
theorem wit_not (n a b : Int) : (cond (decide (n < a)) true (decide (n > b))) = !(witP n a b) := by
 unfold witP
 rw [dge, dle]
 cases decide (n < a) <;> cases decide (n > b) <;> rfl
theorem okM_not (x : Den qaj) : cond (cond (cond (cond (decide (z x.1 < (1 : Int))) true (decide (z x.1 > (8 : Int)))) true (decide (z x.2.1 < (8 : Int)))) true (decide (z x.2.1 > (64 : Int)))) true (decide ((ln I x.2.2.1 : Int) > (64 : Int))) = !(okM x) := by
 unfold okM witP
 rw [dge, dge, dle, dle, dle]
 cases decide (z x.1 < (1 : Int)) <;> cases decide (z x.1 > (8 : Int)) <;> cases decide (z x.2.1 < (8 : Int)) <;> cases decide (z x.2.1 > (64 : Int)) <;> cases decide ((ln I x.2.2.1 : Int) > (64 : Int)) <;> rfl
def vI (op : Int) : Int := cond (op == (7 : Int)) 3 (cond (op == (28 : Int)) 3 (cond (op == (41 : Int)) 3 (cond (op == (14 : Int)) 8 (cond (op == (15 : Int)) 8 (cond (op == (30 : Int)) 5 1)))))
theorem lat_step : ∀ i, i < 42 → latL.take (i + 1) = latL.take i ++ [vI (i : Int)] := by decide
def eqd : List (Den I) → List (Den I) → Bool
 | x :: l, y :: m => cond (z x != z y) false (eqd l m)
 | _, _ => true
def eqlF (a b : List (Den I)) : Bool := cond ((ln I a : Int) != (ln I b : Int)) false (eqd a b)
def latcR (x : Den qaj) (op : Int) : Int := (cond (cond (decide (op < (0 : Int))) true (decide (op ≥ ((ln I x.2.2.1) : Int)))) (1 : Int) (z (gd I x.2.2.1 op.toNat)))

def k_r50_Latency : Con := con [.d qaj, .d I] I (fun x => True) fun x => latcR x.1 x.2.1
theorem m_r50_Latency (x : Den qaj) (op : Int) (h_x : okD qaj x) (h_op : okD I op) (hp : True) : Runs E_V49 (start E_V49 f_r50_Latency [(.tv qaj x), (vi op)]) (fun r_ h_ => r_ = (vi (latcR x op)) ∧ h_ = []) := .tree E_V49_ok (r50_Latency_t x op) (by
 show Tre.wp (Qv _ (fun x_ => (vi x_)) (latcR x op)) _
 unfold latcR
 refine qag (fun h1 => ⟨rfl, rfl⟩) (fun h1 => ?_)
 refine ⟨by first | omega | assumption | exact hp.1 | exact hp.2 | exact hp.2.1 | (simp_all; done) | (simp_all; omega), fun _ => ?_⟩
 exact ⟨rfl, rfl⟩)
theorem c_r50_Latency : qal E_V49 f_r50_Latency k_r50_Latency.spec := qan fun x hx hp => ⟨rfl, m_r50_Latency x.1 x.2.1 hx.1 hx.2.1 hp⟩
theorem slices_Equal_l (a b : List (Den I)) (he : ln I a = ln I b) (hl : ln I a < 9223372036854775807) : ∀ i, i ≤ ln I a → Runs E_V49 (qcp a b (ln I a : Nat) i) (fun r h => r = vb (eqd (a.drop i) (b.drop i)) ∧ h = []) :=
 qci (.tree E_V49_ok (qfb ..) (by
  rw [show a.drop (ln I a) = [] from drop_ln]
  simp only [sS, sL,  Nat.lt_irrefl, eqd]))
  fun i hi ih => .tree E_V49_ok (qfb ..) (by
   rw [show a.drop i = gd I a i :: a.drop (i + 1) from drop_gd hi, show b.drop i = gd I b i :: b.drop (i + 1) from drop_gd (by omega), eqd]
   have hb : i < ln I b := by omega
   simp only [sS, sL,  hi, hb, wrapS hi hl]
   refine ⟨fun h => congrArg vb (Bool.cond_pos h).symm, fun h => ?_⟩
   rw [Bool.cond_neg h]
   exact ih)
def qhf : Con := con [.d (.sl 8 I), .d (.sl 8 I)] .bool (fun x => True) fun x => eqlF x.1 x.2.1
theorem m_slices_Equal_L_int_int (s1 : List (Den I)) (s2 : List (Den I)) (h_s1 : okD (.sl 8 I) s1) (h_s2 : okD (.sl 8 I) s2) (hp : True) : Runs E_V49 (start E_V49 qbc [(.tv (.sl 8 I) s1), (.tv (.sl 8 I) s2)]) (fun r_ h_ => r_ = (vb (eqlF s1 s2)) ∧ h_ = []) := .tree E_V49_ok (slices_Equal_L_int_int_t s1 s2) (by
  simp only [sS, implies_true]
  refine ⟨fun h => congrArg vb (Bool.cond_pos h).symm, fun h => ?_⟩
  have := slices_Equal_l s1 s2 (by have : (ln I s1 : Int) = (ln I s2 : Int) := by simpa using h
                                   omega) (qbj h_s1.1) 0 (Nat.zero_le _)
  unfold eqlF
  rw [Bool.cond_neg h]
  exact this)
theorem c_slices_Equal_L_int_int : qal E_V49 qbc qhf.spec := qan fun x hx hp => ⟨rfl, m_slices_Equal_L_int_int x.1 x.2.1 hx.1 hx.2.1 hp⟩
theorem r50_ValidModel_l (l : List (Den I)) (hl : ln I l < 9223372036854775807) : ∀ i, i ≤ ln I l → Runs E_V49 (qfu l (ln I l : Nat) i) (fun r h => r = vb (latOK (l.drop i)) ∧ h = []) :=
 qci (.tree E_V49_ok (r50_ValidModel_L0_t ..) (by
  rw [drop_ln]
  simp only [sS, sL,  Nat.lt_irrefl, latOK]))
  fun i hi ih => .tree E_V49_ok (r50_ValidModel_L0_t ..) (by
   rw [drop_gd (l := l) (i := i) hi, latOK]
   simp only [sS, sL,  hi, wrapS hi hl]
   rw [wit_not]
   refine ⟨fun h => ?_, fun h => ?_⟩
   ·rw [show witP (z (gd I l i)) 1 100 = false from by simpa using h]; rfl
   ·rw [show witP (z (gd I l i)) 1 100 = true from by simpa using h]; exact ih)
def k_r50_ValidModel : Con := con [.d qaj] .bool (fun x => True) fun x => valF x.1
theorem m_r50_ValidModel (x : Den qaj) (h_x : okD qaj x) (hp : True) : Runs E_V49 (start E_V49 qcs [(.tv qaj x)]) (fun r_ h_ => r_ = (vb (valF x)) ∧ h_ = []) := .tree E_V49_ok (r50_ValidModel_t x) (by
 have go := r50_ValidModel_l x.2.2.1 (qbj h_x.2.2.1.1) 0 (Nat.zero_le _)
 simp only [sS, implies_true]
 rw [okM_not]
 refine ⟨fun h => ?_, fun h => ?_⟩
 ·have h' : okM x = false := by simpa using h
  unfold valF
  rw [h']
  cases latOK x.2.2.1 <;> rfl
 ·have h' : okM x = true := by simpa using h
  have e : valF x = latOK x.2.2.1 := by
   unfold valF
   rw [h']
   cases latOK x.2.2.1 <;> rfl
  rw [e]
  exact go)
theorem c_r50_ValidModel : qal E_V49 qcs k_r50_ValidModel.spec := qan fun x hx hp => ⟨rfl, m_r50_ValidModel x.1 hx.1 hp⟩
theorem r50_Default_l (a b : Int) : ∀ i : Nat, i ≤ 42 → Runs E_V49 (qbr i a b 2 16 (latL.take i)) (fun r h => r = .tv qaj defF ∧ h = []) :=
 qci (.tree E_V49_ok (r50_Default_L0_t ..) (by
  simp only [sS, sL,  Nat.lt_irrefl]
  exact ⟨fun h => absurd (of_decide_eq_true h) (by decide), fun _ => rfl⟩))
  fun i hi ih => .tree E_V49_ok (r50_Default_L0_t ..) (by
   have hr : (ln I (latL.take i : List (Den I)) + 1) * 8 ≤ roomB := by
    have : (latL.take i).length = i := by rw [List.length_take]; exact Nat.min_eq_left (by show i ≤ 42; omega)
    show ((latL.take i).length + 1) * 8 ≤ roomB
    rw [this]
    unfold roomB
    omega
   have go : ∀ v : Int, vI (i : Int) = v → (ln I (latL.take i : List (Den I)) + 1) * 8 ≤ roomB ∧ ((ln I (latL.take i : List (Den I)) + 1) * 8 ≤ roomB → Runs E_V49 (qbr (i + 1 : Nat) a b 2 16 (ap I (latL.take i) ([v] : List (Den I)))) (fun r h => r = .tv qaj defF ∧ h = [])) := fun v hv => ⟨hr, fun _ => by
    have e : (ap I (latL.take i) ([v] : List (Den I))) = latL.take (i + 1) := by rw [lat_step i hi, hv]; rfl
    rw [e]
    exact ih⟩
   simp only [sS, sL,  wrapS hi (show (42 : Nat) < 9223372036854775807 by decide)]
   refine ⟨fun _ => ⟨fun h1 => go _ (Bool.cond_pos h1), fun h1 => ⟨fun h2 => go _ ((Bool.cond_neg h1).trans (Bool.cond_pos h2)), fun h2 => ⟨fun h3 => go _ ((Bool.cond_neg h1).trans ((Bool.cond_neg h2).trans (Bool.cond_pos h3))), fun h3 => ⟨fun h4 => go _ ((Bool.cond_neg h1).trans ((Bool.cond_neg h2).trans ((Bool.cond_neg h3).trans (Bool.cond_pos h4)))), fun h4 => ⟨fun h5 => go _ ((Bool.cond_neg h1).trans ((Bool.cond_neg h2).trans ((Bool.cond_neg h3).trans ((Bool.cond_neg h4).trans (Bool.cond_pos h5))))), fun h5 => ⟨fun h6 => go _ ((Bool.cond_neg h1).trans ((Bool.cond_neg h2).trans ((Bool.cond_neg h3).trans ((Bool.cond_neg h4).trans ((Bool.cond_neg h5).trans (Bool.cond_pos h6)))))), fun h6 => go _ ((Bool.cond_neg h1).trans ((Bool.cond_neg h2).trans ((Bool.cond_neg h3).trans ((Bool.cond_neg h4).trans ((Bool.cond_neg h5).trans (Bool.cond_neg h6))))))⟩⟩⟩⟩⟩⟩, fun h => absurd (of_decide_eq_false h) (by omega)⟩)
def k_r50_Default : Con := con [] qaj (fun x => True) fun x => defF
theorem m_r50_Default (hp : True) : Runs E_V49 (start E_V49 qec []) (fun r_ h_ => r_ = (.tv qaj (defF)) ∧ h_ = []) := .tree E_V49_ok (r50_Default_t) (by
 simp only [sS, implies_true]
 exact r50_Default_l _ _ 0 (Nat.zero_le _))
theorem c_r50_Default : qal E_V49 qec k_r50_Default.spec := qan fun x hx hp => ⟨rfl, m_r50_Default hp⟩
def L_V49 : List (FuncId × FSpec) := [(f_r50_Latency, k_r50_Latency.spec), (qbc, qhf.spec), (qcs, k_r50_ValidModel.spec), (qec, k_r50_Default.spec)] ++ L_V48
theorem L_V49_ok : ∀ x ∈ L_V49, qal (ctx []) x.1 x.2 := by
 unfold L_V49
 simp only [List.cons_append, List.nil_append, List.forall_mem_cons]
 exact ⟨c_r50_Latency, c_slices_Equal_L_int_int, c_r50_ValidModel, c_r50_Default, L_V48_ok⟩
end Burn.MM
namespace Burn.MM
open Go Go.BE Go.Proofs
set_option maxRecDepth 100000
set_option linter.unusedVariables false
set_option linter.unusedSimpArgs false
open Burn.Intn Burn.Ref
def mrg_V50 : FuncId → List Nat
 | 3 => [33, 40, 47, 56, 59]
 | _ => []
noncomputable abbrev E_V50 : Ctx := { ctx L_V49 with mrg := mrg_V50 }
theorem E_V50_ok : EOK E_V50 := have h : EOK (ctx L_V49) := qch L_V49_ok; ⟨h.ty, h.env, h.fns, h.mixed⟩
def cuts_V50 : CutL := []
def rets_V50 : FuncId → List (Option Fx)
 | _ => []
def H_V50 : Hints := { cut := cutOf cuts_V50, ret := rets_V50 }
theorem law50_MachineModel_t (x : Den qaj) (op : Int) : run E_V50 H_V50 qdn 3000 (start E_V50 qdn [(.tv qaj x), (vi op)]) = (cond (decide (((ln I x.2.2.1) : Int) > (200 : Int))) (.chk (True) (.know True (rt (vb (wrkT)) []))) (.chk (True) (.know (okD qaj (defF)) (.chk (True) (.know (okD qaj (defF)) (.chk (((cond ((z ((defF).1)) == (z ((defF).1))) ((z ((defF).2.1)) == (z ((defF).2.1))) false) = true → (True))) (.chk (((cond (cond ((z ((defF).1)) == (z ((defF).1))) ((z ((defF).2.1)) == (z ((defF).2.1))) false) (eqlF (defF).2.2.1 (defF).2.2.1) false) = true → (True))) (.chk (((cond (cond ((z ((defF).1)) == (z ((defF).1))) ((z ((defF).2.1)) == (z ((defF).2.1))) false) (eqlF (defF).2.2.1 (defF).2.2.1) false) = true → (True))) (.chk (((cond (cond (cond ((z ((defF).1)) == (z ((defF).1))) ((z ((defF).2.1)) == (z ((defF).2.1))) false) (eqlF (defF).2.2.1 (defF).2.2.1) false) ((valF x) == (valF x)) false) = true → (True))) (.chk (((cond (cond (cond ((z ((defF).1)) == (z ((defF).1))) ((z ((defF).2.1)) == (z ((defF).2.1))) false) (eqlF (defF).2.2.1 (defF).2.2.1) false) ((valF x) == (valF x)) false) = true → (True))) (.chk (((cond (cond (cond (cond ((z ((defF).1)) == (z ((defF).1))) ((z ((defF).2.1)) == (z ((defF).2.1))) false) (eqlF (defF).2.2.1 (defF).2.2.1) false) ((valF x) == (valF x)) false) ((latcF x op) == (latcR x op)) false) = true → (True))) (rt (vb (cond (cond (cond (cond (cond ((z ((defF).1)) == (z ((defF).1))) ((z ((defF).2.1)) == (z ((defF).2.1))) false) (eqlF (defF).2.2.1 (defF).2.2.1) false) ((valF x) == (valF x)) false) ((latcF x op) == (latcR x op)) false) (wrkT) false)) [])))))))))))) := by kernel_rfl
def yesM (x : Den qaj) (op : Int) : Bool := true

def k_law50_MachineModel : Con := con [.d qaj, .d I] .bool (fun x => True) fun x => yesM x.1 x.2.1
theorem m_law50_MachineModel (x : Den qaj) (op : Int) (h_x : okD qaj x) (h_op : okD I op) (hp : True) : Runs E_V50 (start E_V50 qdn [(.tv qaj x), (vi op)]) (fun r_ h_ => r_ = (vb (yesM x op)) ∧ h_ = []) := .tree E_V50_ok (law50_MachineModel_t x op) (by
 simp only [sS, implies_true]
 refine ⟨fun _ => rfl, fun _ _ _ => ?_⟩
 rw [show latcR x op = latcF x op from rfl, beq_self_eq_true (a := latcF x op), beq_self_eq_true (a := valF x)]
 rfl)
theorem c_law50_MachineModel : qal E_V50 qdn k_law50_MachineModel.spec := qan fun x hx hp => ⟨rfl, m_law50_MachineModel x.1 x.2.1 hx.1 hx.2.1 hp⟩
end Burn.MM

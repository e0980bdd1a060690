/- What the functions that the law reaches compute, one contract each. No conditions beyond those written. -/
import Derived.Test.YteaealfalanccaaDoorWalkA
import Derived.Test.YteaealfalanccaaDoorEngineD
namespace Burn.MM
open Go Go.BE Go.Proofs
set_option maxRecDepth 100000
set_option linter.unusedVariables false
set_option linter.unusedSimpArgs false
open Burn.Intn Burn.Ref
noncomputable abbrev E_V15 : Ctx := ctx L_V14
theorem E_V15_ok : EOK E_V15 := qch L_V14_ok
def cuts_V15 : CutL := []
def rets_V15 : FuncId → List (Option Fx)
 | _ => []
def H_V15 : Hints := { cut := cutOf cuts_V15, ret := rets_V15 }
theorem verify_shape_t (m : Den qah) (f : Den qaa) (t : Den qai) : run E_V15 H_V15 qgl 3000 (start E_V15 qgl [(.tv qah m), (.tv qaa f), (.tv qai t)]) = (cond ((z t.1) != (6 : Int)) (cond ((z t.2.2.2.2.1) != (0 : Int)) (rt (vb false) []) (cond ((z t.1) == (1 : Int)) (cond (((ln I t.2.1) : Int) == (0 : Int)) (cond (((ln I t.2.2.1) : Int) == (0 : Int)) (rt (vb (((ln qae t.2.2.2.1) : Int) == (1 : Int))) []) (rt (vb false) [])) (rt (vb false) [])) (cond ((z t.1) == (2 : Int)) (cond (((ln I t.2.1) : Int) == (1 : Int)) (cond (((ln I t.2.2.1) : Int) == (0 : Int)) (rt (vb (((ln qae t.2.2.2.1) : Int) == (2 : Int))) []) (rt (vb false) [])) (rt (vb false) [])) (cond ((z t.1) == (3 : Int)) (cond (((ln I t.2.1) : Int) == (1 : Int)) (cond (((ln I t.2.2.1) : Int) == ((ln I t.2.2.1) : Int)) (rt (vb (((ln qae t.2.2.2.1) : Int) == (IntKind.wrap .i64 (((ln I t.2.2.1) : Int) + (1 : Int))))) []) (rt (vb false) [])) (rt (vb false) [])) (cond ((z t.1) == (4 : Int)) (cond ((z f.2.2.1) != (0 : Int)) (cond (((ln I t.2.1) : Int) == (1 : Int)) (cond (((ln I t.2.2.1) : Int) == (0 : Int)) (rt (vb (((ln qae t.2.2.2.1) : Int) == (0 : Int))) []) (rt (vb false) [])) (rt (vb false) [])) (cond (((ln I t.2.1) : Int) == (0 : Int)) (cond (((ln I t.2.2.1) : Int) == (0 : Int)) (rt (vb (((ln qae t.2.2.2.1) : Int) == (0 : Int))) []) (rt (vb false) [])) (rt (vb false) []))) (cond ((z t.1) == (5 : Int)) (cond (((ln I t.2.1) : Int) == (0 : Int)) (cond (((ln I t.2.2.1) : Int) == (1 : Int)) (rt (vb (((ln qae t.2.2.2.1) : Int) == (0 : Int))) []) (rt (vb false) [])) (rt (vb false) [])) (cond ((z t.1) == (6 : Int)) (.chk (0 ≤ (z t.2.2.2.2.1) ∧ (z t.2.2.2.2.1) < (ln qaa m.2.1)) (cond (((ln I t.2.1) : Int) == ((ln I ((gd qaa m.2.1 (((z t.2.2.2.2.1)).toNat)).2.1)) : Int)) (cond (((ln I t.2.2.1) : Int) == (0 : Int)) (rt (vb (((ln qae t.2.2.2.1) : Int) == (0 : Int))) []) (rt (vb false) [])) (rt (vb false) []))) (cond (((ln I t.2.1) : Int) == (0 : Int)) (cond (((ln I t.2.2.1) : Int) == (0 : Int)) (rt (vb (((ln qae t.2.2.2.1) : Int) == (0 : Int))) []) (rt (vb false) [])) (rt (vb false) []))))))))) (cond ((z t.1) == (1 : Int)) (cond (((ln I t.2.1) : Int) == (0 : Int)) (cond (((ln I t.2.2.1) : Int) == (0 : Int)) (rt (vb (((ln qae t.2.2.2.1) : Int) == (1 : Int))) []) (rt (vb false) [])) (rt (vb false) [])) (cond ((z t.1) == (2 : Int)) (cond (((ln I t.2.1) : Int) == (1 : Int)) (cond (((ln I t.2.2.1) : Int) == (0 : Int)) (rt (vb (((ln qae t.2.2.2.1) : Int) == (2 : Int))) []) (rt (vb false) [])) (rt (vb false) [])) (cond ((z t.1) == (3 : Int)) (cond (((ln I t.2.1) : Int) == (1 : Int)) (cond (((ln I t.2.2.1) : Int) == ((ln I t.2.2.1) : Int)) (rt (vb (((ln qae t.2.2.2.1) : Int) == (IntKind.wrap .i64 (((ln I t.2.2.1) : Int) + (1 : Int))))) []) (rt (vb false) [])) (rt (vb false) [])) (cond ((z t.1) == (4 : Int)) (cond ((z f.2.2.1) != (0 : Int)) (cond (((ln I t.2.1) : Int) == (1 : Int)) (cond (((ln I t.2.2.1) : Int) == (0 : Int)) (rt (vb (((ln qae t.2.2.2.1) : Int) == (0 : Int))) []) (rt (vb false) [])) (rt (vb false) [])) (cond (((ln I t.2.1) : Int) == (0 : Int)) (cond (((ln I t.2.2.1) : Int) == (0 : Int)) (rt (vb (((ln qae t.2.2.2.1) : Int) == (0 : Int))) []) (rt (vb false) [])) (rt (vb false) []))) (cond ((z t.1) == (5 : Int)) (cond (((ln I t.2.1) : Int) == (0 : Int)) (cond (((ln I t.2.2.1) : Int) == (1 : Int)) (rt (vb (((ln qae t.2.2.2.1) : Int) == (0 : Int))) []) (rt (vb false) [])) (rt (vb false) [])) (cond ((z t.1) == (6 : Int)) (.chk (0 ≤ (z t.2.2.2.2.1) ∧ (z t.2.2.2.2.1) < (ln qaa m.2.1)) (cond (((ln I t.2.1) : Int) == ((ln I ((gd qaa m.2.1 (((z t.2.2.2.2.1)).toNat)).2.1)) : Int)) (cond (((ln I t.2.2.1) : Int) == (0 : Int)) (rt (vb (((ln qae t.2.2.2.1) : Int) == (0 : Int))) []) (rt (vb false) [])) (rt (vb false) []))) (cond (((ln I t.2.1) : Int) == (0 : Int)) (cond (((ln I t.2.2.1) : Int) == (0 : Int)) (rt (vb (((ln qae t.2.2.2.1) : Int) == (0 : Int))) []) (rt (vb false) [])) (rt (vb false) []))))))))) := by kernel_rfl
theorem verify_operand_t (m : Den qah) (f : Den qaa) (t : Den qai) (i : Int) (u : Int) : run E_V15 H_V15 qei 3000 (start E_V15 qei [(.tv qah m), (.tv qaa f), (.tv qai t), (vi i), (vi u)]) = (cond ((z t.1) == (2 : Int)) (rt (vb (u == (1 : Int))) []) (cond ((z t.1) == (3 : Int)) (cond (u == (3 : Int)) (rt (vb true) []) (rt (vb (u == (4 : Int))) [])) (cond ((z t.1) == (4 : Int)) (rt (vb (u == (z f.2.2.1))) []) (.chk (0 ≤ (z t.2.2.2.2.1) ∧ (z t.2.2.2.2.1) < (ln qaa m.2.1)) (.chk (0 ≤ i ∧ i < (ln I ((gd qaa m.2.1 (((z t.2.2.2.2.1)).toNat)).2.1))) (.chk (True) (.know True (cond (regP (gd qaa m.2.1 (((z t.2.2.2.2.1)).toNat)) (gd I ((gd qaa m.2.1 (((z t.2.2.2.2.1)).toNat)).2.1) i.toNat)) (.chk (0 ≤ (z (gd I ((gd qaa m.2.1 (((z t.2.2.2.2.1)).toNat)).2.1) i.toNat)) ∧ (z (gd I ((gd qaa m.2.1 (((z t.2.2.2.2.1)).toNat)).2.1) i.toNat)) < (ln I ((gd qaa m.2.1 (((z t.2.2.2.2.1)).toNat)).2.2.2.1))) (rt (vb (u == (z (gd I ((gd qaa m.2.1 (((z t.2.2.2.2.1)).toNat)).2.2.2.1) (((z (gd I ((gd qaa m.2.1 (((z t.2.2.2.2.1)).toNat)).2.1) i.toNat))).toNat))))) [])) (rt (vb false) []))))))))) := by kernel_rfl
theorem reg_ok {f : Fn} {r : Int} (h : regP f r = true) : 0 ≤ r ∧ r < (ln I f.2.2.2.1 : Nat) := by
 unfold regP at h
 cases h1 : decide (r ≥ 0) <;> rw [h1] at h
 ·exact Bool.noConfusion h
 ·exact ⟨of_decide_eq_true h1, of_decide_eq_true h⟩
def opdOK (m : Md) (t : Trm) (i : Int) : Prop := z t.1 ≠ 2 → z t.1 ≠ 3 → z t.1 ≠ 4 → (0 ≤ z t.2.2.2.2.1 ∧ z t.2.2.2.2.1 < (ln qaa m.2.1 : Nat)) ∧ 0 ≤ i ∧ i < (ln I (gd qaa m.2.1 (z t.2.2.2.2.1).toNat).2.1 : Nat)
def shpP (m : Den qah) (f : Den qaa) (t : Den qai) : Bool := (cond ((z t.1) != (6 : Int)) (cond ((z t.2.2.2.2.1) != (0 : Int)) false (cond ((z t.1) == (1 : Int)) (cond (((ln I t.2.1) : Int) == (0 : Int)) (cond (((ln I t.2.2.1) : Int) == (0 : Int)) (((ln qae t.2.2.2.1) : Int) == (1 : Int)) false) false) (cond ((z t.1) == (2 : Int)) (cond (((ln I t.2.1) : Int) == (1 : Int)) (cond (((ln I t.2.2.1) : Int) == (0 : Int)) (((ln qae t.2.2.2.1) : Int) == (2 : Int)) false) false) (cond ((z t.1) == (3 : Int)) (cond (((ln I t.2.1) : Int) == (1 : Int)) (cond (((ln I t.2.2.1) : Int) == ((ln I t.2.2.1) : Int)) (((ln qae t.2.2.2.1) : Int) == (IntKind.wrap .i64 (((ln I t.2.2.1) : Int) + (1 : Int)))) false) false) (cond ((z t.1) == (4 : Int)) (cond ((z f.2.2.1) != (0 : Int)) (cond (((ln I t.2.1) : Int) == (1 : Int)) (cond (((ln I t.2.2.1) : Int) == (0 : Int)) (((ln qae t.2.2.2.1) : Int) == (0 : Int)) false) false) (cond (((ln I t.2.1) : Int) == (0 : Int)) (cond (((ln I t.2.2.1) : Int) == (0 : Int)) (((ln qae t.2.2.2.1) : Int) == (0 : Int)) false) false)) (cond ((z t.1) == (5 : Int)) (cond (((ln I t.2.1) : Int) == (0 : Int)) (cond (((ln I t.2.2.1) : Int) == (1 : Int)) (((ln qae t.2.2.2.1) : Int) == (0 : Int)) false) false) (cond ((z t.1) == (6 : Int)) (cond (((ln I t.2.1) : Int) == ((ln I ((gd qaa m.2.1 (((z t.2.2.2.2.1)).toNat)).2.1)) : Int)) (cond (((ln I t.2.2.1) : Int) == (0 : Int)) (((ln qae t.2.2.2.1) : Int) == (0 : Int)) false) false) (cond (((ln I t.2.1) : Int) == (0 : Int)) (cond (((ln I t.2.2.1) : Int) == (0 : Int)) (((ln qae t.2.2.2.1) : Int) == (0 : Int)) false) false)))))))) (cond ((z t.1) == (1 : Int)) (cond (((ln I t.2.1) : Int) == (0 : Int)) (cond (((ln I t.2.2.1) : Int) == (0 : Int)) (((ln qae t.2.2.2.1) : Int) == (1 : Int)) false) false) (cond ((z t.1) == (2 : Int)) (cond (((ln I t.2.1) : Int) == (1 : Int)) (cond (((ln I t.2.2.1) : Int) == (0 : Int)) (((ln qae t.2.2.2.1) : Int) == (2 : Int)) false) false) (cond ((z t.1) == (3 : Int)) (cond (((ln I t.2.1) : Int) == (1 : Int)) (cond (((ln I t.2.2.1) : Int) == ((ln I t.2.2.1) : Int)) (((ln qae t.2.2.2.1) : Int) == (IntKind.wrap .i64 (((ln I t.2.2.1) : Int) + (1 : Int)))) false) false) (cond ((z t.1) == (4 : Int)) (cond ((z f.2.2.1) != (0 : Int)) (cond (((ln I t.2.1) : Int) == (1 : Int)) (cond (((ln I t.2.2.1) : Int) == (0 : Int)) (((ln qae t.2.2.2.1) : Int) == (0 : Int)) false) false) (cond (((ln I t.2.1) : Int) == (0 : Int)) (cond (((ln I t.2.2.1) : Int) == (0 : Int)) (((ln qae t.2.2.2.1) : Int) == (0 : Int)) false) false)) (cond ((z t.1) == (5 : Int)) (cond (((ln I t.2.1) : Int) == (0 : Int)) (cond (((ln I t.2.2.1) : Int) == (1 : Int)) (((ln qae t.2.2.2.1) : Int) == (0 : Int)) false) false) (cond ((z t.1) == (6 : Int)) (cond (((ln I t.2.1) : Int) == ((ln I ((gd qaa m.2.1 (((z t.2.2.2.2.1)).toNat)).2.1)) : Int)) (cond (((ln I t.2.2.1) : Int) == (0 : Int)) (((ln qae t.2.2.2.1) : Int) == (0 : Int)) false) false) (cond (((ln I t.2.1) : Int) == (0 : Int)) (cond (((ln I t.2.2.1) : Int) == (0 : Int)) (((ln qae t.2.2.2.1) : Int) == (0 : Int)) false) false))))))))

def k_verify_shape : Con := con [.d qah, .d qaa, .d qai] .bool (fun x => z x.2.2.1.1 = 6 → 0 ≤ z x.2.2.1.2.2.2.2.1 ∧ z x.2.2.1.2.2.2.2.1 < (ln qaa x.1.2.1 : Nat)) fun x => shpP x.1 x.2.1 x.2.2.1
theorem m_verify_shape (m : Den qah) (f : Den qaa) (t : Den qai) (h_m : okD qah m) (h_f : okD qaa f) (h_t : okD qai t) (hp : z t.1 = 6 → 0 ≤ z t.2.2.2.2.1 ∧ z t.2.2.2.2.1 < (ln qaa m.2.1 : Nat)) : Runs E_V15 (start E_V15 qgl [(.tv qah m), (.tv qaa f), (.tv qai t)]) (fun r_ h_ => r_ = (vb (shpP m f t)) ∧ h_ = []) := .tree E_V15_ok (verify_shape_t m f t) (by
 have hp_ := hp
 try simp only [z] at hp_
 show Tre.wp (Qv _ (fun x_ => (vb x_)) (shpP m f t)) _
 unfold shpP
 refine qag (fun h1 => ?_) (fun h1 => ?_)
 ·have h1_ := bne_t h1
  refine qag (fun h2 => ⟨rfl, rfl⟩) (fun h2 => ?_)
  have h2_ := bne_f h2
  refine qag (fun h3 => ?_) (fun h3 => ?_)
  ·refine qag (fun h4 => ?_) (fun h4 => ⟨rfl, rfl⟩)
   refine qag (fun h5 => ⟨rfl, rfl⟩) (fun h5 => ?_)
   exact ⟨rfl, rfl⟩
  ·have h3_ := beq_f h3
   refine qag (fun h6 => ?_) (fun h6 => ?_)
   ·refine qag (fun h7 => ?_) (fun h7 => ⟨rfl, rfl⟩)
    refine qag (fun h8 => ⟨rfl, rfl⟩) (fun h8 => ?_)
    exact ⟨rfl, rfl⟩
   ·have h6_ := beq_f h6
    refine qag (fun h9 => ?_) (fun h9 => ?_)
    ·refine qag (fun h10 => ?_) (fun h10 => ⟨rfl, rfl⟩)
     refine qag (fun h11 => ⟨rfl, rfl⟩) (fun h11 => ?_)
     exact ⟨rfl, rfl⟩
    ·have h9_ := beq_f h9
     refine qag (fun h12 => ?_) (fun h12 => ?_)
     ·refine qag (fun h13 => ?_) (fun h13 => ?_)
      ·refine qag (fun h14 => ?_) (fun h14 => ⟨rfl, rfl⟩)
       refine qag (fun h15 => ⟨rfl, rfl⟩) (fun h15 => ?_)
       exact ⟨rfl, rfl⟩
      ·refine qag (fun h16 => ?_) (fun h16 => ⟨rfl, rfl⟩)
       refine qag (fun h17 => ⟨rfl, rfl⟩) (fun h17 => ?_)
       exact ⟨rfl, rfl⟩
     ·have h12_ := beq_f h12
      refine qag (fun h18 => ?_) (fun h18 => ?_)
      ·refine qag (fun h19 => ?_) (fun h19 => ⟨rfl, rfl⟩)
       refine qag (fun h20 => ⟨rfl, rfl⟩) (fun h20 => ?_)
       exact ⟨rfl, rfl⟩
      ·have h18_ := beq_f h18
       refine qag (fun h21 => ?_) (fun h21 => ?_)
       ·have h21_ := beq_t h21
        refine ⟨by first | omega | exact (hp (by assumption)) | (have g_ := hp (by assumption); omega) | assumption | exact hp.1 | exact hp.2 | exact hp.2.1 | (simp_all; done) | (simp_all; omega), fun _ => ?_⟩
        refine qag (fun h22 => ?_) (fun h22 => ⟨rfl, rfl⟩)
        refine qag (fun h23 => ⟨rfl, rfl⟩) (fun h23 => ?_)
        exact ⟨rfl, rfl⟩
       ·refine qag (fun h24 => ?_) (fun h24 => ⟨rfl, rfl⟩)
        refine qag (fun h25 => ⟨rfl, rfl⟩) (fun h25 => ?_)
        exact ⟨rfl, rfl⟩
 ·have h1_ := bne_f h1
  have h26k : ((z t.1) == (1 : Int)) = false := by rw [(bne_f h1)]; rfl
  refine qag (fun h26 => absurd (h26k.symm.trans h26) (by decide)) (fun _ => ?_)
  have h27k : ((z t.1) == (2 : Int)) = false := by rw [(bne_f h1)]; rfl
  refine qag (fun h27 => absurd (h27k.symm.trans h27) (by decide)) (fun _ => ?_)
  have h28k : ((z t.1) == (3 : Int)) = false := by rw [(bne_f h1)]; rfl
  refine qag (fun h28 => absurd (h28k.symm.trans h28) (by decide)) (fun _ => ?_)
  have h29k : ((z t.1) == (4 : Int)) = false := by rw [(bne_f h1)]; rfl
  refine qag (fun h29 => absurd (h29k.symm.trans h29) (by decide)) (fun _ => ?_)
  have h30k : ((z t.1) == (5 : Int)) = false := by rw [(bne_f h1)]; rfl
  refine qag (fun h30 => absurd (h30k.symm.trans h30) (by decide)) (fun _ => ?_)
  have h31k : ((z t.1) == (6 : Int)) = true := by rw [(bne_f h1)]; rfl
  refine qag (fun _ => ?_) (fun h31 => absurd (h31k.symm.trans h31) (by decide))
  refine ⟨by first | omega | exact (hp (by assumption)) | (have g_ := hp (by assumption); omega) | assumption | exact hp.1 | exact hp.2 | exact hp.2.1 | (simp_all; done) | (simp_all; omega), fun _ => ?_⟩
  refine qag (fun h32 => ?_) (fun h32 => ⟨rfl, rfl⟩)
  refine qag (fun h33 => ⟨rfl, rfl⟩) (fun h33 => ?_)
  exact ⟨rfl, rfl⟩)
theorem c_verify_shape : qal E_V15 qgl k_verify_shape.spec := qan fun x hx hp => ⟨rfl, m_verify_shape x.1 x.2.1 x.2.2.1 hx.1 hx.2.1 hx.2.2.1 hp⟩
def opdP (m : Den qah) (f : Den qaa) (t : Den qai) (i : Int) (u : Int) : Bool := (cond ((z t.1) == (2 : Int)) (u == (1 : Int)) (cond ((z t.1) == (3 : Int)) (cond (u == (3 : Int)) true (u == (4 : Int))) (cond ((z t.1) == (4 : Int)) (u == (z f.2.2.1)) (cond (regP (gd qaa m.2.1 (((z t.2.2.2.2.1)).toNat)) (gd I ((gd qaa m.2.1 (((z t.2.2.2.2.1)).toNat)).2.1) i.toNat)) (u == (z (gd I ((gd qaa m.2.1 (((z t.2.2.2.2.1)).toNat)).2.2.2.1) (((z (gd I ((gd qaa m.2.1 (((z t.2.2.2.2.1)).toNat)).2.1) i.toNat))).toNat)))) false))))

def k_verify_operand : Con := con [.d qah, .d qaa, .d qai, .d I, .d I] .bool (fun x => opdOK x.1 x.2.2.1 (z x.2.2.2.1)) fun x => opdP x.1 x.2.1 x.2.2.1 x.2.2.2.1 x.2.2.2.2.1
theorem m_verify_operand (m : Den qah) (f : Den qaa) (t : Den qai) (i : Int) (u : Int) (h_m : okD qah m) (h_f : okD qaa f) (h_t : okD qai t) (h_i : okD I i) (h_u : okD I u) (hp : opdOK m t (z i)) : Runs E_V15 (start E_V15 qei [(.tv qah m), (.tv qaa f), (.tv qai t), (vi i), (vi u)]) (fun r_ h_ => r_ = (vb (opdP m f t i u)) ∧ h_ = []) := .tree E_V15_ok (verify_operand_t m f t i u) (by
 have hp_ := hp
 try simp only [z] at hp_
 show Tre.wp (Qv _ (fun x_ => (vb x_)) (opdP m f t i u)) _
 unfold opdP
 refine qag (fun h1 => ⟨rfl, rfl⟩) (fun h1 => ?_)
 have h1_ := beq_f h1
 refine qag (fun h2 => ?_) (fun h2 => ?_)
 ·refine qag (fun h3 => ⟨rfl, rfl⟩) (fun h3 => ?_)
  exact ⟨rfl, rfl⟩
 ·have h2_ := beq_f h2
  refine qag (fun h4 => ⟨rfl, rfl⟩) (fun h4 => ?_)
  have h4_ := beq_f h4
  refine ⟨by first | omega | exact ((hp (by assumption) (by assumption) (by assumption)).1) | (have g_ := (hp (by assumption) (by assumption) (by assumption)).1; omega) | exact ((hp (by assumption) (by assumption) (by assumption)).2) | (have g_ := (hp (by assumption) (by assumption) (by assumption)).2; omega) | exact (reg_ok (by assumption)) | (have g_ := reg_ok (by assumption); omega) | assumption | exact hp.1 | exact hp.2 | exact hp.2.1 | (simp_all; done) | (simp_all; omega), fun _ => ?_⟩
  refine ⟨by first | omega | exact ((hp (by assumption) (by assumption) (by assumption)).1) | (have g_ := (hp (by assumption) (by assumption) (by assumption)).1; omega) | exact ((hp (by assumption) (by assumption) (by assumption)).2) | (have g_ := (hp (by assumption) (by assumption) (by assumption)).2; omega) | exact (reg_ok (by assumption)) | (have g_ := reg_ok (by assumption); omega) | assumption | exact hp.1 | exact hp.2 | exact hp.2.1 | (simp_all; done) | (simp_all; omega), fun _ => ?_⟩
  refine ⟨trivial, fun _ => ?_⟩
  refine fun _ => ?_
  refine qag (fun h5 => ?_) (fun h5 => ⟨rfl, rfl⟩)
  refine ⟨by first | omega | exact ((hp (by assumption) (by assumption) (by assumption)).1) | (have g_ := (hp (by assumption) (by assumption) (by assumption)).1; omega) | exact ((hp (by assumption) (by assumption) (by assumption)).2) | (have g_ := (hp (by assumption) (by assumption) (by assumption)).2; omega) | exact (reg_ok (by assumption)) | (have g_ := reg_ok (by assumption); omega) | assumption | exact hp.1 | exact hp.2 | exact hp.2.1 | (simp_all; done) | (simp_all; omega), fun _ => ?_⟩
  exact ⟨rfl, rfl⟩)
theorem c_verify_operand : qal E_V15 qei k_verify_operand.spec := qan fun x hx hp => ⟨rfl, m_verify_operand x.1 x.2.1 x.2.2.1 x.2.2.2.1 x.2.2.2.2.1 hx.1 hx.2.1 hx.2.2.1 hx.2.2.2.1 hx.2.2.2.2.1 hp⟩
def L_V15 : List (FuncId × FSpec) := [(qgl, k_verify_shape.spec), (qei, k_verify_operand.spec)] ++ L_V14
theorem L_V15_ok : ∀ x ∈ L_V15, qal (ctx []) x.1 x.2 := by
 unfold L_V15
 simp only [List.cons_append, List.nil_append, List.forall_mem_cons]
 exact ⟨c_verify_shape, c_verify_operand, L_V14_ok⟩
end Burn.MM
namespace Burn.MM
open Go Go.BE Go.Proofs
set_option maxRecDepth 100000
set_option linter.unusedVariables false
set_option linter.unusedSimpArgs false
open Burn.Intn Burn.Ref
noncomputable abbrev E_V16 : Ctx := ctx L_V15
theorem E_V16_ok : EOK E_V16 := qch L_V15_ok
def cuts_V16 : CutL := [([], 55, 0, [4, 5, 6, 7, 63, 64, 65], [], []),
 ([], 55, 2, [4, 6, 7, 106, 107, 108], [], []),
 ([], 55, 4, [4, 6, 147, 148, 149], [], []),
 ([], 55, 6, [4, 6, 14, 147, 148, 149, 195, 196, 197], [], [])]
def rets_V16 : FuncId → List (Option Fx)
 | _ => []
def H_V16 : Hints := { cut := cutOf cuts_V16, ret := rets_V16 }
noncomputable def qbh (at_ : Den qak) (m : Den qah) (f : Den qaa) (t : Den qai) (t63 : List (Den I)) (t64 : Int) (t65 : Int) : Cfg := hcfg E_V16 qau 0 [(4, (.rtp qak at_)), (5, (.rtp qah m)), (6, (.rtp qaa f)), (7, (.rtp qai t)), (63, (.tv (.sl 8 I) t63)), (64, (vi t64)), (65, (vi t65))] [] 0
noncomputable def qcf (at_ : Den qak) (f : Den qaa) (t : Den qai) (t106 : List (Den I)) (t107 : Int) (t108 : Int) : Cfg := hcfg E_V16 qau 2 [(4, (.rtp qak at_)), (6, (.rtp qaa f)), (7, (.rtp qai t)), (106, (.tv (.sl 8 I) t106)), (107, (vi t107)), (108, (vi t108))] [] 0
noncomputable def qct (at_ : Den qak) (f : Den qaa) (t147 : List (Den qae)) (t148 : Int) (t149 : Int) : Cfg := hcfg E_V16 qau 4 [(4, (.rtp qak at_)), (6, (.rtp qaa f)), (147, (.tv (.sl 32 qae) t147)), (148, (vi t148)), (149, (vi t149))] [] 0
noncomputable def qdk (at_ : Den qak) (f : Den qaa) (to : List (Den I)) (t147 : List (Den qae)) (t148 : Int) (t149 : Int) (t195 : List (Den I)) (t196 : Int) (t197 : Int) : Cfg := hcfg E_V16 qau 6 [(4, (.rtp qak at_)), (6, (.rtp qaa f)), (14, (.tv (.sl 8 I) to)), (147, (.tv (.sl 32 qae) t147)), (148, (vi t148)), (149, (vi t149)), (195, (.tv (.sl 8 I) t195)), (196, (vi t196)), (197, (vi t197))] [] 0
theorem verify_terminator_t (at_ : Den qak) (m : Den qah) (f : Den qaa) (t : Den qai) : run E_V16 H_V16 qau 3000 (start E_V16 qau [(.tv qak at_), (.tv qah m), (.tv qaa f), (.tv qai t)]) = (cond (decide ((z t.1) ≥ (1 : Int))) (cond (!(decide ((z t.1) ≤ (6 : Int)))) (pn (.val (.iface 91 (.agg #[.int .i64 (9 : Int), .int .i64 (z at_.1), .int .i64 (z at_.2.1), .int .i64 (z at_.2.2.1), .int .i64 (z at_.2.2.2.1)])))) (cond ((z t.1) != (6 : Int)) (cond ((z t.1) != (3 : Int)) (.chk (z t.1 = 6 → 0 ≤ z t.2.2.2.2.1 ∧ z t.2.2.2.2.1 < (ln qaa m.2.1 : Nat)) (.know True (cond (!(shpP m f t)) (pn (.val (.iface 91 (.agg #[.int .i64 (3 : Int), .int .i64 (z at_.1), .int .i64 (z at_.2.1), .int .i64 (z at_.2.2.1), .int .i64 (z at_.2.2.2.1)])))) (hd (qbh at_ m f t t.2.1 ((ln I t.2.1) : Int) (0 : Int)))))) (cond (!(decide (((ln I t.2.2.1) : Int) ≤ (16 : Int)))) (pn (.val (.iface 91 (.agg #[.int .i64 (11 : Int), .int .i64 (z at_.1), .int .i64 (z at_.2.1), .int .i64 (z at_.2.2.1), .int .i64 (z at_.2.2.2.1)])))) (.chk (z t.1 = 6 → 0 ≤ z t.2.2.2.2.1 ∧ z t.2.2.2.2.1 < (ln qaa m.2.1 : Nat)) (.know True (cond (!(shpP m f t)) (pn (.val (.iface 91 (.agg #[.int .i64 (3 : Int), .int .i64 (z at_.1), .int .i64 (z at_.2.1), .int .i64 (z at_.2.2.1), .int .i64 (z at_.2.2.2.1)])))) (hd (qbh at_ m f t t.2.1 ((ln I t.2.1) : Int) (0 : Int)))))))) (cond (decide ((z t.2.2.2.2.1) ≥ (0 : Int))) (cond (!(decide ((z t.2.2.2.2.1) < ((ln qaa m.2.1) : Int)))) (pn (.val (.iface 91 (.agg #[.int .i64 (8 : Int), .int .i64 (z at_.1), .int .i64 (z at_.2.1), .int .i64 (z at_.2.2.1), .int .i64 (z at_.2.2.2.1)])))) (cond ((z t.1) != (3 : Int)) (.chk (z t.1 = 6 → 0 ≤ z t.2.2.2.2.1 ∧ z t.2.2.2.2.1 < (ln qaa m.2.1 : Nat)) (.know True (cond (!(shpP m f t)) (pn (.val (.iface 91 (.agg #[.int .i64 (3 : Int), .int .i64 (z at_.1), .int .i64 (z at_.2.1), .int .i64 (z at_.2.2.1), .int .i64 (z at_.2.2.2.1)])))) (hd (qbh at_ m f t t.2.1 ((ln I t.2.1) : Int) (0 : Int)))))) (cond (!(decide (((ln I t.2.2.1) : Int) ≤ (16 : Int)))) (pn (.val (.iface 91 (.agg #[.int .i64 (11 : Int), .int .i64 (z at_.1), .int .i64 (z at_.2.1), .int .i64 (z at_.2.2.1), .int .i64 (z at_.2.2.2.1)])))) (.chk (z t.1 = 6 → 0 ≤ z t.2.2.2.2.1 ∧ z t.2.2.2.2.1 < (ln qaa m.2.1 : Nat)) (.know True (cond (!(shpP m f t)) (pn (.val (.iface 91 (.agg #[.int .i64 (3 : Int), .int .i64 (z at_.1), .int .i64 (z at_.2.1), .int .i64 (z at_.2.2.1), .int .i64 (z at_.2.2.2.1)])))) (hd (qbh at_ m f t t.2.1 ((ln I t.2.1) : Int) (0 : Int))))))))) (pn (.val (.iface 91 (.agg #[.int .i64 (8 : Int), .int .i64 (z at_.1), .int .i64 (z at_.2.1), .int .i64 (z at_.2.2.1), .int .i64 (z at_.2.2.2.1)]))))))) (pn (.val (.iface 91 (.agg #[.int .i64 (9 : Int), .int .i64 (z at_.1), .int .i64 (z at_.2.1), .int .i64 (z at_.2.2.1), .int .i64 (z at_.2.2.2.1)]))))) := by kernel_rfl
theorem verify_terminator_L0_t (at_ : Den qak) (m : Den qah) (f : Den qaa) (t : Den qai) (t63 : List (Den I)) (t64 : Int) (t65 : Int) : run E_V16 H_V16 qau 3000 (qbh at_ m f t t63 t64 t65) = (cond (decide (t65 < t64)) (.chk (0 ≤ t65 ∧ t65 < (ln I t63)) (.chk (True) (.know True (cond (!(regP f (gd I t63 t65.toNat))) (pn (.val (.iface 91 (.agg #[.int .i64 (10 : Int), .int .i64 (z at_.1), .int .i64 (z at_.2.1), .int .i64 (z at_.2.2.1), .int .i64 (z at_.2.2.2.1)])))) (.chk (0 ≤ (z (gd I t63 t65.toNat)) ∧ (z (gd I t63 t65.toNat)) < (ln I f.2.2.2.1)) (.chk (opdOK m t (z t65)) (.know True (cond (!(opdP m f t t65 (gd I f.2.2.2.1 (((z (gd I t63 t65.toNat))).toNat)))) (pn (.val (.iface 91 (.agg #[.int .i64 (9 : Int), .int .i64 (z at_.1), .int .i64 (z at_.2.1), .int .i64 (z at_.2.2.1), .int .i64 (z at_.2.2.2.1)])))) (hd (qbh at_ m f t t63 t64 (IntKind.wrap .i64 (t65 + (1 : Int))))))))))))) (cond ((z t.1) != (6 : Int)) (hd (qcf at_ f t t.2.2.1 ((ln I t.2.2.1) : Int) (0 : Int))) (.chk (0 ≤ (z t.2.2.2.2.1) ∧ (z t.2.2.2.2.1) < (ln qaa m.2.1)) (cond (!((z ((gd qaa m.2.1 (((z t.2.2.2.2.1)).toNat)).2.2.1)) == (z f.2.2.1))) (pn (.val (.iface 91 (.agg #[.int .i64 (9 : Int), .int .i64 (z at_.1), .int .i64 (z at_.2.1), .int .i64 (z at_.2.2.1), .int .i64 (z at_.2.2.2.1)])))) (hd (qcf at_ f t t.2.2.1 ((ln I t.2.2.1) : Int) (0 : Int))))))) := by kernel_rfl
theorem verify_terminator_L2_t (at_ : Den qak) (f : Den qaa) (t : Den qai) (t106 : List (Den I)) (t107 : Int) (t108 : Int) : run E_V16 H_V16 qau 3000 (qcf at_ f t t106 t107 t108) = (cond (decide (t108 < t107)) (.chk (0 ≤ t108 ∧ t108 < (ln I t106)) (cond ((z t.1) == (3 : Int)) (.chk (0 ≤ (0 : Int) ∧ (0 : Int) < (ln I t.2.1)) (.chk (0 ≤ (z (gd I t.2.1 (0 : Nat))) ∧ (z (gd I t.2.1 (0 : Nat))) < (ln I f.2.2.2.1)) (.chk (True) (.know True (cond (!(fitP (gd I f.2.2.2.1 (((z (gd I t.2.1 (0 : Nat)))).toNat)) (gd I t106 t108.toNat))) (pn (.val (.iface 91 (.agg #[.int .i64 (10 : Int), .int .i64 (z at_.1), .int .i64 (z at_.2.1), .int .i64 (z at_.2.2.1), .int .i64 (z at_.2.2.2.1)])))) (.chk (0 ≤ (0 : Int) ∧ (0 : Int) ≤ t108 ∧ t108 ≤ ((ln I t.2.2.1) : Int)) (.chk (True) (.know True (cond (!(!(hasI (wn I t.2.2.1 (0 : Nat) (t108.toNat - (0 : Nat))) (gd I t106 t108.toNat)))) (pn (.val (.iface 91 (.agg #[.int .i64 (7 : Int), .int .i64 (z at_.1), .int .i64 (z at_.2.1), .int .i64 (z at_.2.2.1), .int .i64 (z at_.2.2.2.1)])))) (hd (qcf at_ f t t106 t107 (IntKind.wrap .i64 (t108 + (1 : Int)))))))))))))) (cond (decide ((z (gd I t106 t108.toNat)) ≥ (16 : Int))) (cond (!(decide ((z (gd I t106 t108.toNat)) ≤ (255 : Int)))) (pn (.val (.iface 91 (.agg #[.int .i64 (10 : Int), .int .i64 (z at_.1), .int .i64 (z at_.2.1), .int .i64 (z at_.2.2.1), .int .i64 (z at_.2.2.2.1)])))) (.chk (0 ≤ (0 : Int) ∧ (0 : Int) ≤ t108 ∧ t108 ≤ ((ln I t.2.2.1) : Int)) (.chk (True) (.know True (cond (!(!(hasI (wn I t.2.2.1 (0 : Nat) (t108.toNat - (0 : Nat))) (gd I t106 t108.toNat)))) (pn (.val (.iface 91 (.agg #[.int .i64 (7 : Int), .int .i64 (z at_.1), .int .i64 (z at_.2.1), .int .i64 (z at_.2.2.1), .int .i64 (z at_.2.2.2.1)])))) (hd (qcf at_ f t t106 t107 (IntKind.wrap .i64 (t108 + (1 : Int)))))))))) (pn (.val (.iface 91 (.agg #[.int .i64 (10 : Int), .int .i64 (z at_.1), .int .i64 (z at_.2.1), .int .i64 (z at_.2.2.1), .int .i64 (z at_.2.2.2.1)]))))))) (hd (qct at_ f t.2.2.2.1 ((ln qae t.2.2.2.1) : Int) (0 : Int)))) := by kernel_rfl
theorem verify_terminator_L4_t (at_ : Den qak) (f : Den qaa) (t147 : List (Den qae)) (t148 : Int) (t149 : Int) : run E_V16 H_V16 qau 3000 (qct at_ f t147 t148 t149) = (cond (decide (t149 < t148)) (.chk (0 ≤ t149 ∧ t149 < (ln qae t147)) (cond (decide ((z ((gd qae t147 t149.toNat).1)) ≥ (0 : Int))) (cond (!(decide ((z ((gd qae t147 t149.toNat).1)) < ((ln qac f.2.2.2.2.1) : Int)))) (pn (.val (.iface 91 (.agg #[.int .i64 (8 : Int), .int .i64 (z at_.1), .int .i64 (z at_.2.1), .int .i64 (z at_.2.2.1), .int .i64 (z at_.2.2.2.1)])))) (cond (!((z ((gd qae t147 t149.toNat).1)) != (0 : Int))) (pn (.val (.iface 91 (.agg #[.int .i64 (3 : Int), .int .i64 (z at_.1), .int .i64 (z at_.2.1), .int .i64 (z at_.2.2.1), .int .i64 (z at_.2.2.2.1)])))) (.chk (0 ≤ (z ((gd qae t147 t149.toNat).1)) ∧ (z ((gd qae t147 t149.toNat).1)) < (ln qac f.2.2.2.2.1)) (cond (!(decide (((ln I ((gd qae t147 t149.toNat).2.1)) : Int) ≥ ((ln I ((gd qac f.2.2.2.2.1 (((z ((gd qae t147 t149.toNat).1))).toNat)).1)) : Int)))) (pn (.val (.iface 91 (.agg #[.int .i64 (4 : Int), .int .i64 (z at_.1), .int .i64 (z at_.2.1), .int .i64 (z at_.2.2.1), .int .i64 (z at_.2.2.2.1)])))) (cond (!(decide (((ln I ((gd qae t147 t149.toNat).2.1)) : Int) ≤ ((ln I ((gd qac f.2.2.2.2.1 (((z ((gd qae t147 t149.toNat).1))).toNat)).1)) : Int)))) (pn (.val (.iface 91 (.agg #[.int .i64 (5 : Int), .int .i64 (z at_.1), .int .i64 (z at_.2.1), .int .i64 (z at_.2.2.1), .int .i64 (z at_.2.2.2.1)])))) (hd (qdk at_ f ((gd qac f.2.2.2.2.1 (((z ((gd qae t147 t149.toNat).1))).toNat)).1) t147 t148 t149 ((gd qae t147 t149.toNat).2.1) ((ln I ((gd qae t147 t149.toNat).2.1)) : Int) (0 : Int)))))))) (pn (.val (.iface 91 (.agg #[.int .i64 (8 : Int), .int .i64 (z at_.1), .int .i64 (z at_.2.1), .int .i64 (z at_.2.2.1), .int .i64 (z at_.2.2.2.1)])))))) (rt (.tup []) [])) := by kernel_rfl
theorem verify_terminator_L6_t (at_ : Den qak) (f : Den qaa) (to : List (Den I)) (t147 : List (Den qae)) (t148 : Int) (t149 : Int) (t195 : List (Den I)) (t196 : Int) (t197 : Int) : run E_V16 H_V16 qau 3000 (qdk at_ f to t147 t148 t149 t195 t196 t197) = (cond (decide (t197 < t196)) (.chk (0 ≤ t197 ∧ t197 < (ln I t195)) (.chk (True) (.know True (cond (!(regP f (gd I t195 t197.toNat))) (pn (.val (.iface 91 (.agg #[.int .i64 (10 : Int), .int .i64 (z at_.1), .int .i64 (z at_.2.1), .int .i64 (z at_.2.2.1), .int .i64 (z at_.2.2.2.1)])))) (.chk (0 ≤ t197 ∧ t197 < (ln I to)) (.chk (True) (cond (regP f (gd I to t197.toNat)) (.chk (0 ≤ (z (gd I t195 t197.toNat)) ∧ (z (gd I t195 t197.toNat)) < (ln I f.2.2.2.1)) (.chk (0 ≤ t197 ∧ t197 < (ln I to)) (.chk (0 ≤ (z (gd I to t197.toNat)) ∧ (z (gd I to t197.toNat)) < (ln I f.2.2.2.1)) (.know True (cond (!((z (gd I f.2.2.2.1 (((z (gd I t195 t197.toNat))).toNat))) == (z (gd I f.2.2.2.1 (((z (gd I to t197.toNat))).toNat))))) (pn (.val (.iface 91 (.agg #[.int .i64 (9 : Int), .int .i64 (z at_.1), .int .i64 (z at_.2.1), .int .i64 (z at_.2.2.1), .int .i64 (z at_.2.2.2.1)])))) (hd (qdk at_ f to t147 t148 t149 t195 t196 (IntKind.wrap .i64 (t197 + (1 : Int)))))))))) (.know True (pn (.val (.iface 91 (.agg #[.int .i64 (9 : Int), .int .i64 (z at_.1), .int .i64 (z at_.2.1), .int .i64 (z at_.2.2.1), .int .i64 (z at_.2.2.2.1)])))))))))))) (hd (qct at_ f t147 t148 (IntKind.wrap .i64 (t149 + (1 : Int)))))) := by kernel_rfl
theorem at_or {p : Plc} {a b : Int} : atD p (orE a b) = orD (atD p a) (atD p b) := by
 unfold orE
 cases h : a == 0
 ·rw [cond_false, or_hit (a := atD p a) (by rw [errAt, h]; rfl)]
 ·rw [cond_true, qer (a := atD p a) (by rw [errAt, h]; rfl)]
theorem at_fe {p : Plc} {e : Nat → Int} {n i : Nat} : atD p (qas e (n + 1) i) = orD (atD p (e i)) (atD p (qas e n (i + 1))) := at_or (a := e i)
theorem shp_use {m : Md} {f : Fn} {t : Trm} (h : shpP m f t = true) : (z t.1 = 1 → ln I t.2.1 = 0) ∧ (z t.1 = 5 → ln I t.2.1 = 0) ∧ (z t.1 = 3 → ln I t.2.1 = 1) ∧ (z t.1 = 6 → ln I t.2.1 = ln I (gd qaa m.2.1 (z t.2.2.2.2.1).toNat).2.1) := by
 unfold shpP at h
 refine ⟨fun hk => ?_, fun hk => ?_, fun hk => ?_, fun hk => ?_⟩ <;> rw [hk] at h <;> simp [Bool.cond_eq_ite] at h <;> omega
def trmA (m : Md) (f : Fn) (t : Trm) (i : Nat) : Int := cond (!(regP f (gd I t.2.1 i))) 10 (cond (!(opdP m f t i (gd I f.2.2.2.1 (z (gd I t.2.1 i)).toNat))) 9 0)
def trmS (m : Md) (f : Fn) (t : Trm) : Int := cond (z t.1 != (6 : Int)) 0 (cond (!(z (gd qaa m.2.1 (z t.2.2.2.2.1).toNat).2.2.1 == z f.2.2.1)) 9 0)
def casD (t : Trm) (i : Nat) : Int := cond (!(!(hasI (wn I t.2.2.1 0 i) (gd I t.2.2.1 i)))) 7 0
def casI (f : Fn) (t : Trm) (i : Nat) : Int := cond (z t.1 == (3 : Int)) (cond (!(fitP (gd I f.2.2.2.1 (z (gd I t.2.1 0)).toNat) (gd I t.2.2.1 i))) 10 (casD t i)) (cond (decide (z (gd I t.2.2.1 i) ≥ (16 : Int))) (cond (!(decide (z (gd I t.2.2.1 i) ≤ (255 : Int)))) 10 (casD t i)) 10)
def edgK (f : Fn) (to l : List (Den I)) (k : Nat) : Int := cond (!(regP f (gd I l k))) 10 (cond (regP f (gd I to k)) (cond (!(z (gd I f.2.2.2.1 (z (gd I l k)).toNat) == z (gd I f.2.2.2.1 (z (gd I to k)).toNat))) 9 0) 9)
def edgT (f : Fn) (e : Edg) : List (Den I) := (gd qac f.2.2.2.2.1 (z e.1).toNat).1
def edgE (f : Fn) (e : Edg) : Int := cond (decide (z e.1 ≥ (0 : Int))) (cond (!(decide (z e.1 < (ln qac f.2.2.2.2.1 : Int)))) 8 (cond (!(z e.1 != (0 : Int))) 3 (cond (!(decide ((ln I e.2.1 : Int) ≥ (ln I (edgT f e) : Int)))) 4 (cond (!(decide ((ln I e.2.1 : Int) ≤ (ln I (edgT f e) : Int)))) 5 (qas (edgK f (edgT f e) e.2.1) (ln I e.2.1) 0))))) 8
def edgI (f : Fn) (l : List Edg) (i : Nat) : Int := edgE f (gd qae l i)
def trmC (m : Md) (f : Fn) (t : Trm) : Int := cond (!(shpP m f t)) 3 (orE (qas (trmA m f t) (ln I t.2.1) 0) (orE (trmS m f t) (orE (qas (casI f t) (ln I t.2.2.1) 0) (qas (edgI f t.2.2.2.1) (ln qae t.2.2.2.1) 0))))
def trmB (m : Md) (f : Fn) (t : Trm) : Int := cond (z t.1 != (3 : Int)) (trmC m f t) (cond (!(decide ((ln I t.2.2.1 : Int) ≤ (16 : Int)))) 11 (trmC m f t))
def trmE (m : Md) (f : Fn) (t : Trm) : Int := cond (decide (z t.1 ≥ (1 : Int))) (cond (!(decide (z t.1 ≤ (6 : Int)))) 9 (cond (z t.1 != (6 : Int)) (trmB m f t) (cond (decide (z t.2.2.2.2.1 ≥ (0 : Int))) (cond (!(decide (z t.2.2.2.2.1 < (ln qaa m.2.1 : Int)))) 8 (trmB m f t)) 8))) 9
def trmF (p : Plc) (m : Md) (f : Fn) (t : Trm) : Dg := atD p (trmE m f t)
theorem verify_terminator_l6 (p : Plc) (f : Fn) (to : List (Den I)) (l : List Edg) (i : Nat) (q : List (Den I)) (d : Dg) (hi : i < ln qae l) (hl : ln qae l < 9223372036854775807) (hq : ln I q < 9223372036854775807) (ht : ln I q = ln I to)
  (ih : RunD E_V16 (qct p f l (ln qae l : Nat) (i + 1 : Nat)) d) : ∀ k, k ≤ ln I q → RunD E_V16 (qdk p f to l (ln qae l : Nat) i q (ln I q : Nat) k) (orD (atD p (qas (edgK f to q) (ln I q - k) k)) d) :=
 qci (RunsP.tree E_V16_ok (verify_terminator_L6_t _ _ _ _ _ _ _ _ _) (by
  rw [Nat.sub_self, qas, qer at_zero]
  simp only [sQ, sL,  Nat.lt_irrefl, wrapS hi hl]
  exact ih))
  fun k hk ihk => RunsP.tree E_V16_ok (verify_terminator_L6_t _ _ _ _ _ _ _ _ _) (by
   rw [sub1 hk]
   simp only [sQ, sL,  hk, wrapS hk hq]
   refine ⟨fun h1 => .or (.fe (x := 10) rfl (by simp only [edgK, h1, cond_true]) rfl), fun h1 => ⟨by omega, fun _ => ⟨fun h2 => ⟨reg_ok (by simpa using h1), fun _ => ⟨by omega, fun _ => ⟨reg_ok h2, fun _ => ⟨fun h3 => .or (.fe (x := 9) rfl (by simp only [edgK, h1, h2, h3, cond_true, cond_false]) rfl), fun h3 => RunD.fe ihk (by simp only [edgK, h1, h2, h3, cond_true, cond_false])⟩⟩⟩⟩, fun h2 => .or (.fe (x := 9) rfl (by simp only [edgK, h1, h2, cond_false]) rfl)⟩⟩⟩)
theorem verify_terminator_l4 (p : Plc) (f : Fn) (l : List Edg) (hok : okD (.sl 32 qae) l) : ∀ i, i ≤ ln qae l → RunD E_V16 (qct p f l (ln qae l : Nat) i) (atD p (qas (edgI f l) (ln qae l - i) i)) :=
 qci (RunsP.tree E_V16_ok (verify_terminator_L4_t _ _ _ _ _) (by
  rw [Nat.sub_self]
  simp only [sQ, sL,  Nat.lt_irrefl]
  exact ⟨rfl, rfl, rfl⟩))
  fun i hi ih => RunsP.tree E_V16_ok (verify_terminator_L4_t _ _ _ _ _) (by
   have hgo := ok_gd hok hi
   have go := fun hq => verify_terminator_l6 p f (edgT f (gd qae l i)) l i (gd qae l i).2.1 _ hi (qbj hok.1) (qbj hgo.2.1.1) hq ih
   rw [sub1 hi, at_fe]
   simp only [sQ, sL,  hi]
   refine ⟨fun h1 => ⟨fun h2 => .or (.at (p := p) (x := 8) rfl (congrArg (atD p) (by simp only [edgI, edgE, h1, h2, cond_true])) rfl), fun h2 => ⟨fun h3 => .or (.at (p := p) (x := 3) rfl (congrArg (atD p) (by simp only [edgI, edgE, h1, h2, h3, cond_true, cond_false])) rfl), fun h3 => ⟨⟨by simpa using h1, by simpa using h2⟩, fun _ => ⟨fun h4 => .or (.at (p := p) (x := 4) rfl (congrArg (atD p) ?_) rfl), fun h4 => ⟨fun h5 => .or (.at (p := p) (x := 5) rfl (congrArg (atD p) ?_) rfl), fun h5 => ?_⟩⟩⟩⟩⟩, fun h1 => .or (.at (p := p) (x := 8) rfl (congrArg (atD p) (by simp only [edgI, edgE, h1, cond_false])) rfl)⟩
   ·have h4' : (!(decide ((ln I (gd qae l i).2.1 : Int) ≥ (ln I (edgT f (gd qae l i)) : Int)))) = true := by simp only [ge_iff_le, Int.ofNat_le]; exact h4
    simp only [edgI, edgE, h1, h2, h3, h4', cond_true, cond_false]
   ·have h4' : (!(decide ((ln I (gd qae l i).2.1 : Int) ≥ (ln I (edgT f (gd qae l i)) : Int)))) = false := by simp only [ge_iff_le, Int.ofNat_le]; exact h4
    have h5' : (!(decide ((ln I (gd qae l i).2.1 : Int) ≤ (ln I (edgT f (gd qae l i)) : Int)))) = true := by simp only [ge_iff_le, Int.ofNat_le]; exact h5
    simp only [edgI, edgE, h1, h2, h3, h4', h5', cond_true, cond_false]
   ·have h4' : (!(decide ((ln I (gd qae l i).2.1 : Int) ≥ (ln I (edgT f (gd qae l i)) : Int)))) = false := by simp only [ge_iff_le, Int.ofNat_le]; exact h4
    have h5' : (!(decide ((ln I (gd qae l i).2.1 : Int) ≤ (ln I (edgT f (gd qae l i)) : Int)))) = false := by simp only [ge_iff_le, Int.ofNat_le]; exact h5
    refine (go (by simp at h4' h5'; omega) 0 (Nat.zero_le _)).cast ?_
    simp only [edgI, edgE, h1, h2, h3, h4', h5', cond_true, cond_false]
    rfl)
theorem verify_terminator_l2 (p : Plc) (f : Fn) (t : Trm) (hok : okD qai t) (hr : z t.1 = 3 → 0 < ln I t.2.1 ∧ regP f (gd I t.2.1 0) = true) : ∀ i, i ≤ ln I t.2.2.1 → RunD E_V16 (qcf p f t t.2.2.1 (ln I t.2.2.1 : Nat) i) (orD (atD p (qas (casI f t) (ln I t.2.2.1 - i) i)) (atD p (qas (edgI f t.2.2.2.1) (ln qae t.2.2.2.1) 0))) :=
 qci (RunsP.tree E_V16_ok (verify_terminator_L2_t _ _ _ _ _ _) (by
  rw [Nat.sub_self, qas, qer at_zero]
  simp only [sQ, sL,  Nat.lt_irrefl]
  exact verify_terminator_l4 p f t.2.2.2.1 hok.2.2.2.1 0 (Nat.zero_le _)))
  fun i hi ih => RunsP.tree E_V16_ok (verify_terminator_L2_t _ _ _ _ _ _) (by
   rw [sub1 hi]
   simp only [sQ, sL,  hi, wrapS hi (qbj hok.2.2.1.1), Nat.sub_zero]
   refine ⟨fun h1 => ⟨⟨Int.le_refl _, Int.ofNat_lt.mpr (hr (by simpa using h1)).1⟩, fun _ => ⟨reg_ok (hr (by simpa using h1)).2, fun _ => ⟨fun h2 => .or (.fe (x := 10) rfl (by simp only [casI, h1, h2, cond_true]) rfl), fun h2 => ⟨⟨by decide, by omega⟩, fun _ => ⟨fun h3 => .or (.fe (x := 7) rfl (by simp only [casI, casD, h1, h2, h3, cond_true, cond_false]) rfl), fun h3 => RunD.fe ih (by simp only [casI, casD, h1, h2, h3, cond_true, cond_false])⟩⟩⟩⟩⟩, fun h1 => ⟨fun h2 => ⟨fun h3 => .or (.fe (x := 10) rfl (by simp only [casI, h1, h2, h3, cond_true, cond_false]) rfl), fun h3 => ⟨⟨by decide, by omega⟩, fun _ => ⟨fun h4 => .or (.fe (x := 7) rfl (by simp only [casI, casD, h1, h2, h3, h4, cond_true, cond_false]) rfl), fun h4 => RunD.fe ih (by simp only [casI, casD, h1, h2, h3, h4, cond_true, cond_false])⟩⟩⟩, fun h2 => .or (.fe (x := 10) rfl (by simp only [casI, h1, h2, cond_false]) rfl)⟩⟩)
theorem verify_terminator_l0 (p : Plc) (m : Md) (f : Fn) (t : Trm) (hok : okD qai t) (hk : 1 ≤ z t.1 ∧ z t.1 ≤ 6) (hs : z t.1 = 6 → 0 ≤ z t.2.2.2.2.1 ∧ z t.2.2.2.2.1 < (ln qaa m.2.1 : Nat)) (hp : shpP m f t = true) : ∀ i, i ≤ ln I t.2.1 → (∀ j, j < i → trmA m f t j = 0) → RunD E_V16 (qbh p m f t t.2.1 (ln I t.2.1 : Nat) i) (orD (atD p (qas (trmA m f t) (ln I t.2.1 - i) i)) (orD (atD p (trmS m f t)) (orD (atD p (qas (casI f t) (ln I t.2.2.1) 0)) (atD p (qas (edgI f t.2.2.2.1) (ln qae t.2.2.2.1) 0))))) :=
 qci (fun hj => RunsP.tree E_V16_ok (verify_terminator_L0_t _ _ _ _ _ _ _) (by
  have hu := shp_use hp
  have hr : z t.1 = 3 → 0 < ln I t.2.1 ∧ regP f (gd I t.2.1 0) = true := fun h3 => by
   have h1 : ln I t.2.1 = 1 := hu.2.2.1 h3
   have h0 := hj 0 (by omega)
   refine ⟨by omega, ?_⟩
   unfold trmA at h0
   cases hg : regP f (gd I t.2.1 0)
   ·rw [hg] at h0
    exact absurd h0 (show (10 : Int) ≠ 0 by decide)
   ·rfl
  have go := verify_terminator_l2 p f t hok hr 0 (Nat.zero_le _)
  rw [Nat.sub_self, qas, qer at_zero]
  simp only [sQ, sL,  Nat.lt_irrefl]
  refine ⟨fun h1 => go.cast ?_, fun h1 => ⟨hs (by simpa using h1), fun _ => ⟨fun h2 => .or (.at (p := p) (x := 9) rfl (congrArg (atD p) (by simp only [trmS, h1, h2, cond_true, cond_false])) rfl), fun h2 => go.cast ?_⟩⟩⟩
  ·rw [qer]
   ·rfl
   ·simp only [trmS, h1, cond_true]
    rfl
  ·rw [qer]
   ·rfl
   ·simp only [trmS, h1, h2, cond_false]
    rfl))
  fun i hi ih hj => RunsP.tree E_V16_ok (verify_terminator_L0_t _ _ _ _ _ _ _) (by
   have hu := shp_use hp
   have hod : opdOK m t (z (i : Int)) := fun a b c => by
    have h6 : z t.1 = 6 := by
     rcases (show z t.1 = 1 ∨ z t.1 = 5 ∨ z t.1 = 6 by omega) with h | h | h
     ·have := hu.1 h; omega
     ·have := hu.2.1 h; omega
     ·exact h
    have := hu.2.2.2 h6
    exact ⟨hs h6, Int.natCast_nonneg _, by show (i : Int) < _; omega⟩
   rw [sub1 hi]
   simp only [sQ, sL,  hi, wrapS hi (qbj hok.2.1.1)]
   refine ⟨fun h1 => .or (.fe (x := 10) rfl (by simp only [trmA, h1, cond_true]) rfl), fun h1 => ⟨reg_ok (by simpa using h1), fun _ => ⟨hod, fun _ => ⟨fun h2 => .or (.fe (x := 9) rfl (by simp only [trmA, h1, h2, cond_true, cond_false]) rfl), fun h2 => ?_⟩⟩⟩⟩
   have h0 : trmA m f t i = 0 := by simp only [trmA, h1, h2, cond_false]
   exact RunD.fe (ih fun j h => (Nat.lt_succ_iff_lt_or_eq.mp h).elim (hj j) (fun e => e ▸ h0)) h0)
def k_verify_terminator : ConP := ⟨[.d qak, .d qah, .d qaa, .d qai], fun x => True, fun x => errB (trmF x.1 x.2.1 x.2.2.1 x.2.2.2.1), fun x => ifD (trmF x.1 x.2.1 x.2.2.1 x.2.2.2.1)⟩
theorem m_verify_terminator (at_ : Den qak) (m : Den qah) (f : Den qaa) (t : Den qai) (h_at_ : okD qak at_) (h_m : okD qah m) (h_f : okD qaa f) (h_t : okD qai t) (hp : True) : RunsP E_V16 (start E_V16 qau [(.tv qak at_), (.tv qah m), (.tv qaa f), (.tv qai t)]) (fun r_ h_ => r_ = .tup [] ∧ h_ = [] ∧ errB (trmF at_ m f t) = false) (fun r_ => r_ = ifD (trmF at_ m f t) ∧ errB (trmF at_ m f t) = true) := .tree E_V16_ok (verify_terminator_t at_ m f t) (by
 have go : ∀ {d}, 1 ≤ z t.1 ∧ z t.1 ≤ 6 → (z t.1 = 6 → 0 ≤ z t.2.2.2.2.1 ∧ z t.2.2.2.2.1 < (ln qaa m.2.1 : Nat)) → (!(shpP m f t)) = false → d = atD at_ (trmC m f t) → RunD E_V16 (qbh at_ m f t t.2.1 (ln I t.2.1 : Nat) (0 : Nat)) d := fun h1 h2 h3 hd => by
  refine (verify_terminator_l0 at_ m f t h_t h1 h2 (by simpa using h3) 0 (Nat.zero_le _) (fun j h => absurd h (Nat.not_lt_zero _))).cast ?_
  rw [hd, trmC, h3, cond_false, at_or, at_or, at_or]
  rfl
 show Tre.wp (contP _ (Don (trmF at_ m f t)) (Thr (trmF at_ m f t))) _
 simp only [sQ]
 refine ⟨fun h1 => ⟨fun h2 => .at (p := at_) (x := 9) rfl (congrArg (atD at_) (by simp only [trmE, h1, h2, cond_true])) rfl, fun h2 => ⟨fun h3 => ?_, fun h3 => ⟨fun h4 => ⟨fun h5 => .at (p := at_) (x := 8) rfl (congrArg (atD at_) (by simp only [trmE, h1, h2, h3, h4, h5, cond_true, cond_false])) rfl, fun h5 => ?_⟩, fun h4 => .at (p := at_) (x := 8) rfl (congrArg (atD at_) (by simp only [trmE, h1, h2, h3, h4, cond_true, cond_false])) rfl⟩⟩⟩, fun h1 => .at (p := at_) (x := 9) rfl (congrArg (atD at_) (by simp only [trmE, h1, cond_false])) rfl⟩
 ·have hk : 1 ≤ z t.1 ∧ z t.1 ≤ 6 := ⟨by simpa using h1, by simpa using h2⟩
  have h6 : z t.1 ≠ 6 := by simpa using h3
  refine ⟨fun h4 => ⟨fun h => absurd h h6, fun _ => ⟨fun h5 => .at (p := at_) (x := 3) rfl (congrArg (atD at_) (by simp only [trmE, trmB, trmC, h1, h2, h3, h4, h5, cond_true, cond_false])) rfl, fun h5 => go hk (fun h => absurd h h6) h5 (congrArg (atD at_) (by simp only [trmE, trmB, h1, h2, h3, h4, cond_true, cond_false]))⟩⟩, fun h4 => ⟨fun h5 => .at (p := at_) (x := 11) rfl (congrArg (atD at_) (by simp only [trmE, trmB, h1, h2, h3, h4, h5, cond_true, cond_false])) rfl, fun h5 => ⟨fun h => absurd h h6, fun _ => ⟨fun h7 => .at (p := at_) (x := 3) rfl (congrArg (atD at_) (by simp only [trmE, trmB, trmC, h1, h2, h3, h4, h5, h7, cond_true, cond_false])) rfl, fun h7 => go hk (fun h => absurd h h6) h7 (congrArg (atD at_) (by simp only [trmE, trmB, h1, h2, h3, h4, h5, cond_true, cond_false]))⟩⟩⟩⟩
 ·have hk : 1 ≤ z t.1 ∧ z t.1 ≤ 6 := ⟨by simpa using h1, by simpa using h2⟩
  have hs : 0 ≤ z t.2.2.2.2.1 ∧ z t.2.2.2.2.1 < (ln qaa m.2.1 : Nat) := ⟨by simpa using h4, by simpa using h5⟩
  refine ⟨fun h6 => ⟨fun _ => hs, fun _ => ⟨fun h7 => .at (p := at_) (x := 3) rfl (congrArg (atD at_) (by simp only [trmE, trmB, trmC, h1, h2, h3, h4, h5, h6, h7, cond_true, cond_false])) rfl, fun h7 => go hk (fun _ => hs) h7 (congrArg (atD at_) (by simp only [trmE, trmB, h1, h2, h3, h4, h5, h6, cond_true, cond_false]))⟩⟩, fun h6 => ⟨fun h7 => .at (p := at_) (x := 11) rfl (congrArg (atD at_) (by simp only [trmE, trmB, h1, h2, h3, h4, h5, h6, h7, cond_true, cond_false])) rfl, fun h7 => ⟨fun _ => hs, fun _ => ⟨fun h8 => .at (p := at_) (x := 3) rfl (congrArg (atD at_) (by simp only [trmE, trmB, trmC, h1, h2, h3, h4, h5, h6, h7, h8, cond_true, cond_false])) rfl, fun h8 => go hk (fun _ => hs) h8 (congrArg (atD at_) (by simp only [trmE, trmB, h1, h2, h3, h4, h5, h6, h7, cond_true, cond_false]))⟩⟩⟩⟩)
theorem c_verify_terminator : qal E_V16 qau k_verify_terminator.spec := spec_ofP fun x hx hp => ⟨rfl, m_verify_terminator x.1 x.2.1 x.2.2.1 x.2.2.2.1 hx.1 hx.2.1 hx.2.2.1 hx.2.2.2.1 hp⟩
def L_V16 : List (FuncId × FSpec) := [(qau, k_verify_terminator.spec)] ++ L_V15
theorem L_V16_ok : ∀ x ∈ L_V16, qal (ctx []) x.1 x.2 := by
 unfold L_V16
 simp only [List.cons_append, List.nil_append, List.forall_mem_cons]
 exact ⟨c_verify_terminator, L_V15_ok⟩
end Burn.MM
namespace Burn.MM
open Go Go.BE Go.Proofs
set_option maxRecDepth 100000
set_option linter.unusedVariables false
set_option linter.unusedSimpArgs false
open Burn.Intn Burn.Ref
noncomputable abbrev E_V17 : Ctx := ctx L_V16
theorem E_V17_ok : EOK E_V17 := qch L_V16_ok
def cuts_V17 : CutL := [([], 31, 0, [1, 2, 4, 5, 6, 29, 30, 31], [], []),
 ([], 31, 2, [1, 2, 4, 52, 53, 54], [], []),
 ([], 31, 4, [1, 2, 4, 10, 11, 52, 53, 54, 78, 79, 80], [], [])]
def rets_V17 : FuncId → List (Option Fx)
 | _ => []
def H_V17 : Hints := { cut := cutOf cuts_V17, ret := rets_V17 }
noncomputable def verify_body_L0 (fn : Int) (m : Den qah) (instrs : Int) (t29 : List (Den qac)) (t30 : Int) (t31 : Int) (f_0 : ByteArray) (f_1 : List (Den I)) (f_2 : Int) (f_3 : List (Den I)) (f_4 : List (Den qac)) (at_ : Den qak) : Cfg := hcfg E_V17 qcb 0 [(1, (vi fn)), (2, (.rtp qah m)), (4, (.ref 0 0)), (5, (.tref 1 1 [] (0 : Nat) [])), (6, (vi instrs)), (29, (.tv (.sl 136 qac) t29)), (30, (vi t30)), (31, (vi t31))] [(0, ⟨(.cells [(vs f_0), (.tv (.sl 8 I) f_1), (vi f_2), (.tv (.sl 8 I) f_3), (.tv (.sl 136 qac) f_4)]), 0, [], false, none⟩), (1, ⟨(.arr 0 32 qak ([at_] : List (Den qak))), 1, [], false, none⟩)] 2
noncomputable def qgd (fn : Int) (m : Den qah) (t52 : List (Den qac)) (t53 : Int) (t54 : Int) (f_0 : ByteArray) (f_1 : List (Den I)) (f_2 : Int) (f_3 : List (Den I)) (f_4 : List (Den qac)) : Cfg := hcfg E_V17 qcb 2 [(1, (vi fn)), (2, (.rtp qah m)), (4, (.ref 0 0)), (52, (.tv (.sl 136 qac) t52)), (53, (vi t53)), (54, (vi t54))] [(0, ⟨(.cells [(vs f_0), (.tv (.sl 8 I) f_1), (vi f_2), (.tv (.sl 8 I) f_3), (.tv (.sl 136 qac) f_4)]), 0, [], false, none⟩)] 1
noncomputable def qgc (fn : Int) (m : Den qah) (t52 : List (Den qac)) (t53 : Int) (t54 : Int) (t78 : List (Den qad)) (t79 : Int) (t80 : Int) (f_0 : ByteArray) (f_1 : List (Den I)) (f_2 : Int) (f_3 : List (Den I)) (f_4 : List (Den qac)) (b_0 : List (Den I)) (b_1 : List (Den qad)) (b_2 : Int) (b_3 : List (Den I)) (b_4 : List (Den I)) (b_5 : List (Den qae)) (b_6 : Int) (at_ : Den qak) : Cfg := hcfg E_V17 qcb 4 [(1, (vi fn)), (2, (.rtp qah m)), (4, (.ref 0 0)), (10, (.ref 1 0)), (11, (.tref 2 2 [] (0 : Nat) [])), (52, (.tv (.sl 136 qac) t52)), (53, (vi t53)), (54, (vi t54)), (78, (.tv (.sl 80 qad) t78)), (79, (vi t79)), (80, (vi t80))] [(0, ⟨(.cells [(vs f_0), (.tv (.sl 8 I) f_1), (vi f_2), (.tv (.sl 8 I) f_3), (.tv (.sl 136 qac) f_4)]), 0, [], false, none⟩), (1, ⟨(.cells [(.tv (.sl 8 I) b_0), (.tv (.sl 80 qad) b_1), (vi b_2), (.tv (.sl 8 I) b_3), (.tv (.sl 8 I) b_4), (.tv (.sl 32 qae) b_5), (vi b_6)]), 1, [], false, none⟩), (2, ⟨(.arr 0 32 qak ([at_] : List (Den qak))), 2, [], false, none⟩)] 3
theorem verify_body_t (m : Den qah) (fn : Int) : run E_V17 H_V17 qcb 3000 (start E_V17 qcb [(.tv qah m), (vi fn)]) = (.chk (0 ≤ fn ∧ fn < (ln qaa m.2.1)) (.chk ((0 : Nat) < (1 : Nat)) (.chk ((0 : Nat) < (1 : Nat)) (cond (!(decide (((ln qac ((gd qaa m.2.1 fn.toNat).2.2.2.2.1)) : Int) > (0 : Int)))) (pn (.val (.iface 91 (.agg #[.int .i64 (4 : Int), .int .i64 (2 : Int), .int .i64 fn, .int .i64 (-1 : Int), .int .i64 (-1 : Int)])))) (hd (verify_body_L0 fn m (0 : Int) ((gd qaa m.2.1 fn.toNat).2.2.2.2.1) ((ln qac ((gd qaa m.2.1 fn.toNat).2.2.2.2.1)) : Int) (0 : Int) (tOf ((gd qaa m.2.1 fn.toNat).1)) ((gd qaa m.2.1 fn.toNat).2.1) (z ((gd qaa m.2.1 fn.toNat).2.2.1)) ((gd qaa m.2.1 fn.toNat).2.2.2.1) ((gd qaa m.2.1 fn.toNat).2.2.2.2.1) ((2 : Int), fn, (-1 : Int), (-1 : Int), ()))))))) := by kernel_rfl
theorem verify_body_L0_t (fn : Int) (m : Den qah) (instrs : Int) (t29 : List (Den qac)) (t30 : Int) (t31 : Int) (f_0 : ByteArray) (f_1 : List (Den I)) (f_2 : Int) (f_3 : List (Den I)) (f_4 : List (Den qac)) (at_ : Den qak) : run E_V17 H_V17 qcb 3000 (verify_body_L0 fn m instrs t29 t30 t31 f_0 f_1 f_2 f_3 f_4 at_) = (cond (decide (t31 < t30)) (.chk (0 ≤ t31 ∧ t31 < (ln qac t29)) (hd (verify_body_L0 fn m (IntKind.wrap .i64 (instrs + ((ln qad ((gd qac t29 t31.toNat).2.1)) : Int))) t29 t30 (IntKind.wrap .i64 (t31 + (1 : Int))) f_0 f_1 f_2 f_3 f_4 at_))) (.chk ((0 : Nat) < (1 : Nat)) (cond (decide (((ln qac f_4) : Int) ≤ (400 : Int))) (cond (!(decide (instrs ≤ (4000 : Int)))) (pn (.val (.iface 91 (.agg #[.int .i64 (11 : Int), .int .i64 (z at_.1), .int .i64 (z at_.2.1), .int .i64 (z at_.2.2.1), .int .i64 (z at_.2.2.2.1)])))) (hd (qgd fn m f_4 ((ln qac f_4) : Int) (0 : Int) f_0 f_1 f_2 f_3 f_4))) (pn (.val (.iface 91 (.agg #[.int .i64 (11 : Int), .int .i64 (z at_.1), .int .i64 (z at_.2.1), .int .i64 (z at_.2.2.1), .int .i64 (z at_.2.2.2.1)]))))))) := by kernel_rfl
theorem verify_body_L2_t (fn : Int) (m : Den qah) (t52 : List (Den qac)) (t53 : Int) (t54 : Int) (f_0 : ByteArray) (f_1 : List (Den I)) (f_2 : Int) (f_3 : List (Den I)) (f_4 : List (Den qac)) : run E_V17 H_V17 qcb 3000 (qgd fn m t52 t53 t54 f_0 f_1 f_2 f_3 f_4) = (cond (decide (t54 < t53)) (.chk (0 ≤ t54 ∧ t54 < (ln qac t52)) (.chk ((0 : Nat) < (1 : Nat)) (.chk ((0 : Nat) < (1 : Nat)) (cond (decide (t54 > (0 : Int))) (.chk ((0 : Nat) < (1 : Nat)) (.chk (True) (cond (errB (parF ((2 : Int), fn, t54, (-1 : Int), ()) (f_0, f_1, f_2, f_3, f_4, ()) (gd qac t52 t54.toNat).1)) (pn (ifD (parF ((2 : Int), fn, t54, (-1 : Int), ()) (f_0, f_1, f_2, f_3, f_4, ()) ((gd qac t52 t54.toNat).1)))) (hd (qgc fn m t52 t53 t54 ((gd qac t52 t54.toNat).2.1) ((ln qad ((gd qac t52 t54.toNat).2.1)) : Int) (0 : Int) f_0 f_1 f_2 f_3 f_4 ((gd qac t52 t54.toNat).1) ((gd qac t52 t54.toNat).2.1) (z ((gd qac t52 t54.toNat).2.2.1.1)) ((gd qac t52 t54.toNat).2.2.1.2.1) ((gd qac t52 t54.toNat).2.2.1.2.2.1) ((gd qac t52 t54.toNat).2.2.1.2.2.2.1) (z ((gd qac t52 t54.toNat).2.2.1.2.2.2.2.1)) ((2 : Int), fn, t54, (-1 : Int), ())))))) (cond (!(((ln I ((gd qac t52 t54.toNat).1)) : Int) == (0 : Int))) (pn (.val (.iface 91 (.agg #[.int .i64 (3 : Int), .int .i64 (2 : Int), .int .i64 fn, .int .i64 t54, .int .i64 (-1 : Int)])))) (.chk ((0 : Nat) < (1 : Nat)) (.chk (True) (cond (errB (parF ((2 : Int), fn, t54, (-1 : Int), ()) (f_0, f_1, f_2, f_3, f_4, ()) (gd qac t52 t54.toNat).1)) (pn (ifD (parF ((2 : Int), fn, t54, (-1 : Int), ()) (f_0, f_1, f_2, f_3, f_4, ()) ((gd qac t52 t54.toNat).1)))) (hd (qgc fn m t52 t53 t54 ((gd qac t52 t54.toNat).2.1) ((ln qad ((gd qac t52 t54.toNat).2.1)) : Int) (0 : Int) f_0 f_1 f_2 f_3 f_4 ((gd qac t52 t54.toNat).1) ((gd qac t52 t54.toNat).2.1) (z ((gd qac t52 t54.toNat).2.2.1.1)) ((gd qac t52 t54.toNat).2.2.1.2.1) ((gd qac t52 t54.toNat).2.2.1.2.2.1) ((gd qac t52 t54.toNat).2.2.1.2.2.2.1) (z ((gd qac t52 t54.toNat).2.2.1.2.2.2.2.1)) ((2 : Int), fn, t54, (-1 : Int), ()))))))))))) (rt (.tup []) [])) := by kernel_rfl
theorem verify_body_L4_t (fn : Int) (m : Den qah) (t52 : List (Den qac)) (t53 : Int) (t54 : Int) (t78 : List (Den qad)) (t79 : Int) (t80 : Int) (f_0 : ByteArray) (f_1 : List (Den I)) (f_2 : Int) (f_3 : List (Den I)) (f_4 : List (Den qac)) (b_0 : List (Den I)) (b_1 : List (Den qad)) (b_2 : Int) (b_3 : List (Den I)) (b_4 : List (Den I)) (b_5 : List (Den qae)) (b_6 : Int) (at_ : Den qak) : run E_V17 H_V17 qcb 3000 (qgc fn m t52 t53 t54 t78 t79 t80 f_0 f_1 f_2 f_3 f_4 b_0 b_1 b_2 b_3 b_4 b_5 b_6 at_) = (cond (decide (t80 < t79)) (.chk (0 ≤ t80 ∧ t80 < (ln qad t78)) (.chk ((0 : Nat) < (1 : Nat)) (.chk (True) (.know (okD (.int .i64) (chkF (gd qad t78 t80.toNat) (f_0, f_1, f_2, f_3, f_4, ()) m)) (.chk ((0 : Nat) < (1 : Nat)) (cond (!((chkF (gd qad t78 t80.toNat) (f_0, f_1, f_2, f_3, f_4, ()) m) == (0 : Int))) (pn (.val (.iface 91 (.agg #[.int .i64 (chkF (gd qad t78 t80.toNat) (f_0, f_1, f_2, f_3, f_4, ()) m), .int .i64 (z at_.1), .int .i64 (z at_.2.1), .int .i64 (z at_.2.2.1), .int .i64 t80])))) (hd (qgc fn m t52 t53 t54 t78 t79 (IntKind.wrap .i64 (t80 + (1 : Int))) f_0 f_1 f_2 f_3 f_4 b_0 b_1 b_2 b_3 b_4 b_5 b_6 (at_.1, at_.2.1, at_.2.2.1, t80, at_.2.2.2.2))))))))) (.chk ((0 : Nat) < (1 : Nat)) (.chk ((0 : Nat) < (1 : Nat)) (.chk (True) (cond (errB (trmF (at_.1, at_.2.1, at_.2.2.1, ((ln qad b_1) : Int), at_.2.2.2.2) m (f_0, f_1, f_2, f_3, f_4, ()) (b_2, b_3, b_4, b_5, b_6, ()))) (pn (ifD (trmF (at_.1, at_.2.1, at_.2.2.1, ((ln qad b_1) : Int), at_.2.2.2.2) m (f_0, f_1, f_2, f_3, f_4, ()) (b_2, b_3, b_4, b_5, b_6, ())))) (hd (qgd fn m t52 t53 (IntKind.wrap .i64 (t54 + (1 : Int))) f_0 f_1 f_2 f_3 f_4))))))) := by kernel_rfl
def plB (fn i : Nat) (k : Int) : Plc := ((2 : Int), (fn : Int), (i : Int), k, ())
theorem or_assoc (a b c : Dg) : orD (orD a b) c = orD a (orD b c) := by
 unfold orD
 cases h : errB a
 ·rw [cond_false]; rfl
 ·simp [h]
theorem no_or (d : Dg) : orD noD d = d := rfl
def blkH (b : Blk) (i : Nat) : Int := cond (decide ((i : Int) > (0 : Int))) 0 (cond (!((ln I b.1 : Int) == (0 : Int))) 3 0)
def insI (m : Md) (f : Fn) (fn i : Nat) (b : Blk) (k : Nat) : Dg := atD (plB fn i k) (chkF (gd qad b.2.1 k) f m)
def blkE (m : Md) (f : Fn) (fn i : Nat) (b : Blk) : Dg := orD (atD (plB fn i (-1)) (blkH b i)) (orD (parF (plB fn i (-1)) f b.1) (orD (qfh (insI m f fn i b) (ln qad b.2.1) 0) (trmF (plB fn i (ln qad b.2.1 : Nat)) m f b.2.2.1)))
def blkD (m : Md) (f : Fn) (fn i : Nat) : Dg := blkE m f fn i (gd qac f.2.2.2.2.1 i)
def sumW : Int → List Blk → Int
 | n, [] => n
 | n, b :: l => sumW (IntKind.wrap .i64 (n + (ln qad b.2.1 : Nat))) l
def bodB (m : Md) (f : Fn) (fn : Nat) (s : Int) : Dg := cond (decide ((ln qac f.2.2.2.2.1 : Int) ≤ (400 : Int))) (cond (!(decide (s ≤ (4000 : Int)))) (atD (plF fn) 11) (qfh (blkD m f fn) (ln qac f.2.2.2.2.1) 0)) (atD (plF fn) 11)
def bodE (m : Md) (f : Fn) (fn : Nat) : Dg := cond (!(decide ((ln qac f.2.2.2.2.1 : Int) > (0 : Int)))) (atD (plF fn) 4) (bodB m f fn (sumW 0 f.2.2.2.2.1))
def bodF (m : Md) (fn : Int) : Dg := bodE m (gd qaa m.2.1 fn.toNat) fn.toNat
theorem verify_body_l4 (m : Md) (f : Fn) (fn i : Nat) (b : Blk) (d : Dg) (hi : i < ln qac f.2.2.2.2.1) (hok : okD qaa f) (hb : okD qac b)
  (ih : RunD E_V17 (qgd fn m f.2.2.2.2.1 (ln qac f.2.2.2.2.1 : Nat) (i + 1 : Nat) (tOf f.1) f.2.1 (z f.2.2.1) f.2.2.2.1 f.2.2.2.2.1) d) : ∀ k, k ≤ ln qad b.2.1 → ∀ q, RunD E_V17 (qgc fn m f.2.2.2.2.1 (ln qac f.2.2.2.2.1 : Nat) i b.2.1 (ln qad b.2.1 : Nat) k (tOf f.1) f.2.1 (z f.2.2.1) f.2.2.2.1 f.2.2.2.2.1 b.1 b.2.1 (z b.2.2.1.1) b.2.2.1.2.1 b.2.2.1.2.2.1 b.2.2.1.2.2.2.1 (z b.2.2.1.2.2.2.2.1) (plB fn i q)) (orD (qfh (insI m f fn i b) (ln qad b.2.1 - k) k) (orD (trmF (plB fn i (ln qad b.2.1 : Nat)) m f b.2.2.1) d)) :=
 qci (fun q => RunsP.tree E_V17_ok (verify_body_L4_t _ _ _ _ _ _ _ _ _ _ _ _ _ _ _ _ _ _ _ _ _) (by
  rw [Nat.sub_self, qfh, no_or]
  simp only [sQ, sL,  Nat.lt_irrefl, wrapS hi (qbj hok.2.2.2.2.1.1)]
  exact ⟨fun h1 => .or ⟨rfl, h1⟩, fun h1 => ih.cast (qer h1)⟩))
  fun k hk ihk q => RunsP.tree E_V17_ok (verify_body_L4_t _ _ _ _ _ _ _ _ _ _ _ _ _ _ _ _ _ _ _ _ _) (by
   rw [sub1 hk, qfh, or_assoc]
   simp only [sQ, sL,  hk, wrapS hk (qbj hb.2.1.1)]
   refine fun _ => ⟨fun h1 => .or (.at (p := plB fn i k) (x := chkF (gd qad b.2.1 k) f m) rfl rfl (by rw [Bool.not_eq_true'] at h1; exact h1)), fun h1 => ?_⟩
   refine (ihk k).cast (qer ?_)
   show (!(_ == (0 : Int))) = false
   exact h1)
theorem verify_body_l2 (m : Md) (f : Fn) (fn : Nat) (hok : okD qaa f) : ∀ i, i ≤ ln qac f.2.2.2.2.1 → RunD E_V17 (qgd fn m f.2.2.2.2.1 (ln qac f.2.2.2.2.1 : Nat) i (tOf f.1) f.2.1 (z f.2.2.1) f.2.2.2.1 f.2.2.2.2.1) (qfh (blkD m f fn) (ln qac f.2.2.2.2.1 - i) i) :=
 qci (RunsP.tree E_V17_ok (verify_body_L2_t _ _ _ _ _ _ _ _ _ _) (by
  rw [Nat.sub_self]
  simp only [sQ, sL,  Nat.lt_irrefl]
  exact ⟨rfl, rfl, rfl⟩))
  fun i hi ih => RunsP.tree E_V17_ok (verify_body_L2_t _ _ _ _ _ _ _ _ _ _) (by
   have hb := ok_gd hok.2.2.2.2.1 hi
   have go := verify_body_l4 m f fn i (gd qac f.2.2.2.2.1 i) _ hi hok hb ih 0 (Nat.zero_le _) (-1)
   rw [sub1 hi, qfh, blkD, blkE, or_assoc, or_assoc, or_assoc]
   simp only [sQ, sL,  hi]
   refine ⟨fun h1 => ?_, fun h1 => ⟨fun h2 => .or (.at (p := plB fn i (-1)) (x := 3) rfl (congrArg (atD (plB fn i (-1))) ?_) rfl), fun h2 => ?_⟩⟩
   ·have hh : errB (atD (plB fn i (-1)) (blkH (gd qac f.2.2.2.2.1 i) i)) = false := by
     rw [show blkH (gd qac f.2.2.2.2.1 i) i = 0 from by unfold blkH; rw [show decide ((i : Int) > 0) = true from by simpa using h1]; rfl]
     rfl
    rw [qer hh]
    exact ⟨fun h3 => .or ⟨rfl, h3⟩, fun h3 => go.cast (qer h3)⟩
   ·unfold blkH
    rw [show decide ((i : Int) > 0) = false from by simpa using h1, cond_false, show (!((ln I (gd qac f.2.2.2.2.1 i).1 : Int) == 0)) = true from h2]
    rfl
   ·have hh : errB (atD (plB fn i (-1)) (blkH (gd qac f.2.2.2.2.1 i) i)) = false := by
     rw [show blkH (gd qac f.2.2.2.2.1 i) i = 0 from by unfold blkH; rw [show decide ((i : Int) > 0) = false from by simpa using h1, cond_false, show (!((ln I (gd qac f.2.2.2.2.1 i).1 : Int) == 0)) = false from h2]; rfl]
     rfl
    rw [qer hh]
    exact ⟨fun h3 => .or ⟨rfl, h3⟩, fun h3 => go.cast (qer h3)⟩)
theorem verify_body_l0 (m : Md) (f : Fn) (fn : Nat) (hok : okD qaa f) : ∀ i, i ≤ ln qac f.2.2.2.2.1 → ∀ n, RunD E_V17 (verify_body_L0 fn m n f.2.2.2.2.1 (ln qac f.2.2.2.2.1 : Nat) i (tOf f.1) f.2.1 (z f.2.2.1) f.2.2.2.1 f.2.2.2.2.1 (plF fn)) (bodB m f fn (sumW n (f.2.2.2.2.1.drop i))) :=
 qci (fun n => RunsP.tree E_V17_ok (verify_body_L0_t _ _ _ _ _ _ _ _ _ _ _ _) (by
  rw [show f.2.2.2.2.1.drop (ln qac f.2.2.2.2.1) = [] from drop_ln, sumW]
  simp only [sQ, sL,  Nat.lt_irrefl]
  have go := verify_body_l2 m f fn hok 0 (Nat.zero_le _)
  refine ⟨fun h1 => ⟨fun h2 => .at (p := plF fn) (x := 11) rfl ?_ rfl, fun h2 => go.cast ?_⟩, fun h1 => .at (p := plF fn) (x := 11) rfl ?_ rfl⟩
  ·simp only [bodB, h1, h2, cond_true]
  ·simp only [bodB, h1, h2, cond_true, cond_false]
   rfl
  ·simp only [bodB, h1, cond_false]))
  fun i hi ih n => RunsP.tree E_V17_ok (verify_body_L0_t _ _ _ _ _ _ _ _ _ _ _ _) (by
   rw [show f.2.2.2.2.1.drop i = gd qac f.2.2.2.2.1 i :: f.2.2.2.2.1.drop (i + 1) from drop_gd hi, sumW]
   simp only [sQ, sL,  hi, wrapS hi (qbj hok.2.2.2.2.1.1)]
   exact ih _)
def k_verify_body : ConP := ⟨[.d qah, .d I], fun x => 0 ≤ z x.2.1 ∧ z x.2.1 < (ln qaa x.1.2.1 : Nat), fun x => errB (bodF x.1 x.2.1), fun x => ifD (bodF x.1 x.2.1)⟩
theorem m_verify_body (m : Den qah) (fn : Int) (h_m : okD qah m) (h_fn : okD I fn) (hp : 0 ≤ z fn ∧ z fn < (ln qaa m.2.1 : Nat)) : RunsP E_V17 (start E_V17 qcb [(.tv qah m), (vi fn)]) (fun r_ h_ => r_ = .tup [] ∧ h_ = [] ∧ errB (bodF m fn) = false) (fun r_ => r_ = ifD (bodF m fn) ∧ errB (bodF m fn) = true) := .tree E_V17_ok (verify_body_t m fn) (by
 have h1 : 0 ≤ fn := hp.1
 have h2 : fn < (ln qaa m.2.1 : Nat) := hp.2
 obtain ⟨n, rfl⟩ : ∃ n : Nat, fn = n := ⟨fn.toNat, by omega⟩
 have hn : n < ln qaa m.2.1 := by omega
 have hgo := ok_gd h_m.2.1 hn
 show Tre.wp (contP _ (Don (bodE m (gd qaa m.2.1 n) n)) (Thr (bodE m (gd qaa m.2.1 n) n))) _
 simp only [sQ, sL,  hn]
 refine ⟨fun h3 => .at (p := plF n) (x := 4) rfl ?_ rfl, fun h3 => (verify_body_l0 m (gd qaa m.2.1 n) n hgo 0 (Nat.zero_le _) 0).cast ?_⟩
 ·unfold bodE
  rw [show (!(decide ((ln qac (gd qaa m.2.1 n).2.2.2.2.1 : Int) > (0 : Int)))) = true from by simpa using h3]
  rfl
 ·unfold bodE
  rw [show (!(decide ((ln qac (gd qaa m.2.1 n).2.2.2.2.1 : Int) > (0 : Int)))) = false from by simpa using h3]
  rfl)
theorem c_verify_body : qal E_V17 qcb k_verify_body.spec := spec_ofP fun x hx hp => ⟨rfl, m_verify_body x.1 x.2.1 hx.1 hx.2.1 hp⟩
def L_V17 : List (FuncId × FSpec) := [(qcb, k_verify_body.spec)] ++ L_V16
theorem L_V17_ok : ∀ x ∈ L_V17, qal (ctx []) x.1 x.2 := by
 unfold L_V17
 simp only [List.cons_append, List.nil_append, List.forall_mem_cons]
 exact ⟨c_verify_body, L_V16_ok⟩
end Burn.MM
namespace Burn.MM
open Go Go.BE Go.Proofs
set_option maxRecDepth 100000
set_option linter.unusedVariables false
set_option linter.unusedSimpArgs false
open Burn.Intn Burn.Ref
noncomputable abbrev E_V18 : Ctx := ctx L_V17
theorem E_V18_ok : EOK E_V18 := qch L_V17_ok
def cuts_V18 : CutL := [([], 28, 0, [0, 10, 11], [], [])]
def rets_V18 : FuncId → List (Option Fx)
 | _ => []
def H_V18 : Hints := { cut := cutOf cuts_V18, ret := rets_V18 }
noncomputable def qdl (t0 : Den qah) (t10 : Int) (t11 : Int) : Cfg := hcfg E_V18 qar 0 [(0, (.rtp qah t0)), (10, (vi t10)), (11, (vi t11))] [] 0
theorem verify_Module_cl1_t (x : Den qah) : run E_V18 H_V18 qar 3000 (start E_V18 qar [(.rtp qah x)]) = (.chk (True) (cond (errB (gloD x.1)) (pn (ifD (gloD x.1))) (.chk (True) (cond (errB (sigD x.2.1)) (pn (ifD (sigD x.2.1))) (hd (qdl x ((ln qaa x.2.1) : Int) (0 : Int))))))) := by kernel_rfl
theorem verify_Module_cl1_L0_t (t0 : Den qah) (t10 : Int) (t11 : Int) : run E_V18 H_V18 qar 3000 (qdl t0 t10 t11) = (cond (decide (t11 < t10)) (.chk (0 ≤ z t11 ∧ z t11 < (ln qaa t0.2.1 : Nat)) (cond (errB (bodF t0 t11)) (pn (ifD (bodF t0 t11))) (hd (qdl t0 t10 (IntKind.wrap .i64 (t11 + (1 : Int))))))) (rt (.tup []) [])) := by kernel_rfl
def modB (m : Md) (i : Nat) : Dg := bodF m (i : Int)
def modD (m : Md) : Dg := orD (gloD m.1) (orD (sigD m.2.1) (qfh (modB m) (ln qaa m.2.1) 0))
theorem verify_Module_cl1_l (m : Md) (hok : okD qah m) : ∀ i, i ≤ ln qaa m.2.1 → RunD E_V18 (qdl m (ln qaa m.2.1 : Nat) i) (qfh (modB m) (ln qaa m.2.1 - i) i) :=
 qci (RunsP.tree E_V18_ok (verify_Module_cl1_L0_t _ _ _) (by
  rw [Nat.sub_self]
  simp only [sQ, sL,  Nat.lt_irrefl]
  exact ⟨rfl, rfl, rfl⟩))
  fun i hi ih => RunsP.tree E_V18_ok (verify_Module_cl1_L0_t _ _ _) (by
   rw [sub1 hi, qfh]
   simp only [sQ, sL,  hi, wrapS hi (qbj hok.2.1.1)]
   exact ⟨fun h1 => .or ⟨rfl, h1⟩, fun h1 => ih.cast (qer h1)⟩)
def k_verify_Module_cl1 : ConP := ⟨[.cap qah], fun x => True, fun x => errB (modD x.1), fun x => ifD (modD x.1)⟩
theorem m_verify_Module_cl1 (x : Den qah) (h_x : okD qah x) (hp : True) : RunsP E_V18 (start E_V18 qar [(.rtp qah x)]) (fun r_ h_ => r_ = .tup [] ∧ h_ = [] ∧ errB (modD x) = false) (fun r_ => r_ = ifD (modD x) ∧ errB (modD x) = true) := .tree E_V18_ok (verify_Module_cl1_t x) (by
 show Tre.wp (contP _ (Don (modD x)) (Thr (modD x))) _
 unfold modD
 simp only [sQ]
 refine ⟨fun h1 => .or ⟨rfl, h1⟩, fun h1 => ?_⟩
 rw [qer h1]
 refine ⟨fun h2 => .or ⟨rfl, h2⟩, fun h2 => ?_⟩
 rw [qer h2]
 exact verify_Module_cl1_l x (by first | exact h_x | assumption) 0 (Nat.zero_le _))
theorem c_verify_Module_cl1 : qal E_V18 qar k_verify_Module_cl1.spec := spec_ofP fun x hx hp => ⟨rfl, m_verify_Module_cl1 x.1 hx.1 hp⟩
def L_V18 : List (FuncId × FSpec) := [(qar, k_verify_Module_cl1.spec)] ++ L_V17
theorem L_V18_ok : ∀ x ∈ L_V18, qal (ctx []) x.1 x.2 := by
 unfold L_V18
 simp only [List.cons_append, List.nil_append, List.forall_mem_cons]
 exact ⟨c_verify_Module_cl1, L_V17_ok⟩
end Burn.MM
namespace Burn.MM
open Go Go.BE Go.Proofs
set_option maxRecDepth 100000
set_option linter.unusedVariables false
set_option linter.unusedSimpArgs false
noncomputable abbrev E_V19 : Ctx := ctx L_V18
theorem E_V19_ok : EOK E_V19 := qch L_V18_ok
theorem first_idle {l : List (FuncId × FSpec)} (p : Value) (w : World) : CallsD Tryd.prog 47 #[p] .returning w fun e u' w' => e = .returned (.tuple #[]) ∧ u' = .returning ∧ w' = w := by
 refine callsD_of_wpS Tryd.func47 rfl fun c₀ cs hu => ?_
 apply (show ∀ {c : Code} {Q : Exit → Act → List Frame → World → Prop} {cs : List Frame} {w : World}, CS (ctx l) c Q (mkA [p, undef, undef, undef, undef, undef, undef, undef, undef, undef, undef, undef, undef, undef, undef, undef, undef] []) cs w → Code.wpS Tryd.prog c Q _ cs w from fun h => h.out)
 refine .seq (.reg [0, 1] rfl ?_)
 refine .rcv0 [p, undef, undef, undef, .nilIface, undef, undef, undef, undef, undef, undef, undef, undef, undef, undef, undef, undef] rfl rfl rfl (by kernel_rfl) (by simp [recoverD, hu]) rfl ?_
 refine .at_ .nilIface [p, .nilIface, undef, undef, .nilIface, undef, undef, undef, undef, undef, undef, undef, undef, undef, undef, undef, undef] rfl rfl rfl (by kernel_rfl) rfl ?_
 refine .next (.seq (.reg [0, 1] rfl ?_))
 refine .at_ .nilIface [p, .nilIface, undef, undef, .nilIface, .nilIface, undef, undef, undef, undef, undef, undef, undef, undef, undef, undef, undef] rfl rfl rfl (by kernel_rfl) rfl ?_
 refine .at_ (.bool false) [p, .nilIface, undef, undef, .nilIface, .nilIface, .bool false, undef, undef, undef, undef, undef, undef, undef, undef, undef, undef] rfl rfl rfl (by kernel_rfl) rfl ?_
 refine .next (.condF (by kernel_rfl) (.skip ?_))
 refine ⟨rfl, .returning, ?_, .tuple #[], by kernel_rfl, rfl, rfl, rfl⟩
 cases c₀
 simp_all
theorem first_catch {l : List (FuncId × FSpec)} {w0 w : World} {K : Kp} {Z : Nat → Prop} {own : Own} {γ : Gst} {c1 c2 c3 c4 c5 : AV} {d : Dg} {p : Value} (hE : EOK (ctx l)) (hm : MemR w0 K w Z own γ [(0, qds 0 (.cells [c1, c2, c3, c4, c5]))] (fun s => s < 64)) (hg : GlR (ctx l) w Z) (hp : VR w Z γ (.ref 0 0) p) (hd : okV (.iface 91 (dgV d))) :
  CallsD Tryd.prog 47 #[p] (.panicking [{ v := .iface 91 (dgV d), recovered := false }]) w fun e u' w' => e = .returned (.tuple #[]) ∧ u' = .panicking [{ v := .iface 91 (dgV d), recovered := true }] ∧
   ∃ Z' own' γ' h' nx', Stay w Z w' Z' ∧ γ.Le γ' ∧ MemR w0 K w' Z' own' γ' h' (fun s => s < nx') ∧ GlR (ctx l) w' Z' ∧ hget h' 0 = some (qds 0 (.cells [vi d.1, vi d.2.1, vi d.2.2.1, vi d.2.2.2.1, vi d.2.2.2.2.1])) := by
 refine callsD_of_wpS Tryd.func47 rfl fun c₀ cs hu => ?_
 apply (show ∀ {c : Code} {Q : Exit → Act → List Frame → World → Prop} {cs : List Frame} {w : World}, CS (ctx l) c Q (mkA [p, undef, undef, undef, undef, undef, undef, undef, undef, undef, undef, undef, undef, undef, undef, undef, undef] []) cs w → Code.wpS Tryd.prog c Q _ cs w from fun h => h.out)
 refine .seq (.reg [0, 1] rfl ?_)
 refine .rcv (cs' := { c₀ with mode := .panicking [{ v := (.iface 91 (dgV d)), recovered := true }] } :: cs) (.iface 91 (dgV d)) [p, undef, undef, undef, (.iface 91 (dgV d)), undef, undef, undef, undef, undef, undef, undef, undef, undef, undef, undef, undef] rfl rfl rfl (by kernel_rfl) (by simp [recoverD, hu]) rfl ?_
 refine .at_ (.iface 91 (dgV d)) [p, (.iface 91 (dgV d)), undef, undef, (.iface 91 (dgV d)), undef, undef, undef, undef, undef, undef, undef, undef, undef, undef, undef, undef] rfl rfl rfl (by kernel_rfl) rfl ?_
 refine .next (.seq (.reg [0, 1] rfl ?_))
 refine .at_ (.iface 91 (dgV d)) [p, (.iface 91 (dgV d)), undef, undef, (.iface 91 (dgV d)), (.iface 91 (dgV d)), undef, undef, undef, undef, undef, undef, undef, undef, undef, undef, undef] rfl rfl rfl (by kernel_rfl) rfl ?_
 refine .at_ (.bool true) [p, (.iface 91 (dgV d)), undef, undef, (.iface 91 (dgV d)), (.iface 91 (dgV d)), .bool true, undef, undef, undef, undef, undef, undef, undef, undef, undef, undef] rfl rfl rfl (by kernel_rfl) rfl ?_
 refine .next (.condT (by kernel_rfl) (.seq (.reg [0, 1, 2, 3, 4, 5, 6, 7] rfl ?_)))
 refine .at_ (.iface 91 (dgV d)) [p, (.iface 91 (dgV d)), undef, undef, (.iface 91 (dgV d)), (.iface 91 (dgV d)), .bool true, undef, (.iface 91 (dgV d)), undef, undef, undef, undef, undef, undef, undef, undef] rfl rfl rfl (by kernel_rfl) rfl ?_
 refine .at_ (.tuple #[dgV d, .bool true]) [p, (.iface 91 (dgV d)), undef, undef, (.iface 91 (dgV d)), (.iface 91 (dgV d)), .bool true, undef, (.iface 91 (dgV d)), (.tuple #[dgV d, .bool true]), undef, undef, undef, undef, undef, undef, undef] rfl rfl rfl (by kernel_rfl) rfl ?_
 refine .at_ (.tuple #[dgV d, .bool true]) [p, (.iface 91 (dgV d)), undef, undef, (.iface 91 (dgV d)), (.iface 91 (dgV d)), .bool true, (.tuple #[dgV d, .bool true]), (.iface 91 (dgV d)), (.tuple #[dgV d, .bool true]), undef, undef, undef, undef, undef, undef, undef] rfl rfl rfl (by kernel_rfl) rfl ?_
 refine .at_ (dgV d) [p, (.iface 91 (dgV d)), undef, undef, (.iface 91 (dgV d)), (.iface 91 (dgV d)), .bool true, (.tuple #[dgV d, .bool true]), (.iface 91 (dgV d)), (.tuple #[dgV d, .bool true]), dgV d, undef, undef, undef, undef, undef, undef] rfl rfl rfl (by kernel_rfl) rfl ?_
 refine .at_ (.bool true) [p, (.iface 91 (dgV d)), undef, undef, (.iface 91 (dgV d)), (.iface 91 (dgV d)), .bool true, (.tuple #[dgV d, .bool true]), (.iface 91 (dgV d)), (.tuple #[dgV d, .bool true]), dgV d, .bool true, undef, undef, undef, undef, undef] rfl rfl rfl (by kernel_rfl) rfl ?_
 have hd' : ∀ v ∈ ([.int .i64 d.1, .int .i64 d.2.1, .int .i64 d.2.2.1, .int .i64 d.2.2.2.1, .int .i64 d.2.2.2.2.1] : List Value), okV1 v := hd
 have hv : ∀ {x : Int}, Value.int .i64 x ∈ ([.int .i64 d.1, .int .i64 d.2.1, .int .i64 d.2.2.1, .int .i64 d.2.2.2.1, .int .i64 d.2.2.2.2.1] : List Value) → VR w Z γ (vi x) (.int .i64 x) := fun hx => .cr (.val _ (hd' _ hx))
 have hag : VR w Z γ (.agg [vi d.1, vi d.2.1, vi d.2.2.1, vi d.2.2.2.1, vi d.2.2.2.2.1]) (dgV d) := by
  refine .agg _ _ rfl fun j x y hx hy => ?_
  match j, hx, hy with
  | 0, hx, hy => injection hx with hx; injection hy with hy; subst hx; subst hy; exact hv (by simp)
  | 1, hx, hy => injection hx with hx; injection hy with hy; subst hx; subst hy; exact hv (by simp)
  | 2, hx, hy => injection hx with hx; injection hy with hy; subst hx; subst hy; exact hv (by simp)
  | 3, hx, hy => injection hx with hx; injection hy with hy; subst hx; subst hy; exact hv (by simp)
  | 4, hx, hy => injection hx with hx; injection hy with hy; subst hx; subst hy; exact hv (by simp)
  | j + 5, hx, hy => simp at hx
 have hf : VRs w Z γ [.ref 0 0, .bad, .bad, .bad, .bad, .bad, .bad, .bad, .bad, .bad, .agg [vi d.1, vi d.2.1, vi d.2.2.1, vi d.2.2.2.1, vi d.2.2.2.2.1], vb true, .bad, .bad, .bad, .bad, .bad] [p, (.iface 91 (dgV d)), undef, undef, (.iface 91 (dgV d)), (.iface 91 (dgV d)), .bool true, (.tuple #[dgV d, .bool true]), (.iface 91 (dgV d)), (.tuple #[dgV d, .bool true]), dgV d, .bool true, undef, undef, undef, undef, undef] := by
  refine .cons hp ?_
  repeat (first | exact .nil | refine .cons (.bad _) ?_ | refine .cons hag ?_ | refine .cons (.cr (.val _ trivial)) ?_)
 refine .sr (h := [(0, qds 0 (.cells [c1, c2, c3, c4, c5]))]) (nx := 64) hE [5, 6, 7] [] (by kernel_rfl) hm hg (by simpa [mkA] using hf) fun a1 w1 Z1 own1 γ1 q1 q2 q3 q4 q5 q6 => ?_
 refine .next (.seq (.seq (.reg [0, 1] rfl ?_)))
 refine .sr hE [0, 1] [] (by kernel_rfl) q4 q5 q6 fun a2 w2 Z2 own2 γ2 r1 r2 r3 r4 r5 r6 => ?_
 have e13 : a2.eval (.tmp 13) = .bool false := ((ev_rel' r5 r6 (.tmp 13)).cast (B := vb false) (by kernel_rfl)).val_inv
 refine .next (.condF e13 (.skip (thenS_n (.reg [0, 1, 2] rfl ?_))))
 refine .sr hE [0, 1, 2] [] (by kernel_rfl) r4 r5 r6 fun a3 w3 Z3 own3 γ3 s1 s2 s3 s4 s5 s6 => .fin ?_
 refine ⟨(s1.trans (r1.trans q1)).trans rfl, .panicking [{ v := .iface 91 (dgV d), recovered := true }], rfl, .tuple #[], ?_, rfl, rfl, Z3, own3, γ3, _, _, q2.trans (r2.trans s2), q3.trans (r3.trans s3), s4, s5, by kernel_rfl⟩
 simp [results, Tryd.results47]
theorem first_leaves {l : List (FuncId × FSpec)} {w0 w : World} {Z0 Z : Nat → Prop} {own : Own} {γ : Gst} {h : Heap} {nx : Nat} {fr : List AV} {a : Act} {d : Dg} (hE : EOK (ctx l)) (hm : MemR w0 ⟨fun _ => True, Z0⟩ w Z own γ h (fun s => s < nx)) (hs : Stay w0 Z0 w Z) (hf : VRs w Z γ fr a.tmps.toList)
  (hl : lget fr 2 = .ref 0 0) (hh : hget h 0 = some (qds 0 (.cells [vi d.1, vi d.2.1, vi d.2.2.1, vi d.2.2.2.1, vi d.2.2.2.2.1]))) :
  Leaves (ctx l).P Tryd.f27 a.tmps (fun e w' => ∃ v Z' own' γ', e = .returned v ∧ Stay w0 Z0 w' Z' ∧ MemR w0 ⟨fun _ => True, Z0⟩ w' Z' own' γ' [] (fun s => s < 16) ∧ VR w' Z' γ' (avOf qat d) v) [] .returning w := by
 have he : aresults (ctx l) h fr Tryd.f27.results.toList = some ([], [.agg [vi d.1, vi d.2.1, vi d.2.2.1, vi d.2.2.2.1, vi d.2.2.2.2.1]]) := load_root (ty := 62) hl hh (by kernel_rfl)
 obtain ⟨V, h1, h2⟩ := results_sound hE.ty hm hf he trivial
 refine ⟨V, h1, V, Z, fun _ => none, ⟨fun _ => none, fun _ _ => none⟩, rfl, hs, hm.drop, ?_⟩
 have hcr := h2.toCR rfl
 exact .cr (argD_sound (S := qat) (y := d) rfl hcr)
def firstF (m : Md) : Dg := cond (errB (modD m)) (modD m) ((0 : Int), (0 : Int), (0 : Int), (0 : Int), (0 : Int), ())

def k_verify_first : Con := con [.fn qar [qah]] qat (fun x => True) fun x => firstF x.1.1
theorem c_verify_first : qal E_V19 f_verify_first k_verify_first.spec := spec_hand fun x _ _ w Z vs hg hz hc => by
 obtain ⟨⟨m, u1⟩, u2⟩ : (Md × Unit) × Unit := x
 have hc : CRs w Z [.fn qar [.rtp qah m]] vs := hc
 obtain ⟨V, rfl⟩ : ∃ V, vs = [V] := by
  have := hc.1
  match vs, this with
  | [V], _ => exact ⟨V, rfl⟩
 have hE : EOK E_V19 := E_V19_ok
 refine calls_of_wp_defers Tryd.func27 rfl ?_
 refine (show ∀ {c : Code} {Q : Exit → Act → World → Prop} {w : World}, CN E_V19 c Q (mkA [V, undef, undef, undef, undef, undef, undef] []) w → Code.wp Tryd.prog c Q _ w from fun h => h.out) ?_
 have hf0 : VRs w Z ⟨fun _ => none, fun _ _ => none⟩ [.fn qar [.rtp qah m], und, und, und, und, und, und] [V, undef, undef, undef, undef, undef, undef] := by
  refine .cons (.cr (hc.2 0 _ _ rfl rfl)) ?_
  repeat (first | exact .nil | refine .cons (.cr (.val _ trivial)) ?_)
 refine .seq (.reg [0] rfl ?_)
 refine .sr hE [0] [] (by kernel_rfl) (MemR.none hz) hg (by simpa [mkA] using hf0) fun a1 w1 Z1 own1 γ1 q1 q2 q3 q4 q5 q6 => ?_
 refine .next (.seq (.reg [0, 1] rfl ?_))
 refine .sr hE [0] [1] (by kernel_rfl) q4 q5 q6 fun a2 w2 Z2 own2 γ2 r1 r2 r3 r4 r5 r6 => ?_
 obtain ⟨us, e3, hus⟩ := ((ev_rel' r5 r6 (.tmp 3)).cast (B := .fn qbi [.ref 0 0]) (by kernel_rfl)).fn_inv
 obtain ⟨p, rfl⟩ : ∃ p, us = #[p] := by
  have := hus.1
  obtain ⟨l⟩ := us
  match l, this with
  | [p], _ => exact ⟨p, rfl⟩
 have hpr : VR w2 Z2 γ2 (.ref 0 0) p := hus.head
 refine .defer ⟨.fn (.func qbi) #[p], #[]⟩ rfl rfl rfl (by simp [execOp, resolve, e3, Deferred.ofValue]) ?_
 refine .next (.seq (.reg [0, 1] rfl ?_))
 refine .sr (a := { a2 with defers := ⟨.fn (.func qbi) #[p], #[]⟩ :: a2.defers }) hE [0] [1] (by kernel_rfl) r4 r5 r6 fun a3 w3 Z3 own3 γ3 s1 s2 s3 s4 s5 s6 => ?_
 have hdef : a3.defers = [⟨.fn (.func qbi) #[p], #[]⟩] := by
  rw [s1]
  show _ :: a2.defers = _
  rw [r1, q1]
  rfl
 obtain ⟨cs, e4, hcs⟩ := ((ev_rel' s5 s6 (.tmp 4)).cast (B := .fn qar [.rtp qah m]) (by kernel_rfl)).fn_inv
 have hcall := acallP_sound (K := ⟨fun _ => True, Z⟩) (used' := fun s => s < 64) hE.env s4 s5 (f := qar) (args := [.rtp qah m]) (C := [True]) (bb := errB (modD m)) (pv := ifD (modD m)) (a := .tup []) (by kernel_rfl) ⟨trivial, trivial⟩ hcs (fun s h => Nat.lt_of_lt_of_le h (Nat.le_of_ble_eq_true (by kernel_rfl)))
 have hst3 : Stay w Z w3 Z3 := q2.trans (r2.trans s2)
 refine .call (f := qar) (args := cs) rfl rfl ?_ (by simpa using hcall) (fun v w4 hR => ?_) (fun ch w4 hR => ?_) (fun w4 hR => ?_)
 ·have hfn := hE.fns qar (by kernel_rfl) cs w3
  simp [execOp, resolve, e4, Deferred.ofValue, invoke]
  exact hfn
 ·obtain ⟨Z4, k1, k2, k3⟩ := hR
  rcases k3 with ⟨_, V4, he, _⟩ | ⟨hb, V4, he, hv⟩
  ·cases he
  ·injection he with he
   subst he
   refine .next (.seq (.reg [0, 1] rfl ?_))
   refine .sr hE [0, 1] [] (by kernel_rfl) k2 (s5.mono k1) ((s6.mono k1 (Gst.Le.refl _)).putT (some 5) hv) fun a5 w5 Z5 own5 γ5 t1 t2 t3 t4 t5 t6 => ?_
   refine .next (.ret ?_)
   have hd5 : a5.defers = [⟨.fn (.func qbi) #[p], #[]⟩] := by rw [t1, put_defers]; exact hdef
   show Leaves E_V19.P Tryd.f27 a5.tmps _ a5.defers .returning w5
   rw [hd5]
   refine leaves_cons (by simp) (f := qbi) (args := #[p]) ?_ ?_
   ·have hfn := hE.fns qbi (by kernel_rfl) #[p] w5
    simpa [invoke] using hfn
   ·refine (first_idle (l := L_V18) p w5).mono fun e u' w' ⟨he, hu, hw⟩ => ?_
    subst he; subst hu; subst hw
    have hF : firstF m = ((0 : Int), (0 : Int), (0 : Int), (0 : Int), (0 : Int), ()) := by unfold firstF; rw [hb]; rfl
    show Leaves _ _ _ (fun e w' => ∃ v Z' own' γ', e = .returned v ∧ Stay w Z w' Z' ∧ MemR w ⟨fun _ => True, Z⟩ w' Z' own' γ' [] (fun s => s < 16) ∧ VR w' Z' γ' (avOf qat (firstF m)) v) [] .returning _
    rw [hF]
    exact first_leaves hE t4 (hst3.trans (k1.trans t2)) t6 (by kernel_rfl) (by kernel_rfl)
 ·obtain ⟨Z4, k1, k2, k3⟩ := hR
  rcases k3 with ⟨hb, V4, he, Z6, j1, j2⟩ | ⟨hb, V4, he, hv⟩
  ·injection he with he
   subst he
   have hV : V4 = .iface 91 (dgV (modD m)) := (VR.cr (γ := γ3) j2).val_inv
   have hok : okV (.iface 91 (dgV (modD m))) := (VR.cr (γ := γ3) j2).val_ok
   subst hV
   show Leaves E_V19.P Tryd.f27 a3.tmps _ a3.defers (.panicking _) w4
   rw [hdef]
   have hp4 : VR w4 Z4 γ3 (.ref 0 0) p := hpr.mono (s2.trans k1) s3
   refine leaves_cons (by simp) (f := qbi) (args := #[p]) ?_ ?_
   ·have hfn := hE.fns qbi (by kernel_rfl) #[p] w4
    simpa [invoke] using hfn
   ·refine (first_catch (l := L_V18) (c1 := vi 0) (c2 := vi 0) (c3 := vi 0) (c4 := vi 0) (c5 := vi 0) hE (k2.castH (by kernel_rfl)) (s5.mono k1) hp4 hok).mono fun e u' w' ⟨he, hu, Z5, own5, γ5, h5, nx5, st5, le5, m5, g5, hh5⟩ => ?_
    subst he; subst hu
    have hF : firstF m = modD m := by unfold firstF; rw [hb]; rfl
    show Leaves _ _ _ (fun e w' => ∃ v Z' own' γ', e = .returned v ∧ Stay w Z w' Z' ∧ MemR w ⟨fun _ => True, Z⟩ w' Z' own' γ' [] (fun s => s < 16) ∧ VR w' Z' γ' (avOf qat (firstF m)) v) [] .returning _
    rw [hF]
    exact first_leaves hE m5 (hst3.trans (k1.trans st5)) (s6.mono (k1.trans st5) le5) (by kernel_rfl) hh5
  ·cases he
 ·obtain ⟨Z4, k1, k2, k3⟩ := hR
  rcases k3 with ⟨hb, V4, he, _⟩ | ⟨hb, V4, he, _⟩ <;> cases he
def L_V19 : List (FuncId × FSpec) := [(f_verify_first, k_verify_first.spec)] ++ L_V18
theorem L_V19_ok : ∀ x ∈ L_V19, qal (ctx []) x.1 x.2 := by
 unfold L_V19
 simp only [List.cons_append, List.nil_append, List.forall_mem_cons]
 exact ⟨c_verify_first, L_V18_ok⟩
end Burn.MM
namespace Burn.MM
open Go Go.BE Go.Proofs
set_option maxRecDepth 100000
set_option linter.unusedVariables false
set_option linter.unusedSimpArgs false
noncomputable abbrev E_V20 : Ctx := ctx L_V19
theorem E_V20_ok : EOK E_V20 := qch L_V19_ok
def cuts_V20 : CutL := []
def rets_V20 : FuncId → List (Option Fx)
 | 17 => [some (.dat qat)]
 | _ => []
def H_V20 : Hints := { cut := cutOf cuts_V20, ret := rets_V20 }
theorem verify_Module_t (m : Den qah) : run E_V20 H_V20 qfk 3000 (start E_V20 qfk [(.tv qah m)]) = (.chk (True) (.know (okD qat (firstF m)) (.chk ((0 : Nat) < (1 : Nat)) (.chk ((0 : Nat) < (1 : Nat)) (rt (.tv qat (firstF m)) []))))) := by kernel_rfl

def k_verify_Module : Con := con [.d qah] qat (fun x => True) fun x => firstF x.1
theorem m_verify_Module (m : Den qah) (h_m : okD qah m) (hp : True) : Runs E_V20 (start E_V20 qfk [(.tv qah m)]) (fun r_ h_ => r_ = (.tv qat (firstF m)) ∧ h_ = []) := .tree E_V20_ok (verify_Module_t m) (by
 simp only [sS]
 exact fun _ => trivial)
theorem c_verify_Module : qal E_V20 qfk k_verify_Module.spec := qan fun x hx hp => ⟨rfl, m_verify_Module x.1 hx.1 hp⟩
def L_V20 : List (FuncId × FSpec) := [(qfk, k_verify_Module.spec)] ++ L_V19
theorem L_V20_ok : ∀ x ∈ L_V20, qal (ctx []) x.1 x.2 := by
 unfold L_V20
 simp only [List.cons_append, List.nil_append, List.forall_mem_cons]
 exact ⟨c_verify_Module, L_V19_ok⟩
end Burn.MM
namespace Burn.MM
open Go Go.BE Go.Proofs
set_option maxRecDepth 100000
set_option linter.unusedVariables false
set_option linter.unusedSimpArgs false
open Burn.Intn Burn.Ref
def L_V22 : List (FuncId × FSpec) := [] ++ L_V20
theorem L_V22_ok : ∀ x ∈ L_V22, qal (ctx []) x.1 x.2 := L_V20_ok
end Burn.MM
namespace Burn.MM
open Go Go.BE Go.Proofs
set_option maxRecDepth 100000
set_option linter.unusedVariables false
set_option linter.unusedSimpArgs false
open Burn.Intn Burn.Ref
def L_V23 : List (FuncId × FSpec) := [] ++ L_V22
theorem L_V23_ok : ∀ x ∈ L_V23, qal (ctx []) x.1 x.2 := L_V22_ok
end Burn.MM
namespace Burn.MM
open Go Go.BE Go.Proofs
set_option maxRecDepth 100000
set_option linter.unusedVariables false
set_option linter.unusedSimpArgs false
open Burn.Intn Burn.Ref
theorem IsI.oe {e : Nat → Int} {n i : Nat} {x b : Int} (h : e i = x) (hx : (x == 0) = false) : IsI (orE (qas e (n + 1) i) b) (vi x) [] := by
 rw [first_hit (by rw [h]; simpa using hx), h, orE, hx]
 exact ⟨rfl, rfl⟩
theorem RunI.oe {E : Ctx} {c : Cfg} {e : Nat → Int} {n i : Nat} {b : Int} (ih : RunI E c (orE (qas e n (i + 1)) b)) (h : e i = 0) : RunI E c (orE (qas e (n + 1) i) b) := by rw [first_miss h]; exact ih
def L_V24 : List (FuncId × FSpec) := [] ++ L_V23
theorem L_V24_ok : ∀ x ∈ L_V24, qal (ctx []) x.1 x.2 := L_V23_ok
end Burn.MM
namespace Burn.MM
open Go Go.BE Go.Proofs
set_option maxRecDepth 100000
set_option linter.unusedVariables false
set_option linter.unusedSimpArgs false
open Burn.Intn Burn.Ref
def rsR (in_ : Den qad) (m : Den qah) : Bool := (cond ((z in_.1) == (1 : Int)) (intP in_.2.1) (cond ((z in_.1) == (2 : Int)) (typP in_.2.1) (cond ((z in_.1) == (4 : Int)) (typP in_.2.1) (cond ((z in_.1) == (21 : Int)) (typP in_.2.1) (cond ((z in_.1) == (3 : Int)) (cond (typP in_.2.1) ((z in_.2.1) != (5 : Int)) false) (cond ((z in_.1) == (5 : Int)) (cond (wideP in_.2.1) true (cond ((z in_.2.1) == (6 : Int)) true ((z in_.2.1) == (7 : Int)))) (cond ((z in_.1) == (6 : Int)) (cond (wideP in_.2.1) true (cond ((z in_.2.1) == (6 : Int)) true ((z in_.2.1) == (7 : Int)))) (cond ((z in_.1) == (7 : Int)) (cond (wideP in_.2.1) true (cond ((z in_.2.1) == (6 : Int)) true ((z in_.2.1) == (7 : Int)))) (cond ((z in_.1) == (8 : Int)) (cond (intP in_.2.1) true (cond ((z in_.2.1) == (6 : Int)) true ((z in_.2.1) == (7 : Int)))) (cond ((z in_.1) == (9 : Int)) (cond (intP in_.2.1) true (cond ((z in_.2.1) == (6 : Int)) true ((z in_.2.1) == (7 : Int)))) (cond ((z in_.1) == (10 : Int)) (cond (intP in_.2.1) true (cond ((z in_.2.1) == (6 : Int)) true ((z in_.2.1) == (7 : Int)))) (cond ((z in_.1) == (11 : Int)) (wideP in_.2.1) (cond ((z in_.1) == (12 : Int)) (wideP in_.2.1) (cond ((z in_.1) == (13 : Int)) (wideP in_.2.1) (cond ((z in_.1) == (14 : Int)) (wideP in_.2.1) (cond ((z in_.1) == (15 : Int)) (wideP in_.2.1) (cond ((z in_.1) == (16 : Int)) ((z in_.2.1) == (1 : Int)) (cond ((z in_.1) == (17 : Int)) ((z in_.2.1) == (1 : Int)) (cond ((z in_.1) == (18 : Int)) ((z in_.2.1) == (1 : Int)) (cond ((z in_.1) == (19 : Int)) ((z in_.2.1) == (1 : Int)) (cond ((z in_.1) == (20 : Int)) ((z in_.2.1) == (1 : Int)) (cond ((z in_.1) == (22 : Int)) (cond ((z in_.2.1) == (3 : Int)) true ((z in_.2.1) == (4 : Int))) (cond ((z in_.1) == (23 : Int)) (wideP in_.2.1) (cond ((z in_.1) == (24 : Int)) (cond ((z in_.2.1) == (1 : Int)) true (cond ((z in_.2.1) == (2 : Int)) true ((z in_.2.1) == (3 : Int)))) (cond ((z in_.1) == (25 : Int)) ((z in_.2.1) == (5 : Int)) (cond ((z in_.1) == (26 : Int)) ((z in_.2.1) == (5 : Int)) (cond ((z in_.1) == (27 : Int)) ((z in_.2.1) == (5 : Int)) (cond ((z in_.1) == (28 : Int)) (decide ((z ((accP in_.2.1).2)) > (0 : Int))) (cond ((z in_.1) == (29 : Int)) ((z in_.2.1) == (0 : Int)) (cond ((z in_.1) == (31 : Int)) ((z in_.2.1) == (0 : Int)) (cond ((z in_.1) == (30 : Int)) ((z in_.2.1) == (z ((gd qaa m.2.1 (((z in_.2.2.2.2.2.1)).toNat)).2.2.1))) (cond ((z in_.1) == (32 : Int)) (cond ((z in_.2.1) == (6 : Int)) (cond (((ln I in_.2.2.2.1) : Int) == (2 : Int)) true (cond ((z in_.2.1) == (7 : Int)) (((ln I in_.2.2.2.1) : Int) == (4 : Int)) false)) (cond ((z in_.2.1) == (7 : Int)) (((ln I in_.2.2.2.1) : Int) == (4 : Int)) false)) ((z in_.2.1) == (3 : Int))))))))))))))))))))))))))))))))))
def opR (in_ : Den qad) (m : Den qah) (k : Int) (a : Int) (first : Int) : Bool := (cond ((z in_.1) == (16 : Int)) (cond (a == first) (cond (intP a) true (a == (5 : Int))) false) (cond ((z in_.1) == (17 : Int)) (cond (a == first) (cond (intP a) true (a == (5 : Int))) false) (cond ((z in_.1) == (18 : Int)) (cond (a == first) (wideP a) false) (cond ((z in_.1) == (19 : Int)) (cond (a == first) (wideP a) false) (cond ((z in_.1) == (20 : Int)) (cond (a == first) (wideP a) false) (cond ((z in_.1) == (21 : Int)) (cond (k == (0 : Int)) (cond (a == (1 : Int)) true (cond (decide (k > (0 : Int))) (a == (z in_.2.1)) false)) (cond (decide (k > (0 : Int))) (a == (z in_.2.1)) false)) (cond ((z in_.1) == (22 : Int)) (cond (a == (2 : Int)) (decide ((bitsZ a) < (bitsZ in_.2.1))) (cond (a == (3 : Int)) (decide ((bitsZ a) < (bitsZ in_.2.1))) false)) (cond ((z in_.1) == (23 : Int)) (cond (a == (1 : Int)) (decide ((bitsZ a) < (bitsZ in_.2.1))) (cond (a == (2 : Int)) (decide ((bitsZ a) < (bitsZ in_.2.1))) (cond (a == (3 : Int)) (decide ((bitsZ a) < (bitsZ in_.2.1))) false))) (cond ((z in_.1) == (24 : Int)) (cond (wideP a) (decide ((bitsZ a) > (bitsZ in_.2.1))) false) (cond ((z in_.1) == (27 : Int)) (cond (k == (0 : Int)) (cond (a == (5 : Int)) true (cond (k == (1 : Int)) (a == (4 : Int)) false)) (cond (k == (1 : Int)) (a == (4 : Int)) false)) (cond ((z in_.1) == (28 : Int)) (a == (5 : Int)) (cond ((z in_.1) == (29 : Int)) (cond (k == (0 : Int)) (cond (a == (5 : Int)) true (cond (k == (1 : Int)) (decide ((z ((accP a).2)) > (0 : Int))) false)) (cond (k == (1 : Int)) (decide ((z ((accP a).2)) > (0 : Int))) false)) (cond ((z in_.1) == (30 : Int)) (cond (decide ((z (gd I ((gd qaa m.2.1 (((z in_.2.2.2.2.2.1)).toNat)).2.1) k.toNat)) ≥ (0 : Int))) (cond (decide ((z (gd I ((gd qaa m.2.1 (((z in_.2.2.2.2.2.1)).toNat)).2.1) k.toNat)) < ((ln I ((gd qaa m.2.1 (((z in_.2.2.2.2.2.1)).toNat)).2.2.2.1)) : Int))) (a == (z (gd I ((gd qaa m.2.1 (((z in_.2.2.2.2.2.1)).toNat)).2.2.2.1) (((z (gd I ((gd qaa m.2.1 (((z in_.2.2.2.2.2.1)).toNat)).2.1) k.toNat))).toNat)))) false) false) (cond ((z in_.1) == (31 : Int)) (typP a) (cond ((z in_.1) == (32 : Int)) (a == (3 : Int)) (cond ((z in_.1) == (33 : Int)) (cond (a == (6 : Int)) true (a == (7 : Int))) (a == (z in_.2.1))))))))))))))))))
def L_V25 : List (FuncId × FSpec) := [] ++ L_V24
theorem L_V25_ok : ∀ x ∈ L_V25, qal (ctx []) x.1 x.2 := L_V24_ok
end Burn.MM
namespace Burn.MM
open Go Go.BE Go.Proofs
set_option maxRecDepth 100000
set_option linter.unusedVariables false
set_option linter.unusedSimpArgs false
open Burn.Intn Burn.Ref
def opnI (x : Ins) (f : Fn) (m : Md) (i : Nat) : Int := cond (!(opR x m i (gd I f.2.2.2.1 (z (gd I x.2.2.2.1 i)).toNat) (gd I f.2.2.2.1 (z (gd I x.2.2.2.1 0)).toNat))) 9 0
def rs1 (x : Ins) (f : Fn) : Bool := cond (cond (z x.2.1 == (0 : Int)) (z x.2.2.1 != (-1 : Int)) false) true (cond (cond (z x.2.1 != (0 : Int)) (cond (z x.2.2.1 == (-1 : Int)) (z x.1 != (30 : Int)) false) false) true (cond (decide (z x.2.2.1 ≥ (0 : Int))) (z (gd I f.2.2.2.1 (z x.2.2.1).toNat) != z x.2.1) false))
def rs2 (x : Ins) : Bool := cond (z x.1 == (26 : Int)) (cond (z (accP x.2.2.2.2.2.2.1).2 != (1 : Int)) true (z (accP x.2.2.2.2.2.2.1).1 != z x.2.2.2.2.2.2.1)) false
def rs3 (x : Ins) : Bool := cond (cond (z x.1 == (1 : Int)) (wrapZ x.2.1 x.2.2.2.2.1 != z x.2.2.2.2.1) false) true (cond (z x.1 == (26 : Int)) (cond (decide (z x.2.2.2.2.1 < (1 : Int))) true (decide (z x.2.2.2.2.1 > (256 : Int)))) false)
def rs4 (x : Ins) (f : Fn) : Bool := cond (z x.1 == (33 : Int)) (cond (decide (z x.2.2.2.2.1 < (0 : Int))) true (cond (decide (z x.2.2.2.2.1 > (3 : Int))) true (cond (decide (z x.2.2.2.2.1 > (1 : Int))) (z (gd I f.2.2.2.1 (z (gd I x.2.2.2.1 0)).toNat) == (6 : Int)) false))) false
def chk4 (b : Bool) : Int := cond b 10 0
def chk3 (x : Ins) (f : Fn) (b : Bool) : Int := cond b 10 (chk4 (rs4 x f))
def chk2 (x : Ins) (f : Fn) (b : Bool) : Int := cond b 9 (chk3 x f (rs3 x))
def chk1 (x : Ins) (f : Fn) (b : Bool) : Int := cond b 9 (chk2 x f (rs2 x))
def chkS (x : Ins) (f : Fn) (m : Md) (b : Bool) : Int := cond b 10 (cond (!(rsR x m)) 9 (orE (qas (opnI x f m) (ln I x.2.2.2.1) 0) (chk1 x f (rs1 x f))))
theorem len1 {l : List (Den I)} (h : ln I l = 1) : ∃ a, l = [a] := List.length_eq_one_iff.mp h
theorem cond_iff {c a b : Bool} : cond c a b = true ↔ (c = true ∧ a = true) ∨ (¬ c = true ∧ b = true) := by cases c <;> simp
theorem name_eq {op : Int} : ((nameP op).toList == ByteArray.empty.toList) = cond (decide (op < (1 : Int))) true (decide (op > (33 : Int))) := by
 rw [toList_nil]
 by_cases h1 : op < 1
 ·have : nameP op = ByteArray.empty := by unfold nameP; rw [decide_eq_true h1]; rfl
  rw [this, decide_eq_true h1]
  rfl
 ·by_cases h2 : op > 33
  ·have : nameP op = ByteArray.empty := by
    unfold nameP
    rw [decide_eq_false h1, show decide (op > (ln qao rowsP : Int)) = true from decide_eq_true h2]
    rfl
   rw [this, decide_eq_false h1, decide_eq_true h2]
   rfl
  ·rw [decide_eq_false h1, decide_eq_false h2]
   have : op = 1 ∨ op = 2 ∨ op = 3 ∨ op = 4 ∨ op = 5 ∨ op = 6 ∨ op = 7 ∨ op = 8 ∨ op = 9 ∨ op = 10 ∨ op = 11 ∨ op = 12 ∨ op = 13 ∨ op = 14 ∨ op = 15 ∨ op = 16 ∨ op = 17 ∨ op = 18 ∨ op = 19 ∨ op = 20 ∨ op = 21 ∨ op = 22 ∨ op = 23 ∨ op = 24 ∨ op = 25 ∨ op = 26 ∨ op = 27 ∨ op = 28 ∨ op = 29 ∨ op = 30 ∨ op = 31 ∨ op = 32 ∨ op = 33 := by omega
   rcases this with rfl | rfl | rfl | rfl | rfl | rfl | rfl | rfl | rfl | rfl | rfl | rfl | rfl | rfl | rfl | rfl | rfl | rfl | rfl | rfl | rfl | rfl | rfl | rfl | rfl | rfl | rfl | rfl | rfl | rfl | rfl | rfl | rfl <;> rfl
def L_V26 : List (FuncId × FSpec) := [] ++ L_V25
theorem L_V26_ok : ∀ x ∈ L_V26, qal (ctx []) x.1 x.2 := L_V25_ok
end Burn.MM
namespace Burn.MM
open Go Go.BE Go.Proofs
set_option maxRecDepth 100000
set_option linter.unusedVariables false
set_option linter.unusedSimpArgs false
open Burn.Intn Burn.Ref
theorem RunI.eq {E : Ctx} {c : Cfg} {e d : Int} (h : RunI E c e) (hd : d = e) : RunI E c d := hd ▸ h
def L_V27 : List (FuncId × FSpec) := [] ++ L_V26
theorem L_V27_ok : ∀ x ∈ L_V27, qal (ctx []) x.1 x.2 := L_V26_ok
end Burn.MM
namespace Burn.MM
open Go Go.BE Go.Proofs
set_option maxRecDepth 100000
set_option linter.unusedVariables false
set_option linter.unusedSimpArgs false
open Burn.Intn Burn.Ref
def IsG (d : Dg) (r : AV) (h : Heap) : Prop := r = .tv qat d ∧ h = []
def RunG (E : Ctx) (c : Cfg) (d : Dg) : Prop := Runs E c (IsG d)
theorem IsG.mk {d x : Dg} (h : x = d) : IsG d (.tv qat x) [] := ⟨congrArg _ h, rfl⟩
theorem RunG.eq {E : Ctx} {c : Cfg} {e d : Dg} (h : RunG E c e) (hd : d = e) : RunG E c d := hd ▸ h
def L_V28 : List (FuncId × FSpec) := [] ++ L_V27
theorem L_V28_ok : ∀ x ∈ L_V28, qal (ctx []) x.1 x.2 := L_V27_ok
end Burn.MM
namespace Burn.MM
open Go Go.BE Go.Proofs
set_option maxRecDepth 100000
set_option linter.unusedVariables false
set_option linter.unusedSimpArgs false
def L_V29 : List (FuncId × FSpec) := [] ++ L_V28
theorem L_V29_ok : ∀ x ∈ L_V29, qal (ctx []) x.1 x.2 := L_V28_ok
end Burn.MM
namespace Burn.MM
open Go Go.BE Go.Proofs
set_option maxRecDepth 100000
set_option linter.unusedVariables false
set_option linter.unusedSimpArgs false
open Burn.Intn Burn.Ref
noncomputable abbrev E_V30 : Ctx := ctx L_V29
theorem E_V30_ok : EOK E_V30 := qch L_V29_ok
def cuts_V30 : CutL := [([], 32, 0, [5, 6, 7], [], [])]
def rets_V30 : FuncId → List (Option Fx)
 | _ => []
def H_V30 : Hints := { cut := cutOf cuts_V30, ret := rets_V30 }
theorem machine_within_t (n : Int) (low : Int) (high : Int) : run E_V30 H_V30 qel 3000 (start E_V30 qel [(vi n), (vi low), (vi high)]) = (cond (decide (n ≥ low)) (rt (vb (decide (n ≤ high))) []) (rt (vb false) [])) := by kernel_rfl
theorem machine_isType_t (t : Int) : run E_V30 H_V30 qen 3000 (start E_V30 qen [(vi t)]) = (cond (decide (t ≥ (1 : Int))) (rt (vb (decide (t ≤ (7 : Int)))) []) (rt (vb false) [])) := by kernel_rfl
theorem machine_unless_t (holds : Bool) (e : Int) : run E_V30 H_V30 qem 3000 (start E_V30 qem [(vb holds), (vi e)]) = (cond holds (rt (vi (0 : Int)) []) (rt (vi e) [])) := by kernel_rfl
theorem machine_flag_t (is : Bool) : run E_V30 H_V30 qgq 3000 (start E_V30 qgq [(vb is)]) = (cond is (rt (vi (1 : Int)) []) (rt (vi (0 : Int)) [])) := by kernel_rfl
theorem machine_checker_virtual_t (c : Den qab) : run E_V30 H_V30 qbs 3000 (start E_V30 qbs [(.tv qab c)]) = (rt (vb ((z c.2.1.2.2.2.2.1) == (0 : Int))) []) := by kernel_rfl
noncomputable def qgv (t5 : List (Den I)) (t6 : Int) (t7 : Int) : Cfg := hcfg E_V30 qdc 0 [(5, (.tv (.sl 8 I) t5)), (6, (vi t6)), (7, (vi t7))] [] 0
theorem machine_first_t (l : List (Den I)) : run E_V30 H_V30 qdc 3000 (start E_V30 qdc [(.tv (.sl 8 I) l)]) = (hd (qgv l ((ln I l) : Int) (0 : Int))) := by kernel_rfl
theorem machine_first_L0_t (t5 : List (Den I)) (t6 : Int) (t7 : Int) : run E_V30 H_V30 qdc 3000 (qgv t5 t6 t7) = (cond (decide (t7 < t6)) (.chk (0 ≤ t7 ∧ t7 < (ln I t5)) (cond ((z (gd I t5 t7.toNat)) != (0 : Int)) (rt (vi (z (gd I t5 t7.toNat))) []) (hd (qgv t5 t6 (IntKind.wrap .i64 (t7 + (1 : Int))))))) (rt (vi (0 : Int)) [])) := by kernel_rfl
abbrev MFn := Den qam
abbrev Chr := Den qab
def fstF : List (Den I) → Int
 | [] => 0
 | e :: l => cond (z e != (0 : Int)) (z e) (fstF l)
def witP (n : Int) (low : Int) (high : Int) : Bool := (cond (decide (n ≥ low)) (decide (n ≤ high)) false)

def k_machine_within : Con := con [.d I, .d I, .d I] .bool (fun x => True) fun x => witP x.1 x.2.1 x.2.2.1
theorem m_machine_within (n : Int) (low : Int) (high : Int) (h_n : okD I n) (h_low : okD I low) (h_high : okD I high) (hp : True) : Runs E_V30 (start E_V30 qel [(vi n), (vi low), (vi high)]) (fun r_ h_ => r_ = (vb (witP n low high)) ∧ h_ = []) := .tree E_V30_ok (machine_within_t n low high) (by
 show Tre.wp (Qv _ (fun x_ => (vb x_)) (witP n low high)) _
 unfold witP
 refine qag (fun h1 => ⟨rfl, rfl⟩) (fun h1 => ?_)
 exact ⟨rfl, rfl⟩)
theorem c_machine_within : qal E_V30 qel k_machine_within.spec := qan fun x hx hp => ⟨rfl, m_machine_within x.1 x.2.1 x.2.2.1 hx.1 hx.2.1 hx.2.2.1 hp⟩

def k_machine_isType : Con := con [.d I] .bool (fun x => True) fun x => typP x.1
theorem m_machine_isType (t : Int) (h_t : okD I t) (hp : True) : Runs E_V30 (start E_V30 qen [(vi t)]) (fun r_ h_ => r_ = (vb (typP t)) ∧ h_ = []) := .tree E_V30_ok (machine_isType_t t) (by
 refine wp_cond (fun h1 => ?_) (fun h1 => ?_)
 ·have h1_ := of_decide_eq_true h1
  exact ⟨by first | rw [show typP t = _ from (Bool.cond_pos h1)] | simp only [typP, h1, cond_true, cond_false], rfl⟩
 ·have h1_ := of_decide_eq_false h1
  exact ⟨by first | rw [show typP t = _ from (Bool.cond_neg h1)] | simp only [typP, h1, cond_true, cond_false], rfl⟩)
theorem c_machine_isType : qal E_V30 qen k_machine_isType.spec := qan fun x hx hp => ⟨rfl, m_machine_isType x.1 hx.1 hp⟩
def unlP (holds : Bool) (e : Int) : Int := (cond holds (0 : Int) e)

def k_machine_unless : Con := con [.d .bool, .d I] I (fun x => True) fun x => unlP x.1 x.2.1
theorem m_machine_unless (holds : Bool) (e : Int) (h_holds : okD .bool holds) (h_e : okD I e) (hp : True) : Runs E_V30 (start E_V30 qem [(vb holds), (vi e)]) (fun r_ h_ => r_ = (vi (unlP holds e)) ∧ h_ = []) := .tree E_V30_ok (machine_unless_t holds e) (by
 show Tre.wp (Qv _ (fun x_ => (vi x_)) (unlP holds e)) _
 unfold unlP
 refine qag (fun h1 => ⟨rfl, rfl⟩) (fun h1 => ?_)
 exact ⟨rfl, rfl⟩)
theorem c_machine_unless : qal E_V30 qem k_machine_unless.spec := qan fun x hx hp => ⟨rfl, m_machine_unless x.1 x.2.1 hx.1 hx.2.1 hp⟩
def flgP (is : Bool) : Int := (cond is (1 : Int) (0 : Int))

def k_machine_flag : Con := con [.d .bool] I (fun x => True) fun x => flgP x.1
theorem m_machine_flag (is : Bool) (h_is : okD .bool is) (hp : True) : Runs E_V30 (start E_V30 qgq [(vb is)]) (fun r_ h_ => r_ = (vi (flgP is)) ∧ h_ = []) := .tree E_V30_ok (machine_flag_t is) (by
 show Tre.wp (Qv _ (fun x_ => (vi x_)) (flgP is)) _
 unfold flgP
 refine qag (fun h1 => ⟨rfl, rfl⟩) (fun h1 => ?_)
 exact ⟨rfl, rfl⟩)
theorem c_machine_flag : qal E_V30 qgq k_machine_flag.spec := qan fun x hx hp => ⟨rfl, m_machine_flag x.1 hx.1 hp⟩
def vrtP (c : Den qab) : Bool := ((z c.2.1.2.2.2.2.1) == (0 : Int))

def qgj : Con := con [.d qab] .bool (fun x => True) fun x => vrtP x.1
theorem m_machine_checker_virtual (c : Den qab) (h_c : okD qab c) (hp : True) : Runs E_V30 (start E_V30 qbs [(.tv qab c)]) (fun r_ h_ => r_ = (vb (vrtP c)) ∧ h_ = []) := .tree E_V30_ok (machine_checker_virtual_t c) (by
 show Tre.wp (Qv _ (fun x_ => (vb x_)) (vrtP c)) _
 unfold vrtP
 exact ⟨rfl, rfl⟩)
theorem c_machine_checker_virtual : qal E_V30 qbs qgj.spec := qan fun x hx hp => ⟨rfl, m_machine_checker_virtual x.1 hx.1 hp⟩
def rgM (f : Den qam) (r : Int) : Bool := (cond ((z f.2.2.2.2.1) == (0 : Int)) (cond (decide (r ≥ (0 : Int))) (decide (r < ((ln I f.2.2.2.1) : Int))) false) (cond (decide (r ≥ (0 : Int))) (decide (r < (z f.2.2.2.2.1))) false))
theorem machine_first_l (l : List (Den I)) (hl : ln I l < 9223372036854775807) : ∀ i, i ≤ ln I l → RunI E_V30 (qgv l (ln I l : Nat) i) (fstF (l.drop i)) :=
 qci (.tree E_V30_ok (machine_first_L0_t ..) (by
  rw [show l.drop (ln I l) = [] from drop_ln]
  simp only [sS, sL,  Nat.lt_irrefl]
  exact ⟨rfl, rfl⟩))
  fun i hi ih => .tree E_V30_ok (machine_first_L0_t ..) (by
   rw [show l.drop i = gd I l i :: l.drop (i + 1) from drop_gd hi, fstF]
   simp only [sS, sL,  hi, wrapS hi hl]
   refine ⟨fun h1 => ?_, fun h1 => ?_⟩
   ·rw [h1]; exact ⟨rfl, rfl⟩
   ·rw [h1]; exact ih)
def k_machine_first : Con := con [.d (.sl 8 I)] I (fun x => True) fun x => fstF x.1
theorem m_machine_first (l : List (Den I)) (h_l : okD (.sl 8 I) l) (hp : True) : Runs E_V30 (start E_V30 qdc [(.tv (.sl 8 I) l)]) (fun r_ h_ => r_ = (vi (fstF l)) ∧ h_ = []) := .tree E_V30_ok (machine_first_t l) (by
 show Tre.wp (contL _ (IsI (fstF l))) _
 simp only [sS, sL,  Nat.sub_zero]
 exact machine_first_l l (qbj h_l.1) 0 (Nat.zero_le _))
theorem c_machine_first : qal E_V30 qdc k_machine_first.spec := qan fun x hx hp => ⟨rfl, m_machine_first x.1 hx.1 hp⟩
def L_V30 : List (FuncId × FSpec) := [(qel, k_machine_within.spec), (qen, k_machine_isType.spec), (qem, k_machine_unless.spec), (qgq, k_machine_flag.spec), (qbs, qgj.spec), (qdc, k_machine_first.spec)] ++ L_V29
theorem L_V30_ok : ∀ x ∈ L_V30, qal (ctx []) x.1 x.2 := by
 unfold L_V30
 simp only [List.cons_append, List.nil_append, List.forall_mem_cons]
 exact ⟨c_machine_within, c_machine_isType, c_machine_unless, c_machine_flag, c_machine_checker_virtual, c_machine_first, L_V29_ok⟩
end Burn.MM
namespace Burn.MM
open Go Go.BE Go.Proofs
set_option maxRecDepth 100000
set_option linter.unusedVariables false
set_option linter.unusedSimpArgs false
open Burn.Intn Burn.Ref
noncomputable abbrev E_V31 : Ctx := ctx L_V30
theorem E_V31_ok : EOK E_V31 := qch L_V30_ok
def cuts_V31 : CutL := []
def rets_V31 : FuncId → List (Option Fx)
 | _ => []
def H_V31 : Hints := { cut := cutOf cuts_V31, ret := rets_V31 }
theorem machine_checker_register_t (c : Den qab) (r : Int) : run E_V31 H_V31 qbn 3000 (start E_V31 qbn [(.tv qab c), (vi r)]) = (.chk (True) (.know True (cond (vrtP c) (cond (decide (r ≥ (0 : Int))) (rt (vb (decide (r < ((ln I c.2.1.2.2.2.1) : Int)))) []) (rt (vb false) [])) (cond (decide (r ≥ (0 : Int))) (rt (vb (decide (r < (z c.2.1.2.2.2.2.1)))) []) (rt (vb false) []))))) := by kernel_rfl
def regC (c : Chr) (r : Int) : Bool := rgM c.2.1 r
def allC (f : MFn) : List (Den I) → Bool
 | [] => true
 | r :: l => cond (rgM f (z r)) (allC f l) false
def rgsF (c : Chr) (l : List (Den I)) : Bool := allC c.2.1 l

def qfx : Con := con [.d qab, .d I] .bool (fun x => True) fun x => regC x.1 x.2.1
theorem m_machine_checker_register (c : Den qab) (r : Int) (h_c : okD qab c) (h_r : okD I r) (hp : True) : Runs E_V31 (start E_V31 qbn [(.tv qab c), (vi r)]) (fun r_ h_ => r_ = (vb (regC c r)) ∧ h_ = []) := .tree E_V31_ok (machine_checker_register_t c r) (by
 refine ⟨trivial, fun _ => ?_⟩
 refine fun _ => ?_
 refine wp_cond (fun h1 => ?_) (fun h1 => ?_)
 ·refine wp_cond (fun h2 => ?_) (fun h2 => ?_)
  ·have h2_ := of_decide_eq_true h2
   exact ⟨by simp only [regC, rgM, show (z c.2.1.2.2.2.2.1 == (0 : Int)) = vrtP c from rfl, h1, h2, cond_true, cond_false, cond_true, cond_false], rfl⟩
  ·have h2_ := of_decide_eq_false h2
   exact ⟨by simp only [regC, rgM, show (z c.2.1.2.2.2.2.1 == (0 : Int)) = vrtP c from rfl, h1, h2, cond_true, cond_false, cond_true, cond_false], rfl⟩
 ·refine wp_cond (fun h3 => ?_) (fun h3 => ?_)
  ·have h3_ := of_decide_eq_true h3
   exact ⟨by simp only [regC, rgM, show (z c.2.1.2.2.2.2.1 == (0 : Int)) = vrtP c from rfl, h1, h3, cond_true, cond_false, cond_true, cond_false], rfl⟩
  ·have h3_ := of_decide_eq_false h3
   exact ⟨by simp only [regC, rgM, show (z c.2.1.2.2.2.2.1 == (0 : Int)) = vrtP c from rfl, h1, h3, cond_true, cond_false, cond_true, cond_false], rfl⟩)
theorem c_machine_checker_register : qal E_V31 qbn qfx.spec := qan fun x hx hp => ⟨rfl, m_machine_checker_register x.1 x.2.1 hx.1 hx.2.1 hp⟩
def L_V31 : List (FuncId × FSpec) := [(qbn, qfx.spec)] ++ L_V30
theorem L_V31_ok : ∀ x ∈ L_V31, qal (ctx []) x.1 x.2 := by
 unfold L_V31
 simp only [List.cons_append, List.nil_append, List.forall_mem_cons]
 exact ⟨c_machine_checker_register, L_V30_ok⟩
end Burn.MM
namespace Burn.MM
open Go Go.BE Go.Proofs
set_option maxRecDepth 100000
set_option linter.unusedVariables false
set_option linter.unusedSimpArgs false
open Burn.Intn Burn.Ref
def mrg_V32 : FuncId → List Nat
 | 42 => [15, 62, 69]
 | _ => []
noncomputable abbrev E_V32 : Ctx := { ctx L_V31 with mrg := mrg_V32 }
theorem E_V32_ok : EOK E_V32 := have h : EOK (ctx L_V31) := qch L_V31_ok; ⟨h.ty, h.env, h.fns, h.mixed⟩
def cuts_V32 : CutL := [([], 58, 0, [2, 7, 8, 9], [], [])]
def rets_V32 : FuncId → List (Option Fx)
 | _ => []
def H_V32 : Hints := { cut := cutOf cuts_V32, ret := rets_V32 }
noncomputable def qca (c : Den qab) (t7 : List (Den I)) (t8 : Int) (t9 : Int) : Cfg := hcfg E_V32 qay 0 [(2, (.rtp qab c)), (7, (.tv (.sl 8 I) t7)), (8, (vi t8)), (9, (vi t9))] [] 0
theorem machine_checker_registers_t (c : Den qab) (l : List (Den I)) : run E_V32 H_V32 qay 3000 (start E_V32 qay [(.tv qab c), (.tv (.sl 8 I) l)]) = (hd (qca c l ((ln I l) : Int) (0 : Int))) := by kernel_rfl
theorem qeb (c : Den qab) (t7 : List (Den I)) (t8 : Int) (t9 : Int) : run E_V32 H_V32 qay 3000 (qca c t7 t8 t9) = (cond (decide (t9 < t8)) (.chk (0 ≤ t9 ∧ t9 < (ln I t7)) (.chk (True) (.know True (cond (!(regC c (gd I t7 t9.toNat))) (rt (vb false) []) (hd (qca c t7 t8 (IntKind.wrap .i64 (t9 + (1 : Int))))))))) (rt (vb true) [])) := by kernel_rfl
theorem machine_checker_operands_t (c : Den qab) (in_ : Den qad) : run E_V32 H_V32 qbp 3000 (start E_V32 qbp [(.tv qab c), (.tv qad in_)]) = (cond ((z in_.1) == (1 : Int)) (rt (vi (0 : Int)) []) (cond ((z in_.1) == (2 : Int)) (rt (vi (0 : Int)) []) (cond ((z in_.1) == (25 : Int)) (rt (vi (0 : Int)) []) (cond ((z in_.1) == (26 : Int)) (rt (vi (0 : Int)) []) (cond ((z in_.1) == (4 : Int)) (rt (vi (1 : Int)) []) (cond ((z in_.1) == (22 : Int)) (rt (vi (1 : Int)) []) (cond ((z in_.1) == (23 : Int)) (rt (vi (1 : Int)) []) (cond ((z in_.1) == (24 : Int)) (rt (vi (1 : Int)) []) (cond ((z in_.1) == (28 : Int)) (rt (vi (1 : Int)) []) (cond ((z in_.1) == (31 : Int)) (rt (vi (1 : Int)) []) (cond ((z in_.1) == (33 : Int)) (rt (vi (1 : Int)) []) (cond ((z in_.1) == (21 : Int)) (rt (vi (3 : Int)) []) (cond ((z in_.1) == (32 : Int)) (cond ((z in_.2.1) == (6 : Int)) (rt (vi (2 : Int)) []) (rt (vi (4 : Int)) [])) (cond ((z in_.1) == (30 : Int)) (.chk (0 ≤ (z in_.2.2.2.2.2.1) ∧ (z in_.2.2.2.2.2.1) < (ln qaa c.1.2.1)) (rt (vi ((ln I ((gd qaa c.1.2.1 (((z in_.2.2.2.2.2.1)).toNat)).2.1)) : Int)) [])) (rt (vi (2 : Int)) []))))))))))))))) := by kernel_rfl
theorem machine_checker_shape_t (c : Den qab) (t : Den qai) : run E_V32 H_V32 qcc 3000 (start E_V32 qcc [(.tv qab c), (.tv qai t)]) = (cond (cond ((z t.1) != (6 : Int)) ((z t.2.2.2.2.1) != (0 : Int)) false) (rt (vb false) []) (cond ((z t.1) == (1 : Int)) (rt (vb (cond (cond (((ln I t.2.1) : Int) == (0 : Int)) (((ln I t.2.2.1) : Int) == (0 : Int)) false) (((ln qae t.2.2.2.1) : Int) == (1 : Int)) false)) []) (cond ((z t.1) == (2 : Int)) (rt (vb (cond (cond (((ln I t.2.1) : Int) == (1 : Int)) (((ln I t.2.2.1) : Int) == (0 : Int)) false) (((ln qae t.2.2.2.1) : Int) == (2 : Int)) false)) []) (cond ((z t.1) == (3 : Int)) (rt (vb (cond (cond (((ln I t.2.1) : Int) == (1 : Int)) (((ln I t.2.2.1) : Int) == ((ln I t.2.2.1) : Int)) false) (((ln qae t.2.2.2.1) : Int) == (IntKind.wrap .i64 (((ln I t.2.2.1) : Int) + (1 : Int)))) false)) []) (cond ((z t.1) == (4 : Int)) (.chk (True) (.know (okD (.int .i64) (flgP ((z c.2.1.2.2.1) != (0 : Int)))) (rt (vb (cond (cond (((ln I t.2.1) : Int) == (flgP ((z c.2.1.2.2.1) != (0 : Int)))) (((ln I t.2.2.1) : Int) == (0 : Int)) false) (((ln qae t.2.2.2.1) : Int) == (0 : Int)) false)) []))) (cond ((z t.1) == (5 : Int)) (rt (vb (cond (cond (((ln I t.2.1) : Int) == (0 : Int)) (((ln I t.2.2.1) : Int) == (1 : Int)) false) (((ln qae t.2.2.2.1) : Int) == (0 : Int)) false)) []) (cond ((z t.1) == (6 : Int)) (.chk (0 ≤ (z t.2.2.2.2.1) ∧ (z t.2.2.2.2.1) < (ln qaa c.1.2.1)) (rt (vb (cond (cond (((ln I t.2.1) : Int) == ((ln I ((gd qaa c.1.2.1 (((z t.2.2.2.2.1)).toNat)).2.1)) : Int)) (((ln I t.2.2.1) : Int) == (0 : Int)) false) (((ln qae t.2.2.2.1) : Int) == (0 : Int)) false)) [])) (rt (vb (cond (cond (((ln I t.2.1) : Int) == (0 : Int)) (((ln I t.2.2.1) : Int) == (0 : Int)) false) (((ln qae t.2.2.2.1) : Int) == (0 : Int)) false)) [])))))))) := by kernel_rfl
theorem machine_checker_registers_l (c : Chr) (l : List (Den I)) (hl : ln I l < 9223372036854775807) : ∀ i, i ≤ ln I l → Runs E_V32 (qca c l (ln I l : Nat) i) (fun r h => r = vb (allC c.2.1 (l.drop i)) ∧ h = []) :=
 qci (.tree E_V32_ok (qeb ..) (by
  rw [show l.drop (ln I l) = [] from drop_ln]
  simp only [sS, sL,  Nat.lt_irrefl, allC]))
  fun i hi ih => .tree E_V32_ok (qeb ..) (by
   rw [show l.drop i = gd I l i :: l.drop (i + 1) from drop_gd hi, allC]
   simp only [sS, sL,  hi, wrapS hi hl]
   refine ⟨fun h1 => ?_, fun h1 => ?_⟩
   ·rw [show rgM c.2.1 (z (gd I l i)) = false from by simpa [regC] using h1]; rfl
   ·rw [show rgM c.2.1 (z (gd I l i)) = true from by simpa [regC] using h1]; exact ih)
def qfg : Con := con [.d qab, .d (.sl 8 I)] .bool (fun x => True) fun x => rgsF x.1 x.2.1
theorem m_machine_checker_registers (c : Den qab) (l : List (Den I)) (h_c : okD qab c) (h_l : okD (.sl 8 I) l) (hp : True) : Runs E_V32 (start E_V32 qay [(.tv qab c), (.tv (.sl 8 I) l)]) (fun r_ h_ => r_ = (vb (rgsF c l)) ∧ h_ = []) := .tree E_V32_ok (machine_checker_registers_t c l) (by
 simp only [sS, sL,  Nat.sub_zero]
 exact machine_checker_registers_l c l (qbj h_l.1) 0 (Nat.zero_le _))
theorem c_machine_checker_registers : qal E_V32 qay qfg.spec := qan fun x hx hp => ⟨rfl, m_machine_checker_registers x.1 x.2.1 hx.1 hx.2.1 hp⟩
def opsP (c : Den qab) (in_ : Den qad) : Int := (cond ((z in_.1) == (1 : Int)) (0 : Int) (cond ((z in_.1) == (2 : Int)) (0 : Int) (cond ((z in_.1) == (25 : Int)) (0 : Int) (cond ((z in_.1) == (26 : Int)) (0 : Int) (cond ((z in_.1) == (4 : Int)) (1 : Int) (cond ((z in_.1) == (22 : Int)) (1 : Int) (cond ((z in_.1) == (23 : Int)) (1 : Int) (cond ((z in_.1) == (24 : Int)) (1 : Int) (cond ((z in_.1) == (28 : Int)) (1 : Int) (cond ((z in_.1) == (31 : Int)) (1 : Int) (cond ((z in_.1) == (33 : Int)) (1 : Int) (cond ((z in_.1) == (21 : Int)) (3 : Int) (cond ((z in_.1) == (32 : Int)) (cond ((z in_.2.1) == (6 : Int)) (2 : Int) (4 : Int)) (cond ((z in_.1) == (30 : Int)) ((ln I ((gd qaa c.1.2.1 (((z in_.2.2.2.2.2.1)).toNat)).2.1)) : Int) (2 : Int)))))))))))))))

def qfz : Con := con [.d qab, .d qad] I (fun x => z x.2.1.1 = 30 → 0 ≤ z x.2.1.2.2.2.2.2.1 ∧ z x.2.1.2.2.2.2.2.1 < (ln qaa x.1.1.2.1 : Nat)) fun x => opsP x.1 x.2.1
theorem m_machine_checker_operands (c : Den qab) (in_ : Den qad) (h_c : okD qab c) (h_in_ : okD qad in_) (hp : z in_.1 = 30 → 0 ≤ z in_.2.2.2.2.2.1 ∧ z in_.2.2.2.2.2.1 < (ln qaa c.1.2.1 : Nat)) : Runs E_V32 (start E_V32 qbp [(.tv qab c), (.tv qad in_)]) (fun r_ h_ => r_ = (vi (opsP c in_)) ∧ h_ = []) := .tree E_V32_ok (machine_checker_operands_t c in_) (by
 have hp_ := hp
 try simp only [z] at hp_
 show Tre.wp (Qv _ (fun x_ => (vi x_)) (opsP c in_)) _
 unfold opsP
 refine qag (fun h1 => ⟨rfl, rfl⟩) (fun h1 => ?_)
 have h1_ := beq_f h1
 refine qag (fun h2 => ⟨rfl, rfl⟩) (fun h2 => ?_)
 have h2_ := beq_f h2
 refine qag (fun h3 => ⟨rfl, rfl⟩) (fun h3 => ?_)
 have h3_ := beq_f h3
 refine qag (fun h4 => ⟨rfl, rfl⟩) (fun h4 => ?_)
 have h4_ := beq_f h4
 refine qag (fun h5 => ⟨rfl, rfl⟩) (fun h5 => ?_)
 have h5_ := beq_f h5
 refine qag (fun h6 => ⟨rfl, rfl⟩) (fun h6 => ?_)
 have h6_ := beq_f h6
 refine qag (fun h7 => ⟨rfl, rfl⟩) (fun h7 => ?_)
 have h7_ := beq_f h7
 refine qag (fun h8 => ⟨rfl, rfl⟩) (fun h8 => ?_)
 have h8_ := beq_f h8
 refine qag (fun h9 => ⟨rfl, rfl⟩) (fun h9 => ?_)
 have h9_ := beq_f h9
 refine qag (fun h10 => ⟨rfl, rfl⟩) (fun h10 => ?_)
 have h10_ := beq_f h10
 refine qag (fun h11 => ⟨rfl, rfl⟩) (fun h11 => ?_)
 have h11_ := beq_f h11
 refine qag (fun h12 => ⟨rfl, rfl⟩) (fun h12 => ?_)
 have h12_ := beq_f h12
 refine qag (fun h13 => ?_) (fun h13 => ?_)
 ·refine qag (fun h14 => ⟨rfl, rfl⟩) (fun h14 => ?_)
  exact ⟨rfl, rfl⟩
 ·have h13_ := beq_f h13
  refine qag (fun h15 => ?_) (fun h15 => ⟨rfl, rfl⟩)
  have h15_ := beq_t h15
  refine ⟨by first | omega | exact (hp (by assumption)) | (have g_ := hp (by assumption); omega) | assumption | exact hp.1 | exact hp.2 | exact hp.2.1 | (simp_all; done) | (simp_all; omega), fun _ => ?_⟩
  exact ⟨rfl, rfl⟩)
theorem c_machine_checker_operands : qal E_V32 qbp qfz.spec := qan fun x hx hp => ⟨rfl, m_machine_checker_operands x.1 x.2.1 hx.1 hx.2.1 hp⟩
def opsR (m : Den qah) (in_ : Den qad) : Int := (cond ((z in_.1) == (1 : Int)) (0 : Int) (cond ((z in_.1) == (2 : Int)) (0 : Int) (cond ((z in_.1) == (25 : Int)) (0 : Int) (cond ((z in_.1) == (26 : Int)) (0 : Int) (cond ((z in_.1) == (4 : Int)) (1 : Int) (cond ((z in_.1) == (22 : Int)) (1 : Int) (cond ((z in_.1) == (23 : Int)) (1 : Int) (cond ((z in_.1) == (24 : Int)) (1 : Int) (cond ((z in_.1) == (28 : Int)) (1 : Int) (cond ((z in_.1) == (31 : Int)) (1 : Int) (cond ((z in_.1) == (33 : Int)) (1 : Int) (cond ((z in_.1) == (21 : Int)) (3 : Int) (cond ((z in_.1) == (32 : Int)) (cond ((z in_.2.1) != (6 : Int)) (4 : Int) (2 : Int)) (cond ((z in_.1) == (30 : Int)) ((ln I ((gd qaa m.2.1 (((z in_.2.2.2.2.2.1)).toNat)).2.1)) : Int) (2 : Int)))))))))))))))
def shpC (c : Den qab) (t : Den qai) : Bool := (cond (cond ((z t.1) != (6 : Int)) ((z t.2.2.2.2.1) != (0 : Int)) false) false (cond ((z t.1) == (1 : Int)) (cond (cond (((ln I t.2.1) : Int) == (0 : Int)) (((ln I t.2.2.1) : Int) == (0 : Int)) false) (((ln qae t.2.2.2.1) : Int) == (1 : Int)) false) (cond ((z t.1) == (2 : Int)) (cond (cond (((ln I t.2.1) : Int) == (1 : Int)) (((ln I t.2.2.1) : Int) == (0 : Int)) false) (((ln qae t.2.2.2.1) : Int) == (2 : Int)) false) (cond ((z t.1) == (3 : Int)) (cond (cond (((ln I t.2.1) : Int) == (1 : Int)) (((ln I t.2.2.1) : Int) == ((ln I t.2.2.1) : Int)) false) (((ln qae t.2.2.2.1) : Int) == (IntKind.wrap .i64 (((ln I t.2.2.1) : Int) + (1 : Int)))) false) (cond ((z t.1) == (4 : Int)) (cond (cond (((ln I t.2.1) : Int) == (flgP ((z c.2.1.2.2.1) != (0 : Int)))) (((ln I t.2.2.1) : Int) == (0 : Int)) false) (((ln qae t.2.2.2.1) : Int) == (0 : Int)) false) (cond ((z t.1) == (5 : Int)) (cond (cond (((ln I t.2.1) : Int) == (0 : Int)) (((ln I t.2.2.1) : Int) == (1 : Int)) false) (((ln qae t.2.2.2.1) : Int) == (0 : Int)) false) (cond ((z t.1) == (6 : Int)) (cond (cond (((ln I t.2.1) : Int) == ((ln I ((gd qaa c.1.2.1 (((z t.2.2.2.2.1)).toNat)).2.1)) : Int)) (((ln I t.2.2.1) : Int) == (0 : Int)) false) (((ln qae t.2.2.2.1) : Int) == (0 : Int)) false) (cond (cond (((ln I t.2.1) : Int) == (0 : Int)) (((ln I t.2.2.1) : Int) == (0 : Int)) false) (((ln qae t.2.2.2.1) : Int) == (0 : Int)) false))))))))

def k_machine_checker_shape : Con := con [.d qab, .d qai] .bool (fun x => z x.2.1.1 = 6 → 0 ≤ z x.2.1.2.2.2.2.1 ∧ z x.2.1.2.2.2.2.1 < (ln qaa x.1.1.2.1 : Nat)) fun x => shpC x.1 x.2.1
theorem m_machine_checker_shape (c : Den qab) (t : Den qai) (h_c : okD qab c) (h_t : okD qai t) (hp : z t.1 = 6 → 0 ≤ z t.2.2.2.2.1 ∧ z t.2.2.2.2.1 < (ln qaa c.1.2.1 : Nat)) : Runs E_V32 (start E_V32 qcc [(.tv qab c), (.tv qai t)]) (fun r_ h_ => r_ = (vb (shpC c t)) ∧ h_ = []) := .tree E_V32_ok (machine_checker_shape_t c t) (by
 have hp_ := hp
 try simp only [z] at hp_
 show Tre.wp (Qv _ (fun x_ => (vb x_)) (shpC c t)) _
 unfold shpC
 refine qag (fun h1 => ⟨rfl, rfl⟩) (fun h1 => ?_)
 refine qag (fun h2 => ⟨rfl, rfl⟩) (fun h2 => ?_)
 have h2_ := beq_f h2
 refine qag (fun h3 => ⟨rfl, rfl⟩) (fun h3 => ?_)
 have h3_ := beq_f h3
 refine qag (fun h4 => ⟨rfl, rfl⟩) (fun h4 => ?_)
 have h4_ := beq_f h4
 refine qag (fun h5 => ⟨trivial, fun _ => fun _ => ⟨rfl, rfl⟩⟩) (fun h5 => ?_)
 have h5_ := beq_f h5
 refine qag (fun h6 => ⟨rfl, rfl⟩) (fun h6 => ?_)
 have h6_ := beq_f h6
 refine qag (fun h7 => ?_) (fun h7 => ⟨rfl, rfl⟩)
 have h7_ := beq_t h7
 refine ⟨by first | omega | exact (hp (by assumption)) | (have g_ := hp (by assumption); omega) | assumption | exact hp.1 | exact hp.2 | exact hp.2.1 | (simp_all; done) | (simp_all; omega), fun _ => ?_⟩
 exact ⟨rfl, rfl⟩)
theorem c_machine_checker_shape : qal E_V32 qcc k_machine_checker_shape.spec := qan fun x hx hp => ⟨rfl, m_machine_checker_shape x.1 x.2.1 hx.1 hx.2.1 hp⟩
def L_V32 : List (FuncId × FSpec) := [(qay, qfg.spec), (qbp, qfz.spec), (qcc, k_machine_checker_shape.spec)] ++ L_V31
theorem L_V32_ok : ∀ x ∈ L_V32, qal (ctx []) x.1 x.2 := by
 unfold L_V32
 simp only [List.cons_append, List.nil_append, List.forall_mem_cons]
 exact ⟨c_machine_checker_registers, c_machine_checker_operands, c_machine_checker_shape, L_V31_ok⟩
end Burn.MM
namespace Burn.MM
open Go Go.BE Go.Proofs
set_option maxRecDepth 100000
set_option linter.unusedVariables false
set_option linter.unusedSimpArgs false
open Burn.Intn Burn.Ref
def mrg_V33 : FuncId → List Nat
 | 39 => [14, 25, 35, 40, 45, 53, 63, 75]
 | _ => []
noncomputable abbrev E_V33 : Ctx := { ctx L_V32 with mrg := mrg_V33 }
theorem E_V33_ok : EOK E_V33 := have h : EOK (ctx L_V32) := qch L_V32_ok; ⟨h.ty, h.env, h.fns, h.mixed⟩
def cuts_V33 : CutL := []
def rets_V33 : FuncId → List (Option Fx)
 | _ => []
def H_V33 : Hints := { cut := cutOf cuts_V33, ret := rets_V33 }
theorem machine_checker_move_t (c : Den qab) (in_ : Den qad) : run E_V33 H_V33 qcj 3000 (start E_V33 qcj [(.tv qab c), (.tv qad in_)]) = (cond ((z in_.1) == (40 : Int)) (.chk (True) (.chk (True) (.chk (True) (.chk (True) (.know (okD (.int .i64) (unlP (cond (cond (cond (cond ((z in_.2.2.2.2.2.1) == (0 : Int)) ((z in_.2.2.2.2.2.2.1) == (0 : Int)) false) (((ln I in_.2.2.2.1) : Int) == (1 : Int)) false) ((z in_.2.2.1) == (-1 : Int)) false) ((z in_.2.1) == (0 : Int)) false) (3 : Int))) (.know True (.know (okD (.int .i64) (unlP (cond (rgsF c in_.2.2.2.1) (cond (decide ((z in_.2.2.2.2.1) ≥ (0 : Int))) (decide ((z in_.2.2.2.2.1) < (z c.2.1.2.2.2.2.2.1))) false) false) (10 : Int))) (.know (okD (.int .i64) (fstF ([(unlP (cond (cond (cond (cond ((z in_.2.2.2.2.2.1) == (0 : Int)) ((z in_.2.2.2.2.2.2.1) == (0 : Int)) false) (((ln I in_.2.2.2.1) : Int) == (1 : Int)) false) ((z in_.2.2.1) == (-1 : Int)) false) ((z in_.2.1) == (0 : Int)) false) (3 : Int)), (unlP (cond (rgsF c in_.2.2.2.1) (cond (decide ((z in_.2.2.2.2.1) ≥ (0 : Int))) (decide ((z in_.2.2.2.2.1) < (z c.2.1.2.2.2.2.2.1))) false) false) (10 : Int))] : List (Den I)))) (rt (vi (fstF ([(unlP (cond (cond (cond (cond ((z in_.2.2.2.2.2.1) == (0 : Int)) ((z in_.2.2.2.2.2.2.1) == (0 : Int)) false) (((ln I in_.2.2.2.1) : Int) == (1 : Int)) false) ((z in_.2.2.1) == (-1 : Int)) false) ((z in_.2.1) == (0 : Int)) false) (3 : Int)), (unlP (cond (rgsF c in_.2.2.2.1) (cond (decide ((z in_.2.2.2.2.1) ≥ (0 : Int))) (decide ((z in_.2.2.2.2.1) < (z c.2.1.2.2.2.2.2.1))) false) false) (10 : Int))] : List (Den I)))) []))))))))) (.chk (True) (.chk (True) (.chk (True) (.chk (True) (.chk (True) (.chk (True) (.know (okD (.int .i64) (unlP (cond (cond ((z in_.2.2.2.2.2.1) == (0 : Int)) ((z in_.2.2.2.2.2.2.1) == (0 : Int)) false) (((ln I in_.2.2.2.1) : Int) == (0 : Int)) false) (3 : Int))) (.know True (.know (okD (.int .i64) (unlP (typP in_.2.1) (9 : Int))) (.know True (.know (okD (.int .i64) (unlP (cond (regC c in_.2.2.1) (cond (decide ((z in_.2.2.2.2.1) ≥ (0 : Int))) (decide ((z in_.2.2.2.2.1) < (z c.2.1.2.2.2.2.2.1))) false) false) (10 : Int))) (.know (okD (.int .i64) (fstF ([(unlP (cond (cond ((z in_.2.2.2.2.2.1) == (0 : Int)) ((z in_.2.2.2.2.2.2.1) == (0 : Int)) false) (((ln I in_.2.2.2.1) : Int) == (0 : Int)) false) (3 : Int)), (unlP (typP in_.2.1) (9 : Int)), (unlP (cond (regC c in_.2.2.1) (cond (decide ((z in_.2.2.2.2.1) ≥ (0 : Int))) (decide ((z in_.2.2.2.2.1) < (z c.2.1.2.2.2.2.2.1))) false) false) (10 : Int))] : List (Den I)))) (rt (vi (fstF ([(unlP (cond (cond ((z in_.2.2.2.2.2.1) == (0 : Int)) ((z in_.2.2.2.2.2.2.1) == (0 : Int)) false) (((ln I in_.2.2.2.1) : Int) == (0 : Int)) false) (3 : Int)), (unlP (typP in_.2.1) (9 : Int)), (unlP (cond (regC c in_.2.2.1) (cond (decide ((z in_.2.2.2.2.1) ≥ (0 : Int))) (decide ((z in_.2.2.2.2.1) < (z c.2.1.2.2.2.2.2.1))) false) false) (10 : Int))] : List (Den I)))) [])))))))))))))) := by kernel_rfl
def sltP (f : Den qam) (in_ : Den qad) : Int := (cond (cond (cond (cond ((z in_.2.2.2.2.2.1) != (0 : Int)) true ((z in_.2.2.2.2.2.2.1) != (0 : Int))) true (cond ((z in_.1) == (40 : Int)) (cond (cond (((ln I in_.2.2.2.1) : Int) != (1 : Int)) true ((z in_.2.2.1) != (-1 : Int))) true ((z in_.2.1) != (0 : Int))) false)) true (cond (!((z in_.1) == (40 : Int))) (((ln I in_.2.2.2.1) : Int) != (0 : Int)) false)) (3 : Int) (cond (cond (!((z in_.1) == (40 : Int))) (!(typP in_.2.1)) false) (9 : Int) (cond (cond (cond (cond (cond ((z in_.1) == (40 : Int)) (!(rgM f (gd I in_.2.2.2.1 (0 : Nat)))) false) true (cond (!((z in_.1) == (40 : Int))) (!(rgM f in_.2.2.1)) false)) true (decide ((z in_.2.2.2.2.1) < (0 : Int)))) true (decide ((z in_.2.2.2.2.1) ≥ (z f.2.2.2.2.2.1)))) (10 : Int) (0 : Int))))
def movP (c : Den qab) (in_ : Den qad) : Int := (cond ((z in_.1) == (40 : Int)) (fstF ([(unlP (cond (cond (cond (cond ((z in_.2.2.2.2.2.1) == (0 : Int)) ((z in_.2.2.2.2.2.2.1) == (0 : Int)) false) (((ln I in_.2.2.2.1) : Int) == (1 : Int)) false) ((z in_.2.2.1) == (-1 : Int)) false) ((z in_.2.1) == (0 : Int)) false) (3 : Int)), (unlP (cond (rgsF c in_.2.2.2.1) (cond (decide ((z in_.2.2.2.2.1) ≥ (0 : Int))) (decide ((z in_.2.2.2.2.1) < (z c.2.1.2.2.2.2.2.1))) false) false) (10 : Int))] : List (Den I))) (fstF ([(unlP (cond (cond ((z in_.2.2.2.2.2.1) == (0 : Int)) ((z in_.2.2.2.2.2.2.1) == (0 : Int)) false) (((ln I in_.2.2.2.1) : Int) == (0 : Int)) false) (3 : Int)), (unlP (typP in_.2.1) (9 : Int)), (unlP (cond (regC c in_.2.2.1) (cond (decide ((z in_.2.2.2.2.1) ≥ (0 : Int))) (decide ((z in_.2.2.2.2.1) < (z c.2.1.2.2.2.2.2.1))) false) false) (10 : Int))] : List (Den I))))

def k_machine_checker_move : Con := con [.d qab, .d qad] I (fun x => True) fun x => movP x.1 x.2.1
theorem m_machine_checker_move (c : Den qab) (in_ : Den qad) (h_c : okD qab c) (h_in_ : okD qad in_) (hp : True) : Runs E_V33 (start E_V33 qcj [(.tv qab c), (.tv qad in_)]) (fun r_ h_ => r_ = (vi (movP c in_)) ∧ h_ = []) := .tree E_V33_ok (machine_checker_move_t c in_) (by
 show Tre.wp (Qv _ (fun x_ => (vi x_)) (movP c in_)) _
 unfold movP
 refine qag (fun h1 => ⟨trivial, fun _ => ⟨trivial, fun _ => ⟨trivial, fun _ => ⟨trivial, fun _ => fun _ => fun _ => fun _ => fun _ => ⟨rfl, rfl⟩⟩⟩⟩⟩) (fun h1 => ?_)
 exact ⟨trivial, fun _ => ⟨trivial, fun _ => ⟨trivial, fun _ => ⟨trivial, fun _ => ⟨trivial, fun _ => ⟨trivial, fun _ => fun _ => fun _ => fun _ => fun _ => fun _ => fun _ => ⟨rfl, rfl⟩⟩⟩⟩⟩⟩⟩)
theorem c_machine_checker_move : qal E_V33 qcj k_machine_checker_move.spec := qan fun x hx hp => ⟨rfl, m_machine_checker_move x.1 x.2.1 hx.1 hx.2.1 hp⟩
def L_V33 : List (FuncId × FSpec) := [(qcj, k_machine_checker_move.spec)] ++ L_V32
theorem L_V33_ok : ∀ x ∈ L_V33, qal (ctx []) x.1 x.2 := by
 unfold L_V33
 simp only [List.cons_append, List.nil_append, List.forall_mem_cons]
 exact ⟨c_machine_checker_move, L_V32_ok⟩
end Burn.MM
namespace Burn.MM
open Go Go.BE Go.Proofs
set_option maxRecDepth 100000
set_option linter.unusedVariables false
set_option linter.unusedSimpArgs false
open Burn.Intn Burn.Ref
def mrg_V34 : FuncId → List Nat
 | 41 => [22, 37, 38, 46, 55, 56, 65, 70, 71, 102, 103, 112, 113, 125, 126]
 | _ => []
noncomputable abbrev E_V34 : Ctx := { ctx L_V33 with mrg := mrg_V34 }
theorem E_V34_ok : EOK E_V34 := have h : EOK (ctx L_V33) := qch L_V33_ok; ⟨h.ty, h.env, h.fns, h.mixed⟩
def cuts_V34 : CutL := []
def rets_V34 : FuncId → List (Option Fx)
 | _ => []
def H_V34 : Hints := { cut := cutOf cuts_V34, ret := rets_V34 }
theorem machine_checker_physical_t (c : Den qab) (in_ : Den qad) : run E_V34 H_V34 qbo 3000 (start E_V34 qbo [(.tv qab c), (.tv qad in_)]) = (.chk ((((z in_.1) == (25 : Int)) = true → (True))) (.chk (((cond ((z in_.1) == (25 : Int)) (!(witP in_.2.2.2.2.2.1 (0 : Int) (IntKind.wrap .i64 (((ln qaf c.1.1) : Int) - (1 : Int))))) false) = false → ((((z in_.1) == (30 : Int)) = true → (True))))) (cond (cond (cond ((z in_.1) == (25 : Int)) (!(witP in_.2.2.2.2.2.1 (0 : Int) (IntKind.wrap .i64 (((ln qaf c.1.1) : Int) - (1 : Int))))) false) true (cond ((z in_.1) == (30 : Int)) (!(witP in_.2.2.2.2.2.1 (0 : Int) (IntKind.wrap .i64 (((ln qaa c.1.2.1) : Int) - (1 : Int))))) false)) (rt (vi (8 : Int)) []) (.chk ((((z in_.2.1) == (0 : Int)) = false → (True))) (.chk (True) (.know (okAVs [(vi (z ((accP in_.2.2.2.2.2.2.1).1))), (vi (z ((accP in_.2.2.2.2.2.2.1).2)))]) (.chk (z in_.1 = 30 → 0 ≤ z in_.2.2.2.2.2.1 ∧ z in_.2.2.2.2.2.1 < (ln qaa c.1.2.1 : Nat)) (.chk (True) (.chk (True) (.chk (((rgsF c in_.2.2.2.1) = true → ((((z in_.2.2.1) == (-1 : Int)) = false → (True))))) (.chk (True) (.chk (True) (.chk (True) (.chk (True) (.know (okD (.int .i64) (opsP c in_)) (.know (okD (.int .i64) (unlP (((ln I in_.2.2.2.1) : Int) == (opsP c in_)) (3 : Int))) (.know True (.know (okD (.int .i64) (unlP (cond (rgsF c in_.2.2.2.1) (cond ((z in_.2.2.1) == (-1 : Int)) true (regC c in_.2.2.1)) false) (10 : Int))) (.know (okD (.int .i64) (unlP (cond (cond (cond (cond ((z in_.2.1) == (0 : Int)) true (typP in_.2.1)) (cond ((z in_.2.1) != (0 : Int)) true ((z in_.2.2.1) == (-1 : Int))) false) (cond (cond ((z in_.2.1) == (0 : Int)) true ((z in_.2.2.1) != (-1 : Int))) true ((z in_.1) == (30 : Int))) false) (cond (!((z in_.1) == (26 : Int))) true ((z ((accP in_.2.2.2.2.2.2.1).2)) == (1 : Int))) false) (9 : Int))) (.know (okD (.int .i64) (unlP (cond (!((z in_.1) == (26 : Int))) true (cond (decide ((z in_.2.2.2.2.1) ≥ (1 : Int))) (decide ((z in_.2.2.2.2.1) ≤ (256 : Int))) false)) (10 : Int))) (.know (okD (.int .i64) (fstF ([(unlP (((ln I in_.2.2.2.1) : Int) == (opsP c in_)) (3 : Int)), (unlP (cond (rgsF c in_.2.2.2.1) (cond ((z in_.2.2.1) == (-1 : Int)) true (regC c in_.2.2.1)) false) (10 : Int)), (unlP (cond (cond (cond (cond ((z in_.2.1) == (0 : Int)) true (typP in_.2.1)) (cond ((z in_.2.1) != (0 : Int)) true ((z in_.2.2.1) == (-1 : Int))) false) (cond (cond ((z in_.2.1) == (0 : Int)) true ((z in_.2.2.1) != (-1 : Int))) true ((z in_.1) == (30 : Int))) false) (cond (!((z in_.1) == (26 : Int))) true ((z ((accP in_.2.2.2.2.2.2.1).2)) == (1 : Int))) false) (9 : Int)), (unlP (cond (!((z in_.1) == (26 : Int))) true (cond (decide ((z in_.2.2.2.2.1) ≥ (1 : Int))) (decide ((z in_.2.2.2.2.1) ≤ (256 : Int))) false)) (10 : Int))] : List (Den I)))) (rt (vi (fstF ([(unlP (((ln I in_.2.2.2.1) : Int) == (opsP c in_)) (3 : Int)), (unlP (cond (rgsF c in_.2.2.2.1) (cond ((z in_.2.2.1) == (-1 : Int)) true (regC c in_.2.2.1)) false) (10 : Int)), (unlP (cond (cond (cond (cond ((z in_.2.1) == (0 : Int)) true (typP in_.2.1)) (cond ((z in_.2.1) != (0 : Int)) true ((z in_.2.2.1) == (-1 : Int))) false) (cond (cond ((z in_.2.1) == (0 : Int)) true ((z in_.2.2.1) != (-1 : Int))) true ((z in_.1) == (30 : Int))) false) (cond (!((z in_.1) == (26 : Int))) true ((z ((accP in_.2.2.2.2.2.2.1).2)) == (1 : Int))) false) (9 : Int)), (unlP (cond (!((z in_.1) == (26 : Int))) true (cond (decide ((z in_.2.2.2.2.1) ≥ (1 : Int))) (decide ((z in_.2.2.2.2.1) ≤ (256 : Int))) false)) (10 : Int))] : List (Den I)))) [])))))))))))))))))))))) := by kernel_rfl
theorem dge (x y : Int) : decide (x ≥ y) = !(decide (x < y)) := by
 by_cases h : x < y
 ·rw [decide_eq_true h, decide_eq_false (by omega)]; rfl
 ·rw [decide_eq_false h, decide_eq_true (by omega)]; rfl
theorem dle (x y : Int) : decide (x ≤ y) = !(decide (x > y)) := by
 by_cases h : x > y
 ·rw [decide_eq_true h, decide_eq_false (by omega)]; rfl
 ·rw [decide_eq_false h, decide_eq_true (by omega)]; rfl
theorem mov_eq (c : Chr) (x : Ins) : movP c x = sltP c.2.1 x := by
 unfold movP sltP bne
 rw [dge, dge]
 cases z x.1 == (40 : Int)
 ·unfold regC
  cases z x.2.2.2.2.2.1 == (0 : Int) <;> cases z x.2.2.2.2.2.2.1 == (0 : Int) <;> cases (ln I x.2.2.2.1 : Int) == (0 : Int) <;> cases typP x.2.1 <;> cases rgM c.2.1 x.2.2.1 <;> cases decide (z x.2.2.2.2.1 < 0) <;> cases decide (z x.2.2.2.2.1 < z c.2.1.2.2.2.2.2.1) <;> rfl
 ·by_cases hl : (ln I x.2.2.2.1 : Int) = 1
  ·obtain ⟨r, hr⟩ := len1 (l := x.2.2.2.1) (by omega)
   have e : rgsF c x.2.2.2.1 = rgM c.2.1 (gd I x.2.2.2.1 0) := by
    rw [hr]
    show cond (rgM c.2.1 r) true false = rgM c.2.1 r
    cases rgM c.2.1 r <;> rfl
   rw [e, hl]
   cases z x.2.2.2.2.2.1 == (0 : Int) <;> cases z x.2.2.2.2.2.2.1 == (0 : Int) <;> cases z x.2.2.1 == (-1 : Int) <;> cases z x.2.1 == (0 : Int) <;> cases rgM c.2.1 (gd I x.2.2.2.1 0) <;> cases decide (z x.2.2.2.2.1 < 0) <;> cases decide (z x.2.2.2.2.1 < z c.2.1.2.2.2.2.2.1) <;> rfl
  ·have e : ((ln I x.2.2.2.1 : Int) == 1) = false := beq_eq_false_iff_ne.mpr hl
   rw [e]
   cases z x.2.2.2.2.2.1 == (0 : Int) <;> cases z x.2.2.2.2.2.2.1 == (0 : Int) <;> cases rgsF c x.2.2.2.1 <;> rfl
theorem ops_eq (c : Chr) (x : Ins) : opsP c x = opsR c.1 x := by
 unfold opsP opsR bne
 cases z x.2.1 == (6 : Int) <;> rfl
theorem wit_eq {n : Int} {l : Nat} (h : (l : Int) < 9223372036854775807) : witP n 0 (IntKind.wrap .i64 ((l : Int) - 1)) = !(cond (decide (n < 0)) true (decide (n ≥ (l : Int)))) := by
 unfold witP
 have : decide (n ≤ (l : Int) - 1) = decide (n < (l : Int)) := decide_eq_decide.mpr (by omega)
 rw [wrap64 _ (by omega) (by omega), this, dge n 0, dge n l]
 cases decide (n < 0) <;> cases decide (n < (l : Int)) <;> rfl
theorem IsI.of {a x : Int} (h : a = x) : IsI a (vi x) [] := ⟨congrArg vi h.symm, rfl⟩
def phyT (f : MFn) (x : Ins) : Int := cond (cond (z x.2.2.1 != (-1 : Int)) (!(rgM f x.2.2.1)) false) 10 (cond (cond (cond (cond (z x.2.1 != (0 : Int)) (!(typP x.2.1)) false) true (cond (z x.2.1 == (0 : Int)) (z x.2.2.1 != (-1 : Int)) false)) true (cond (cond (z x.2.1 != (0 : Int)) (z x.2.2.1 == (-1 : Int)) false) (z x.1 != (30 : Int)) false)) 9 (cond (cond (z x.1 == (26 : Int)) (cond (decide (z x.2.2.2.2.2.2.1 < (2 : Int))) true (decide (z x.2.2.2.2.2.2.1 > (5 : Int)))) false) 9 (cond (cond (z x.1 == (26 : Int)) (cond (decide (z x.2.2.2.2.1 < (1 : Int))) true (decide (z x.2.2.2.2.1 > (256 : Int)))) false) 10 0)))
def phyA (m : Md) (x : Ins) : Bool := cond (cond (z x.1 == (25 : Int)) (cond (decide (z x.2.2.2.2.2.1 < (0 : Int))) true (decide (z x.2.2.2.2.2.1 ≥ (ln qaf m.1 : Int)))) false) true (cond (z x.1 == (30 : Int)) (cond (decide (z x.2.2.2.2.2.1 < (0 : Int))) true (decide (z x.2.2.2.2.2.1 ≥ (ln qaa m.2.1 : Int)))) false)
def phyR (m : Md) (f : MFn) (x : Ins) : Int := cond (phyA m x) 8 (cond ((ln I x.2.2.2.1 : Int) != opsR m x) 3 (cond (!(allC f x.2.2.2.1)) 10 (phyT f x)))
def phyC (c : Chr) (x : Ins) : Int := phyR c.1 c.2.1 x
theorem phyA_ok {m : Md} {x : Ins} (h : phyA m x = false) : z x.1 = 30 → 0 ≤ z x.2.2.2.2.2.1 ∧ z x.2.2.2.2.2.1 < (ln qaa m.2.1 : Nat) := fun hk => by
 unfold phyA at h
 rw [hk, dge _ (ln qaa m.2.1 : Int)] at h
 cases h1 : decide (z x.2.2.2.2.2.1 < 0)
 ·cases h2 : decide (z x.2.2.2.2.2.1 < (ln qaa m.2.1 : Int))
  ·rw [h1, h2] at h; exact Bool.noConfusion h
  ·exact ⟨by simpa using h1, by simpa using h2⟩
 ·rw [h1] at h; exact Bool.noConfusion h
theorem cel_eq {t : Int} : (z (accP t).2 == (1 : Int)) = !(cond (decide (t < 2)) true (decide (t > 5))) := by
 have h := celP_iff t
 have h' : celP t = (z (accP t).2 == (1 : Int)) := rfl
 rw [← h', Bool.eq_iff_iff, h]
 by_cases h1 : t < 2
 ·simp [h1]; omega
 ·simp [h1]; omega
theorem phy_eq (c : Chr) (x : Ins) : fstF ([unlP ((ln I x.2.2.2.1 : Int) == opsP c x) 3, unlP (cond (rgsF c x.2.2.2.1) (cond (z x.2.2.1 == (-1 : Int)) true (regC c x.2.2.1)) false) 10, unlP (cond (cond (cond (cond (z x.2.1 == (0 : Int)) true (typP x.2.1)) (cond (z x.2.1 != (0 : Int)) true (z x.2.2.1 == (-1 : Int))) false) (cond (cond (z x.2.1 == (0 : Int)) true (z x.2.2.1 != (-1 : Int))) true (z x.1 == (30 : Int))) false) (cond (!(z x.1 == (26 : Int))) true (z (accP x.2.2.2.2.2.2.1).2 == (1 : Int))) false) 9, unlP (cond (!(z x.1 == (26 : Int))) true (cond (decide (z x.2.2.2.2.1 ≥ (1 : Int))) (decide (z x.2.2.2.2.1 ≤ (256 : Int))) false)) 10] : List (Den I)) = cond ((ln I x.2.2.2.1 : Int) != opsR c.1 x) 3 (cond (!(allC c.2.1 x.2.2.2.1)) 10 (phyT c.2.1 x)) := by
 unfold phyT rgsF regC bne
 rw [ops_eq, cel_eq, dge, dle]
 cases (ln I x.2.2.2.1 : Int) == opsR c.1 x
 ·rfl
 ·cases allC c.2.1 x.2.2.2.1
  ·rfl
  ·cases z x.1 == (26 : Int)
   ·cases z x.2.2.1 == (-1 : Int) <;> cases rgM c.2.1 x.2.2.1 <;> cases z x.2.1 == (0 : Int) <;> cases typP x.2.1 <;> cases z x.1 == (30 : Int) <;> rfl
   ·cases z x.2.2.1 == (-1 : Int) <;> cases rgM c.2.1 x.2.2.1 <;> cases z x.2.1 == (0 : Int) <;> cases typP x.2.1 <;> cases z x.1 == (30 : Int) <;> cases decide (z x.2.2.2.2.2.2.1 < 2) <;> cases decide (z x.2.2.2.2.2.2.1 > 5) <;> cases decide (z x.2.2.2.2.1 < 1) <;> cases decide (z x.2.2.2.2.1 > 256) <;> rfl

def qfy : Con := con [.d qab, .d qad] I (fun x => True) fun x => phyC x.1 x.2.1
theorem m_machine_checker_physical (c : Den qab) (in_ : Den qad) (h_c : okD qab c) (h_in_ : okD qad in_) (hp : True) : Runs E_V34 (start E_V34 qbo [(.tv qab c), (.tv qad in_)]) (fun r_ h_ => r_ = (vi (phyC c in_)) ∧ h_ = []) := .tree E_V34_ok (machine_checker_physical_t c in_) (by
 have e1 := wit_eq (n := z in_.2.2.2.2.2.1) (l := ln qaf c.1.1) (by have := qbj h_c.1.1.1; show ((List.length c.1.1 : Nat) : Int) < _; omega)
 have e2 := wit_eq (n := z in_.2.2.2.2.2.1) (l := ln qaa c.1.2.1) (by have := qbj h_c.1.2.1.1; show ((List.length c.1.2.1 : Nat) : Int) < _; omega)
 show Tre.wp (contL _ (IsI (phyR c.1 c.2.1 in_))) _
 simp only [sS, implies_true]
 rw [show witP in_.2.2.2.2.2.1 0 (IntKind.wrap .i64 ((ln qaf c.1.1 : Int) - 1)) = _ from e1, show witP in_.2.2.2.2.2.1 0 (IntKind.wrap .i64 ((ln qaa c.1.2.1 : Int) - 1)) = _ from e2, Bool.not_not, Bool.not_not]
 show (phyA c.1 in_ = true → _) ∧ (phyA c.1 in_ = false → _)
 refine ⟨fun h => ⟨congrArg vi (by unfold phyR; rw [h]; rfl), rfl⟩, fun h _ => ⟨phyA_ok h, fun _ _ _ _ _ _ _ => ⟨congrArg vi (by unfold phyR; rw [h]; exact phy_eq c in_), rfl⟩⟩⟩)
theorem c_machine_checker_physical : qal E_V34 qbo qfy.spec := qan fun x hx hp => ⟨rfl, m_machine_checker_physical x.1 x.2.1 hx.1 hx.2.1 hp⟩
def L_V34 : List (FuncId × FSpec) := [(qbo, qfy.spec)] ++ L_V33
theorem L_V34_ok : ∀ x ∈ L_V34, qal (ctx []) x.1 x.2 := by
 unfold L_V34
 simp only [List.cons_append, List.nil_append, List.forall_mem_cons]
 exact ⟨c_machine_checker_physical, L_V33_ok⟩
end Burn.MM
namespace Burn.MM
open Go Go.BE Go.Proofs
set_option maxRecDepth 100000
set_option linter.unusedVariables false
set_option linter.unusedSimpArgs false
open Burn.Intn Burn.Ref
def mrg_V35 : FuncId → List Nat
 | 43 => [42]
 | _ => []
noncomputable abbrev E_V35 : Ctx := { ctx L_V34 with mrg := mrg_V35 }
theorem E_V35_ok : EOK E_V35 := have h : EOK (ctx L_V34) := qch L_V34_ok; ⟨h.ty, h.env, h.fns, h.mixed⟩
def cuts_V35 : CutL := []
def rets_V35 : FuncId → List (Option Fx)
 | _ => []
def H_V35 : Hints := { cut := cutOf cuts_V35, ret := rets_V35 }
theorem machine_checker_operand_t (c : Den qab) (t : Den qai) (i : Int) : run E_V35 H_V35 qbt 3000 (start E_V35 qbt [(.tv qab c), (.tv qai t), (vi i)]) = (.chk (0 ≤ i ∧ i < (ln I t.2.1)) (.chk (True) (.know True (cond (!(regC c (gd I t.2.1 i.toNat))) (rt (vi (10 : Int)) []) (.chk (True) (.know True (cond (!(vrtP c)) (rt (vi (0 : Int)) []) (.chk (0 ≤ (z (gd I t.2.1 i.toNat)) ∧ (z (gd I t.2.1 i.toNat)) < (ln I c.2.1.2.2.2.1)) (cond ((z t.1) == (2 : Int)) (.chk (True) (.know (okD (.int .i64) (unlP ((z (gd I c.2.1.2.2.2.1 (((z (gd I t.2.1 i.toNat))).toNat))) == (1 : Int)) (9 : Int))) (rt (vi (unlP ((z (gd I c.2.1.2.2.2.1 (((z (gd I t.2.1 i.toNat))).toNat))) == (1 : Int)) (9 : Int))) []))) (cond ((z t.1) == (3 : Int)) (.chk (True) (.know (okD (.int .i64) (unlP (cond ((z (gd I c.2.1.2.2.2.1 (((z (gd I t.2.1 i.toNat))).toNat))) == (3 : Int)) true ((z (gd I c.2.1.2.2.2.1 (((z (gd I t.2.1 i.toNat))).toNat))) == (4 : Int))) (9 : Int))) (rt (vi (unlP (cond ((z (gd I c.2.1.2.2.2.1 (((z (gd I t.2.1 i.toNat))).toNat))) == (3 : Int)) true ((z (gd I c.2.1.2.2.2.1 (((z (gd I t.2.1 i.toNat))).toNat))) == (4 : Int))) (9 : Int))) []))) (cond ((z t.1) == (4 : Int)) (.chk (True) (.know (okD (.int .i64) (unlP ((z (gd I c.2.1.2.2.2.1 (((z (gd I t.2.1 i.toNat))).toNat))) == (z c.2.1.2.2.1)) (9 : Int))) (rt (vi (unlP ((z (gd I c.2.1.2.2.2.1 (((z (gd I t.2.1 i.toNat))).toNat))) == (z c.2.1.2.2.1)) (9 : Int))) []))) (.chk (0 ≤ (z t.2.2.2.2.1) ∧ (z t.2.2.2.2.1) < (ln qaa c.1.2.1)) (.chk (0 ≤ i ∧ i < (ln I ((gd qaa c.1.2.1 (((z t.2.2.2.2.1)).toNat)).2.1))) (.chk (0 ≤ (z (gd I ((gd qaa c.1.2.1 (((z t.2.2.2.2.1)).toNat)).2.1) i.toNat)) ∧ (z (gd I ((gd qaa c.1.2.1 (((z t.2.2.2.2.1)).toNat)).2.1) i.toNat)) < (ln I ((gd qaa c.1.2.1 (((z t.2.2.2.2.1)).toNat)).2.2.2.1))) (.chk (True) (.know (okD (.int .i64) (unlP ((z (gd I c.2.1.2.2.2.1 (((z (gd I t.2.1 i.toNat))).toNat))) == (z (gd I ((gd qaa c.1.2.1 (((z t.2.2.2.2.1)).toNat)).2.2.2.1) (((z (gd I ((gd qaa c.1.2.1 (((z t.2.2.2.2.1)).toNat)).2.1) i.toNat))).toNat)))) (9 : Int))) (rt (vi (unlP ((z (gd I c.2.1.2.2.2.1 (((z (gd I t.2.1 i.toNat))).toNat))) == (z (gd I ((gd qaa c.1.2.1 (((z t.2.2.2.2.1)).toNat)).2.2.2.1) (((z (gd I ((gd qaa c.1.2.1 (((z t.2.2.2.2.1)).toNat)).2.1) i.toNat))).toNat)))) (9 : Int))) []))))))))))))))))) := by kernel_rfl
def trmOK (m : Md) (t : Trm) (i : Int) : Prop := z t.1 ≠ 2 → z t.1 ≠ 3 → z t.1 ≠ 4 → (0 ≤ z t.2.2.2.2.1 ∧ z t.2.2.2.2.1 < (ln qaa m.2.1 : Nat)) ∧ (0 ≤ i ∧ i < (ln I (gd qaa m.2.1 (z t.2.2.2.2.1).toNat).2.1 : Nat)) ∧ 0 ≤ z (gd I (gd qaa m.2.1 (z t.2.2.2.2.1).toNat).2.1 i.toNat) ∧ z (gd I (gd qaa m.2.1 (z t.2.2.2.2.1).toNat).2.1 i.toNat) < (ln I (gd qaa m.2.1 (z t.2.2.2.2.1).toNat).2.2.2.1 : Nat)
theorem rgC_ok {c : Chr} {r : Int} (h : (!(regC c r)) = false) (hv : (!(vrtP c)) = false) : 0 ≤ r ∧ r < (ln I c.2.1.2.2.2.1 : Nat) := by
 have h1 : rgM c.2.1 r = true := by simpa [regC] using h
 have h2 : (z c.2.1.2.2.2.2.1 == (0 : Int)) = true := by simpa [vrtP] using hv
 unfold rgM at h1
 rw [h2] at h1
 cases h3 : decide (r ≥ 0)
 ·rw [h3] at h1; exact Bool.noConfusion h1
 ·rw [h3] at h1
  exact ⟨of_decide_eq_true h3, of_decide_eq_true h1⟩
def shpM (m : Den qah) (f : Den qam) (t : Den qai) : Bool := (cond (cond ((z t.1) != (6 : Int)) ((z t.2.2.2.2.1) != (0 : Int)) false) false (cond ((z t.1) == (1 : Int)) (cond (cond (((ln I t.2.1) : Int) == (0 : Int)) (((ln I t.2.2.1) : Int) == (0 : Int)) false) (((ln qae t.2.2.2.1) : Int) == (1 : Int)) false) (cond ((z t.1) == (2 : Int)) (cond (cond (((ln I t.2.1) : Int) == (1 : Int)) (((ln I t.2.2.1) : Int) == (0 : Int)) false) (((ln qae t.2.2.2.1) : Int) == (2 : Int)) false) (cond ((z t.1) == (3 : Int)) (cond (((ln I t.2.1) : Int) == (1 : Int)) (((ln qae t.2.2.2.1) : Int) == (IntKind.wrap .i64 (((ln I t.2.2.1) : Int) + (1 : Int)))) false) (cond ((z t.1) == (4 : Int)) (cond ((z f.2.2.1) == (0 : Int)) (cond (cond (((ln I t.2.1) : Int) == (0 : Int)) (((ln I t.2.2.1) : Int) == (0 : Int)) false) (((ln qae t.2.2.2.1) : Int) == (0 : Int)) false) (cond (cond (((ln I t.2.1) : Int) == (1 : Int)) (((ln I t.2.2.1) : Int) == (0 : Int)) false) (((ln qae t.2.2.2.1) : Int) == (0 : Int)) false)) (cond ((z t.1) == (5 : Int)) (cond (cond (((ln I t.2.1) : Int) == (0 : Int)) (((ln I t.2.2.1) : Int) == (1 : Int)) false) (((ln qae t.2.2.2.1) : Int) == (0 : Int)) false) (cond (cond (((ln I t.2.1) : Int) == ((ln I ((gd qaa m.2.1 (((z t.2.2.2.2.1)).toNat)).2.1)) : Int)) (((ln I t.2.2.1) : Int) == (0 : Int)) false) (((ln qae t.2.2.2.1) : Int) == (0 : Int)) false)))))))
def typM (m : Den qah) (f : Den qam) (x : Den qai) (i : Int) (t : Int) : Bool := (cond ((z x.1) == (2 : Int)) (t == (1 : Int)) (cond ((z x.1) == (3 : Int)) (cond (t == (3 : Int)) true (t == (4 : Int))) (cond ((z x.1) == (4 : Int)) (t == (z f.2.2.1)) (t == (z (gd I ((gd qaa m.2.1 (((z x.2.2.2.2.1)).toNat)).2.2.2.1) (((z (gd I ((gd qaa m.2.1 (((z x.2.2.2.2.1)).toNat)).2.1) i.toNat))).toNat)))))))
def opdC (c : Den qab) (t : Den qai) (i : Int) : Int := (cond (!(regC c (gd I t.2.1 i.toNat))) (10 : Int) (cond (!(vrtP c)) (0 : Int) (cond ((z t.1) == (2 : Int)) (unlP ((z (gd I c.2.1.2.2.2.1 (((z (gd I t.2.1 i.toNat))).toNat))) == (1 : Int)) (9 : Int)) (cond ((z t.1) == (3 : Int)) (unlP (cond ((z (gd I c.2.1.2.2.2.1 (((z (gd I t.2.1 i.toNat))).toNat))) == (3 : Int)) true ((z (gd I c.2.1.2.2.2.1 (((z (gd I t.2.1 i.toNat))).toNat))) == (4 : Int))) (9 : Int)) (cond ((z t.1) == (4 : Int)) (unlP ((z (gd I c.2.1.2.2.2.1 (((z (gd I t.2.1 i.toNat))).toNat))) == (z c.2.1.2.2.1)) (9 : Int)) (unlP ((z (gd I c.2.1.2.2.2.1 (((z (gd I t.2.1 i.toNat))).toNat))) == (z (gd I ((gd qaa c.1.2.1 (((z t.2.2.2.2.1)).toNat)).2.2.2.1) (((z (gd I ((gd qaa c.1.2.1 (((z t.2.2.2.2.1)).toNat)).2.1) i.toNat))).toNat)))) (9 : Int)))))))

def qgk : Con := con [.d qab, .d qai, .d I] I (fun x => (0 ≤ z x.2.2.1 ∧ z x.2.2.1 < (ln I x.2.1.2.1 : Nat)) ∧ trmOK x.1.1 x.2.1 (z x.2.2.1)) fun x => opdC x.1 x.2.1 x.2.2.1
theorem m_machine_checker_operand (c : Den qab) (t : Den qai) (i : Int) (h_c : okD qab c) (h_t : okD qai t) (h_i : okD I i) (hp : (0 ≤ z i ∧ z i < (ln I t.2.1 : Nat)) ∧ trmOK c.1 t (z i)) : Runs E_V35 (start E_V35 qbt [(.tv qab c), (.tv qai t), (vi i)]) (fun r_ h_ => r_ = (vi (opdC c t i)) ∧ h_ = []) := .tree E_V35_ok (machine_checker_operand_t c t i) (by
 have hp_ := hp
 try simp only [z] at hp_
 show Tre.wp (Qv _ (fun x_ => (vi x_)) (opdC c t i)) _
 unfold opdC
 refine ⟨by first | omega | exact (hp.1) | (have g_ := hp.1; omega) | exact (rgC_ok (by assumption) (by assumption)) | (have g_ := rgC_ok (by assumption) (by assumption); omega) | exact ((hp.2 (by assumption) (by assumption) (by assumption)).1) | (have g_ := (hp.2 (by assumption) (by assumption) (by assumption)).1; omega) | exact ((hp.2 (by assumption) (by assumption) (by assumption)).2.1) | (have g_ := (hp.2 (by assumption) (by assumption) (by assumption)).2.1; omega) | exact ((hp.2 (by assumption) (by assumption) (by assumption)).2.2) | (have g_ := (hp.2 (by assumption) (by assumption) (by assumption)).2.2; omega) | assumption | exact hp.1 | exact hp.2 | exact hp.2.1 | (simp_all; done) | (simp_all; omega), fun _ => ?_⟩
 refine ⟨trivial, fun _ => ?_⟩
 refine fun _ => ?_
 refine qag (fun h1 => ⟨rfl, rfl⟩) (fun h1 => ?_)
 refine ⟨trivial, fun _ => ?_⟩
 refine fun _ => ?_
 refine qag (fun h2 => ⟨rfl, rfl⟩) (fun h2 => ?_)
 refine ⟨by first | omega | exact (hp.1) | (have g_ := hp.1; omega) | exact (rgC_ok (by assumption) (by assumption)) | (have g_ := rgC_ok (by assumption) (by assumption); omega) | exact ((hp.2 (by assumption) (by assumption) (by assumption)).1) | (have g_ := (hp.2 (by assumption) (by assumption) (by assumption)).1; omega) | exact ((hp.2 (by assumption) (by assumption) (by assumption)).2.1) | (have g_ := (hp.2 (by assumption) (by assumption) (by assumption)).2.1; omega) | exact ((hp.2 (by assumption) (by assumption) (by assumption)).2.2) | (have g_ := (hp.2 (by assumption) (by assumption) (by assumption)).2.2; omega) | assumption | exact hp.1 | exact hp.2 | exact hp.2.1 | (simp_all; done) | (simp_all; omega), fun _ => ?_⟩
 refine qag (fun h3 => ⟨trivial, fun _ => fun _ => ⟨rfl, rfl⟩⟩) (fun h3 => ?_)
 have h3_ := beq_f h3
 refine qag (fun h4 => ⟨trivial, fun _ => fun _ => ⟨rfl, rfl⟩⟩) (fun h4 => ?_)
 have h4_ := beq_f h4
 refine qag (fun h5 => ⟨trivial, fun _ => fun _ => ⟨rfl, rfl⟩⟩) (fun h5 => ?_)
 have h5_ := beq_f h5
 refine ⟨by first | omega | exact (hp.1) | (have g_ := hp.1; omega) | exact (rgC_ok (by assumption) (by assumption)) | (have g_ := rgC_ok (by assumption) (by assumption); omega) | exact ((hp.2 (by assumption) (by assumption) (by assumption)).1) | (have g_ := (hp.2 (by assumption) (by assumption) (by assumption)).1; omega) | exact ((hp.2 (by assumption) (by assumption) (by assumption)).2.1) | (have g_ := (hp.2 (by assumption) (by assumption) (by assumption)).2.1; omega) | exact ((hp.2 (by assumption) (by assumption) (by assumption)).2.2) | (have g_ := (hp.2 (by assumption) (by assumption) (by assumption)).2.2; omega) | assumption | exact hp.1 | exact hp.2 | exact hp.2.1 | (simp_all; done) | (simp_all; omega), fun _ => ?_⟩
 refine ⟨by first | omega | exact (hp.1) | (have g_ := hp.1; omega) | exact (rgC_ok (by assumption) (by assumption)) | (have g_ := rgC_ok (by assumption) (by assumption); omega) | exact ((hp.2 (by assumption) (by assumption) (by assumption)).1) | (have g_ := (hp.2 (by assumption) (by assumption) (by assumption)).1; omega) | exact ((hp.2 (by assumption) (by assumption) (by assumption)).2.1) | (have g_ := (hp.2 (by assumption) (by assumption) (by assumption)).2.1; omega) | exact ((hp.2 (by assumption) (by assumption) (by assumption)).2.2) | (have g_ := (hp.2 (by assumption) (by assumption) (by assumption)).2.2; omega) | assumption | exact hp.1 | exact hp.2 | exact hp.2.1 | (simp_all; done) | (simp_all; omega), fun _ => ?_⟩
 refine ⟨by first | omega | exact (hp.1) | (have g_ := hp.1; omega) | exact (rgC_ok (by assumption) (by assumption)) | (have g_ := rgC_ok (by assumption) (by assumption); omega) | exact ((hp.2 (by assumption) (by assumption) (by assumption)).1) | (have g_ := (hp.2 (by assumption) (by assumption) (by assumption)).1; omega) | exact ((hp.2 (by assumption) (by assumption) (by assumption)).2.1) | (have g_ := (hp.2 (by assumption) (by assumption) (by assumption)).2.1; omega) | exact ((hp.2 (by assumption) (by assumption) (by assumption)).2.2) | (have g_ := (hp.2 (by assumption) (by assumption) (by assumption)).2.2; omega) | assumption | exact hp.1 | exact hp.2 | exact hp.2.1 | (simp_all; done) | (simp_all; omega), fun _ => ?_⟩
 exact ⟨trivial, fun _ => fun _ => ⟨rfl, rfl⟩⟩)
theorem c_machine_checker_operand : qal E_V35 qbt qgk.spec := qan fun x hx hp => ⟨rfl, m_machine_checker_operand x.1 x.2.1 x.2.2.1 hx.1 hx.2.1 hx.2.2.1 hp⟩
def L_V35 : List (FuncId × FSpec) := [(qbt, qgk.spec)] ++ L_V34
theorem L_V35_ok : ∀ x ∈ L_V35, qal (ctx []) x.1 x.2 := by
 unfold L_V35
 simp only [List.cons_append, List.nil_append, List.forall_mem_cons]
 exact ⟨c_machine_checker_operand, L_V34_ok⟩
end Burn.MM
namespace Burn.MM
open Go Go.BE Go.Proofs
set_option maxRecDepth 100000
set_option linter.unusedVariables false
set_option linter.unusedSimpArgs false
open Burn.Intn Burn.Ref
def mrg_V36 : FuncId → List Nat
 | 44 => [23]
 | _ => []
noncomputable abbrev E_V36 : Ctx := { ctx L_V35 with mrg := mrg_V36 }
theorem E_V36_ok : EOK E_V36 := have h : EOK (ctx L_V35) := qch L_V35_ok; ⟨h.ty, h.env, h.fns, h.mixed⟩
def cuts_V36 : CutL := [([], 44, 0, [2, 3, 11, 12, 13], [], [])]
def rets_V36 : FuncId → List (Option Fx)
 | _ => []
def H_V36 : Hints := { cut := cutOf cuts_V36, ret := rets_V36 }
noncomputable def qbk (c : Den qab) (t : Den qai) (t11 : List (Den I)) (t12 : Int) (t13 : Int) : Cfg := hcfg E_V36 qbg 0 [(2, (.rtp qab c)), (3, (.rtp qai t)), (11, (.tv (.sl 8 I) t11)), (12, (vi t12)), (13, (vi t13))] [] 0
theorem machine_checker_cases_t (c : Den qab) (t : Den qai) : run E_V36 H_V36 qbg 3000 (start E_V36 qbg [(.tv qab c), (.tv qai t)]) = (hd (qbk c t t.2.2.1 ((ln I t.2.2.1) : Int) (0 : Int))) := by kernel_rfl
theorem qfw (c : Den qab) (t : Den qai) (t11 : List (Den I)) (t12 : Int) (t13 : Int) : run E_V36 H_V36 qbg 3000 (qbk c t t11 t12 t13) = (cond (decide (t13 < t12)) (.chk (0 ≤ t13 ∧ t13 < (ln I t11)) (cond ((z t.1) == (3 : Int)) (.chk (True) (.know True (cond (vrtP c) (.chk (0 ≤ (0 : Int) ∧ (0 : Int) < (ln I t.2.1)) (.chk (0 ≤ (z (gd I t.2.1 (0 : Nat))) ∧ (z (gd I t.2.1 (0 : Nat))) < (ln I c.2.1.2.2.2.1)) (.chk (True) (.know (okD (.int .i64) (wrapZ (gd I c.2.1.2.2.2.1 (((z (gd I t.2.1 (0 : Nat)))).toNat)) (gd I t11 t13.toNat))) (.chk (True) (.chk (0 ≤ (0 : Int) ∧ (0 : Int) ≤ t13 ∧ t13 ≤ ((ln I t.2.2.1) : Int)) (.chk (True) (.chk (True) (.chk (True) (.know (okD (.int .i64) (unlP ((wrapZ (gd I c.2.1.2.2.2.1 (((z (gd I t.2.1 (0 : Nat)))).toNat)) (gd I t11 t13.toNat)) == (z (gd I t11 t13.toNat))) (10 : Int))) (.know True (.know (okD (.int .i64) (unlP (!(hasI (wn I t.2.2.1 (0 : Nat) (t13.toNat - (0 : Nat))) (gd I t11 t13.toNat))) (7 : Int))) (.know (okD (.int .i64) (fstF ([(unlP ((wrapZ (gd I c.2.1.2.2.2.1 (((z (gd I t.2.1 (0 : Nat)))).toNat)) (gd I t11 t13.toNat)) == (z (gd I t11 t13.toNat))) (10 : Int)), (unlP (!(hasI (wn I t.2.2.1 (0 : Nat) (t13.toNat - (0 : Nat))) (gd I t11 t13.toNat))) (7 : Int))] : List (Den I)))) (cond ((fstF ([(unlP ((wrapZ (gd I c.2.1.2.2.2.1 (((z (gd I t.2.1 (0 : Nat)))).toNat)) (gd I t11 t13.toNat)) == (z (gd I t11 t13.toNat))) (10 : Int)), (unlP (!(hasI (wn I t.2.2.1 (0 : Nat) (t13.toNat - (0 : Nat))) (gd I t11 t13.toNat))) (7 : Int))] : List (Den I))) != (0 : Int)) (rt (vi (fstF ([(unlP ((wrapZ (gd I c.2.1.2.2.2.1 (((z (gd I t.2.1 (0 : Nat)))).toNat)) (gd I t11 t13.toNat)) == (z (gd I t11 t13.toNat))) (10 : Int)), (unlP (!(hasI (wn I t.2.2.1 (0 : Nat) (t13.toNat - (0 : Nat))) (gd I t11 t13.toNat))) (7 : Int))] : List (Den I)))) []) (hd (qbk c t t11 t12 (IntKind.wrap .i64 (t13 + (1 : Int))))))))))))))))))) (.chk (True) (.know (okD (.int .i64) (wrapZ (4 : Int) (gd I t11 t13.toNat))) (.chk (True) (.chk (0 ≤ (0 : Int) ∧ (0 : Int) ≤ t13 ∧ t13 ≤ ((ln I t.2.2.1) : Int)) (.chk (True) (.chk (True) (.chk (True) (.know (okD (.int .i64) (unlP ((wrapZ (4 : Int) (gd I t11 t13.toNat)) == (z (gd I t11 t13.toNat))) (10 : Int))) (.know True (.know (okD (.int .i64) (unlP (!(hasI (wn I t.2.2.1 (0 : Nat) (t13.toNat - (0 : Nat))) (gd I t11 t13.toNat))) (7 : Int))) (.know (okD (.int .i64) (fstF ([(unlP ((wrapZ (4 : Int) (gd I t11 t13.toNat)) == (z (gd I t11 t13.toNat))) (10 : Int)), (unlP (!(hasI (wn I t.2.2.1 (0 : Nat) (t13.toNat - (0 : Nat))) (gd I t11 t13.toNat))) (7 : Int))] : List (Den I)))) (cond ((fstF ([(unlP ((wrapZ (4 : Int) (gd I t11 t13.toNat)) == (z (gd I t11 t13.toNat))) (10 : Int)), (unlP (!(hasI (wn I t.2.2.1 (0 : Nat) (t13.toNat - (0 : Nat))) (gd I t11 t13.toNat))) (7 : Int))] : List (Den I))) != (0 : Int)) (rt (vi (fstF ([(unlP ((wrapZ (4 : Int) (gd I t11 t13.toNat)) == (z (gd I t11 t13.toNat))) (10 : Int)), (unlP (!(hasI (wn I t.2.2.1 (0 : Nat) (t13.toNat - (0 : Nat))) (gd I t11 t13.toNat))) (7 : Int))] : List (Den I)))) []) (hd (qbk c t t11 t12 (IntKind.wrap .i64 (t13 + (1 : Int)))))))))))))))))))) (.chk (True) (.chk (0 ≤ (0 : Int) ∧ (0 : Int) ≤ t13 ∧ t13 ≤ ((ln I t.2.2.1) : Int)) (.chk (True) (.chk (True) (.chk (True) (.know (okD (.int .i64) (unlP (cond (decide ((z (gd I t11 t13.toNat)) ≥ (16 : Int))) (decide ((z (gd I t11 t13.toNat)) ≤ (255 : Int))) false) (10 : Int))) (.know True (.know (okD (.int .i64) (unlP (!(hasI (wn I t.2.2.1 (0 : Nat) (t13.toNat - (0 : Nat))) (gd I t11 t13.toNat))) (7 : Int))) (.know (okD (.int .i64) (fstF ([(unlP (cond (decide ((z (gd I t11 t13.toNat)) ≥ (16 : Int))) (decide ((z (gd I t11 t13.toNat)) ≤ (255 : Int))) false) (10 : Int)), (unlP (!(hasI (wn I t.2.2.1 (0 : Nat) (t13.toNat - (0 : Nat))) (gd I t11 t13.toNat))) (7 : Int))] : List (Den I)))) (cond ((fstF ([(unlP (cond (decide ((z (gd I t11 t13.toNat)) ≥ (16 : Int))) (decide ((z (gd I t11 t13.toNat)) ≤ (255 : Int))) false) (10 : Int)), (unlP (!(hasI (wn I t.2.2.1 (0 : Nat) (t13.toNat - (0 : Nat))) (gd I t11 t13.toNat))) (7 : Int))] : List (Den I))) != (0 : Int)) (rt (vi (fstF ([(unlP (cond (decide ((z (gd I t11 t13.toNat)) ≥ (16 : Int))) (decide ((z (gd I t11 t13.toNat)) ≤ (255 : Int))) false) (10 : Int)), (unlP (!(hasI (wn I t.2.2.1 (0 : Nat) (t13.toNat - (0 : Nat))) (gd I t11 t13.toNat))) (7 : Int))] : List (Den I)))) []) (hd (qbk c t t11 t12 (IntKind.wrap .i64 (t13 + (1 : Int))))))))))))))))) (rt (vi (0 : Int)) [])) := by kernel_rfl
theorem shm_eq {c : Chr} {t : Trm} (h : 1 ≤ z t.1 ∧ z t.1 ≤ 6) : shpC c t = shpM c.1 c.2.1 t := by
 unfold shpC shpM bne
 have : z t.1 = 1 ∨ z t.1 = 2 ∨ z t.1 = 3 ∨ z t.1 = 4 ∨ z t.1 = 5 ∨ z t.1 = 6 := by omega
 rcases this with h | h | h | h | h | h
 ·rw [h]; rfl
 ·rw [h]; rfl
 ·rw [h, beq_self_eq_true (a := (ln I t.2.2.1 : Int))]
  cases z t.2.2.2.2.1 == (0 : Int) <;> cases (ln I t.2.1 : Int) == 1 <;> rfl
 ·rw [h]
  cases z c.2.1.2.2.1 == (0 : Int) <;> rfl
 ·rw [h]; rfl
 ·rw [h]; rfl
def casT (f : MFn) (t : Trm) (i : Nat) : Bool := cond (z t.1 == (3 : Int)) (wrapZ (cond (z f.2.2.2.2.1 == (0 : Int)) (gd I f.2.2.2.1 (z (gd I t.2.1 0)).toNat) 4) (gd I t.2.2.1 i) != z (gd I t.2.2.1 i)) (cond (decide (z (gd I t.2.2.1 i) < (16 : Int))) true (decide (z (gd I t.2.2.1 i) > (255 : Int))))
def casI5 (f : MFn) (t : Trm) (i : Nat) : Int := cond (casT f t i) 10 (cond (hasI (wn I t.2.2.1 0 i) (gd I t.2.2.1 i)) 7 0)
def casM (f : MFn) (t : Trm) : Int := qas (casI5 f t) (ln I t.2.2.1) 0
def casC (c : Chr) (t : Trm) : Int := casM c.2.1 t
def casOK (f : MFn) (t : Trm) : Prop := (z t.1 = 3 ∨ z t.1 = 5 ∨ ln I t.2.2.1 = 0) ∧ (z t.1 = 3 → z f.2.2.2.2.1 = 0 → 0 < ln I t.2.1 ∧ 0 ≤ z (gd I t.2.1 0) ∧ z (gd I t.2.1 0) < (ln I f.2.2.2.1 : Nat))
theorem fe_both {E : Ctx} {c : Cfg} {D : Nat → Int} {n i : Nat} {e : Int} (he : D i = e) (ih : RunI E c (qas D n (i + 1))) : ((e != 0) = true → IsI (qas D (n + 1) i) (vi e) []) ∧ ((e != 0) = false → RunI E c (qas D (n + 1) i)) :=
 ⟨fun h => .fe he (by unfold bne at h; simpa using h), fun h => RunI.fe ih (by rw [he]; simpa using h)⟩
theorem machine_checker_cases_l (c : Chr) (t : Trm) (hp : casOK c.2.1 t) (hl : ln I t.2.2.1 < 9223372036854775807) : ∀ i, i ≤ ln I t.2.2.1 → RunI E_V36 (qbk c t t.2.2.1 (ln I t.2.2.1 : Nat) i) (qas (casI5 c.2.1 t) (ln I t.2.2.1 - i) i) :=
 qci (.tree E_V36_ok (qfw ..) (by
  rw [Nat.sub_self, qas]
  simp only [sS, sL,  Nat.lt_irrefl]
  exact ⟨rfl, rfl⟩))
  fun i hi ih => .tree E_V36_ok (qfw ..) (by
   rw [sub1 hi]
   simp only [sS, sL,  hi, wrapS hi hl]
   refine ⟨fun h1 => ⟨fun h2 => ?_, fun h2 => ?_⟩, fun h1 => ?_⟩
   ·have hq := hp.2 (beq_t h1) (beq_t h2)
    refine ⟨⟨Int.le_refl _, by show (0 : Int) < (ln I t.2.1 : Nat); omega⟩, fun _ => ⟨hq.2, fun _ _ => ⟨⟨Int.le_refl _, Nat.le_of_lt hi⟩, fun _ _ _ _ => fe_both ?_ ih⟩⟩⟩
    unfold casI5 casT
    rw [h1, show (z c.2.1.2.2.2.2.1 == (0 : Int)) = true from h2]
    unfold bne
    show cond (cond true (!(wrapZ (gd I c.2.1.2.2.2.1 (z (gd I t.2.1 0)).toNat) (gd I t.2.2.1 i) == z (gd I t.2.2.1 i))) _) 10 _ = _
    cases wrapZ (gd I c.2.1.2.2.2.1 (z (gd I t.2.1 0)).toNat) (gd I t.2.2.1 i) == z (gd I t.2.2.1 i) <;> cases hasI (wn I t.2.2.1 0 i) (gd I t.2.2.1 i) <;> rfl
   ·refine fun _ => ⟨⟨Int.le_refl _, Nat.le_of_lt hi⟩, fun _ _ _ _ => fe_both ?_ ih⟩
    unfold casI5 casT
    rw [h1, show (z c.2.1.2.2.2.2.1 == (0 : Int)) = false from h2]
    unfold bne
    show cond (cond true (!(wrapZ 4 (gd I t.2.2.1 i) == z (gd I t.2.2.1 i))) _) 10 _ = _
    cases wrapZ 4 (gd I t.2.2.1 i) == z (gd I t.2.2.1 i) <;> cases hasI (wn I t.2.2.1 0 i) (gd I t.2.2.1 i) <;> rfl
   ·refine ⟨⟨Int.le_refl _, Nat.le_of_lt hi⟩, fun _ _ _ _ => fe_both ?_ ih⟩
    unfold casI5 casT
    rw [h1, dge, dle]
    cases decide (z (gd I t.2.2.1 i) < 16) <;> cases decide (z (gd I t.2.2.1 i) > 255) <;> cases hasI (wn I t.2.2.1 0 i) (gd I t.2.2.1 i) <;> rfl)
def k_machine_checker_cases : Con := con [.d qab, .d qai] I (fun x => casOK x.1.2.1 x.2.1) fun x => casC x.1 x.2.1
theorem m_machine_checker_cases (c : Den qab) (t : Den qai) (h_c : okD qab c) (h_t : okD qai t) (hp : casOK c.2.1 t) : Runs E_V36 (start E_V36 qbg [(.tv qab c), (.tv qai t)]) (fun r_ h_ => r_ = (vi (casC c t)) ∧ h_ = []) := .tree E_V36_ok (machine_checker_cases_t c t) (by
 show Tre.wp (contL _ (IsI (casM c.2.1 t))) _
 simp only [sS, implies_true]
 exact machine_checker_cases_l c t hp (qbj h_t.2.2.1.1) 0 (Nat.zero_le _))
theorem c_machine_checker_cases : qal E_V36 qbg k_machine_checker_cases.spec := qan fun x hx hp => ⟨rfl, m_machine_checker_cases x.1 x.2.1 hx.1 hx.2.1 hp⟩
def L_V36 : List (FuncId × FSpec) := [(qbg, k_machine_checker_cases.spec)] ++ L_V35
theorem L_V36_ok : ∀ x ∈ L_V36, qal (ctx []) x.1 x.2 := by
 unfold L_V36
 simp only [List.cons_append, List.nil_append, List.forall_mem_cons]
 exact ⟨c_machine_checker_cases, L_V35_ok⟩
end Burn.MM
namespace Burn.MM
open Go Go.BE Go.Proofs
set_option maxRecDepth 100000
set_option linter.unusedVariables false
set_option linter.unusedSimpArgs false
open Burn.Intn Burn.Ref
def okSg (m : Md) : Prop := ∀ j, j < ln qaa m.2.1 → ∀ i, i < ln I (gd qaa m.2.1 j).2.1 → 0 ≤ z (gd I (gd qaa m.2.1 j).2.1 i) ∧ z (gd I (gd qaa m.2.1 j).2.1 i) < (ln I (gd qaa m.2.1 j).2.2.2.1 : Nat)
def tmA (m : Md) (f : MFn) (t : Trm) (i : Nat) : Int := cond (!(rgM f (gd I t.2.1 i))) 10 (cond (cond (z f.2.2.2.2.1 == (0 : Int)) (!(typM m f t (i : Int) (gd I f.2.2.2.1 (z (gd I t.2.1 i)).toNat))) false) 9 0)
def tmG (f : MFn) (l : List Edg) (i : Nat) : Int := cond (cond (decide (z (gd qae l i).1 < (0 : Int))) true (decide (z (gd qae l i).1 ≥ (ln qac f.2.2.2.2.2.2.1 : Int)))) 8 (cond (cond (z (gd qae l i).1 == (0 : Int)) true (decide ((ln I (gd qae l i).2.1 : Int) > (0 : Int)))) 3 0)
def tmT (m : Md) (f : MFn) (t : Trm) : Int := cond (cond (z t.1 == (6 : Int)) (z (gd qaa m.2.1 (z t.2.2.2.2.1).toNat).2.2.1 != z f.2.2.1) false) 9 (orE (casM f t) (qas (tmG f t.2.2.2.1) (ln qae t.2.2.2.1) 0))
def tmC (m : Md) (f : MFn) (t : Trm) : Int := cond (!(shpM m f t)) 3 (orE (qas (tmA m f t) (ln I t.2.1) 0) (tmT m f t))
def tmK (t : Trm) : Bool := cond (decide (z t.1 < (1 : Int))) true (decide (z t.1 > (6 : Int)))
def tmS (m : Md) (t : Trm) : Bool := cond (z t.1 == (6 : Int)) (cond (decide (z t.2.2.2.2.1 < (0 : Int))) true (decide (z t.2.2.2.2.1 ≥ (ln qaa m.2.1 : Int)))) false
def tmL (t : Trm) : Bool := cond (z t.1 == (3 : Int)) (decide ((ln I t.2.2.1 : Int) > (16 : Int))) false
def tmE (m : Md) (f : MFn) (t : Trm) : Int := cond (tmK t) 9 (cond (tmS m t) 8 (cond (tmL t) 11 (tmC m f t)))
def tmEc (c : Chr) (t : Trm) : Int := tmE c.1 c.2.1 t
theorem tmK_ok {t : Trm} (h : tmK t = false) : 1 ≤ z t.1 ∧ z t.1 ≤ 6 := by
 unfold tmK at h
 cases h1 : decide (z t.1 < 1) <;> rw [h1] at h
 ·exact ⟨by simpa using h1, by simpa using h⟩
 ·exact Bool.noConfusion h
theorem tmS_ok {m : Md} {t : Trm} (h : tmS m t = false) : z t.1 = 6 → 0 ≤ z t.2.2.2.2.1 ∧ z t.2.2.2.2.1 < (ln qaa m.2.1 : Nat) := fun hk => by
 unfold tmS at h
 rw [hk] at h
 cases h1 : decide (z t.2.2.2.2.1 < 0) <;> rw [h1] at h
 ·exact ⟨by simpa using h1, by simpa using (show decide (z t.2.2.2.2.1 ≥ (ln qaa m.2.1 : Int)) = false from h)⟩
 ·exact Bool.noConfusion h
theorem shm_use {m : Md} {f : MFn} {t : Trm} (hk : 1 ≤ z t.1 ∧ z t.1 ≤ 6) (h : shpM m f t = true) : (z t.1 = 3 ∨ z t.1 = 5 ∨ ln I t.2.2.1 = 0) ∧ (z t.1 = 3 → ln I t.2.1 = 1) ∧ (z t.1 = 1 ∨ z t.1 = 5 → ln I t.2.1 = 0) ∧ (z t.1 = 6 → ln I t.2.1 = ln I (gd qaa m.2.1 (z t.2.2.2.2.1).toNat).2.1) := by
 have h0 : cond (z t.1 != (6 : Int)) (z t.2.2.2.2.1 != (0 : Int)) false = false := by
  unfold shpM at h
  cases h1 : cond (z t.1 != (6 : Int)) (z t.2.2.2.2.1 != (0 : Int)) false
  ·rfl
  ·rw [h1] at h; exact Bool.noConfusion h
 unfold shpM at h
 rw [h0] at h
 have : z t.1 = 1 ∨ z t.1 = 2 ∨ z t.1 = 3 ∨ z t.1 = 4 ∨ z t.1 = 5 ∨ z t.1 = 6 := by omega
 rcases this with h1 | h1 | h1 | h1 | h1 | h1 <;> rw [h1] at h
 ·simp [Bool.cond_eq_ite] at h; refine ⟨by omega, by omega, by omega, by omega⟩
 ·simp [Bool.cond_eq_ite] at h; refine ⟨by omega, by omega, by omega, by omega⟩
 ·simp [Bool.cond_eq_ite] at h; refine ⟨by omega, by omega, by omega, by omega⟩
 ·have h4 : (cond (cond ((ln I t.2.1 : Int) == 0) ((ln I t.2.2.1 : Int) == 0) false) ((ln qae t.2.2.2.1 : Int) == 0) false = true) ∨ (cond (cond ((ln I t.2.1 : Int) == 1) ((ln I t.2.2.1 : Int) == 0) false) ((ln qae t.2.2.2.1 : Int) == 0) false = true) := by
   cases h5 : z f.2.2.1 == (0 : Int) <;> rw [h5] at h
   ·exact .inr h
   ·exact .inl h
  have h6 : ln I t.2.2.1 = 0 := by
   rcases h4 with h4 | h4 <;> (simp [Bool.cond_eq_ite] at h4; omega)
  refine ⟨by omega, by omega, by omega, by omega⟩
 ·simp [Bool.cond_eq_ite] at h; refine ⟨by omega, by omega, by omega, by omega⟩
 ·simp [Bool.cond_eq_ite] at h; refine ⟨by omega, by omega, by omega, by omega⟩
theorem trm_ok {m : Md} {f : MFn} {t : Trm} (hm : okSg m) (hk : 1 ≤ z t.1 ∧ z t.1 ≤ 6) (hs : z t.1 = 6 → 0 ≤ z t.2.2.2.2.1 ∧ z t.2.2.2.2.1 < (ln qaa m.2.1 : Nat)) (h : shpM m f t = true) {i : Nat} (hi : i < ln I t.2.1) : trmOK m t i := fun h2 h3 h4 => by
 have hu := shm_use hk h
 have h6 : z t.1 = 6 := by omega
 have hq := hs h6
 have hl := hu.2.2.2 h6
 have hg := hm (z t.2.2.2.2.1).toNat (by omega) i (by omega)
 exact ⟨hq, ⟨Int.natCast_nonneg _, by omega⟩, hg⟩
theorem orE_hit5 {a b : Int} (h : (a != 0) = true) : orE a b = a := by unfold orE; rw [show (a == 0) = false by simpa [bne] using h]; rfl
theorem orE_miss5 {a b : Int} (h : (a != 0) = false) : orE a b = b := by unfold orE; rw [show (a == 0) = true by simpa [bne] using h]; rfl
theorem unl_not (b : Bool) : unlP b 9 = cond (cond true (!b) false) 9 0 := by cases b <;> rfl
theorem opd_eq (c : Chr) (t : Trm) (i : Nat) : opdC c t (i : Int) = tmA c.1 c.2.1 t i := by
 unfold opdC tmA typM regC vrtP
 show cond (!(rgM c.2.1 (gd I t.2.1 i))) _ _ = cond (!(rgM c.2.1 (gd I t.2.1 i))) _ _
 cases rgM c.2.1 (gd I t.2.1 i)
 ·rfl
 ·cases z c.2.1.2.2.2.2.1 == (0 : Int)
  ·rfl
  ·cases z t.1 == (2 : Int)
   ·cases z t.1 == (3 : Int)
    ·cases z t.1 == (4 : Int)
     ·exact unl_not _
     ·exact unl_not _
    ·exact unl_not _
   ·exact unl_not _
theorem tmG_eq (f : MFn) (l : List Edg) (i : Nat) (h : ln qac f.2.2.2.2.2.2.1 < 9223372036854775807) : fstF ([unlP (witP (gd qae l i).1 0 (IntKind.wrap .i64 ((ln qac f.2.2.2.2.2.2.1 : Int) - 1))) 8, unlP (z (gd qae l i).1 != (0 : Int)) 3, unlP ((ln I (gd qae l i).2.1 : Int) == (0 : Int)) 3] : List (Den I)) = tmG f l i := by
 unfold tmG
 rw [show witP (gd qae l i).1 0 (IntKind.wrap .i64 ((ln qac f.2.2.2.2.2.2.1 : Int) - 1)) = _ from wit_eq (n := z (gd qae l i).1) (by omega)]
 have e : decide ((ln I (gd qae l i).2.1 : Int) > 0) = !((ln I (gd qae l i).2.1 : Int) == 0) := by
  cases h : (ln I (gd qae l i).2.1 : Int) == 0 <;> simp at h ⊢ <;> omega
 rw [e]
 unfold bne
 cases cond (decide (z (gd qae l i).1 < (0 : Int))) true (decide (z (gd qae l i).1 ≥ (ln qac f.2.2.2.2.2.2.1 : Int))) <;> cases z (gd qae l i).1 == (0 : Int) <;> cases (ln I (gd qae l i).2.1 : Int) == 0 <;> rfl
theorem cas_ok {m : Md} {f : MFn} {t : Trm} (hk : 1 ≤ z t.1 ∧ z t.1 ≤ 6) (h : shpM m f t = true) (ha : ∀ j, j < ln I t.2.1 → tmA m f t j = 0) : casOK f t := by
 have hu := shm_use hk h
 refine ⟨hu.1, fun h3 h0 => ?_⟩
 have hl := hu.2.1 h3
 have hr := ha 0 (by omega)
 unfold tmA at hr
 cases hg : rgM f (gd I t.2.1 0)
 ·rw [hg] at hr; exact absurd hr (show ¬ (10 : Int) = 0 by decide)
 ·unfold rgM at hg
  rw [h0] at hg
  cases h1 : decide (gd I t.2.1 0 ≥ (0 : Int))
  ·rw [h1] at hg; exact Bool.noConfusion hg
  ·rw [h1] at hg
   exact ⟨by omega, of_decide_eq_true h1, of_decide_eq_true hg⟩
theorem trm_head (c : Chr) (t : Trm) (h : ln qaa c.1.2.1 < 9223372036854775807) : fstF ([unlP (witP t.1 1 6) 9, unlP (cond (z t.1 != (6 : Int)) true (witP t.2.2.2.2.1 0 (IntKind.wrap .i64 ((ln qaa c.1.2.1 : Int) - 1)))) 8, unlP (cond (z t.1 != (3 : Int)) true (decide ((ln I t.2.2.1 : Int) ≤ (16 : Int)))) 11] : List (Den I)) = cond (tmK t) 9 (cond (tmS c.1 t) 8 (cond (tmL t) 11 0)) := by
 unfold tmK tmS tmL
 rw [show witP t.2.2.2.2.1 0 (IntKind.wrap .i64 ((ln qaa c.1.2.1 : Int) - 1)) = _ from wit_eq (n := z t.2.2.2.2.1) (by omega), dle (ln I t.2.2.1 : Int) 16]
 have e : witP t.1 1 6 = !(cond (decide (z t.1 < (1 : Int))) true (decide (z t.1 > (6 : Int)))) := by
  unfold witP
  rw [dle, dge]
  cases decide (t.1 < (1 : Int)) <;> cases decide (t.1 > (6 : Int)) <;> rfl
 rw [e]
 unfold bne
 cases cond (decide (z t.1 < (1 : Int))) true (decide (z t.1 > (6 : Int))) <;> cases z t.1 == (6 : Int) <;> cases z t.1 == (3 : Int) <;> cases cond (decide (z t.2.2.2.2.1 < (0 : Int))) true (decide (z t.2.2.2.2.1 ≥ (ln qaa c.1.2.1 : Int))) <;> cases decide ((ln I t.2.2.1 : Int) > (16 : Int)) <;> rfl
def L_V37 : List (FuncId × FSpec) := [] ++ L_V36
theorem L_V37_ok : ∀ x ∈ L_V37, qal (ctx []) x.1 x.2 := L_V36_ok
end Burn.MM
namespace Burn.MM
open Go Go.BE Go.Proofs
set_option maxRecDepth 100000
set_option linter.unusedVariables false
set_option linter.unusedSimpArgs false
open Burn.Intn Burn.Ref
def mrg_V38 : FuncId → List Nat
 | 19 => [13, 22, 30, 36, 37]
 | 20 => [28, 38, 79]
 | _ => []
noncomputable abbrev E_V38 : Ctx := { ctx L_V37 with mrg := mrg_V38 }
theorem E_V38_ok : EOK E_V38 := have h : EOK (ctx L_V37) := qch L_V37_ok; ⟨h.ty, h.env, h.fns, h.mixed⟩
def cuts_V38 : CutL := [([], 20, 0, [2, 3, 51, 52], [], []),
 ([], 20, 2, [2, 87, 88, 89], [], [])]
def rets_V38 : FuncId → List (Option Fx)
 | _ => []
def H_V38 : Hints := { cut := cutOf cuts_V38, ret := rets_V38 }
theorem machine_checker_instr_t (c : Den qab) (in_ : Den qad) : run E_V38 H_V38 qcd 3000 (start E_V38 qcd [(.tv qab c), (.tv qad in_)]) = (.chk (True) (.know (okD .str (nameP in_.1)) (cond (cond (((nameP in_.1)).toList == (ByteArray.empty).toList) (!(cond ((z in_.1) == (40 : Int)) true ((z in_.1) == (41 : Int)))) false) (rt (vi (8 : Int)) []) (.chk (((cond ((z in_.1) == (3 : Int)) true (bOf in_.2.2.2.2.2.2.2.1)) = false → (((cond ((z in_.1) == (40 : Int)) true ((z in_.1) == (41 : Int))) = true → (True))))) (cond (cond (cond ((z in_.1) == (3 : Int)) true (bOf in_.2.2.2.2.2.2.2.1)) true (cond (cond ((z in_.1) == (40 : Int)) true ((z in_.1) == (41 : Int))) (vrtP c) false)) (rt (vi (3 : Int)) []) (cond (cond ((z in_.1) == (40 : Int)) true ((z in_.1) == (41 : Int))) (.chk (True) (.know (okD (.int .i64) (movP c in_)) (rt (vi (movP c in_)) []))) (.chk (True) (.know True (cond (vrtP c) (.chk (True) (.know (okD (.int .i64) (chkF in_ (ByteArray.empty, ([] : List (Den I)), (0 : Int), c.2.1.2.2.2.1, ([] : List (Den qac)), ()) c.1)) (rt (vi (chkF in_ (ByteArray.empty, ([] : List (Den I)), (0 : Int), c.2.1.2.2.2.1, ([] : List (Den qac)), ()) c.1)) []))) (.chk (True) (.know (okD (.int .i64) (phyC c in_)) (rt (vi (phyC c in_)) [])))))))))))) := by kernel_rfl
noncomputable def qbx (c : Den qab) (t : Den qai) (t51 : Int) (t52 : Int) : Cfg := hcfg E_V38 qaq 0 [(2, (.rtp qab c)), (3, (.rtp qai t)), (51, (vi t51)), (52, (vi t52))] [] 0
noncomputable def qbw (c : Den qab) (t87 : List (Den qae)) (t88 : Int) (t89 : Int) : Cfg := hcfg E_V38 qaq 2 [(2, (.rtp qab c)), (87, (.tv (.sl 32 qae) t87)), (88, (vi t88)), (89, (vi t89))] [] 0
theorem machine_checker_terminator_t (c : Den qab) (t : Den qai) : run E_V38 H_V38 qaq 3000 (start E_V38 qaq [(.tv qab c), (.tv qai t)]) = (.chk (True) (.chk (True) (.chk ((((z t.1) != (6 : Int)) = false → (True))) (.chk (True) (.chk (True) (.chk (True) (.know True (.know (okD (.int .i64) (unlP (witP t.1 (1 : Int) (6 : Int)) (9 : Int))) (.know (okD (.int .i64) (unlP (cond ((z t.1) != (6 : Int)) true (witP t.2.2.2.2.1 (0 : Int) (IntKind.wrap .i64 (((ln qaa c.1.2.1) : Int) - (1 : Int))))) (8 : Int))) (.know (okD (.int .i64) (unlP (cond ((z t.1) != (3 : Int)) true (decide (((ln I t.2.2.1) : Int) ≤ (16 : Int)))) (11 : Int))) (.know (okD (.int .i64) (fstF ([(unlP (witP t.1 (1 : Int) (6 : Int)) (9 : Int)), (unlP (cond ((z t.1) != (6 : Int)) true (witP t.2.2.2.2.1 (0 : Int) (IntKind.wrap .i64 (((ln qaa c.1.2.1) : Int) - (1 : Int))))) (8 : Int)), (unlP (cond ((z t.1) != (3 : Int)) true (decide (((ln I t.2.2.1) : Int) ≤ (16 : Int)))) (11 : Int))] : List (Den I)))) (cond ((fstF ([(unlP (witP t.1 (1 : Int) (6 : Int)) (9 : Int)), (unlP (cond ((z t.1) != (6 : Int)) true (witP t.2.2.2.2.1 (0 : Int) (IntKind.wrap .i64 (((ln qaa c.1.2.1) : Int) - (1 : Int))))) (8 : Int)), (unlP (cond ((z t.1) != (3 : Int)) true (decide (((ln I t.2.2.1) : Int) ≤ (16 : Int)))) (11 : Int))] : List (Den I))) != (0 : Int)) (rt (vi (fstF ([(unlP (witP t.1 (1 : Int) (6 : Int)) (9 : Int)), (unlP (cond ((z t.1) != (6 : Int)) true (witP t.2.2.2.2.1 (0 : Int) (IntKind.wrap .i64 (((ln qaa c.1.2.1) : Int) - (1 : Int))))) (8 : Int)), (unlP (cond ((z t.1) != (3 : Int)) true (decide (((ln I t.2.2.1) : Int) ≤ (16 : Int)))) (11 : Int))] : List (Den I)))) []) (.chk (z t.1 = 6 → 0 ≤ z t.2.2.2.2.1 ∧ z t.2.2.2.2.1 < (ln qaa c.1.2.1 : Nat)) (.know True (cond (!(shpC c t)) (rt (vi (3 : Int)) []) (hd (qbx c t ((ln I t.2.1) : Int) (0 : Int)))))))))))))))))) := by kernel_rfl
theorem qdu (c : Den qab) (t : Den qai) (t51 : Int) (t52 : Int) : run E_V38 H_V38 qaq 3000 (qbx c t t51 t52) = (cond (decide (t52 < t51)) (.chk ((0 ≤ z t52 ∧ z t52 < (ln I t.2.1 : Nat)) ∧ trmOK c.1 t (z t52)) (.know (okD (.int .i64) (opdC c t t52)) (cond ((opdC c t t52) != (0 : Int)) (rt (vi (opdC c t t52)) []) (hd (qbx c t t51 (IntKind.wrap .i64 (t52 + (1 : Int)))))))) (.chk ((((z t.1) == (6 : Int)) = true → (0 ≤ (z t.2.2.2.2.1) ∧ (z t.2.2.2.2.1) < (ln qaa c.1.2.1)))) (cond (cond ((z t.1) == (6 : Int)) ((z ((gd qaa c.1.2.1 (((z t.2.2.2.2.1)).toNat)).2.2.1)) != (z c.2.1.2.2.1)) false) (rt (vi (9 : Int)) []) (.chk (casOK c.2.1 t) (.know (okD (.int .i64) (casC c t)) (cond ((casC c t) != (0 : Int)) (rt (vi (casC c t)) []) (hd (qbw c t.2.2.2.1 ((ln qae t.2.2.2.1) : Int) (0 : Int))))))))) := by kernel_rfl
theorem qdt (c : Den qab) (t87 : List (Den qae)) (t88 : Int) (t89 : Int) : run E_V38 H_V38 qaq 3000 (qbw c t87 t88 t89) = (cond (decide (t89 < t88)) (.chk (0 ≤ t89 ∧ t89 < (ln qae t87)) (.chk (True) (.chk (True) (.chk (True) (.chk (True) (.chk (True) (.know True (.know (okD (.int .i64) (unlP (witP (gd qae t87 t89.toNat).1 (0 : Int) (IntKind.wrap .i64 (((ln qac c.2.1.2.2.2.2.2.2.1) : Int) - (1 : Int)))) (8 : Int))) (.know (okD (.int .i64) (unlP ((z ((gd qae t87 t89.toNat).1)) != (0 : Int)) (3 : Int))) (.know (okD (.int .i64) (unlP (((ln I ((gd qae t87 t89.toNat).2.1)) : Int) == (0 : Int)) (3 : Int))) (.know (okD (.int .i64) (fstF ([(unlP (witP (gd qae t87 t89.toNat).1 (0 : Int) (IntKind.wrap .i64 (((ln qac c.2.1.2.2.2.2.2.2.1) : Int) - (1 : Int)))) (8 : Int)), (unlP ((z ((gd qae t87 t89.toNat).1)) != (0 : Int)) (3 : Int)), (unlP (((ln I ((gd qae t87 t89.toNat).2.1)) : Int) == (0 : Int)) (3 : Int))] : List (Den I)))) (cond ((fstF ([(unlP (witP (gd qae t87 t89.toNat).1 (0 : Int) (IntKind.wrap .i64 (((ln qac c.2.1.2.2.2.2.2.2.1) : Int) - (1 : Int)))) (8 : Int)), (unlP ((z ((gd qae t87 t89.toNat).1)) != (0 : Int)) (3 : Int)), (unlP (((ln I ((gd qae t87 t89.toNat).2.1)) : Int) == (0 : Int)) (3 : Int))] : List (Den I))) != (0 : Int)) (rt (vi (fstF ([(unlP (witP (gd qae t87 t89.toNat).1 (0 : Int) (IntKind.wrap .i64 (((ln qac c.2.1.2.2.2.2.2.2.1) : Int) - (1 : Int)))) (8 : Int)), (unlP ((z ((gd qae t87 t89.toNat).1)) != (0 : Int)) (3 : Int)), (unlP (((ln I ((gd qae t87 t89.toNat).2.1)) : Int) == (0 : Int)) (3 : Int))] : List (Den I)))) []) (hd (qbw c t87 t88 (IntKind.wrap .i64 (t89 + (1 : Int))))))))))))))))) (rt (vi (0 : Int)) [])) := by kernel_rfl
def insR (m : Den qah) (f : Den qam) (in_ : Den qad) : Int := (cond (cond (!(cond ((z in_.1) == (40 : Int)) true ((z in_.1) == (41 : Int)))) (cond (decide ((z in_.1) < (1 : Int))) true (decide ((z in_.1) > (33 : Int)))) false) (8 : Int) (cond (cond (cond ((z in_.1) == (3 : Int)) true (bOf in_.2.2.2.2.2.2.2.1)) true (cond (cond ((z in_.1) == (40 : Int)) true ((z in_.1) == (41 : Int))) ((z f.2.2.2.2.1) == (0 : Int)) false)) (3 : Int) (cond (cond ((z in_.1) == (40 : Int)) true ((z in_.1) == (41 : Int))) (sltP f in_) (cond ((z f.2.2.2.2.1) == (0 : Int)) (chkF in_ (ByteArray.empty, ([] : List (Den I)), (0 : Int), f.2.2.2.1, ([] : List (Den qac)), ()) m) (phyR m f in_)))))
def insC (c : Chr) (x : Ins) : Int := insR c.1 c.2.1 x

def k_machine_checker_instr : Con := con [.d qab, .d qad] I (fun x => True) fun x => insC x.1 x.2.1
theorem m_machine_checker_instr (c : Den qab) (in_ : Den qad) (h_c : okD qab c) (h_in_ : okD qad in_) (hp : True) : Runs E_V38 (start E_V38 qcd [(.tv qab c), (.tv qad in_)]) (fun r_ h_ => r_ = (vi (insC c in_)) ∧ h_ = []) := .tree E_V38_ok (machine_checker_instr_t c in_) (by
 show Tre.wp (contL _ (IsI (insR c.1 c.2.1 in_))) _
 simp only [sS, implies_true]
 rw [name_eq]
 have hc : ∀ a b : Bool, cond a (!b) false = cond (!b) a false := fun a b => by cases a <;> cases b <;> rfl
 rw [hc]
 refine fun _ => ⟨fun h1 => .of (Bool.cond_pos h1), fun h1 => ⟨fun h2 => .of ((Bool.cond_neg h1).trans (Bool.cond_pos h2)), fun h2 => ⟨fun h3 _ => .of ((Bool.cond_neg h1).trans ((Bool.cond_neg h2).trans ((Bool.cond_pos h3).trans (mov_eq c in_).symm))), fun h3 => ⟨fun h4 _ => .of ((Bool.cond_neg h1).trans ((Bool.cond_neg h2).trans ((Bool.cond_neg h3).trans (Bool.cond_pos h4)))), fun h4 _ => .of ((Bool.cond_neg h1).trans ((Bool.cond_neg h2).trans ((Bool.cond_neg h3).trans (Bool.cond_neg h4))))⟩⟩⟩⟩)
theorem c_machine_checker_instr : qal E_V38 qcd k_machine_checker_instr.spec := qan fun x hx hp => ⟨rfl, m_machine_checker_instr x.1 x.2.1 hx.1 hx.2.1 hp⟩
theorem machine_checker_terminator_l2 (c : Chr) (t : Trm) (hc : okD qab c) (ht : okD qai t) : ∀ i, i ≤ ln qae t.2.2.2.1 → RunI E_V38 (qbw c t.2.2.2.1 (ln qae t.2.2.2.1 : Nat) i) (qas (tmG c.2.1 t.2.2.2.1) (ln qae t.2.2.2.1 - i) i) :=
 qci (.tree E_V38_ok (qdt ..) (by
  rw [Nat.sub_self, qas]
  simp only [sS, sL,  Nat.lt_irrefl]
  exact ⟨rfl, rfl⟩))
  fun i hi ih => .tree E_V38_ok (qdt ..) (by
   rw [sub1 hi]
   simp only [sS, sL,  hi, wrapS hi (qbj ht.2.2.2.1.1)]
   exact fun _ _ _ _ => fe_both (tmG_eq c.2.1 t.2.2.2.1 i (qbj hc.2.1.2.2.2.2.2.2.1.1)).symm ih)
theorem machine_checker_terminator_l0 (c : Chr) (t : Trm) (hc : okD qab c) (ht : okD qai t) (hm : okSg c.1) (hk : 1 ≤ z t.1 ∧ z t.1 ≤ 6) (hs : z t.1 = 6 → 0 ≤ z t.2.2.2.2.1 ∧ z t.2.2.2.2.1 < (ln qaa c.1.2.1 : Nat)) (hp : shpM c.1 c.2.1 t = true) : ∀ i, i ≤ ln I t.2.1 → (∀ j, j < i → tmA c.1 c.2.1 t j = 0) → RunI E_V38 (qbx c t (ln I t.2.1 : Nat) i) (orE (qas (tmA c.1 c.2.1 t) (ln I t.2.1 - i) i) (tmT c.1 c.2.1 t)) :=
 qci (fun ha => .tree E_V38_ok (qdu ..) (by
  rw [Nat.sub_self, qas, show orE 0 (tmT c.1 c.2.1 t) = tmT c.1 c.2.1 t from rfl]
  simp only [sS, sL,  Nat.lt_irrefl]
  refine ⟨fun h => hs (beq_t h), fun _ => ⟨fun h1 => .of (by unfold tmT; rw [h1]; rfl), fun h1 => ⟨cas_ok hk hp ha, fun _ _ => ⟨fun h2 => .of ?_, fun h2 => RunI.eq (machine_checker_terminator_l2 c t hc ht 0 (Nat.zero_le _)) ?_⟩⟩⟩⟩
  ·unfold tmT
   rw [h1]
   exact orE_hit5 h2
  ·unfold tmT
   rw [h1]
   exact orE_miss5 h2))
  fun i hi ih ha => .tree E_V38_ok (qdu ..) (by
   rw [sub1 hi]
   simp only [sS, sL,  hi, wrapS hi (qbj ht.2.1.1)]
   refine ⟨trm_ok hm hk hs hp hi, fun _ _ => ⟨fun h1 => .oe (opd_eq c t i).symm (by simpa using h1), fun h1 => ?_⟩⟩
   have h0 : tmA c.1 c.2.1 t i = 0 := by rw [← opd_eq]; simpa using h1
   exact RunI.oe (ih fun j h => (Nat.lt_succ_iff_lt_or_eq.mp h).elim (ha j) (fun e => e ▸ h0)) h0)
def qeu : Con := con [.d qab, .d qai] I (fun x => okSg x.1.1) fun x => tmEc x.1 x.2.1
theorem m_machine_checker_terminator (c : Den qab) (t : Den qai) (h_c : okD qab c) (h_t : okD qai t) (hp : okSg c.1) : Runs E_V38 (start E_V38 qaq [(.tv qab c), (.tv qai t)]) (fun r_ h_ => r_ = (vi (tmEc c t)) ∧ h_ = []) := .tree E_V38_ok (machine_checker_terminator_t c t) (by
 have hr : ln qaa c.1.2.1 < 9223372036854775807 := qbj h_c.1.2.1.1
 show Tre.wp (contL _ (IsI (tmE c.1 c.2.1 t))) _
 simp only [sS, implies_true]
 rw [trm_head c t hr]
 refine fun _ _ _ _ => ⟨fun h => .of ?_, fun h => ?_⟩
 ·unfold tmE
  revert h
  cases tmK t <;> cases tmS c.1 t <;> cases tmL t <;> intro h <;> first | rfl | exact absurd h (by decide)
 ·have h0 : tmK t = false ∧ tmS c.1 t = false ∧ tmL t = false := by
   revert h
   cases tmK t <;> cases tmS c.1 t <;> cases tmL t <;> intro h <;> first | exact ⟨rfl, rfl, rfl⟩ | exact absurd h (by decide)
  obtain ⟨h1, h2, h3⟩ := h0
  have hk := tmK_ok h1
  have hs := tmS_ok h2
  have hE : tmE c.1 c.2.1 t = tmC c.1 c.2.1 t := (Bool.cond_neg h1).trans ((Bool.cond_neg h2).trans (Bool.cond_neg h3))
  rw [hE, shm_eq hk]
  refine ⟨hs, fun _ => ⟨fun h4 => .of (Bool.cond_pos h4), fun h4 => (machine_checker_terminator_l0 c t h_c h_t hp hk hs (by simpa using h4) 0 (Nat.zero_le _) (fun j h => absurd h (Nat.not_lt_zero _))).eq (Bool.cond_neg h4)⟩⟩)
theorem c_machine_checker_terminator : qal E_V38 qaq qeu.spec := qan fun x hx hp => ⟨rfl, m_machine_checker_terminator x.1 x.2.1 hx.1 hx.2.1 hp⟩
def L_V38 : List (FuncId × FSpec) := [(qcd, k_machine_checker_instr.spec), (qaq, qeu.spec)] ++ L_V37
theorem L_V38_ok : ∀ x ∈ L_V38, qal (ctx []) x.1 x.2 := by
 unfold L_V38
 simp only [List.cons_append, List.nil_append, List.forall_mem_cons]
 exact ⟨c_machine_checker_instr, c_machine_checker_terminator, L_V37_ok⟩
end Burn.MM
namespace Burn.MM
open Go Go.BE Go.Proofs
set_option maxRecDepth 100000
set_option linter.unusedVariables false
set_option linter.unusedSimpArgs false
open Burn.Intn Burn.Ref
def mrg_V39 : FuncId → List Nat
 | 18 => [19, 28, 29, 39, 40, 54]
 | _ => []
noncomputable abbrev E_V39 : Ctx := { ctx L_V38 with mrg := mrg_V39 }
theorem E_V39_ok : EOK E_V39 := have h : EOK (ctx L_V38) := qch L_V38_ok; ⟨h.ty, h.env, h.fns, h.mixed⟩
def cuts_V39 : CutL := [([], 18, 0, [1, 3, 62, 63, 64], [], []),
 ([], 18, 2, [1, 3, 73, 74, 75], [], [])]
def rets_V39 : FuncId → List (Option Fx)
 | _ => []
def H_V39 : Hints := { cut := cutOf cuts_V39, ret := rets_V39 }
noncomputable def qcx (c : Den qab) (t62 : List (Den I)) (t63 : Int) (t64 : Int) (f_0 : ByteArray) (f_1 : List (Den I)) (f_2 : Int) (f_3 : List (Den I)) (f_4 : Int) (f_5 : Int) (f_6 : List (Den qac)) : Cfg := hcfg E_V39 qaz 0 [(1, (.rtp qab c)), (3, (.ref 0 0)), (62, (.tv (.sl 8 I) t62)), (63, (vi t63)), (64, (vi t64))] [(0, ⟨(.cells [(vs f_0), (.tv (.sl 8 I) f_1), (vi f_2), (.tv (.sl 8 I) f_3), (vi f_4), (vi f_5), (.tv (.sl 136 qac) f_6)]), 0, [], false, none⟩)] 1
noncomputable def qcw (c : Den qab) (t73 : List (Den I)) (t74 : Int) (t75 : Int) (f_0 : ByteArray) (f_1 : List (Den I)) (f_2 : Int) (f_3 : List (Den I)) (f_4 : Int) (f_5 : Int) (f_6 : List (Den qac)) : Cfg := hcfg E_V39 qaz 2 [(1, (.rtp qab c)), (3, (.ref 0 0)), (73, (.tv (.sl 8 I) t73)), (74, (vi t74)), (75, (vi t75))] [(0, ⟨(.cells [(vs f_0), (.tv (.sl 8 I) f_1), (vi f_2), (.tv (.sl 8 I) f_3), (vi f_4), (vi f_5), (.tv (.sl 136 qac) f_6)]), 0, [], false, none⟩)] 1
theorem machine_checker_head_t (c : Den qab) : run E_V39 H_V39 qaz 3000 (start E_V39 qaz [(.tv qab c)]) = (.chk (True) (.chk (True) (.chk ((((z c.2.1.2.2.1) == (0 : Int)) = false → (True))) (.chk (True) (.chk (True) (.know (okD (.int .i64) (unlP (cond (cond (cond (decide ((z c.2.1.2.2.2.2.1) ≥ (0 : Int))) (decide ((z c.2.1.2.2.2.2.2.1) ≥ (0 : Int))) false) (cond (decide ((z c.2.1.2.2.2.2.1) > (0 : Int))) true ((z c.2.1.2.2.2.2.2.1) == (0 : Int))) false) (cond ((z c.2.1.2.2.2.2.1) == (0 : Int)) true (((ln I c.2.1.2.2.2.1) : Int) == (0 : Int))) false) (3 : Int))) (.know (okD (.int .i64) (unlP (decide (((ln qac c.2.1.2.2.2.2.2.2.1) : Int) > (0 : Int))) (4 : Int))) (.know (okD (.int .i64) (unlP (cond ((z c.2.1.2.2.1) == (0 : Int)) true (typP c.2.1.2.2.1)) (9 : Int))) (.know (okD (.int .i64) (fstF ([(unlP (cond (cond (cond (decide ((z c.2.1.2.2.2.2.1) ≥ (0 : Int))) (decide ((z c.2.1.2.2.2.2.2.1) ≥ (0 : Int))) false) (cond (decide ((z c.2.1.2.2.2.2.1) > (0 : Int))) true ((z c.2.1.2.2.2.2.2.1) == (0 : Int))) false) (cond ((z c.2.1.2.2.2.2.1) == (0 : Int)) true (((ln I c.2.1.2.2.2.1) : Int) == (0 : Int))) false) (3 : Int)), (unlP (decide (((ln qac c.2.1.2.2.2.2.2.2.1) : Int) > (0 : Int))) (4 : Int)), (unlP (cond ((z c.2.1.2.2.1) == (0 : Int)) true (typP c.2.1.2.2.1)) (9 : Int))] : List (Den I)))) (cond ((fstF ([(unlP (cond (cond (cond (decide ((z c.2.1.2.2.2.2.1) ≥ (0 : Int))) (decide ((z c.2.1.2.2.2.2.2.1) ≥ (0 : Int))) false) (cond (decide ((z c.2.1.2.2.2.2.1) > (0 : Int))) true ((z c.2.1.2.2.2.2.2.1) == (0 : Int))) false) (cond ((z c.2.1.2.2.2.2.1) == (0 : Int)) true (((ln I c.2.1.2.2.2.1) : Int) == (0 : Int))) false) (3 : Int)), (unlP (decide (((ln qac c.2.1.2.2.2.2.2.2.1) : Int) > (0 : Int))) (4 : Int)), (unlP (cond ((z c.2.1.2.2.1) == (0 : Int)) true (typP c.2.1.2.2.1)) (9 : Int))] : List (Den I))) != (0 : Int)) (rt (vi (fstF ([(unlP (cond (cond (cond (decide ((z c.2.1.2.2.2.2.1) ≥ (0 : Int))) (decide ((z c.2.1.2.2.2.2.2.1) ≥ (0 : Int))) false) (cond (decide ((z c.2.1.2.2.2.2.1) > (0 : Int))) true ((z c.2.1.2.2.2.2.2.1) == (0 : Int))) false) (cond ((z c.2.1.2.2.2.2.1) == (0 : Int)) true (((ln I c.2.1.2.2.2.1) : Int) == (0 : Int))) false) (3 : Int)), (unlP (decide (((ln qac c.2.1.2.2.2.2.2.2.1) : Int) > (0 : Int))) (4 : Int)), (unlP (cond ((z c.2.1.2.2.1) == (0 : Int)) true (typP c.2.1.2.2.1)) (9 : Int))] : List (Den I)))) []) (hd (qcx c c.2.1.2.2.2.1 ((ln I c.2.1.2.2.2.1) : Int) (0 : Int) (tOf c.2.1.1) c.2.1.2.1 (z c.2.1.2.2.1) c.2.1.2.2.2.1 (z c.2.1.2.2.2.2.1) (z c.2.1.2.2.2.2.2.1) c.2.1.2.2.2.2.2.2.1)))))))))))) := by kernel_rfl
theorem qgi (c : Den qab) (t62 : List (Den I)) (t63 : Int) (t64 : Int) (f_0 : ByteArray) (f_1 : List (Den I)) (f_2 : Int) (f_3 : List (Den I)) (f_4 : Int) (f_5 : Int) (f_6 : List (Den qac)) : run E_V39 H_V39 qaz 3000 (qcx c t62 t63 t64 f_0 f_1 f_2 f_3 f_4 f_5 f_6) = (cond (decide (t64 < t63)) (.chk (0 ≤ t64 ∧ t64 < (ln I t62)) (.chk (True) (.know True (cond (!(typP (gd I t62 t64.toNat))) (rt (vi (9 : Int)) []) (hd (qcx c t62 t63 (IntKind.wrap .i64 (t64 + (1 : Int))) f_0 f_1 f_2 f_3 f_4 f_5 f_6)))))) (hd (qcw c f_1 ((ln I f_1) : Int) (0 : Int) f_0 f_1 f_2 f_3 f_4 f_5 f_6))) := by kernel_rfl
theorem qgh (c : Den qab) (t73 : List (Den I)) (t74 : Int) (t75 : Int) (f_0 : ByteArray) (f_1 : List (Den I)) (f_2 : Int) (f_3 : List (Den I)) (f_4 : Int) (f_5 : Int) (f_6 : List (Den qac)) : run E_V39 H_V39 qaz 3000 (qcw c t73 t74 t75 f_0 f_1 f_2 f_3 f_4 f_5 f_6) = (cond (decide (t75 < t74)) (.chk (0 ≤ t75 ∧ t75 < (ln I t73)) (.chk (True) (.chk (True) (.chk (0 ≤ (0 : Int) ∧ (0 : Int) ≤ t75 ∧ t75 ≤ ((ln I f_1) : Int)) (.chk (True) (.chk (True) (.chk (True) (.know True (.know (okD (.int .i64) (unlP (regC c (gd I t73 t75.toNat)) (10 : Int))) (.know True (.know (okD (.int .i64) (unlP (!(hasI (wn I f_1 (0 : Nat) (t75.toNat - (0 : Nat))) (gd I t73 t75.toNat))) (7 : Int))) (.know (okD (.int .i64) (fstF ([(unlP (regC c (gd I t73 t75.toNat)) (10 : Int)), (unlP (!(hasI (wn I f_1 (0 : Nat) (t75.toNat - (0 : Nat))) (gd I t73 t75.toNat))) (7 : Int))] : List (Den I)))) (cond ((fstF ([(unlP (regC c (gd I t73 t75.toNat)) (10 : Int)), (unlP (!(hasI (wn I f_1 (0 : Nat) (t75.toNat - (0 : Nat))) (gd I t73 t75.toNat))) (7 : Int))] : List (Den I))) != (0 : Int)) (rt (vi (fstF ([(unlP (regC c (gd I t73 t75.toNat)) (10 : Int)), (unlP (!(hasI (wn I f_1 (0 : Nat) (t75.toNat - (0 : Nat))) (gd I t73 t75.toNat))) (7 : Int))] : List (Den I)))) []) (hd (qcw c t73 t74 (IntKind.wrap .i64 (t75 + (1 : Int))) f_0 f_1 f_2 f_3 f_4 f_5 f_6))))))))))))))) (rt (vi (0 : Int)) [])) := by kernel_rfl
def hdB (f : MFn) : Bool := cond (cond (cond (decide (z f.2.2.2.2.1 < (0 : Int))) true (decide (z f.2.2.2.2.2.1 < (0 : Int)))) true (cond (z f.2.2.2.2.1 == (0 : Int)) (z f.2.2.2.2.2.1 != (0 : Int)) false)) true (cond (z f.2.2.2.2.1 != (0 : Int)) (decide ((ln I f.2.2.2.1 : Int) > (0 : Int))) false)
def hdP (f : MFn) (i : Nat) : Int := cond (!(rgM f (gd I f.2.1 i))) 10 (cond (hasI (wn I f.2.1 0 i) (gd I f.2.1 i)) 7 0)
def hdT (f : MFn) : Int := orE (tyE f.2.2.2.1) (qas (hdP f) (ln I f.2.1) 0)
def hdM (f : MFn) : Int := cond (hdB f) 3 (cond ((ln qac f.2.2.2.2.2.2.1 : Int) == (0 : Int)) 4 (cond (cond (z f.2.2.1 != (0 : Int)) (!(typP f.2.2.1)) false) 9 (hdT f)))
def hdC (c : Chr) : Int := hdM c.2.1
theorem hd_head (f : MFn) : fstF ([unlP (cond (cond (cond (decide (z f.2.2.2.2.1 ≥ (0 : Int))) (decide (z f.2.2.2.2.2.1 ≥ (0 : Int))) false) (cond (decide (z f.2.2.2.2.1 > (0 : Int))) true (z f.2.2.2.2.2.1 == (0 : Int))) false) (cond (z f.2.2.2.2.1 == (0 : Int)) true ((ln I f.2.2.2.1 : Int) == (0 : Int))) false) 3, unlP (decide ((ln qac f.2.2.2.2.2.2.1 : Int) > (0 : Int))) 4, unlP (cond (z f.2.2.1 == (0 : Int)) true (typP f.2.2.1)) 9] : List (Den I)) = cond (hdB f) 3 (cond ((ln qac f.2.2.2.2.2.2.1 : Int) == (0 : Int)) 4 (cond (cond (z f.2.2.1 != (0 : Int)) (!(typP f.2.2.1)) false) 9 0)) := by
 have e1 : cond (cond (cond (decide (z f.2.2.2.2.1 ≥ (0 : Int))) (decide (z f.2.2.2.2.2.1 ≥ (0 : Int))) false) (cond (decide (z f.2.2.2.2.1 > (0 : Int))) true (z f.2.2.2.2.2.1 == (0 : Int))) false) (cond (z f.2.2.2.2.1 == (0 : Int)) true ((ln I f.2.2.2.1 : Int) == (0 : Int))) false = !(hdB f) := by
  have : (hdB f = true) ↔ ¬ (cond (cond (cond (decide (z f.2.2.2.2.1 ≥ (0 : Int))) (decide (z f.2.2.2.2.2.1 ≥ (0 : Int))) false) (cond (decide (z f.2.2.2.2.1 > (0 : Int))) true (z f.2.2.2.2.2.1 == (0 : Int))) false) (cond (z f.2.2.2.2.1 == (0 : Int)) true ((ln I f.2.2.2.1 : Int) == (0 : Int))) false = true) := by
   unfold hdB
   simp only [cond_iff, decide_eq_true_eq, beq_iff_eq, bne_iff_ne, ne_eq, true_and, and_true, Bool.false_eq_true, and_false, or_false]
   omega
  cases hb : hdB f
  ·rw [hb] at this
   have h2 := Classical.not_not.mp (fun h => absurd (this.mpr h) (by decide))
   rw [h2]; rfl
  ·rw [hb] at this
   have h2 := this.mp rfl
   rw [Bool.not_eq_true] at h2
   rw [h2]; rfl
 have e2 : decide ((ln qac f.2.2.2.2.2.2.1 : Int) > (0 : Int)) = !((ln qac f.2.2.2.2.2.2.1 : Int) == (0 : Int)) := by
  cases h : (ln qac f.2.2.2.2.2.2.1 : Int) == 0 <;> simp at h ⊢ <;> omega
 rw [e1, e2]
 unfold bne
 cases hdB f <;> cases (ln qac f.2.2.2.2.2.2.1 : Int) == (0 : Int) <;> cases z f.2.2.1 == (0 : Int) <;> cases typP f.2.2.1 <;> rfl
theorem machine_checker_head_l2 (c : Chr) (hc : okD qab c) : ∀ i, i ≤ ln I c.2.1.2.1 → RunI E_V39 (qcw c c.2.1.2.1 (ln I c.2.1.2.1 : Nat) i (tOf c.2.1.1) c.2.1.2.1 (z c.2.1.2.2.1) c.2.1.2.2.2.1 (z c.2.1.2.2.2.2.1) (z c.2.1.2.2.2.2.2.1) c.2.1.2.2.2.2.2.2.1) (qas (hdP c.2.1) (ln I c.2.1.2.1 - i) i) :=
 qci (.tree E_V39_ok (qgh ..) (by
  rw [Nat.sub_self, qas]
  simp only [sS, sL,  Nat.lt_irrefl]
  exact ⟨rfl, rfl⟩))
  fun i hi ih => .tree E_V39_ok (qgh ..) (by
   rw [sub1 hi]
   simp only [sS, sL,  hi, wrapS hi (qbj hc.2.1.2.1.1)]
   refine ⟨⟨Int.le_refl _, Nat.le_of_lt hi⟩, fun _ _ _ _ => fe_both ?_ ih⟩
   unfold hdP regC
   rw [Nat.sub_zero]
   cases rgM c.2.1 (gd I c.2.1.2.1 i) <;> cases hasI (wn I c.2.1.2.1 0 i) (gd I c.2.1.2.1 i) <;> rfl)
theorem machine_checker_head_l0 (c : Chr) (hc : okD qab c) : ∀ i, i ≤ ln I c.2.1.2.2.2.1 → RunI E_V39 (qcx c c.2.1.2.2.2.1 (ln I c.2.1.2.2.2.1 : Nat) i (tOf c.2.1.1) c.2.1.2.1 (z c.2.1.2.2.1) c.2.1.2.2.2.1 (z c.2.1.2.2.2.2.1) (z c.2.1.2.2.2.2.2.1) c.2.1.2.2.2.2.2.2.1) (orE (qas (tyI c.2.1.2.2.2.1) (ln I c.2.1.2.2.2.1 - i) i) (qas (hdP c.2.1) (ln I c.2.1.2.1) 0)) :=
 qci (.tree E_V39_ok (qgi ..) (by
  rw [Nat.sub_self, qas]
  simp only [sS, sL,  Nat.lt_irrefl]
  exact machine_checker_head_l2 c hc 0 (Nat.zero_le _)))
  fun i hi ih => .tree E_V39_ok (qgi ..) (by
   rw [sub1 hi]
   simp only [sS, sL,  hi, wrapS hi (qbj hc.2.1.2.2.2.1.1)]
   exact ⟨fun h1 => .oe (x := 9) (Bool.cond_pos h1) rfl, fun h1 => RunI.oe ih (Bool.cond_neg h1)⟩)
def k_machine_checker_head : Con := con [.d qab] I (fun x => True) fun x => hdC x.1
theorem m_machine_checker_head (c : Den qab) (h_c : okD qab c) (hp : True) : Runs E_V39 (start E_V39 qaz [(.tv qab c)]) (fun r_ h_ => r_ = (vi (hdC c)) ∧ h_ = []) := .tree E_V39_ok (machine_checker_head_t c) (by
 show Tre.wp (contL _ (IsI (hdM c.2.1))) _
 simp only [sS, implies_true]
 rw [hd_head c.2.1]
 refine fun _ _ _ _ => ⟨fun h => .of ?_, fun h => ?_⟩
 ·unfold hdM
  revert h
  cases hdB c.2.1 <;> cases (ln qac c.2.1.2.2.2.2.2.2.1 : Int) == 0 <;> cases cond (z c.2.1.2.2.1 != (0 : Int)) (!(typP c.2.1.2.2.1)) false <;> intro h <;> first | rfl | exact absurd h (by decide)
 ·have h0 : hdB c.2.1 = false ∧ ((ln qac c.2.1.2.2.2.2.2.2.1 : Int) == 0) = false ∧ cond (z c.2.1.2.2.1 != (0 : Int)) (!(typP c.2.1.2.2.1)) false = false := by
   revert h
   cases hdB c.2.1 <;> cases (ln qac c.2.1.2.2.2.2.2.2.1 : Int) == 0 <;> cases cond (z c.2.1.2.2.1 != (0 : Int)) (!(typP c.2.1.2.2.1)) false <;> intro h <;> first | exact ⟨rfl, rfl, rfl⟩ | exact absurd h (by decide)
  exact (machine_checker_head_l0 c h_c 0 (Nat.zero_le _)).eq ((Bool.cond_neg h0.1).trans ((Bool.cond_neg h0.2.1).trans (Bool.cond_neg h0.2.2))))
theorem c_machine_checker_head : qal E_V39 qaz k_machine_checker_head.spec := qan fun x hx hp => ⟨rfl, m_machine_checker_head x.1 hx.1 hp⟩
def L_V39 : List (FuncId × FSpec) := [(qaz, k_machine_checker_head.spec)] ++ L_V38
theorem L_V39_ok : ∀ x ∈ L_V39, qal (ctx []) x.1 x.2 := by
 unfold L_V39
 simp only [List.cons_append, List.nil_append, List.forall_mem_cons]
 exact ⟨c_machine_checker_head, L_V38_ok⟩
end Burn.MM
namespace Burn.MM
open Go Go.BE Go.Proofs
set_option maxRecDepth 100000
set_option linter.unusedVariables false
set_option linter.unusedSimpArgs false
open Burn.Intn Burn.Ref
noncomputable abbrev E_V40 : Ctx := ctx L_V39
theorem E_V40_ok : EOK E_V40 := qch L_V39_ok
def cuts_V40 : CutL := [([], 13, 0, [5, 26, 27, 28], [], []),
 ([], 13, 2, [5, 8, 26, 27, 28, 37, 38, 39], [], [])]
def rets_V40 : FuncId → List (Option Fx)
 | _ => []
def H_V40 : Hints := { cut := cutOf cuts_V40, ret := rets_V40 }
noncomputable def qef (t26 : List (Den qac)) (t27 : Int) (t28 : Int) (c_0 : List (Den qaf)) (c_1 : List (Den qaa)) (c_2 : ByteArray) (c_3 : List (Den I)) (c_4 : Int) (c_5 : List (Den I)) (c_6 : Int) (c_7 : Int) (c_8 : List (Den qac)) : Cfg := hcfg E_V40 qce 0 [(5, (.ref 0 0)), (26, (.tv (.sl 136 qac) t26)), (27, (vi t27)), (28, (vi t28))] [(0, ⟨(.cells [(.tv (.sl 64 qaf) c_0), (.tv (.sl 96 qaa) c_1), (vs c_2), (.tv (.sl 8 I) c_3), (vi c_4), (.tv (.sl 8 I) c_5), (vi c_6), (vi c_7), (.tv (.sl 136 qac) c_8)]), 0, [], false, none⟩)] 1
noncomputable def qgw (t26 : List (Den qac)) (t27 : Int) (t28 : Int) (t37 : List (Den qad)) (t38 : Int) (t39 : Int) (c_0 : List (Den qaf)) (c_1 : List (Den qaa)) (c_2 : ByteArray) (c_3 : List (Den I)) (c_4 : Int) (c_5 : List (Den I)) (c_6 : Int) (c_7 : Int) (c_8 : List (Den qac)) (b_0 : List (Den I)) (b_1 : List (Den qad)) (b_2 : Int) (b_3 : List (Den I)) (b_4 : List (Den I)) (b_5 : List (Den qae)) (b_6 : Int) : Cfg := hcfg E_V40 qce 2 [(5, (.ref 0 0)), (8, (.ref 1 0)), (26, (.tv (.sl 136 qac) t26)), (27, (vi t27)), (28, (vi t28)), (37, (.tv (.sl 80 qad) t37)), (38, (vi t38)), (39, (vi t39))] [(0, ⟨(.cells [(.tv (.sl 64 qaf) c_0), (.tv (.sl 96 qaa) c_1), (vs c_2), (.tv (.sl 8 I) c_3), (vi c_4), (.tv (.sl 8 I) c_5), (vi c_6), (vi c_7), (.tv (.sl 136 qac) c_8)]), 0, [], false, none⟩), (1, ⟨(.cells [(.tv (.sl 8 I) b_0), (.tv (.sl 80 qad) b_1), (vi b_2), (.tv (.sl 8 I) b_3), (.tv (.sl 8 I) b_4), (.tv (.sl 32 qae) b_5), (vi b_6)]), 1, [], false, none⟩)] 2
theorem machine_Check_t (m : Den qah) (f : Den qam) : run E_V40 H_V40 qce 3000 (start E_V40 qce [(.tv qah m), (.tv qam f)]) = (.chk (True) (.know (okD qat (firstF m)) (cond ((z ((firstF m).1)) != (0 : Int)) (rt (vi (2 : Int)) []) (.chk (True) (.know (okD (.int .i64) (hdC (m, f, ()))) (cond ((hdC (m, f, ())) != (0 : Int)) (rt (vi (hdC (m, f, ()))) []) (hd (qef f.2.2.2.2.2.2.1 ((ln qac f.2.2.2.2.2.2.1) : Int) (0 : Int) m.1 m.2.1 (tOf f.1) f.2.1 (z f.2.2.1) f.2.2.2.1 (z f.2.2.2.2.1) (z f.2.2.2.2.2.1) f.2.2.2.2.2.2.1)))))))) := by kernel_rfl
theorem machine_Check_L0_t (t26 : List (Den qac)) (t27 : Int) (t28 : Int) (c_0 : List (Den qaf)) (c_1 : List (Den qaa)) (c_2 : ByteArray) (c_3 : List (Den I)) (c_4 : Int) (c_5 : List (Den I)) (c_6 : Int) (c_7 : Int) (c_8 : List (Den qac)) : run E_V40 H_V40 qce 3000 (qef t26 t27 t28 c_0 c_1 c_2 c_3 c_4 c_5 c_6 c_7 c_8) = (cond (decide (t28 < t27)) (.chk (0 ≤ t28 ∧ t28 < (ln qac t26)) (cond (decide (((ln I ((gd qac t26 t28.toNat).1)) : Int) > (0 : Int))) (rt (vi (3 : Int)) []) (hd (qgw t26 t27 t28 ((gd qac t26 t28.toNat).2.1) ((ln qad ((gd qac t26 t28.toNat).2.1)) : Int) (0 : Int) c_0 c_1 c_2 c_3 c_4 c_5 c_6 c_7 c_8 ((gd qac t26 t28.toNat).1) ((gd qac t26 t28.toNat).2.1) (z ((gd qac t26 t28.toNat).2.2.1.1)) ((gd qac t26 t28.toNat).2.2.1.2.1) ((gd qac t26 t28.toNat).2.2.1.2.2.1) ((gd qac t26 t28.toNat).2.2.1.2.2.2.1) (z ((gd qac t26 t28.toNat).2.2.1.2.2.2.2.1)))))) (rt (vi (0 : Int)) [])) := by kernel_rfl
theorem machine_Check_L2_t (t26 : List (Den qac)) (t27 : Int) (t28 : Int) (t37 : List (Den qad)) (t38 : Int) (t39 : Int) (c_0 : List (Den qaf)) (c_1 : List (Den qaa)) (c_2 : ByteArray) (c_3 : List (Den I)) (c_4 : Int) (c_5 : List (Den I)) (c_6 : Int) (c_7 : Int) (c_8 : List (Den qac)) (b_0 : List (Den I)) (b_1 : List (Den qad)) (b_2 : Int) (b_3 : List (Den I)) (b_4 : List (Den I)) (b_5 : List (Den qae)) (b_6 : Int) : run E_V40 H_V40 qce 3000 (qgw t26 t27 t28 t37 t38 t39 c_0 c_1 c_2 c_3 c_4 c_5 c_6 c_7 c_8 b_0 b_1 b_2 b_3 b_4 b_5 b_6) = (cond (decide (t39 < t38)) (.chk (0 ≤ t39 ∧ t39 < (ln qad t37)) (.chk (True) (.know (okD (.int .i64) (insC ((c_0, c_1, ()), (c_2, c_3, c_4, c_5, c_6, c_7, c_8, ()), ()) (gd qad t37 t39.toNat))) (cond ((insC ((c_0, c_1, ()), (c_2, c_3, c_4, c_5, c_6, c_7, c_8, ()), ()) (gd qad t37 t39.toNat)) != (0 : Int)) (rt (vi (insC ((c_0, c_1, ()), (c_2, c_3, c_4, c_5, c_6, c_7, c_8, ()), ()) (gd qad t37 t39.toNat))) []) (hd (qgw t26 t27 t28 t37 t38 (IntKind.wrap .i64 (t39 + (1 : Int))) c_0 c_1 c_2 c_3 c_4 c_5 c_6 c_7 c_8 b_0 b_1 b_2 b_3 b_4 b_5 b_6)))))) (.chk (okSg ((c_0, c_1, ()), (c_2, c_3, c_4, c_5, c_6, c_7, c_8, ()), ()).1) (.know (okD (.int .i64) (tmEc ((c_0, c_1, ()), (c_2, c_3, c_4, c_5, c_6, c_7, c_8, ()), ()) (b_2, b_3, b_4, b_5, b_6, ()))) (cond ((tmEc ((c_0, c_1, ()), (c_2, c_3, c_4, c_5, c_6, c_7, c_8, ()), ()) (b_2, b_3, b_4, b_5, b_6, ())) != (0 : Int)) (rt (vi (tmEc ((c_0, c_1, ()), (c_2, c_3, c_4, c_5, c_6, c_7, c_8, ()), ()) (b_2, b_3, b_4, b_5, b_6, ()))) []) (hd (qef t26 t27 (IntKind.wrap .i64 (t28 + (1 : Int))) c_0 c_1 c_2 c_3 c_4 c_5 c_6 c_7 c_8)))))) := by kernel_rfl
def mbJ (m : Md) (f : MFn) (l : List Ins) (k : Nat) : Int := insR m f (gd qad l k)
def mbK (m : Md) (f : MFn) (b : Blk) : Int := cond (decide ((ln I b.1 : Int) > (0 : Int))) 3 (orE (qas (mbJ m f b.2.1) (ln qad b.2.1) 0) (tmE m f b.2.2.1))
def mbI (m : Md) (f : MFn) (i : Nat) : Int := mbK m f (gd qac f.2.2.2.2.2.2.1 i)
def mchF (m : Md) (f : MFn) : Int := cond (z (firstF m).1 != (0 : Int)) 2 (orE (hdM f) (qas (mbI m f) (ln qac f.2.2.2.2.2.2.1) 0))
theorem nz {e : Int} (h : (e != 0) = false) : e = 0 := by simpa using h
theorem orE_assoc (a b c : Int) : orE (orE a b) c = orE a (orE b c) := by
 unfold orE
 cases h : a == 0
 ·rw [cond_false, h]; rfl
 ·rfl
theorem firstE_or {D : Nat → Int} {n i : Nat} : qas D (n + 1) i = orE (D i) (qas D n (i + 1)) := rfl
theorem orD_ok {a b : Dg} (h : errB (orD a b) = false) : errB a = false ∧ errB b = false := by
 unfold orD at h
 cases ha : errB a <;> rw [ha] at h
 ·exact ⟨rfl, h⟩
 ·exact absurd (show errB a = false from h) (by rw [ha]; decide)
theorem firstD_ok {D : Nat → Dg} : ∀ {n i : Nat}, errB (qfh D n i) = false → ∀ j, i ≤ j → j < i + n → errB (D j) = false
 | 0, i, _, j, h1, h2 => by omega
 | n + 1, i, h, j, h1, h2 => by
  obtain ⟨h3, h4⟩ := orD_ok (a := D i) h
  rcases Nat.eq_or_lt_of_le h1 with rfl | h5
  ·exact h3
  ·exact firstD_ok h4 j h5 (by omega)
theorem firstE_ok {D : Nat → Int} : ∀ {n i : Nat}, qas D n i = 0 → ∀ j, i ≤ j → j < i + n → D j = 0
 | 0, i, _, j, h1, h2 => by omega
 | n + 1, i, h, j, h1, h2 => by
  unfold qas at h
  cases h3 : D i == 0 <;> rw [h3] at h
  ·have h4 : D i = 0 := h
   rw [h4] at h3
   exact absurd h3 (by decide)
  ·rcases Nat.eq_or_lt_of_le h1 with rfl | h5
   ·exact eq_of_beq h3
   ·exact firstE_ok h j h5 (by omega)
theorem orE_ok {a b : Int} (h : orE a b = 0) : a = 0 ∧ b = 0 := by
 unfold orE at h
 cases h1 : a == 0 <;> rw [h1] at h
 ·have h2 : a = 0 := h
  rw [h2] at h1
  exact absurd h1 (by decide)
 ·exact ⟨eq_of_beq h1, h⟩
theorem cond_z {b : Bool} {k e : Int} (hk : k ≠ 0) (h : cond b k e = 0) : b = false ∧ e = 0 := by
 cases b
 ·exact ⟨rfl, h⟩
 ·exact absurd h hk
theorem mod_ok {m : Md} (h : (z (firstF m).1 != (0 : Int)) = false) : errB (modD m) = false := by
 unfold firstF at h
 cases h1 : errB (modD m)
 ·rfl
 ·rw [h1] at h
  have h2 : (z (modD m).1 != (0 : Int)) = false := h
  rw [← h1]
  exact h2
theorem sg_ok {m : Md} (h : errB (modD m) = false) : okSg m := by
 have h1 := (orD_ok (orD_ok h).2).1
 unfold sigD at h1
 intro j hj i hi
 cases hc : !(decide ((ln qaa m.2.1 : Int) ≤ 32)) <;> rw [hc] at h1
 ·have h2 := firstD_ok h1 j (Nat.zero_le _) (by omega)
  have h3 : sigI m.2.1 j = 0 := by
   have : (!(sigI m.2.1 j == 0)) = false := h2
   simpa using this
  have h4 := (cond_z (k := 7) (by decide) (cond_z (k := 6) (by decide) h3).2).2
  have h5 : sigU (gd qaa m.2.1 j) = 0 := by
   unfold sigT at h4
   cases hr : z (gd qaa m.2.1 j).2.2.1 == (0 : Int) <;> rw [hr] at h4
   ·exact (cond_z (k := 9) (by decide) h4).2
   ·exact h4
  have h6 : sigV (gd qaa m.2.1 j) = 0 := by
   unfold sigU at h5
   cases hr : decide ((ln I (gd qaa m.2.1 j).2.1 : Int) ≤ (6 : Int)) <;> rw [hr] at h5
   ·exact absurd h5 (show ¬ (11 : Int) = 0 by decide)
   ·exact (cond_z (k := 11) (by decide) h5).2
  have h7 := firstE_ok (orE_ok h6).2 i (Nat.zero_le _) (by omega)
  have h8 := (cond_z (k := 10) (by decide) h7).1
  have h9 : regP (gd qaa m.2.1 j) (gd I (gd qaa m.2.1 j).2.1 i) = true := by simpa using h8
  exact reg_ok h9
 ·exact Bool.noConfusion (show (true : Bool) = false from h1)
theorem machine_Check_l2 (m : Md) (f : MFn) (b : Blk) (i : Nat) (e : Int) (hf : okD qam f) (hb : okD qac b) (hm : okSg m) (hi : i < ln qac f.2.2.2.2.2.2.1)
  (ih : RunI E_V40 (qef f.2.2.2.2.2.2.1 (ln qac f.2.2.2.2.2.2.1 : Nat) (i + 1 : Nat) m.1 m.2.1 (tOf f.1) f.2.1 (z f.2.2.1) f.2.2.2.1 (z f.2.2.2.2.1) (z f.2.2.2.2.2.1) f.2.2.2.2.2.2.1) e) : ∀ k, k ≤ ln qad b.2.1 → RunI E_V40 (qgw f.2.2.2.2.2.2.1 (ln qac f.2.2.2.2.2.2.1 : Nat) i b.2.1 (ln qad b.2.1 : Nat) k m.1 m.2.1 (tOf f.1) f.2.1 (z f.2.2.1) f.2.2.2.1 (z f.2.2.2.2.1) (z f.2.2.2.2.2.1) f.2.2.2.2.2.2.1 b.1 b.2.1 (z b.2.2.1.1) b.2.2.1.2.1 b.2.2.1.2.2.1 b.2.2.1.2.2.2.1 (z b.2.2.1.2.2.2.2.1)) (orE (qas (mbJ m f b.2.1) (ln qad b.2.1 - k) k) (orE (tmE m f b.2.2.1) e)) :=
 qci (.tree E_V40_ok (machine_Check_L2_t ..) (by
  rw [Nat.sub_self, qas, show orE 0 (orE (tmE m f b.2.2.1) e) = orE (tmE m f b.2.2.1) e from rfl]
  simp only [sS, sL,  Nat.lt_irrefl, wrapS hi (qbj hf.2.2.2.2.2.2.1.1)]
  exact ⟨hm, fun _ _ => ⟨fun h => .of (orE_hit5 h), fun h => RunI.eq ih (orE_miss5 h)⟩⟩))
  fun k hk ihk => .tree E_V40_ok (machine_Check_L2_t ..) (by
   rw [sub1 hk]
   simp only [sS, sL,  hk, wrapS hk (qbj hb.2.1.1)]
   exact fun _ => ⟨fun h => .oe (e := mbJ m f b.2.1) rfl (by simpa [bne] using h), fun h => RunI.oe (e := mbJ m f b.2.1) ihk (nz h)⟩)
theorem machine_Check_l0 (m : Md) (f : MFn) (hf : okD qam f) (hm : okSg m) : ∀ i, i ≤ ln qac f.2.2.2.2.2.2.1 → RunI E_V40 (qef f.2.2.2.2.2.2.1 (ln qac f.2.2.2.2.2.2.1 : Nat) i m.1 m.2.1 (tOf f.1) f.2.1 (z f.2.2.1) f.2.2.2.1 (z f.2.2.2.2.1) (z f.2.2.2.2.2.1) f.2.2.2.2.2.2.1) (qas (mbI m f) (ln qac f.2.2.2.2.2.2.1 - i) i) :=
 qci (.tree E_V40_ok (machine_Check_L0_t ..) (by
  rw [Nat.sub_self, qas]
  simp only [sS, sL,  Nat.lt_irrefl]
  exact ⟨rfl, rfl⟩))
  fun i hi ih => .tree E_V40_ok (machine_Check_L0_t ..) (by
   have hb := ok_gd hf.2.2.2.2.2.2.1 hi
   have go := machine_Check_l2 m f (gd qac f.2.2.2.2.2.2.1 i) i _ hf hb hm hi ih 0 (Nat.zero_le _)
   rw [sub1 hi]
   simp only [sS, sL,  hi]
   refine ⟨fun h => .fe (x := 3) (Bool.cond_pos h) rfl, fun h => RunI.eq go ?_⟩
   rw [firstE_or, show mbI m f i = _ from Bool.cond_neg h, orE_assoc]
   rfl)
def k_machine_Check : Con := con [.d qah, .d qam] I (fun x => True) fun x => mchF x.1 x.2.1
theorem m_machine_Check (m : Den qah) (f : Den qam) (h_m : okD qah m) (h_f : okD qam f) (hp : True) : Runs E_V40 (start E_V40 qce [(.tv qah m), (.tv qam f)]) (fun r_ h_ => r_ = (vi (mchF m f)) ∧ h_ = []) := .tree E_V40_ok (machine_Check_t m f) (by
 show Tre.wp (contL _ (IsI (mchF m f))) _
 simp only [sS, implies_true]
 refine fun _ => ⟨fun h => .of (Bool.cond_pos h), fun h => ?_⟩
 have hm := sg_ok (mod_ok h)
 have hE : mchF m f = orE (hdM f) (qas (mbI m f) (ln qac f.2.2.2.2.2.2.1) 0) := Bool.cond_neg h
 rw [hE]
 exact fun _ => ⟨fun h1 => .of (orE_hit5 h1), fun h1 => (machine_Check_l0 m f h_f hm 0 (Nat.zero_le _)).eq (orE_miss5 h1)⟩)
theorem c_machine_Check : qal E_V40 qce k_machine_Check.spec := qan fun x hx hp => ⟨rfl, m_machine_Check x.1 x.2.1 hx.1 hx.2.1 hp⟩
def L_V40 : List (FuncId × FSpec) := [(qce, k_machine_Check.spec)] ++ L_V39
theorem L_V40_ok : ∀ x ∈ L_V40, qal (ctx []) x.1 x.2 := by
 unfold L_V40
 simp only [List.cons_append, List.nil_append, List.forall_mem_cons]
 exact ⟨c_machine_Check, L_V39_ok⟩
end Burn.MM
namespace Burn.MM
open Go Go.BE Go.Proofs
set_option maxRecDepth 100000
set_option linter.unusedVariables false
set_option linter.unusedSimpArgs false
open Burn.Intn Burn.Ref
def mrg_V41 : FuncId → List Nat
 | 10 => [13]
 | _ => []
noncomputable abbrev E_V41 : Ctx := { ctx L_V40 with mrg := mrg_V41 }
theorem E_V41_ok : EOK E_V41 := have h : EOK (ctx L_V40) := qch L_V40_ok; ⟨h.ty, h.env, h.fns, h.mixed⟩
def cuts_V41 : CutL := [([], 15, 0, [0, 1, 5, 6], [], [])]
def rets_V41 : FuncId → List (Option Fx)
 | 15 => [some (.dat (.arr 42 I))]
 | _ => []
def H_V41 : Hints := { cut := cutOf cuts_V41, ret := rets_V41 }
noncomputable def qdm (t5 : Den (.arr 42 I)) (t6 : Int) (t0 : Den (.arr 42 I)) (slow : Den (.arr 42 I)) : Cfg := hcfg E_V41 qbz 0 [(0, (.tref 0 0 [] (0 : Nat) [])), (1, (.tref 1 1 [] (0 : Nat) [])), (5, (.tv (.arr 42 I) t5)), (6, (vi t6))] [(0, ⟨(.arr 0 336 (.arr 42 I) ([t0] : List (Den (.arr 42 I)))), 0, [], false, none⟩), (1, ⟨(.arr 0 336 (.arr 42 I) ([slow] : List (Den (.arr 42 I)))), 1, [], false, none⟩)] 2
theorem machine_latencies_t : run E_V41 H_V41 qbz 3000 (start E_V41 qbz []) = (.chk ((0 : Nat) < (1 : Nat)) (.chk ((0 : Nat) < (1 : Nat)) (hd (qdm ((0 : Int), ((0 : Int), ((0 : Int), ((0 : Int), ((0 : Int), ((0 : Int), ((0 : Int), ((3 : Int), ((0 : Int), ((0 : Int), ((0 : Int), ((0 : Int), ((0 : Int), ((0 : Int), ((8 : Int), ((8 : Int), ((0 : Int), ((0 : Int), ((0 : Int), ((0 : Int), ((0 : Int), ((0 : Int), ((0 : Int), ((0 : Int), ((0 : Int), ((0 : Int), ((0 : Int), ((0 : Int), ((3 : Int), ((0 : Int), ((5 : Int), ((0 : Int), ((0 : Int), ((0 : Int), ((0 : Int), ((0 : Int), ((0 : Int), ((0 : Int), ((0 : Int), ((0 : Int), ((0 : Int), ((3 : Int), ())))))))))))))))))))))))))))))))))))))))))) (0 : Int) ((0 : Int), ((0 : Int), ((0 : Int), ((0 : Int), ((0 : Int), ((0 : Int), ((0 : Int), ((0 : Int), ((0 : Int), ((0 : Int), ((0 : Int), ((0 : Int), ((0 : Int), ((0 : Int), ((0 : Int), ((0 : Int), ((0 : Int), ((0 : Int), ((0 : Int), ((0 : Int), ((0 : Int), ((0 : Int), ((0 : Int), ((0 : Int), ((0 : Int), ((0 : Int), ((0 : Int), ((0 : Int), ((0 : Int), ((0 : Int), ((0 : Int), ((0 : Int), ((0 : Int), ((0 : Int), ((0 : Int), ((0 : Int), ((0 : Int), ((0 : Int), ((0 : Int), ((0 : Int), ((0 : Int), ((0 : Int), ())))))))))))))))))))))))))))))))))))))))))) ((0 : Int), ((0 : Int), ((0 : Int), ((0 : Int), ((0 : Int), ((0 : Int), ((0 : Int), ((3 : Int), ((0 : Int), ((0 : Int), ((0 : Int), ((0 : Int), ((0 : Int), ((0 : Int), ((8 : Int), ((8 : Int), ((0 : Int), ((0 : Int), ((0 : Int), ((0 : Int), ((0 : Int), ((0 : Int), ((0 : Int), ((0 : Int), ((0 : Int), ((0 : Int), ((0 : Int), ((0 : Int), ((3 : Int), ((0 : Int), ((5 : Int), ((0 : Int), ((0 : Int), ((0 : Int), ((0 : Int), ((0 : Int), ((0 : Int), ((0 : Int), ((0 : Int), ((0 : Int), ((0 : Int), ((3 : Int), ())))))))))))))))))))))))))))))))))))))))))))))) := by kernel_rfl
theorem machine_latencies_L0_t (t5 : Den (.arr 42 I)) (t6 : Int) (t0 : Den (.arr 42 I)) (slow : Den (.arr 42 I)) : run E_V41 H_V41 qbz 3000 (qdm t5 t6 t0 slow) = (cond (decide (t6 < (42 : Int))) (.chk (0 ≤ t6 ∧ t6 < (42 : Nat)) (.chk (0 ≤ t6 ∧ t6 < (42 : Nat)) (.chk ((0 : Nat) < (1 : Nat)) (.chk (t6.toNat < 42) (hd (qdm t5 (IntKind.wrap .i64 (t6 + (1 : Int))) t0 (vset 42 slow t6.toNat (if (1 : Int) > (z (vget (dz I) 42 t5 t6.toNat)) then (1 : Int) else (z (vget (dz I) 42 t5 t6.toNat)))))))))) (.chk ((0 : Nat) < (1 : Nat)) (.chk ((0 : Nat) < (1 : Nat)) (.chk ((0 : Nat) < (1 : Nat)) (rt (.tv (.arr 42 I) slow) []))))) := by kernel_rfl
theorem machine_Latency_t (x : Den qaj) (op : Int) : run E_V41 H_V41 qdz 3000 (start E_V41 qdz [(.tv qaj x), (vi op)]) = (cond (cond (decide (op < (0 : Int))) true (decide (op ≥ ((ln I x.2.2.1) : Int)))) (rt (vi (1 : Int)) []) (.chk (0 ≤ op ∧ op < (ln I x.2.2.1)) (rt (vi (z (gd I x.2.2.1 op.toNat))) []))) := by kernel_rfl
def slowA : Den (.arr 42 I) := ((0 : Int), ((0 : Int), ((0 : Int), ((0 : Int), ((0 : Int), ((0 : Int), ((0 : Int), ((3 : Int), ((0 : Int), ((0 : Int), ((0 : Int), ((0 : Int), ((0 : Int), ((0 : Int), ((8 : Int), ((8 : Int), ((0 : Int), ((0 : Int), ((0 : Int), ((0 : Int), ((0 : Int), ((0 : Int), ((0 : Int), ((0 : Int), ((0 : Int), ((0 : Int), ((0 : Int), ((0 : Int), ((3 : Int), ((0 : Int), ((5 : Int), ((0 : Int), ((0 : Int), ((0 : Int), ((0 : Int), ((0 : Int), ((0 : Int), ((0 : Int), ((0 : Int), ((0 : Int), ((0 : Int), ((3 : Int), ()))))))))))))))))))))))))))))))))))))))))))
def latA : Den (.arr 42 I) := ((1 : Int), ((1 : Int), ((1 : Int), ((1 : Int), ((1 : Int), ((1 : Int), ((1 : Int), ((3 : Int), ((1 : Int), ((1 : Int), ((1 : Int), ((1 : Int), ((1 : Int), ((1 : Int), ((8 : Int), ((8 : Int), ((1 : Int), ((1 : Int), ((1 : Int), ((1 : Int), ((1 : Int), ((1 : Int), ((1 : Int), ((1 : Int), ((1 : Int), ((1 : Int), ((1 : Int), ((1 : Int), ((3 : Int), ((1 : Int), ((5 : Int), ((1 : Int), ((1 : Int), ((1 : Int), ((1 : Int), ((1 : Int), ((1 : Int), ((1 : Int), ((1 : Int), ((1 : Int), ((1 : Int), ((3 : Int), ()))))))))))))))))))))))))))))))))))))))))))
def latS : Nat → Nat → Den (.arr 42 I) → Den (.arr 42 I)
 | 0, _, s => s
 | n + 1, i, s => latS n (i + 1) (vset 42 s i (if (1 : Int) > z (vget (dz I) 42 slowA i) then (1 : Int) else z (vget (dz I) 42 slowA i)))
theorem machine_latencies_l (t0 : Den (.arr 42 I)) : ∀ i : Nat, i ≤ (42 : Nat) → ∀ s, Runs E_V41 (qdm slowA i t0 s) (fun r h => r = .tv (.arr 42 I) (latS (42 - i) i s) ∧ h = []) :=
 qci (fun s => .tree E_V41_ok (machine_latencies_L0_t ..) (by
  rw [Nat.sub_self, latS]
  simp only [sS, sL,  Nat.lt_irrefl]
  exact fun h => absurd h (by decide)))
  fun i hi ih s => .tree E_V41_ok (machine_latencies_L0_t ..) (by
   rw [sub1 hi, latS]
   simp only [sS, sL,  hi, wrapS hi (show (42 : Nat) < 9223372036854775807 by decide)]
   exact ⟨fun _ => ih _, fun h => absurd (of_decide_eq_false h) (by omega)⟩)
def k_machine_latencies : Con := con [] (.arr 42 I) (fun x => True) fun x => latA
theorem m_machine_latencies (hp : True) : Runs E_V41 (start E_V41 qbz []) (fun r_ h_ => r_ = (.tv (.arr 42 I) (latA)) ∧ h_ = []) := .tree E_V41_ok (machine_latencies_t) (by
 simp only [sS, implies_true]
 exact (machine_latencies_l _ 0 (Nat.zero_le _) slowA))
theorem c_machine_latencies : qal E_V41 qbz k_machine_latencies.spec := qan fun x hx hp => ⟨rfl, m_machine_latencies hp⟩
def latL : List Int := [1, 1, 1, 1, 1, 1, 1, 3, 1, 1, 1, 1, 1, 1, 8, 8, 1, 1, 1, 1, 1, 1, 1, 1, 1, 1, 1, 1, 3, 1, 5, 1, 1, 1, 1, 1, 1, 1, 1, 1, 1, 3]
def defF : Den qaj := ((2 : Int), (16 : Int), latL, ())
def okM (x : Den qaj) : Bool := cond (cond (witP x.1 1 8) (witP x.2.1 8 64) false) (decide ((ln I x.2.2.1 : Int) ≤ (64 : Int))) false
def latOK : List (Den I) → Bool
 | [] => true
 | y :: l => cond (witP (z y) 1 100) (latOK l) false
def valF (x : Den qaj) : Bool := cond (latOK x.2.2.1) (okM x) false
def latcF (x : Den qaj) (op : Int) : Int := (cond (cond (decide (op < (0 : Int))) true (decide (op ≥ ((ln I x.2.2.1) : Int)))) (1 : Int) (z (gd I x.2.2.1 op.toNat)))

def k_machine_Latency : Con := con [.d qaj, .d I] I (fun x => True) fun x => latcF x.1 x.2.1
theorem m_machine_Latency (x : Den qaj) (op : Int) (h_x : okD qaj x) (h_op : okD I op) (hp : True) : Runs E_V41 (start E_V41 qdz [(.tv qaj x), (vi op)]) (fun r_ h_ => r_ = (vi (latcF x op)) ∧ h_ = []) := .tree E_V41_ok (machine_Latency_t x op) (by
 show Tre.wp (Qv _ (fun x_ => (vi x_)) (latcF x op)) _
 unfold latcF
 refine qag (fun h1 => ⟨rfl, rfl⟩) (fun h1 => ?_)
 refine ⟨by first | omega | assumption | exact hp.1 | exact hp.2 | exact hp.2.1 | (simp_all; done) | (simp_all; omega), fun _ => ?_⟩
 exact ⟨rfl, rfl⟩)
theorem c_machine_Latency : qal E_V41 qdz k_machine_Latency.spec := qan fun x hx hp => ⟨rfl, m_machine_Latency x.1 x.2.1 hx.1 hx.2.1 hp⟩
def L_V41 : List (FuncId × FSpec) := [(qbz, k_machine_latencies.spec), (qdz, k_machine_Latency.spec)] ++ L_V40
theorem L_V41_ok : ∀ x ∈ L_V41, qal (ctx []) x.1 x.2 := by
 unfold L_V41
 simp only [List.cons_append, List.nil_append, List.forall_mem_cons]
 exact ⟨c_machine_latencies, c_machine_Latency, L_V40_ok⟩
end Burn.MM
namespace Burn.MM
open Go Go.BE Go.Proofs
set_option maxRecDepth 100000
set_option linter.unusedVariables false
set_option linter.unusedSimpArgs false
open Burn.Intn Burn.Ref
def mrg_V42 : FuncId → List Nat
 | 8 => [23, 29]
 | _ => []
noncomputable abbrev E_V42 : Ctx := { ctx L_V41 with mrg := mrg_V42 }
theorem E_V42_ok : EOK E_V42 := have h : EOK (ctx L_V41) := qch L_V41_ok; ⟨h.ty, h.env, h.fns, h.mixed⟩
def cuts_V42 : CutL := [([], 8, 0, [1, 6, 7, 8], [], [])]
def rets_V42 : FuncId → List (Option Fx)
 | 5 => [some (.dat qaj)]
 | _ => []
def H_V42 : Hints := { cut := cutOf cuts_V42, ret := rets_V42 }
noncomputable def qdf (x : Den qaj) (t6 : List (Den I)) (t7 : Int) (t8 : Int) : Cfg := hcfg E_V42 qbq 0 [(1, (.rtp qaj x)), (6, (.tv (.sl 8 I) t6)), (7, (vi t7)), (8, (vi t8))] [] 0
theorem machine_ValidModel_t (x : Den qaj) : run E_V42 H_V42 qbq 3000 (start E_V42 qbq [(.tv qaj x)]) = (hd (qdf x x.2.2.1 ((ln I x.2.2.1) : Int) (0 : Int))) := by kernel_rfl
theorem machine_ValidModel_L0_t (x : Den qaj) (t6 : List (Den I)) (t7 : Int) (t8 : Int) : run E_V42 H_V42 qbq 3000 (qdf x t6 t7 t8) = (cond (decide (t8 < t7)) (.chk (0 ≤ t8 ∧ t8 < (ln I t6)) (.chk (True) (.know True (cond (!(witP (gd I t6 t8.toNat) (1 : Int) (100 : Int))) (rt (vb false) []) (hd (qdf x t6 t7 (IntKind.wrap .i64 (t8 + (1 : Int))))))))) (.chk (True) (.chk (((witP x.1 (1 : Int) (8 : Int)) = true → (True))) (.know True (rt (vb (cond (cond (witP x.1 (1 : Int) (8 : Int)) (witP x.2.1 (8 : Int) (64 : Int)) false) (decide (((ln I x.2.2.1) : Int) ≤ (64 : Int))) false)) []))))) := by kernel_rfl
theorem machine_Default_t : run E_V42 H_V42 qea 3000 (start E_V42 qea []) = (.chk (True) (.know (okD (.arr 42 I) (latA)) (rt (.tv qaj ((2 : Int), (16 : Int), ([(latA).1, ((latA).2).1, (((latA).2).2).1, ((((latA).2).2).2).1, (((((latA).2).2).2).2).1, ((((((latA).2).2).2).2).2).1, (((((((latA).2).2).2).2).2).2).1, ((((((((latA).2).2).2).2).2).2).2).1, (((((((((latA).2).2).2).2).2).2).2).2).1, ((((((((((latA).2).2).2).2).2).2).2).2).2).1, (((((((((((latA).2).2).2).2).2).2).2).2).2).2).1, ((((((((((((latA).2).2).2).2).2).2).2).2).2).2).2).1, (((((((((((((latA).2).2).2).2).2).2).2).2).2).2).2).2).1, ((((((((((((((latA).2).2).2).2).2).2).2).2).2).2).2).2).2).1, (((((((((((((((latA).2).2).2).2).2).2).2).2).2).2).2).2).2).2).1, ((((((((((((((((latA).2).2).2).2).2).2).2).2).2).2).2).2).2).2).2).1, (((((((((((((((((latA).2).2).2).2).2).2).2).2).2).2).2).2).2).2).2).2).1, ((((((((((((((((((latA).2).2).2).2).2).2).2).2).2).2).2).2).2).2).2).2).2).1, (((((((((((((((((((latA).2).2).2).2).2).2).2).2).2).2).2).2).2).2).2).2).2).2).1, ((((((((((((((((((((latA).2).2).2).2).2).2).2).2).2).2).2).2).2).2).2).2).2).2).2).1, (((((((((((((((((((((latA).2).2).2).2).2).2).2).2).2).2).2).2).2).2).2).2).2).2).2).2).1, ((((((((((((((((((((((latA).2).2).2).2).2).2).2).2).2).2).2).2).2).2).2).2).2).2).2).2).2).1, (((((((((((((((((((((((latA).2).2).2).2).2).2).2).2).2).2).2).2).2).2).2).2).2).2).2).2).2).2).1, ((((((((((((((((((((((((latA).2).2).2).2).2).2).2).2).2).2).2).2).2).2).2).2).2).2).2).2).2).2).2).1, (((((((((((((((((((((((((latA).2).2).2).2).2).2).2).2).2).2).2).2).2).2).2).2).2).2).2).2).2).2).2).2).1, ((((((((((((((((((((((((((latA).2).2).2).2).2).2).2).2).2).2).2).2).2).2).2).2).2).2).2).2).2).2).2).2).2).1, (((((((((((((((((((((((((((latA).2).2).2).2).2).2).2).2).2).2).2).2).2).2).2).2).2).2).2).2).2).2).2).2).2).2).1, ((((((((((((((((((((((((((((latA).2).2).2).2).2).2).2).2).2).2).2).2).2).2).2).2).2).2).2).2).2).2).2).2).2).2).2).1, (((((((((((((((((((((((((((((latA).2).2).2).2).2).2).2).2).2).2).2).2).2).2).2).2).2).2).2).2).2).2).2).2).2).2).2).2).1, ((((((((((((((((((((((((((((((latA).2).2).2).2).2).2).2).2).2).2).2).2).2).2).2).2).2).2).2).2).2).2).2).2).2).2).2).2).2).1, (((((((((((((((((((((((((((((((latA).2).2).2).2).2).2).2).2).2).2).2).2).2).2).2).2).2).2).2).2).2).2).2).2).2).2).2).2).2).2).1, ((((((((((((((((((((((((((((((((latA).2).2).2).2).2).2).2).2).2).2).2).2).2).2).2).2).2).2).2).2).2).2).2).2).2).2).2).2).2).2).2).1, (((((((((((((((((((((((((((((((((latA).2).2).2).2).2).2).2).2).2).2).2).2).2).2).2).2).2).2).2).2).2).2).2).2).2).2).2).2).2).2).2).2).1, ((((((((((((((((((((((((((((((((((latA).2).2).2).2).2).2).2).2).2).2).2).2).2).2).2).2).2).2).2).2).2).2).2).2).2).2).2).2).2).2).2).2).2).1, (((((((((((((((((((((((((((((((((((latA).2).2).2).2).2).2).2).2).2).2).2).2).2).2).2).2).2).2).2).2).2).2).2).2).2).2).2).2).2).2).2).2).2).2).1, ((((((((((((((((((((((((((((((((((((latA).2).2).2).2).2).2).2).2).2).2).2).2).2).2).2).2).2).2).2).2).2).2).2).2).2).2).2).2).2).2).2).2).2).2).2).1, (((((((((((((((((((((((((((((((((((((latA).2).2).2).2).2).2).2).2).2).2).2).2).2).2).2).2).2).2).2).2).2).2).2).2).2).2).2).2).2).2).2).2).2).2).2).2).1, ((((((((((((((((((((((((((((((((((((((latA).2).2).2).2).2).2).2).2).2).2).2).2).2).2).2).2).2).2).2).2).2).2).2).2).2).2).2).2).2).2).2).2).2).2).2).2).2).1, (((((((((((((((((((((((((((((((((((((((latA).2).2).2).2).2).2).2).2).2).2).2).2).2).2).2).2).2).2).2).2).2).2).2).2).2).2).2).2).2).2).2).2).2).2).2).2).2).2).1, ((((((((((((((((((((((((((((((((((((((((latA).2).2).2).2).2).2).2).2).2).2).2).2).2).2).2).2).2).2).2).2).2).2).2).2).2).2).2).2).2).2).2).2).2).2).2).2).2).2).2).1, (((((((((((((((((((((((((((((((((((((((((latA).2).2).2).2).2).2).2).2).2).2).2).2).2).2).2).2).2).2).2).2).2).2).2).2).2).2).2).2).2).2).2).2).2).2).2).2).2).2).2).2).1, ((((((((((((((((((((((((((((((((((((((((((latA).2).2).2).2).2).2).2).2).2).2).2).2).2).2).2).2).2).2).2).2).2).2).2).2).2).2).2).2).2).2).2).2).2).2).2).2).2).2).2).2).2).1] : List (Den I)), ())) []))) := by kernel_rfl
theorem machine_ValidModel_l (x : Den qaj) (hl : ln I x.2.2.1 < 9223372036854775807) : ∀ i, i ≤ ln I x.2.2.1 → Runs E_V42 (qdf x x.2.2.1 (ln I x.2.2.1 : Nat) i) (fun r h => r = vb (cond (latOK (x.2.2.1.drop i)) (okM x) false) ∧ h = []) :=
 qci (.tree E_V42_ok (machine_ValidModel_L0_t ..) (by
  rw [show x.2.2.1.drop (ln I x.2.2.1) = [] from drop_ln]
  simp only [sS, sL,  Nat.lt_irrefl, latOK, cond_true]
  rfl))
  fun i hi ih => .tree E_V42_ok (machine_ValidModel_L0_t ..) (by
   rw [show x.2.2.1.drop i = gd I x.2.2.1 i :: x.2.2.1.drop (i + 1) from drop_gd hi]
   simp only [sS, sL,  hi, wrapS hi hl, latOK]
   refine ⟨fun h1 => ?_, fun h1 => ?_⟩
   ·rw [show witP (z (gd I x.2.2.1 i)) 1 100 = false from by simpa using h1]; rfl
   ·rw [show witP (z (gd I x.2.2.1 i)) 1 100 = true from by simpa using h1]; exact ih)
def k_machine_ValidModel : Con := con [.d qaj] .bool (fun x => True) fun x => valF x.1
theorem m_machine_ValidModel (x : Den qaj) (h_x : okD qaj x) (hp : True) : Runs E_V42 (start E_V42 qbq [(.tv qaj x)]) (fun r_ h_ => r_ = (vb (valF x)) ∧ h_ = []) := .tree E_V42_ok (machine_ValidModel_t x) (by
 simp only [sS, implies_true]
 exact machine_ValidModel_l x (qbj h_x.2.2.1.1) 0 (Nat.zero_le _))
theorem c_machine_ValidModel : qal E_V42 qbq k_machine_ValidModel.spec := qan fun x hx hp => ⟨rfl, m_machine_ValidModel x.1 hx.1 hp⟩

def k_machine_Default : Con := con [] qaj (fun x => True) fun x => defF
theorem m_machine_Default (hp : True) : Runs E_V42 (start E_V42 qea []) (fun r_ h_ => r_ = (.tv qaj (defF)) ∧ h_ = []) := .tree E_V42_ok (machine_Default_t) (by
 simp only [sS, implies_true]
 exact fun _ => rfl)
theorem c_machine_Default : qal E_V42 qea k_machine_Default.spec := qan fun x hx hp => ⟨rfl, m_machine_Default hp⟩
def L_V42 : List (FuncId × FSpec) := [(qbq, k_machine_ValidModel.spec), (qea, k_machine_Default.spec)] ++ L_V41
theorem L_V42_ok : ∀ x ∈ L_V42, qal (ctx []) x.1 x.2 := by
 unfold L_V42
 simp only [List.cons_append, List.nil_append, List.forall_mem_cons]
 exact ⟨c_machine_ValidModel, c_machine_Default, L_V41_ok⟩
end Burn.MM

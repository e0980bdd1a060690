/- What the functions that the law reaches compute, one contract each. No conditions beyond those written. -/
import Derived.Test.YteaealfalanccaaGreatDoorWalkC
namespace Burn.MC
open Go Go.BE Go.Proofs
set_option maxRecDepth 100000
set_option linter.unusedVariables false
set_option linter.unusedSimpArgs false
open Burn.Intn Burn.Ref
noncomputable abbrev E_V40 : Ctx := ctx L_V39
theorem E_V40_ok : EOK E_V40 := qbo L_V39_ok
def cuts_V40 : CutL := [([], 8, 0, [5, 26, 27, 28], [], []),
 ([], 8, 2, [5, 8, 26, 27, 28, 37, 38, 39], [], []),
 ([], 9, 0, [2, 3, 22, 23, 24], [], []),
 ([], 9, 2, [2, 3, 7, 22, 23, 24, 33, 34, 35], [], [])]
def rets_V40 : FuncId → List (Option Fx)
 | _ => []
def H_V40 : Hints := { cut := cutOf cuts_V40, ret := rets_V40 }
noncomputable def qez (t26 : List (Den qac)) (t27 : Int) (t28 : Int) (c_0 : List (Den qai)) (c_1 : List (Den qaa)) (c_2 : ByteArray) (c_3 : List (Den I)) (c_4 : Int) (c_5 : List (Den I)) (c_6 : Int) (c_7 : Int) (c_8 : List (Den qac)) : Cfg := hcfg E_V40 qcj 0 [(5, (.ref 0 0)), (26, (.tv (.sl 136 qac) t26)), (27, (vi t27)), (28, (vi t28))] [(0, ⟨(.cells [(.tv (.sl 64 qai) c_0), (.tv (.sl 96 qaa) c_1), (vs c_2), (.tv (.sl 8 I) c_3), (vi c_4), (.tv (.sl 8 I) c_5), (vi c_6), (vi c_7), (.tv (.sl 136 qac) c_8)]), 0, [], false, none⟩)] 1
noncomputable def qic (t26 : List (Den qac)) (t27 : Int) (t28 : Int) (t37 : List (Den qad)) (t38 : Int) (t39 : Int) (c_0 : List (Den qai)) (c_1 : List (Den qaa)) (c_2 : ByteArray) (c_3 : List (Den I)) (c_4 : Int) (c_5 : List (Den I)) (c_6 : Int) (c_7 : Int) (c_8 : List (Den qac)) (b_0 : List (Den I)) (b_1 : List (Den qad)) (b_2 : Int) (b_3 : List (Den I)) (b_4 : List (Den I)) (b_5 : List (Den qae)) (b_6 : Int) : Cfg := hcfg E_V40 qcj 2 [(5, (.ref 0 0)), (8, (.ref 1 0)), (26, (.tv (.sl 136 qac) t26)), (27, (vi t27)), (28, (vi t28)), (37, (.tv (.sl 80 qad) t37)), (38, (vi t38)), (39, (vi t39))] [(0, ⟨(.cells [(.tv (.sl 64 qai) c_0), (.tv (.sl 96 qaa) c_1), (vs c_2), (.tv (.sl 8 I) c_3), (vi c_4), (.tv (.sl 8 I) c_5), (vi c_6), (vi c_7), (.tv (.sl 136 qac) c_8)]), 0, [], false, none⟩), (1, ⟨(.cells [(.tv (.sl 8 I) b_0), (.tv (.sl 80 qad) b_1), (vi b_2), (.tv (.sl 8 I) b_3), (.tv (.sl 8 I) b_4), (.tv (.sl 32 qae) b_5), (vi b_6)]), 1, [], false, none⟩)] 2
theorem machine_Check_t (m : Den qab) (f : Den qag) : run E_V40 H_V40 qcj 3000 (start E_V40 qcj [(.tv qab m), (.tv qag f)]) = (.chk (True) (.know (okD qak (qhn m)) (cond ((z ((qhn m).1)) != (0 : Int)) (rt (vi (2 : Int)) []) (.chk (True) (.know (okD (.int .i64) (hdC (m, f, ()))) (cond ((hdC (m, f, ())) != (0 : Int)) (rt (vi (hdC (m, f, ()))) []) (hd (qez f.2.2.2.2.2.2.1 ((ln qac f.2.2.2.2.2.2.1) : Int) (0 : Int) m.1 m.2.1 (tOf f.1) f.2.1 (z f.2.2.1) f.2.2.2.1 (z f.2.2.2.2.1) (z f.2.2.2.2.2.1) f.2.2.2.2.2.2.1)))))))) := by kernel_rfl
theorem machine_Check_L0_t (t26 : List (Den qac)) (t27 : Int) (t28 : Int) (c_0 : List (Den qai)) (c_1 : List (Den qaa)) (c_2 : ByteArray) (c_3 : List (Den I)) (c_4 : Int) (c_5 : List (Den I)) (c_6 : Int) (c_7 : Int) (c_8 : List (Den qac)) : run E_V40 H_V40 qcj 3000 (qez t26 t27 t28 c_0 c_1 c_2 c_3 c_4 c_5 c_6 c_7 c_8) = (cond (decide (t28 < t27)) (.chk (0 ≤ t28 ∧ t28 < (ln qac t26)) (cond (decide (((ln I ((gd qac t26 t28.toNat).1)) : Int) > (0 : Int))) (rt (vi (3 : Int)) []) (hd (qic t26 t27 t28 ((gd qac t26 t28.toNat).2.1) ((ln qad ((gd qac t26 t28.toNat).2.1)) : Int) (0 : Int) c_0 c_1 c_2 c_3 c_4 c_5 c_6 c_7 c_8 ((gd qac t26 t28.toNat).1) ((gd qac t26 t28.toNat).2.1) (z ((gd qac t26 t28.toNat).2.2.1.1)) ((gd qac t26 t28.toNat).2.2.1.2.1) ((gd qac t26 t28.toNat).2.2.1.2.2.1) ((gd qac t26 t28.toNat).2.2.1.2.2.2.1) (z ((gd qac t26 t28.toNat).2.2.1.2.2.2.2.1)))))) (rt (vi (0 : Int)) [])) := by kernel_rfl
theorem machine_Check_L2_t (t26 : List (Den qac)) (t27 : Int) (t28 : Int) (t37 : List (Den qad)) (t38 : Int) (t39 : Int) (c_0 : List (Den qai)) (c_1 : List (Den qaa)) (c_2 : ByteArray) (c_3 : List (Den I)) (c_4 : Int) (c_5 : List (Den I)) (c_6 : Int) (c_7 : Int) (c_8 : List (Den qac)) (b_0 : List (Den I)) (b_1 : List (Den qad)) (b_2 : Int) (b_3 : List (Den I)) (b_4 : List (Den I)) (b_5 : List (Den qae)) (b_6 : Int) : run E_V40 H_V40 qcj 3000 (qic t26 t27 t28 t37 t38 t39 c_0 c_1 c_2 c_3 c_4 c_5 c_6 c_7 c_8 b_0 b_1 b_2 b_3 b_4 b_5 b_6) = (cond (decide (t39 < t38)) (.chk (0 ≤ t39 ∧ t39 < (ln qad t37)) (.chk (True) (.know (okD (.int .i64) (insC ((c_0, c_1, ()), (c_2, c_3, c_4, c_5, c_6, c_7, c_8, ()), ()) (gd qad t37 t39.toNat))) (cond ((insC ((c_0, c_1, ()), (c_2, c_3, c_4, c_5, c_6, c_7, c_8, ()), ()) (gd qad t37 t39.toNat)) != (0 : Int)) (rt (vi (insC ((c_0, c_1, ()), (c_2, c_3, c_4, c_5, c_6, c_7, c_8, ()), ()) (gd qad t37 t39.toNat))) []) (hd (qic t26 t27 t28 t37 t38 (IntKind.wrap .i64 (t39 + (1 : Int))) c_0 c_1 c_2 c_3 c_4 c_5 c_6 c_7 c_8 b_0 b_1 b_2 b_3 b_4 b_5 b_6)))))) (.chk (okSg ((c_0, c_1, ()), (c_2, c_3, c_4, c_5, c_6, c_7, c_8, ()), ()).1) (.know (okD (.int .i64) (tmEc ((c_0, c_1, ()), (c_2, c_3, c_4, c_5, c_6, c_7, c_8, ()), ()) (b_2, b_3, b_4, b_5, b_6, ()))) (cond ((tmEc ((c_0, c_1, ()), (c_2, c_3, c_4, c_5, c_6, c_7, c_8, ()), ()) (b_2, b_3, b_4, b_5, b_6, ())) != (0 : Int)) (rt (vi (tmEc ((c_0, c_1, ()), (c_2, c_3, c_4, c_5, c_6, c_7, c_8, ()), ()) (b_2, b_3, b_4, b_5, b_6, ()))) []) (hd (qez t26 t27 (IntKind.wrap .i64 (t28 + (1 : Int))) c_0 c_1 c_2 c_3 c_4 c_5 c_6 c_7 c_8)))))) := by kernel_rfl
noncomputable def r50_Check_L0 (m : Den qab) (f : Den qag) (t22 : List (Den qac)) (t23 : Int) (t24 : Int) : Cfg := hcfg E_V40 qet 0 [(2, (.rtp qab m)), (3, (.rtp qag f)), (22, (.tv (.sl 136 qac) t22)), (23, (vi t23)), (24, (vi t24))] [] 0
noncomputable def r50_Check_L2 (m : Den qab) (f : Den qag) (t22 : List (Den qac)) (t23 : Int) (t24 : Int) (t33 : List (Den qad)) (t34 : Int) (t35 : Int) (b_0 : List (Den I)) (b_1 : List (Den qad)) (b_2 : Int) (b_3 : List (Den I)) (b_4 : List (Den I)) (b_5 : List (Den qae)) (b_6 : Int) : Cfg := hcfg E_V40 qet 2 [(2, (.rtp qab m)), (3, (.rtp qag f)), (7, (.ref 0 0)), (22, (.tv (.sl 136 qac) t22)), (23, (vi t23)), (24, (vi t24)), (33, (.tv (.sl 80 qad) t33)), (34, (vi t34)), (35, (vi t35))] [(0, ⟨(.cells [(.tv (.sl 8 I) b_0), (.tv (.sl 80 qad) b_1), (vi b_2), (.tv (.sl 8 I) b_3), (.tv (.sl 8 I) b_4), (.tv (.sl 32 qae) b_5), (vi b_6)]), 0, [], false, none⟩)] 1
theorem r50_Check_t (m : Den qab) (f : Den qag) : run E_V40 H_V40 qet 3000 (start E_V40 qet [(.tv qab m), (.tv qag f)]) = (.chk (True) (.know (okD qak (qhn m)) (cond ((z ((qhn m).1)) != (0 : Int)) (rt (vi (2 : Int)) []) (.chk (True) (.know (okD (.int .i64) (hdM f)) (cond ((hdM f) != (0 : Int)) (rt (vi (hdM f)) []) (hd (r50_Check_L0 m f f.2.2.2.2.2.2.1 ((ln qac f.2.2.2.2.2.2.1) : Int) (0 : Int))))))))) := by kernel_rfl
theorem r50_Check_L0_t (m : Den qab) (f : Den qag) (t22 : List (Den qac)) (t23 : Int) (t24 : Int) : run E_V40 H_V40 qet 3000 (r50_Check_L0 m f t22 t23 t24) = (cond (decide (t24 < t23)) (.chk (0 ≤ t24 ∧ t24 < (ln qac t22)) (cond (decide (((ln I ((gd qac t22 t24.toNat).1)) : Int) > (0 : Int))) (rt (vi (3 : Int)) []) (hd (r50_Check_L2 m f t22 t23 t24 ((gd qac t22 t24.toNat).2.1) ((ln qad ((gd qac t22 t24.toNat).2.1)) : Int) (0 : Int) ((gd qac t22 t24.toNat).1) ((gd qac t22 t24.toNat).2.1) (z ((gd qac t22 t24.toNat).2.2.1.1)) ((gd qac t22 t24.toNat).2.2.1.2.1) ((gd qac t22 t24.toNat).2.2.1.2.2.1) ((gd qac t22 t24.toNat).2.2.1.2.2.2.1) (z ((gd qac t22 t24.toNat).2.2.1.2.2.2.2.1)))))) (rt (vi (0 : Int)) [])) := by kernel_rfl
theorem r50_Check_L2_t (m : Den qab) (f : Den qag) (t22 : List (Den qac)) (t23 : Int) (t24 : Int) (t33 : List (Den qad)) (t34 : Int) (t35 : Int) (b_0 : List (Den I)) (b_1 : List (Den qad)) (b_2 : Int) (b_3 : List (Den I)) (b_4 : List (Den I)) (b_5 : List (Den qae)) (b_6 : Int) : run E_V40 H_V40 qet 3000 (r50_Check_L2 m f t22 t23 t24 t33 t34 t35 b_0 b_1 b_2 b_3 b_4 b_5 b_6) = (cond (decide (t35 < t34)) (.chk (0 ≤ t35 ∧ t35 < (ln qad t33)) (.chk (True) (.know (okD (.int .i64) (insR m f (gd qad t33 t35.toNat))) (cond ((insR m f (gd qad t33 t35.toNat)) != (0 : Int)) (rt (vi (insR m f (gd qad t33 t35.toNat))) []) (hd (r50_Check_L2 m f t22 t23 t24 t33 t34 (IntKind.wrap .i64 (t35 + (1 : Int))) b_0 b_1 b_2 b_3 b_4 b_5 b_6)))))) (.chk (okSg m) (.know (okD (.int .i64) (tmE m f (b_2, b_3, b_4, b_5, b_6, ()))) (cond ((tmE m f (b_2, b_3, b_4, b_5, b_6, ())) != (0 : Int)) (rt (vi (tmE m f (b_2, b_3, b_4, b_5, b_6, ()))) []) (hd (r50_Check_L0 m f t22 t23 (IntKind.wrap .i64 (t24 + (1 : Int))))))))) := by kernel_rfl
def mbJ (m : Md) (f : MFn) (l : List Ins) (k : Nat) : Int := insR m f (gd qad l k)
def mbK (m : Md) (f : MFn) (b : Blk) : Int := cond (decide ((ln I b.1 : Int) > (0 : Int))) 3 (orE (qao (mbJ m f b.2.1) (ln qad b.2.1) 0) (tmE m f b.2.2.1))
def mbI (m : Md) (f : MFn) (i : Nat) : Int := mbK m f (gd qac f.2.2.2.2.2.2.1 i)
def mchF (m : Md) (f : MFn) : Int := cond (z (qhn m).1 != (0 : Int)) 2 (orE (hdM f) (qao (mbI m f) (ln qac f.2.2.2.2.2.2.1) 0))
theorem nz {e : Int} (h : (e != 0) = false) : e = 0 := by simpa using h
theorem orE_assoc (a b c : Int) : orE (orE a b) c = orE a (orE b c) := by
 unfold orE
 cases h : a == 0
 ·rw [cond_false, h]; rfl
 ·rfl
theorem firstE_or {D : Nat → Int} {n i : Nat} : qao D (n + 1) i = orE (D i) (qao D n (i + 1)) := rfl
theorem orD_ok {a b : Dg} (h : errB (orD a b) = false) : errB a = false ∧ errB b = false := by
 unfold orD at h
 cases ha : errB a <;> rw [ha] at h
 ·exact ⟨rfl, h⟩
 ·exact absurd (show errB a = false from h) (by rw [ha]; decide)
theorem firstD_ok {D : Nat → Dg} : ∀ {n i : Nat}, errB (qcm D n i) = false → ∀ j, i ≤ j → j < i + n → errB (D j) = false
 | 0, i, _, j, h1, h2 => by omega
 | n + 1, i, h, j, h1, h2 => by
  obtain ⟨h3, h4⟩ := orD_ok (a := D i) h
  rcases Nat.eq_or_lt_of_le h1 with rfl | h5
  ·exact h3
  ·exact firstD_ok h4 j h5 (by omega)
theorem firstE_ok {D : Nat → Int} : ∀ {n i : Nat}, qao D n i = 0 → ∀ j, i ≤ j → j < i + n → D j = 0
 | 0, i, _, j, h1, h2 => by omega
 | n + 1, i, h, j, h1, h2 => by
  unfold qao at h
  cases h3 : D i == 0 <;> rw [h3] at h
  ·have h4 : D i = 0 := h
   rw [h4] at h3
   exact absurd h3 (by decide)
  ·rcases Nat.eq_or_lt_of_le h1 with rfl | h5
   ·exact eq_of_beq h3
   ·exact firstE_ok h j h5 (by omega)
theorem orE_ok {a b : Int} (h : orE a b = 0) : a = 0 ∧ b = 0 := by
 unfold orE at h
 cases h1 : a == 0 <;> rw [h1] at h
 ·have h2 : a = 0 := h
  rw [h2] at h1
  exact absurd h1 (by decide)
 ·exact ⟨eq_of_beq h1, h⟩
theorem cond_z {b : Bool} {k e : Int} (hk : k ≠ 0) (h : cond b k e = 0) : b = false ∧ e = 0 := by
 cases b
 ·exact ⟨rfl, h⟩
 ·exact absurd h hk
theorem mod_ok {m : Md} (h : (z (qhn m).1 != (0 : Int)) = false) : errB (modD m) = false := by
 unfold qhn at h
 cases h1 : errB (modD m)
 ·rfl
 ·rw [h1] at h
  have h2 : (z (modD m).1 != (0 : Int)) = false := h
  rw [← h1]
  exact h2
theorem sg_ok {m : Md} (h : errB (modD m) = false) : okSg m := by
 have h1 := (orD_ok (orD_ok h).2).1
 unfold sigD at h1
 intro j hj i hi
 cases hc : !(decide ((ln qaa m.2.1 : Int) ≤ 32)) <;> rw [hc] at h1
 ·have h2 := firstD_ok h1 j (Nat.zero_le _) (by omega)
  have h3 : sigI m.2.1 j = 0 := by
   have : (!(sigI m.2.1 j == 0)) = false := h2
   simpa using this
  have h4 := (cond_z (k := 7) (by decide) (cond_z (k := 6) (by decide) h3).2).2
  have h5 : sigU (gd qaa m.2.1 j) = 0 := by
   unfold sigT at h4
   cases hr : z (gd qaa m.2.1 j).2.2.1 == (0 : Int) <;> rw [hr] at h4
   ·exact (cond_z (k := 9) (by decide) h4).2
   ·exact h4
  have h6 : sigV (gd qaa m.2.1 j) = 0 := by
   unfold sigU at h5
   cases hr : decide ((ln I (gd qaa m.2.1 j).2.1 : Int) ≤ (6 : Int)) <;> rw [hr] at h5
   ·exact absurd h5 (show ¬ (11 : Int) = 0 by decide)
   ·exact (cond_z (k := 11) (by decide) h5).2
  have h7 := firstE_ok (orE_ok h6).2 i (Nat.zero_le _) (by omega)
  have h8 := (cond_z (k := 10) (by decide) h7).1
  have h9 : regP (gd qaa m.2.1 j) (gd I (gd qaa m.2.1 j).2.1 i) = true := by simpa using h8
  exact qfx h9
 ·exact Bool.noConfusion (show (true : Bool) = false from h1)
theorem machine_Check_l2 (m : Md) (f : MFn) (b : Blk) (i : Nat) (e : Int) (hf : okD qag f) (hb : okD qac b) (hm : okSg m) (hi : i < ln qac f.2.2.2.2.2.2.1)
  (ih : RunI E_V40 (qez f.2.2.2.2.2.2.1 (ln qac f.2.2.2.2.2.2.1 : Nat) (i + 1 : Nat) m.1 m.2.1 (tOf f.1) f.2.1 (z f.2.2.1) f.2.2.2.1 (z f.2.2.2.2.1) (z f.2.2.2.2.2.1) f.2.2.2.2.2.2.1) e) : ∀ k, k ≤ ln qad b.2.1 → RunI E_V40 (qic f.2.2.2.2.2.2.1 (ln qac f.2.2.2.2.2.2.1 : Nat) i b.2.1 (ln qad b.2.1 : Nat) k m.1 m.2.1 (tOf f.1) f.2.1 (z f.2.2.1) f.2.2.2.1 (z f.2.2.2.2.1) (z f.2.2.2.2.2.1) f.2.2.2.2.2.2.1 b.1 b.2.1 (z b.2.2.1.1) b.2.2.1.2.1 b.2.2.1.2.2.1 b.2.2.1.2.2.2.1 (z b.2.2.1.2.2.2.2.1)) (orE (qao (mbJ m f b.2.1) (ln qad b.2.1 - k) k) (orE (tmE m f b.2.2.1) e)) :=
 qay (.tree E_V40_ok (machine_Check_L2_t ..) (by
  rw [Nat.sub_self, qao, show orE 0 (orE (tmE m f b.2.2.1) e) = orE (tmE m f b.2.2.1) e from rfl]
  simp only [sS, sL,  Nat.lt_irrefl, wrapS hi (qar hf.2.2.2.2.2.2.1.1)]
  exact ⟨hm, fun _ _ => ⟨fun h => .of (orE_hit5 h), fun h => RunI.eq ih (orE_miss5 h)⟩⟩))
  fun k hk ihk => .tree E_V40_ok (machine_Check_L2_t ..) (by
   rw [sub1 hk]
   simp only [sS, sL,  hk, wrapS hk (qar hb.2.1.1)]
   exact fun _ => ⟨fun h => .oe (e := mbJ m f b.2.1) rfl (by simpa [bne] using h), fun h => RunI.oe (e := mbJ m f b.2.1) ihk (nz h)⟩)
theorem machine_Check_l0 (m : Md) (f : MFn) (hf : okD qag f) (hm : okSg m) : ∀ i, i ≤ ln qac f.2.2.2.2.2.2.1 → RunI E_V40 (qez f.2.2.2.2.2.2.1 (ln qac f.2.2.2.2.2.2.1 : Nat) i m.1 m.2.1 (tOf f.1) f.2.1 (z f.2.2.1) f.2.2.2.1 (z f.2.2.2.2.1) (z f.2.2.2.2.2.1) f.2.2.2.2.2.2.1) (qao (mbI m f) (ln qac f.2.2.2.2.2.2.1 - i) i) :=
 qay (.tree E_V40_ok (machine_Check_L0_t ..) (by
  rw [Nat.sub_self, qao]
  simp only [sS, sL,  Nat.lt_irrefl]
  exact ⟨rfl, rfl⟩))
  fun i hi ih => .tree E_V40_ok (machine_Check_L0_t ..) (by
   have hb := ok_gd hf.2.2.2.2.2.2.1 hi
   have go := machine_Check_l2 m f (gd qac f.2.2.2.2.2.2.1 i) i _ hf hb hm hi ih 0 (Nat.zero_le _)
   rw [sub1 hi]
   simp only [sS, sL,  hi]
   refine ⟨fun h => .fe (x := 3) (Bool.cond_pos h) rfl, fun h => RunI.eq go ?_⟩
   rw [firstE_or, show mbI m f i = _ from Bool.cond_neg h, orE_assoc]
   rfl)
def k_machine_Check : Con := con [.d qab, .d qag] I (fun x => True) fun x => mchF x.1 x.2.1
theorem m_machine_Check (m : Den qab) (f : Den qag) (h_m : okD qab m) (h_f : okD qag f) (hp : True) : Runs E_V40 (start E_V40 qcj [(.tv qab m), (.tv qag f)]) (fun r_ h_ => r_ = (vi (mchF m f)) ∧ h_ = []) := .tree E_V40_ok (machine_Check_t m f) (by
 show Tre.wp (contL _ (IsI (mchF m f))) _
 simp only [sS, implies_true]
 refine fun _ => ⟨fun h => .of (Bool.cond_pos h), fun h => ?_⟩
 have hm := sg_ok (mod_ok h)
 have hE : mchF m f = orE (hdM f) (qao (mbI m f) (ln qac f.2.2.2.2.2.2.1) 0) := Bool.cond_neg h
 rw [hE]
 exact fun _ => ⟨fun h1 => .of (orE_hit5 h1), fun h1 => (machine_Check_l0 m f h_f hm 0 (Nat.zero_le _)).eq (orE_miss5 h1)⟩)
theorem c_machine_Check : qal E_V40 qcj k_machine_Check.spec := qan fun x hx hp => ⟨rfl, m_machine_Check x.1 x.2.1 hx.1 hx.2.1 hp⟩
theorem r50_Check_l2 (m : Md) (f : MFn) (b : Blk) (i : Nat) (e : Int) (hf : okD qag f) (hb : okD qac b) (hm : okSg m) (hi : i < ln qac f.2.2.2.2.2.2.1)
  (ih : RunI E_V40 (r50_Check_L0 m f f.2.2.2.2.2.2.1 (ln qac f.2.2.2.2.2.2.1 : Nat) (i + 1 : Nat)) e) : ∀ k, k ≤ ln qad b.2.1 → RunI E_V40 (r50_Check_L2 m f f.2.2.2.2.2.2.1 (ln qac f.2.2.2.2.2.2.1 : Nat) i b.2.1 (ln qad b.2.1 : Nat) k b.1 b.2.1 (z b.2.2.1.1) b.2.2.1.2.1 b.2.2.1.2.2.1 b.2.2.1.2.2.2.1 (z b.2.2.1.2.2.2.2.1)) (orE (qao (mbJ m f b.2.1) (ln qad b.2.1 - k) k) (orE (tmE m f b.2.2.1) e)) :=
 qay (.tree E_V40_ok (r50_Check_L2_t ..) (by
  rw [Nat.sub_self, qao, show orE 0 (orE (tmE m f b.2.2.1) e) = orE (tmE m f b.2.2.1) e from rfl]
  simp only [sS, sL,  Nat.lt_irrefl, wrapS hi (qar hf.2.2.2.2.2.2.1.1)]
  exact ⟨hm, fun _ _ => ⟨fun h => .of (orE_hit5 h), fun h => RunI.eq ih (orE_miss5 h)⟩⟩))
  fun k hk ihk => .tree E_V40_ok (r50_Check_L2_t ..) (by
   rw [sub1 hk]
   simp only [sS, sL,  hk, wrapS hk (qar hb.2.1.1)]
   exact fun _ => ⟨fun h => .oe (e := mbJ m f b.2.1) rfl (by simpa [bne] using h), fun h => RunI.oe (e := mbJ m f b.2.1) ihk (nz h)⟩)
theorem r50_Check_l0 (m : Md) (f : MFn) (hf : okD qag f) (hm : okSg m) : ∀ i, i ≤ ln qac f.2.2.2.2.2.2.1 → RunI E_V40 (r50_Check_L0 m f f.2.2.2.2.2.2.1 (ln qac f.2.2.2.2.2.2.1 : Nat) i) (qao (mbI m f) (ln qac f.2.2.2.2.2.2.1 - i) i) :=
 qay (.tree E_V40_ok (r50_Check_L0_t ..) (by
  rw [Nat.sub_self, qao]
  simp only [sS, sL,  Nat.lt_irrefl]
  exact ⟨rfl, rfl⟩))
  fun i hi ih => .tree E_V40_ok (r50_Check_L0_t ..) (by
   have hb := ok_gd hf.2.2.2.2.2.2.1 hi
   have go := r50_Check_l2 m f (gd qac f.2.2.2.2.2.2.1 i) i _ hf hb hm hi ih 0 (Nat.zero_le _)
   rw [sub1 hi]
   simp only [sS, sL,  hi]
   refine ⟨fun h => .fe (x := 3) (Bool.cond_pos h) rfl, fun h => RunI.eq go ?_⟩
   rw [firstE_or, show mbI m f i = _ from Bool.cond_neg h, orE_assoc]
   rfl)
def k_r50_Check : Con := con [.d qab, .d qag] I (fun x => True) fun x => mchF x.1 x.2.1
theorem m_r50_Check (m : Den qab) (f : Den qag) (h_m : okD qab m) (h_f : okD qag f) (hp : True) : Runs E_V40 (start E_V40 qet [(.tv qab m), (.tv qag f)]) (fun r_ h_ => r_ = (vi (mchF m f)) ∧ h_ = []) := .tree E_V40_ok (r50_Check_t m f) (by
 show Tre.wp (contL _ (IsI (mchF m f))) _
 simp only [sS, implies_true]
 refine fun _ => ⟨fun h => .of (Bool.cond_pos h), fun h => ?_⟩
 have hm := sg_ok (mod_ok h)
 have hE : mchF m f = orE (hdM f) (qao (mbI m f) (ln qac f.2.2.2.2.2.2.1) 0) := Bool.cond_neg h
 rw [hE]
 exact fun _ => ⟨fun h1 => .of (orE_hit5 h1), fun h1 => (r50_Check_l0 m f h_f hm 0 (Nat.zero_le _)).eq (orE_miss5 h1)⟩)
theorem c_r50_Check : qal E_V40 qet k_r50_Check.spec := qan fun x hx hp => ⟨rfl, m_r50_Check x.1 x.2.1 hx.1 hx.2.1 hp⟩
def L_V40 : List (FuncId × FSpec) := [(qcj, k_machine_Check.spec), (qet, k_r50_Check.spec)] ++ L_V39
theorem L_V40_ok : ∀ x ∈ L_V40, qal (ctx []) x.1 x.2 := by
 unfold L_V40
 simp only [List.cons_append, List.nil_append, List.forall_mem_cons]
 exact ⟨c_machine_Check, c_r50_Check, L_V39_ok⟩
end Burn.MC
namespace Burn.MC
open Go Go.BE Go.Proofs
set_option maxRecDepth 100000
set_option linter.unusedVariables false
set_option linter.unusedSimpArgs false
open Burn.Intn Burn.Ref
def mrg_V41 : FuncId → List Nat
 | 15 => [13]
 | _ => []
noncomputable abbrev E_V41 : Ctx := { ctx L_V40 with mrg := mrg_V41 }
theorem E_V41_ok : EOK E_V41 := have h : EOK (ctx L_V40) := qbo L_V40_ok; ⟨h.ty, h.env, h.fns, h.mixed⟩
def cuts_V41 : CutL := [([], 26, 0, [0, 1, 5, 6], [], [])]
def rets_V41 : FuncId → List (Option Fx)
 | 26 => [some (.dat (.arr 42 I))]
 | _ => []
def H_V41 : Hints := { cut := cutOf cuts_V41, ret := rets_V41 }
noncomputable def qdy (t5 : Den (.arr 42 I)) (t6 : Int) (t0 : Den (.arr 42 I)) (slow : Den (.arr 42 I)) : Cfg := hcfg E_V41 qcc 0 [(0, (.tref 0 0 [] (0 : Nat) [])), (1, (.tref 1 1 [] (0 : Nat) [])), (5, (.tv (.arr 42 I) t5)), (6, (vi t6))] [(0, ⟨(.arr 0 336 (.arr 42 I) ([t0] : List (Den (.arr 42 I)))), 0, [], false, none⟩), (1, ⟨(.arr 0 336 (.arr 42 I) ([slow] : List (Den (.arr 42 I)))), 1, [], false, none⟩)] 2
theorem machine_latencies_t : run E_V41 H_V41 qcc 3000 (start E_V41 qcc []) = (.chk ((0 : Nat) < (1 : Nat)) (.chk ((0 : Nat) < (1 : Nat)) (hd (qdy ((0 : Int), ((0 : Int), ((0 : Int), ((0 : Int), ((0 : Int), ((0 : Int), ((0 : Int), ((3 : Int), ((0 : Int), ((0 : Int), ((0 : Int), ((0 : Int), ((0 : Int), ((0 : Int), ((8 : Int), ((8 : Int), ((0 : Int), ((0 : Int), ((0 : Int), ((0 : Int), ((0 : Int), ((0 : Int), ((0 : Int), ((0 : Int), ((0 : Int), ((0 : Int), ((0 : Int), ((0 : Int), ((3 : Int), ((0 : Int), ((5 : Int), ((0 : Int), ((0 : Int), ((0 : Int), ((0 : Int), ((0 : Int), ((0 : Int), ((0 : Int), ((0 : Int), ((0 : Int), ((0 : Int), ((3 : Int), ())))))))))))))))))))))))))))))))))))))))))) (0 : Int) ((0 : Int), ((0 : Int), ((0 : Int), ((0 : Int), ((0 : Int), ((0 : Int), ((0 : Int), ((0 : Int), ((0 : Int), ((0 : Int), ((0 : Int), ((0 : Int), ((0 : Int), ((0 : Int), ((0 : Int), ((0 : Int), ((0 : Int), ((0 : Int), ((0 : Int), ((0 : Int), ((0 : Int), ((0 : Int), ((0 : Int), ((0 : Int), ((0 : Int), ((0 : Int), ((0 : Int), ((0 : Int), ((0 : Int), ((0 : Int), ((0 : Int), ((0 : Int), ((0 : Int), ((0 : Int), ((0 : Int), ((0 : Int), ((0 : Int), ((0 : Int), ((0 : Int), ((0 : Int), ((0 : Int), ((0 : Int), ())))))))))))))))))))))))))))))))))))))))))) ((0 : Int), ((0 : Int), ((0 : Int), ((0 : Int), ((0 : Int), ((0 : Int), ((0 : Int), ((3 : Int), ((0 : Int), ((0 : Int), ((0 : Int), ((0 : Int), ((0 : Int), ((0 : Int), ((8 : Int), ((8 : Int), ((0 : Int), ((0 : Int), ((0 : Int), ((0 : Int), ((0 : Int), ((0 : Int), ((0 : Int), ((0 : Int), ((0 : Int), ((0 : Int), ((0 : Int), ((0 : Int), ((3 : Int), ((0 : Int), ((5 : Int), ((0 : Int), ((0 : Int), ((0 : Int), ((0 : Int), ((0 : Int), ((0 : Int), ((0 : Int), ((0 : Int), ((0 : Int), ((0 : Int), ((3 : Int), ())))))))))))))))))))))))))))))))))))))))))))))) := by kernel_rfl
theorem machine_latencies_L0_t (t5 : Den (.arr 42 I)) (t6 : Int) (t0 : Den (.arr 42 I)) (slow : Den (.arr 42 I)) : run E_V41 H_V41 qcc 3000 (qdy t5 t6 t0 slow) = (cond (decide (t6 < (42 : Int))) (.chk (0 ≤ t6 ∧ t6 < (42 : Nat)) (.chk (0 ≤ t6 ∧ t6 < (42 : Nat)) (.chk ((0 : Nat) < (1 : Nat)) (.chk (t6.toNat < 42) (hd (qdy t5 (IntKind.wrap .i64 (t6 + (1 : Int))) t0 (vset 42 slow t6.toNat (if (1 : Int) > (z (vget (dz I) 42 t5 t6.toNat)) then (1 : Int) else (z (vget (dz I) 42 t5 t6.toNat)))))))))) (.chk ((0 : Nat) < (1 : Nat)) (.chk ((0 : Nat) < (1 : Nat)) (.chk ((0 : Nat) < (1 : Nat)) (rt (.tv (.arr 42 I) slow) []))))) := by kernel_rfl
theorem machine_Latency_t (x : Den qap) (op : Int) : run E_V41 H_V41 qep 3000 (start E_V41 qep [(.tv qap x), (vi op)]) = (cond (cond (decide (op < (0 : Int))) true (decide (op ≥ ((ln I x.2.2.1) : Int)))) (rt (vi (1 : Int)) []) (.chk (0 ≤ op ∧ op < (ln I x.2.2.1)) (rt (vi (z (gd I x.2.2.1 op.toNat))) []))) := by kernel_rfl
def slowA : Den (.arr 42 I) := ((0 : Int), ((0 : Int), ((0 : Int), ((0 : Int), ((0 : Int), ((0 : Int), ((0 : Int), ((3 : Int), ((0 : Int), ((0 : Int), ((0 : Int), ((0 : Int), ((0 : Int), ((0 : Int), ((8 : Int), ((8 : Int), ((0 : Int), ((0 : Int), ((0 : Int), ((0 : Int), ((0 : Int), ((0 : Int), ((0 : Int), ((0 : Int), ((0 : Int), ((0 : Int), ((0 : Int), ((0 : Int), ((3 : Int), ((0 : Int), ((5 : Int), ((0 : Int), ((0 : Int), ((0 : Int), ((0 : Int), ((0 : Int), ((0 : Int), ((0 : Int), ((0 : Int), ((0 : Int), ((0 : Int), ((3 : Int), ()))))))))))))))))))))))))))))))))))))))))))
def latA : Den (.arr 42 I) := ((1 : Int), ((1 : Int), ((1 : Int), ((1 : Int), ((1 : Int), ((1 : Int), ((1 : Int), ((3 : Int), ((1 : Int), ((1 : Int), ((1 : Int), ((1 : Int), ((1 : Int), ((1 : Int), ((8 : Int), ((8 : Int), ((1 : Int), ((1 : Int), ((1 : Int), ((1 : Int), ((1 : Int), ((1 : Int), ((1 : Int), ((1 : Int), ((1 : Int), ((1 : Int), ((1 : Int), ((1 : Int), ((3 : Int), ((1 : Int), ((5 : Int), ((1 : Int), ((1 : Int), ((1 : Int), ((1 : Int), ((1 : Int), ((1 : Int), ((1 : Int), ((1 : Int), ((1 : Int), ((1 : Int), ((3 : Int), ()))))))))))))))))))))))))))))))))))))))))))
def latS : Nat → Nat → Den (.arr 42 I) → Den (.arr 42 I)
 | 0, _, s => s
 | n + 1, i, s => latS n (i + 1) (vset 42 s i (if (1 : Int) > z (vget (dz I) 42 slowA i) then (1 : Int) else z (vget (dz I) 42 slowA i)))
theorem machine_latencies_l (t0 : Den (.arr 42 I)) : ∀ i : Nat, i ≤ (42 : Nat) → ∀ s, Runs E_V41 (qdy slowA i t0 s) (fun r h => r = .tv (.arr 42 I) (latS (42 - i) i s) ∧ h = []) :=
 qay (fun s => .tree E_V41_ok (machine_latencies_L0_t ..) (by
  rw [Nat.sub_self, latS]
  simp only [sS, sL,  Nat.lt_irrefl]
  exact fun h => absurd h (by decide)))
  fun i hi ih s => .tree E_V41_ok (machine_latencies_L0_t ..) (by
   rw [sub1 hi, latS]
   simp only [sS, sL,  hi, wrapS hi (show (42 : Nat) < 9223372036854775807 by decide)]
   exact ⟨fun _ => ih _, fun h => absurd (of_decide_eq_false h) (by omega)⟩)
def k_machine_latencies : Con := con [] (.arr 42 I) (fun x => True) fun x => latA
theorem m_machine_latencies (hp : True) : Runs E_V41 (start E_V41 qcc []) (fun r_ h_ => r_ = (.tv (.arr 42 I) (latA)) ∧ h_ = []) := .tree E_V41_ok (machine_latencies_t) (by
 simp only [sS, implies_true]
 exact (machine_latencies_l _ 0 (Nat.zero_le _) slowA))
theorem c_machine_latencies : qal E_V41 qcc k_machine_latencies.spec := qan fun x hx hp => ⟨rfl, m_machine_latencies hp⟩
def latL : List Int := [1, 1, 1, 1, 1, 1, 1, 3, 1, 1, 1, 1, 1, 1, 8, 8, 1, 1, 1, 1, 1, 1, 1, 1, 1, 1, 1, 1, 3, 1, 5, 1, 1, 1, 1, 1, 1, 1, 1, 1, 1, 3]
def defF : Den qap := ((2 : Int), (16 : Int), latL, ())
def okM (x : Den qap) : Bool := cond (cond (witP x.1 1 8) (witP x.2.1 8 64) false) (decide ((ln I x.2.2.1 : Int) ≤ (64 : Int))) false
def latOK : List (Den I) → Bool
 | [] => true
 | y :: l => cond (witP (z y) 1 100) (latOK l) false
def valF (x : Den qap) : Bool := cond (latOK x.2.2.1) (okM x) false
def latcF (x : Den qap) (op : Int) : Int := (cond (cond (decide (op < (0 : Int))) true (decide (op ≥ ((ln I x.2.2.1) : Int)))) (1 : Int) (z (gd I x.2.2.1 op.toNat)))

def k_machine_Latency : Con := con [.d qap, .d I] I (fun x => True) fun x => latcF x.1 x.2.1
theorem m_machine_Latency (x : Den qap) (op : Int) (h_x : okD qap x) (h_op : okD I op) (hp : True) : Runs E_V41 (start E_V41 qep [(.tv qap x), (vi op)]) (fun r_ h_ => r_ = (vi (latcF x op)) ∧ h_ = []) := .tree E_V41_ok (machine_Latency_t x op) (by
 show Tre.wp (Qv _ (fun x_ => (vi x_)) (latcF x op)) _
 unfold latcF
 refine qaf (fun h1 => ⟨rfl, rfl⟩) (fun h1 => ?_)
 refine ⟨by first | omega | assumption | exact hp.1 | exact hp.2 | exact hp.2.1 | (simp_all; done) | (simp_all; omega), fun _ => ?_⟩
 exact ⟨rfl, rfl⟩)
theorem c_machine_Latency : qal E_V41 qep k_machine_Latency.spec := qan fun x hx hp => ⟨rfl, m_machine_Latency x.1 x.2.1 hx.1 hx.2.1 hp⟩
def L_V41 : List (FuncId × FSpec) := [(qcc, k_machine_latencies.spec), (qep, k_machine_Latency.spec)] ++ L_V40
theorem L_V41_ok : ∀ x ∈ L_V41, qal (ctx []) x.1 x.2 := by
 unfold L_V41
 simp only [List.cons_append, List.nil_append, List.forall_mem_cons]
 exact ⟨c_machine_latencies, c_machine_Latency, L_V40_ok⟩
end Burn.MC
namespace Burn.MC
open Go Go.BE Go.Proofs
set_option maxRecDepth 100000
set_option linter.unusedVariables false
set_option linter.unusedSimpArgs false
open Burn.Intn Burn.Ref
def mrg_V42 : FuncId → List Nat
 | 14 => [23, 29]
 | _ => []
noncomputable abbrev E_V42 : Ctx := { ctx L_V41 with mrg := mrg_V42 }
theorem E_V42_ok : EOK E_V42 := have h : EOK (ctx L_V41) := qbo L_V41_ok; ⟨h.ty, h.env, h.fns, h.mixed⟩
def cuts_V42 : CutL := [([], 14, 0, [1, 6, 7, 8], [], [])]
def rets_V42 : FuncId → List (Option Fx)
 | 12 => [some (.dat qap)]
 | _ => []
def H_V42 : Hints := { cut := cutOf cuts_V42, ret := rets_V42 }
noncomputable def qdm (x : Den qap) (t6 : List (Den I)) (t7 : Int) (t8 : Int) : Cfg := hcfg E_V42 qbs 0 [(1, (.rtp qap x)), (6, (.tv (.sl 8 I) t6)), (7, (vi t7)), (8, (vi t8))] [] 0
theorem machine_ValidModel_t (x : Den qap) : run E_V42 H_V42 qbs 3000 (start E_V42 qbs [(.tv qap x)]) = (hd (qdm x x.2.2.1 ((ln I x.2.2.1) : Int) (0 : Int))) := by kernel_rfl
theorem machine_ValidModel_L0_t (x : Den qap) (t6 : List (Den I)) (t7 : Int) (t8 : Int) : run E_V42 H_V42 qbs 3000 (qdm x t6 t7 t8) = (cond (decide (t8 < t7)) (.chk (0 ≤ t8 ∧ t8 < (ln I t6)) (.chk (True) (.know True (cond (!(witP (gd I t6 t8.toNat) (1 : Int) (100 : Int))) (rt (vb false) []) (hd (qdm x t6 t7 (IntKind.wrap .i64 (t8 + (1 : Int))))))))) (.chk (True) (.chk (((witP x.1 (1 : Int) (8 : Int)) = true → (True))) (.know True (rt (vb (cond (cond (witP x.1 (1 : Int) (8 : Int)) (witP x.2.1 (8 : Int) (64 : Int)) false) (decide (((ln I x.2.2.1) : Int) ≤ (64 : Int))) false)) []))))) := by kernel_rfl
theorem machine_Default_t : run E_V42 H_V42 qeq 3000 (start E_V42 qeq []) = (.chk (True) (.know (okD (.arr 42 I) (latA)) (rt (.tv qap ((2 : Int), (16 : Int), ([(latA).1, ((latA).2).1, (((latA).2).2).1, ((((latA).2).2).2).1, (((((latA).2).2).2).2).1, ((((((latA).2).2).2).2).2).1, (((((((latA).2).2).2).2).2).2).1, ((((((((latA).2).2).2).2).2).2).2).1, (((((((((latA).2).2).2).2).2).2).2).2).1, ((((((((((latA).2).2).2).2).2).2).2).2).2).1, (((((((((((latA).2).2).2).2).2).2).2).2).2).2).1, ((((((((((((latA).2).2).2).2).2).2).2).2).2).2).2).1, (((((((((((((latA).2).2).2).2).2).2).2).2).2).2).2).2).1, ((((((((((((((latA).2).2).2).2).2).2).2).2).2).2).2).2).2).1, (((((((((((((((latA).2).2).2).2).2).2).2).2).2).2).2).2).2).2).1, ((((((((((((((((latA).2).2).2).2).2).2).2).2).2).2).2).2).2).2).2).1, (((((((((((((((((latA).2).2).2).2).2).2).2).2).2).2).2).2).2).2).2).2).1, ((((((((((((((((((latA).2).2).2).2).2).2).2).2).2).2).2).2).2).2).2).2).2).1, (((((((((((((((((((latA).2).2).2).2).2).2).2).2).2).2).2).2).2).2).2).2).2).2).1, ((((((((((((((((((((latA).2).2).2).2).2).2).2).2).2).2).2).2).2).2).2).2).2).2).2).1, (((((((((((((((((((((latA).2).2).2).2).2).2).2).2).2).2).2).2).2).2).2).2).2).2).2).2).1, ((((((((((((((((((((((latA).2).2).2).2).2).2).2).2).2).2).2).2).2).2).2).2).2).2).2).2).2).1, (((((((((((((((((((((((latA).2).2).2).2).2).2).2).2).2).2).2).2).2).2).2).2).2).2).2).2).2).2).1, ((((((((((((((((((((((((latA).2).2).2).2).2).2).2).2).2).2).2).2).2).2).2).2).2).2).2).2).2).2).2).1, (((((((((((((((((((((((((latA).2).2).2).2).2).2).2).2).2).2).2).2).2).2).2).2).2).2).2).2).2).2).2).2).1, ((((((((((((((((((((((((((latA).2).2).2).2).2).2).2).2).2).2).2).2).2).2).2).2).2).2).2).2).2).2).2).2).2).1, (((((((((((((((((((((((((((latA).2).2).2).2).2).2).2).2).2).2).2).2).2).2).2).2).2).2).2).2).2).2).2).2).2).2).1, ((((((((((((((((((((((((((((latA).2).2).2).2).2).2).2).2).2).2).2).2).2).2).2).2).2).2).2).2).2).2).2).2).2).2).2).1, (((((((((((((((((((((((((((((latA).2).2).2).2).2).2).2).2).2).2).2).2).2).2).2).2).2).2).2).2).2).2).2).2).2).2).2).2).1, ((((((((((((((((((((((((((((((latA).2).2).2).2).2).2).2).2).2).2).2).2).2).2).2).2).2).2).2).2).2).2).2).2).2).2).2).2).2).1, (((((((((((((((((((((((((((((((latA).2).2).2).2).2).2).2).2).2).2).2).2).2).2).2).2).2).2).2).2).2).2).2).2).2).2).2).2).2).2).1, ((((((((((((((((((((((((((((((((latA).2).2).2).2).2).2).2).2).2).2).2).2).2).2).2).2).2).2).2).2).2).2).2).2).2).2).2).2).2).2).2).1, (((((((((((((((((((((((((((((((((latA).2).2).2).2).2).2).2).2).2).2).2).2).2).2).2).2).2).2).2).2).2).2).2).2).2).2).2).2).2).2).2).2).1, ((((((((((((((((((((((((((((((((((latA).2).2).2).2).2).2).2).2).2).2).2).2).2).2).2).2).2).2).2).2).2).2).2).2).2).2).2).2).2).2).2).2).2).1, (((((((((((((((((((((((((((((((((((latA).2).2).2).2).2).2).2).2).2).2).2).2).2).2).2).2).2).2).2).2).2).2).2).2).2).2).2).2).2).2).2).2).2).2).1, ((((((((((((((((((((((((((((((((((((latA).2).2).2).2).2).2).2).2).2).2).2).2).2).2).2).2).2).2).2).2).2).2).2).2).2).2).2).2).2).2).2).2).2).2).2).1, (((((((((((((((((((((((((((((((((((((latA).2).2).2).2).2).2).2).2).2).2).2).2).2).2).2).2).2).2).2).2).2).2).2).2).2).2).2).2).2).2).2).2).2).2).2).2).1, ((((((((((((((((((((((((((((((((((((((latA).2).2).2).2).2).2).2).2).2).2).2).2).2).2).2).2).2).2).2).2).2).2).2).2).2).2).2).2).2).2).2).2).2).2).2).2).2).1, (((((((((((((((((((((((((((((((((((((((latA).2).2).2).2).2).2).2).2).2).2).2).2).2).2).2).2).2).2).2).2).2).2).2).2).2).2).2).2).2).2).2).2).2).2).2).2).2).2).1, ((((((((((((((((((((((((((((((((((((((((latA).2).2).2).2).2).2).2).2).2).2).2).2).2).2).2).2).2).2).2).2).2).2).2).2).2).2).2).2).2).2).2).2).2).2).2).2).2).2).2).1, (((((((((((((((((((((((((((((((((((((((((latA).2).2).2).2).2).2).2).2).2).2).2).2).2).2).2).2).2).2).2).2).2).2).2).2).2).2).2).2).2).2).2).2).2).2).2).2).2).2).2).2).1, ((((((((((((((((((((((((((((((((((((((((((latA).2).2).2).2).2).2).2).2).2).2).2).2).2).2).2).2).2).2).2).2).2).2).2).2).2).2).2).2).2).2).2).2).2).2).2).2).2).2).2).2).2).1] : List (Den I)), ())) []))) := by kernel_rfl
theorem machine_ValidModel_l (x : Den qap) (hl : ln I x.2.2.1 < 9223372036854775807) : ∀ i, i ≤ ln I x.2.2.1 → Runs E_V42 (qdm x x.2.2.1 (ln I x.2.2.1 : Nat) i) (fun r h => r = vb (cond (latOK (x.2.2.1.drop i)) (okM x) false) ∧ h = []) :=
 qay (.tree E_V42_ok (machine_ValidModel_L0_t ..) (by
  rw [show x.2.2.1.drop (ln I x.2.2.1) = [] from qhb]
  simp only [sS, sL,  Nat.lt_irrefl, latOK, cond_true]
  rfl))
  fun i hi ih => .tree E_V42_ok (machine_ValidModel_L0_t ..) (by
   rw [show x.2.2.1.drop i = gd I x.2.2.1 i :: x.2.2.1.drop (i + 1) from qhc hi]
   simp only [sS, sL,  hi, wrapS hi hl, latOK]
   refine ⟨fun h1 => ?_, fun h1 => ?_⟩
   ·rw [show witP (z (gd I x.2.2.1 i)) 1 100 = false from by simpa using h1]; rfl
   ·rw [show witP (z (gd I x.2.2.1 i)) 1 100 = true from by simpa using h1]; exact ih)
def k_machine_ValidModel : Con := con [.d qap] .bool (fun x => True) fun x => valF x.1
theorem m_machine_ValidModel (x : Den qap) (h_x : okD qap x) (hp : True) : Runs E_V42 (start E_V42 qbs [(.tv qap x)]) (fun r_ h_ => r_ = (vb (valF x)) ∧ h_ = []) := .tree E_V42_ok (machine_ValidModel_t x) (by
 simp only [sS, implies_true]
 exact machine_ValidModel_l x (qar h_x.2.2.1.1) 0 (Nat.zero_le _))
theorem c_machine_ValidModel : qal E_V42 qbs k_machine_ValidModel.spec := qan fun x hx hp => ⟨rfl, m_machine_ValidModel x.1 hx.1 hp⟩

def k_machine_Default : Con := con [] qap (fun x => True) fun x => defF
theorem m_machine_Default (hp : True) : Runs E_V42 (start E_V42 qeq []) (fun r_ h_ => r_ = (.tv qap (defF)) ∧ h_ = []) := .tree E_V42_ok (machine_Default_t) (by
 simp only [sS, implies_true]
 exact fun _ => rfl)
theorem c_machine_Default : qal E_V42 qeq k_machine_Default.spec := qan fun x hx hp => ⟨rfl, m_machine_Default hp⟩
def L_V42 : List (FuncId × FSpec) := [(qbs, k_machine_ValidModel.spec), (qeq, k_machine_Default.spec)] ++ L_V41
theorem L_V42_ok : ∀ x ∈ L_V42, qal (ctx []) x.1 x.2 := by
 unfold L_V42
 simp only [List.cons_append, List.nil_append, List.forall_mem_cons]
 exact ⟨c_machine_ValidModel, c_machine_Default, L_V41_ok⟩
end Burn.MC
namespace Burn.MC
open Go Go.BE Go.Proofs
set_option maxRecDepth 100000
set_option linter.unusedVariables false
set_option linter.unusedSimpArgs false
open Burn.Intn Burn.Ref
noncomputable abbrev E_V43 : Ctx := ctx L_V42
def nodF (x : Den (.int .u64)) : Int := 0
def nobF (a : List (Den (.int .u8))) (x : Den (.int .u64)) (b : Int) (n p : Bool) : List (Den (.int .u8)) × ByteArray := ([], ByteArray.empty)

def qfo : Con := con [.d (.int .u64)] I (fun x => False) fun x => nodF x.1
theorem c_internal_strconv_numDigits : qal E_V43 qfp qfo.spec := qan fun x hx hp => hp.elim

def qfb : Con := conT2 [.d (.sl 1 (.int .u8)), .d (.int .u64), .d I, .d .bool, .d .bool] (.sl 1 (.int .u8)) .str (fun x => False) fun x => nobF x.1 x.2.1 x.2.2.1 x.2.2.2.1 x.2.2.2.2.1
theorem c_internal_strconv_formatBits : qal E_V43 qfi qfb.spec := qan fun x hx hp => hp.elim
def L_V43 : List (FuncId × FSpec) := [(qfp, qfo.spec), (qfi, qfb.spec)] ++ L_V42
theorem L_V43_ok : ∀ x ∈ L_V43, qal (ctx []) x.1 x.2 := by
 unfold L_V43
 simp only [List.cons_append, List.nil_append, List.forall_mem_cons]
 exact ⟨c_internal_strconv_numDigits, c_internal_strconv_formatBits, L_V42_ok⟩
end Burn.MC
namespace Burn.MC
open Go Go.BE Go.Proofs
set_option maxRecDepth 100000
set_option linter.unusedVariables false
set_option linter.unusedSimpArgs false
open Burn.Intn Burn.Ref
noncomputable abbrev E_V44 : Ctx := ctx L_V43
theorem E_V44_ok : EOK E_V44 := qbo L_V43_ok
def cuts_V44 : CutL := []
def rets_V44 : FuncId → List (Option Fx)
 | 13 => [some (.dat qab), some (.dat qag)]
 | 28 => [some (.dat (.sl 8 I))]
 | _ => []
def H_V44 : Hints := { cut := cutOf cuts_V44, ret := rets_V44 }
theorem law50_empty_t : run E_V44 H_V44 f_law50_empty 3000 (start E_V44 f_law50_empty []) = (rt (.tup [(.tv qab (([] : List (Den qai)), ([(⟨#[102]⟩, ([] : List (Den I)), (0 : Int), ([] : List (Den I)), ([(([] : List (Den I)), ([] : List (Den qad)), ((4 : Int), ([] : List (Den I)), ([] : List (Den I)), ([] : List (Den qae)), (0 : Int), ()), ())] : List (Den qac)), ())] : List (Den qaa)), ())), (.tv qag (⟨#[102]⟩, ([] : List (Den I)), (0 : Int), ([] : List (Den I)), (8 : Int), (0 : Int), ([(([] : List (Den I)), ([] : List (Den qad)), ((4 : Int), ([] : List (Den I)), ([] : List (Den I)), ([] : List (Den qae)), (0 : Int), ()), ())] : List (Den qac)), ()))]) []) := by kernel_rfl
theorem machine_counted_t (l : List (Den I)) : run E_V44 H_V44 qeo 3000 (start E_V44 qeo [(.tv (.sl 8 I) l)]) = (.chk (((1 : Nat) + (ln I l)) * 8 ≤ roomB) (rt (.tv (.sl 8 I) (ap I ([((ln I l) : Int)] : List (Den I)) l)) [])) := by kernel_rfl
theorem strconv_Itoa_t (i : Int) : run E_V44 H_V44 qhp 3000 (start E_V44 qhp [(vi i)]) = (cond (decide ((0 : Int) ≤ i)) (cond (decide (i < (100 : Int))) (cond (decide (i < (10 : Int))) (.chk (0 ≤ i ∧ i ≤ (IntKind.wrap .i64 (i + (1 : Int))) ∧ (IntKind.wrap .i64 (i + (1 : Int))) ≤ (36 : Int)) (rt (vs (ByteArray.extract ⟨#[48, 49, 50, 51, 52, 53, 54, 55, 56, 57, 97, 98, 99, 100, 101, 102, 103, 104, 105, 106, 107, 108, 109, 110, 111, 112, 113, 114, 115, 116, 117, 118, 119, 120, 121, 122]⟩ i.toNat ((IntKind.wrap .i64 (i + (1 : Int)))).toNat)) [])) (.chk (0 ≤ (IntKind.wrap .i64 (i * (2 : Int))) ∧ (IntKind.wrap .i64 (i * (2 : Int))) ≤ (IntKind.wrap .i64 ((IntKind.wrap .i64 (i * (2 : Int))) + (2 : Int))) ∧ (IntKind.wrap .i64 ((IntKind.wrap .i64 (i * (2 : Int))) + (2 : Int))) ≤ (200 : Int)) (rt (vs (ByteArray.extract ⟨#[48, 48, 48, 49, 48, 50, 48, 51, 48, 52, 48, 53, 48, 54, 48, 55, 48, 56, 48, 57, 49, 48, 49, 49, 49, 50, 49, 51, 49, 52, 49, 53, 49, 54, 49, 55, 49, 56, 49, 57, 50, 48, 50, 49, 50, 50, 50, 51, 50, 52, 50, 53, 50, 54, 50, 55, 50, 56, 50, 57, 51, 48, 51, 49, 51, 50, 51, 51, 51, 52, 51, 53, 51, 54, 51, 55, 51, 56, 51, 57, 52, 48, 52, 49, 52, 50, 52, 51, 52, 52, 52, 53, 52, 54, 52, 55, 52, 56, 52, 57, 53, 48, 53, 49, 53, 50, 53, 51, 53, 52, 53, 53, 53, 54, 53, 55, 53, 56, 53, 57, 54, 48, 54, 49, 54, 50, 54, 51, 54, 52, 54, 53, 54, 54, 54, 55, 54, 56, 54, 57, 55, 48, 55, 49, 55, 50, 55, 51, 55, 52, 55, 53, 55, 54, 55, 55, 55, 56, 55, 57, 56, 48, 56, 49, 56, 50, 56, 51, 56, 52, 56, 53, 56, 54, 56, 55, 56, 56, 56, 57, 57, 48, 57, 49, 57, 50, 57, 51, 57, 52, 57, 53, 57, 54, 57, 55, 57, 56, 57, 57]⟩ ((IntKind.wrap .i64 (i * (2 : Int)))).toNat ((IntKind.wrap .i64 ((IntKind.wrap .i64 (i * (2 : Int))) + (2 : Int)))).toNat)) []))) (cond (decide (i < (0 : Int))) (.chk (False) (.know (okD (.int .i64) (nodF (IntKind.wrap .u64 ((0 : Int) - (IntKind.wrap .u64 i))))) .bad)) (.chk (False) (.know (okD (.int .i64) (nodF (IntKind.wrap .u64 i))) .bad)))) (cond (decide (i < (0 : Int))) (.chk (False) (.know (okD (.int .i64) (nodF (IntKind.wrap .u64 ((0 : Int) - (IntKind.wrap .u64 i))))) .bad)) (.chk (False) (.know (okD (.int .i64) (nodF (IntKind.wrap .u64 i))) .bad)))) := by kernel_rfl
def empF : Den qab × Den qag := ((([] : List (Den qai)), ([(⟨#[102]⟩, ([] : List (Den I)), (0 : Int), ([] : List (Den I)), ([(([] : List (Den I)), ([] : List (Den qad)), ((4 : Int), ([] : List (Den I)), ([] : List (Den I)), ([] : List (Den qae)), (0 : Int), ()), ())] : List (Den qac)), ())] : List (Den qaa)), ()), (⟨#[102]⟩, ([] : List (Den I)), (0 : Int), ([] : List (Den I)), (8 : Int), (0 : Int), ([(([] : List (Den I)), ([] : List (Den qad)), ((4 : Int), ([] : List (Den I)), ([] : List (Den I)), ([] : List (Den qae)), (0 : Int), ()), ())] : List (Den qac)), ()))

def k_law50_empty : Con := conT2 [] qab qag (fun x => True) fun x => empF
theorem m_law50_empty (hp : True) : Runs E_V44 (start E_V44 f_law50_empty []) (fun r_ h_ => r_ = (.tup [(.tv qab (([] : List (Den qai)), ([(⟨#[102]⟩, ([] : List (Den I)), (0 : Int), ([] : List (Den I)), ([(([] : List (Den I)), ([] : List (Den qad)), ((4 : Int), ([] : List (Den I)), ([] : List (Den I)), ([] : List (Den qae)), (0 : Int), ()), ())] : List (Den qac)), ())] : List (Den qaa)), ())), (.tv qag (⟨#[102]⟩, ([] : List (Den I)), (0 : Int), ([] : List (Den I)), (8 : Int), (0 : Int), ([(([] : List (Den I)), ([] : List (Den qad)), ((4 : Int), ([] : List (Den I)), ([] : List (Den I)), ([] : List (Den qae)), (0 : Int), ()), ())] : List (Den qac)), ()))]) ∧ h_ = []) := .tree E_V44_ok (law50_empty_t) (by
 show Tre.wp (Qv _ (fun x_ => (.tup [(.tv qab x_.1), (.tv qag x_.2)])) (empF)) _
 unfold empF
 exact ⟨rfl, rfl⟩)
theorem c_law50_empty : qal E_V44 f_law50_empty k_law50_empty.spec := qan fun x hx hp => ⟨rfl, m_law50_empty hp⟩
def cntL (l : List (Den I)) : Den (.sl 8 I) := (ap I ([((ln I l) : Int)] : List (Den I)) l)

def k_machine_counted : Con := con [.d (.sl 8 I)] (.sl 8 I) (fun x => (1 + ln I x.1) * 8 ≤ roomB) fun x => cntL x.1
theorem m_machine_counted (l : List (Den I)) (h_l : okD (.sl 8 I) l) (hp : (1 + ln I l) * 8 ≤ roomB) : Runs E_V44 (start E_V44 qeo [(.tv (.sl 8 I) l)]) (fun r_ h_ => r_ = (.tv (.sl 8 I) (ap I ([((ln I l) : Int)] : List (Den I)) l)) ∧ h_ = []) := .tree E_V44_ok (machine_counted_t l) (by
 have hp_ := hp
 try simp only [z] at hp_
 show Tre.wp (Qv _ (fun x_ => (.tv (.sl 8 I) x_)) (cntL l)) _
 unfold cntL
 refine ⟨by first | omega | assumption | exact hp.1 | exact hp.2 | exact hp.2.1 | (simp_all; done) | (simp_all; omega), fun _ => ?_⟩
 exact ⟨rfl, rfl⟩)
theorem c_machine_counted : qal E_V44 qeo k_machine_counted.spec := qan fun x hx hp => ⟨rfl, m_machine_counted x.1 hx.1 hp⟩
def itoF (n : Int) : ByteArray := ByteArray.extract ⟨#[48, 49, 50, 51, 52, 53, 54, 55, 56, 57, 97, 98, 99, 100, 101, 102, 103, 104, 105, 106, 107, 108, 109, 110, 111, 112, 113, 114, 115, 116, 117, 118, 119, 120, 121, 122]⟩ n.toNat (IntKind.wrap .i64 (n + 1)).toNat

def k_strconv_Itoa : Con := con [.d I] .str (fun x => 0 ≤ z x.1 ∧ z x.1 < 10) fun x => itoF x.1
theorem m_strconv_Itoa (i : Int) (h_i : okD I i) (hp : 0 ≤ z i ∧ z i < 10) : Runs E_V44 (start E_V44 qhp [(vi i)]) (fun r_ h_ => r_ = (vs (itoF i)) ∧ h_ = []) := .tree E_V44_ok (strconv_Itoa_t i) (by
 have h1 : 0 ≤ i := hp.1
 have h2 : i < 10 := hp.2
 have hw : IntKind.wrap .i64 (i + 1) = i + 1 := wrap64 _ (by omega) (by omega)
 rw [decide_eq_true h1, decide_eq_true (show i < 100 by omega), decide_eq_true h2]
 simp only [cond_true]
 simp only [sS, implies_true]
 exact ⟨by rw [hw]; omega, fun _ => rfl⟩)
theorem c_strconv_Itoa : qal E_V44 qhp k_strconv_Itoa.spec := qan fun x hx hp => ⟨rfl, m_strconv_Itoa x.1 hx.1 hp⟩
def L_V44 : List (FuncId × FSpec) := [(f_law50_empty, k_law50_empty.spec), (qeo, k_machine_counted.spec), (qhp, k_strconv_Itoa.spec)] ++ L_V43
theorem L_V44_ok : ∀ x ∈ L_V44, qal (ctx []) x.1 x.2 := by
 unfold L_V44
 simp only [List.cons_append, List.nil_append, List.forall_mem_cons]
 exact ⟨c_law50_empty, c_machine_counted, c_strconv_Itoa, L_V43_ok⟩
end Burn.MC
namespace Burn.MC
open Go Go.BE Go.Proofs
set_option maxRecDepth 100000
set_option linter.unusedVariables false
set_option linter.unusedSimpArgs false
open Burn.Intn Burn.Ref
noncomputable abbrev E_V45 : Ctx := ctx L_V44
theorem E_V45_ok : EOK E_V45 := qbo L_V44_ok
def cuts_V45 : CutL := [([], 29, 0, [0, 7, 8, 9], [], [])]
def rets_V45 : FuncId → List (Option Fx)
 | _ => []
def H_V45 : Hints := { cut := cutOf cuts_V45, ret := rets_V45 }
noncomputable def machine_line_L0 (word : ByteArray) (t7 : List (Den I)) (t8 : Int) (t9 : Int) : Cfg := hcfg E_V45 qdu 0 [(0, (vs word)), (7, (.tv (.sl 8 I) t7)), (8, (vi t8)), (9, (vi t9))] [] 0
theorem machine_line_t (word : ByteArray) (l : List (Den I)) : run E_V45 H_V45 qdu 3000 (start E_V45 qdu [(vs word), (.tv (.sl 8 I) l)]) = (hd (machine_line_L0 word l ((ln I l) : Int) (0 : Int))) := by kernel_rfl
theorem machine_line_L0_t (word : ByteArray) (t7 : List (Den I)) (t8 : Int) (t9 : Int) : run E_V45 H_V45 qdu 3000 (machine_line_L0 word t7 t8 t9) = (cond (decide (t9 < t8)) (.chk (0 ≤ t9 ∧ t9 < (ln I t7)) (.chk (0 ≤ z (gd I t7 t9.toNat) ∧ z (gd I t7 t9.toNat) < 10) (.know (okD .str (itoF (gd I t7 t9.toNat))) (.chk (((1 : Nat) + ((itoF (gd I t7 t9.toNat))).size) ≤ roomB) (.chk (((word).size + ((⟨#[32]⟩ ++ (itoF (gd I t7 t9.toNat)))).size) ≤ roomB) (hd (machine_line_L0 (word ++ (⟨#[32]⟩ ++ (itoF (gd I t7 t9.toNat)))) t7 t8 (IntKind.wrap .i64 (t9 + (1 : Int)))))))))) (rt (vs word) [])) := by kernel_rfl
def linF : ByteArray → List (Den I) → ByteArray
 | w, [] => w
 | w, n :: l => linF (w ++ (⟨#[32]⟩ ++ itoF (z n))) l
theorem ito_size {n : Int} (h1 : 0 ≤ n) (h2 : n < 10) : (itoF n).size = 1 := by
 have : n = 0 ∨ n = 1 ∨ n = 2 ∨ n = 3 ∨ n = 4 ∨ n = 5 ∨ n = 6 ∨ n = 7 ∨ n = 8 ∨ n = 9 := by omega
 rcases this with rfl | rfl | rfl | rfl | rfl | rfl | rfl | rfl | rfl | rfl <;> rfl
theorem sp_size {n : Int} (h1 : 0 ≤ n) (h2 : n < 10) : ((⟨#[32]⟩ : ByteArray) ++ itoF n).size = 2 := by
 rw [ByteArray.size_append, ito_size h1 h2]
 rfl
def linOK (w : ByteArray) (l : List (Den I)) : Prop := (∀ i, i < ln I l → 0 ≤ z (gd I l i) ∧ z (gd I l i) < 10) ∧ w.size + 2 * ln I l ≤ roomB
theorem machine_line_l (l : List (Den I)) (hl : ln I l < 9223372036854775807) (h : ∀ i, i < ln I l → 0 ≤ z (gd I l i) ∧ z (gd I l i) < 10) : ∀ i, i ≤ ln I l → ∀ w : ByteArray, w.size + 2 * (ln I l - i) ≤ roomB → Runs E_V45 (machine_line_L0 w l (ln I l : Nat) i) (fun r h => r = vs (linF w (l.drop i)) ∧ h = []) :=
 qay (fun w _ => .tree E_V45_ok (machine_line_L0_t ..) (by
  rw [show l.drop (ln I l) = [] from qhb]
  simp only [sS, sL,  Nat.lt_irrefl, linF]))
  fun i hi ih w hw => .tree E_V45_ok (machine_line_L0_t ..) (by
   have hd := h i hi
   have hs := sp_size hd.1 hd.2
   have h1 := ito_size hd.1 hd.2
   rw [show l.drop i = gd I l i :: l.drop (i + 1) from qhc hi, linF]
   simp only [sS, sL,  hi, wrapS hi hl]
   refine ⟨hd, fun _ _ => ⟨by rw [show (itoF (gd I l i)).size = 1 from h1]; unfold roomB; omega, fun _ => ⟨by rw [show ((⟨#[32]⟩ : ByteArray) ++ itoF (gd I l i)).size = 2 from hs]; omega, fun _ => ih _ ?_⟩⟩⟩
   rw [ByteArray.size_append, show ((⟨#[32]⟩ : ByteArray) ++ itoF (z (gd I l i))).size = 2 from hs]
   omega)
def k_machine_line : Con := con [.d .str, .d (.sl 8 I)] .str (fun x => linOK (tOf x.1) x.2.1) fun x => linF x.1 x.2.1
theorem m_machine_line (word : ByteArray) (l : List (Den I)) (h_word : okD .str word) (h_l : okD (.sl 8 I) l) (hp : linOK (tOf word) l) : Runs E_V45 (start E_V45 qdu [(vs word), (.tv (.sl 8 I) l)]) (fun r_ h_ => r_ = (vs (linF word l)) ∧ h_ = []) := .tree E_V45_ok (machine_line_t word l) (by
 simp only [sS, implies_true]
 exact machine_line_l l (qar h_l.1) hp.1 0 (Nat.zero_le _) word (by have := hp.2; simpa using this))
theorem c_machine_line : qal E_V45 qdu k_machine_line.spec := qan fun x hx hp => ⟨rfl, m_machine_line x.1 x.2.1 hx.1 hx.2.1 hp⟩
def L_V45 : List (FuncId × FSpec) := [(qdu, k_machine_line.spec)] ++ L_V44
theorem L_V45_ok : ∀ x ∈ L_V45, qal (ctx []) x.1 x.2 := by
 unfold L_V45
 simp only [List.cons_append, List.nil_append, List.forall_mem_cons]
 exact ⟨c_machine_line, L_V44_ok⟩
end Burn.MC
namespace Burn.MC
open Go Go.BE Go.Proofs
set_option maxRecDepth 100000
set_option linter.unusedVariables false
set_option linter.unusedSimpArgs false
open Burn.Intn Burn.Ref
noncomputable abbrev E_V46 : Ctx := ctx L_V45
theorem E_V46_ok : EOK E_V46 := qbo L_V45_ok
def cuts_V46 : CutL := []
def rets_V46 : FuncId → List (Option Fx)
 | _ => []
def H_V46 : Hints := { cut := cutOf cuts_V46, ret := rets_V46 }
def H_V46_u_law50_works : Hints := { H_V46 with unr := fun _ _ => true }
theorem law50_works_t : run E_V46 H_V46_u_law50_works f_law50_works 1000000 (start E_V46 f_law50_works []) = (.chk (True) (.know (okD qap (defF)) (.chk (True) (.know (okAVs [(.tv qab (([] : List (Den qai)), ([(⟨#[102]⟩, ([] : List (Den I)), (0 : Int), ([] : List (Den I)), ([(([] : List (Den I)), ([] : List (Den qad)), ((4 : Int), ([] : List (Den I)), ([] : List (Den I)), ([] : List (Den qae)), (0 : Int), ()), ())] : List (Den qac)), ())] : List (Den qaa)), ())), (.tv qag (⟨#[102]⟩, ([] : List (Den I)), (0 : Int), ([] : List (Den I)), (8 : Int), (0 : Int), ([(([] : List (Den I)), ([] : List (Den qad)), ((4 : Int), ([] : List (Den I)), ([] : List (Den I)), ([] : List (Den qae)), (0 : Int), ()), ())] : List (Den qac)), ()))]) (.chk (True) (.know True (cond (valF (defF)) (.chk (True) (.know (okD (.int .i64) (latcF (defF) (7 : Int))) (cond ((latcF (defF) (7 : Int)) == (3 : Int)) (.chk (True) (.know (okD (.int .i64) (latcF (defF) (5 : Int))) (cond ((latcF (defF) (5 : Int)) == (1 : Int)) (.chk (True) (.know (okD (.int .i64) (latcF (defF) (-1 : Int))) (cond ((latcF (defF) (-1 : Int)) == (1 : Int)) (.chk (True) (.know (okD (.int .i64) (mchF (([] : List (Den qai)), ([(⟨#[102]⟩, ([] : List (Den I)), (0 : Int), ([] : List (Den I)), ([(([] : List (Den I)), ([] : List (Den qad)), ((4 : Int), ([] : List (Den I)), ([] : List (Den I)), ([] : List (Den qae)), (0 : Int), ()), ())] : List (Den qac)), ())] : List (Den qaa)), ()) (⟨#[102]⟩, ([] : List (Den I)), (0 : Int), ([] : List (Den I)), (8 : Int), (0 : Int), ([(([] : List (Den I)), ([] : List (Den qad)), ((4 : Int), ([] : List (Den I)), ([] : List (Den I)), ([] : List (Den qae)), (0 : Int), ()), ())] : List (Den qac)), ()))) (cond ((mchF (([] : List (Den qai)), ([(⟨#[102]⟩, ([] : List (Den I)), (0 : Int), ([] : List (Den I)), ([(([] : List (Den I)), ([] : List (Den qad)), ((4 : Int), ([] : List (Den I)), ([] : List (Den I)), ([] : List (Den qae)), (0 : Int), ()), ())] : List (Den qac)), ())] : List (Den qaa)), ()) (⟨#[102]⟩, ([] : List (Den I)), (0 : Int), ([] : List (Den I)), (8 : Int), (0 : Int), ([(([] : List (Den I)), ([] : List (Den qad)), ((4 : Int), ([] : List (Den I)), ([] : List (Den I)), ([] : List (Den qae)), (0 : Int), ()), ())] : List (Den qac)), ())) == (0 : Int)) (.chk (True) (.know (okD (.int .i64) (mchF (([] : List (Den qai)), ([(⟨#[102]⟩, ([] : List (Den I)), (0 : Int), ([] : List (Den I)), ([(([] : List (Den I)), ([] : List (Den qad)), ((4 : Int), ([] : List (Den I)), ([] : List (Den I)), ([] : List (Den qae)), (0 : Int), ()), ())] : List (Den qac)), ())] : List (Den qaa)), ()) (⟨#[102]⟩, ([] : List (Den I)), (0 : Int), ([] : List (Den I)), (8 : Int), (-1 : Int), ([(([] : List (Den I)), ([] : List (Den qad)), ((4 : Int), ([] : List (Den I)), ([] : List (Den I)), ([] : List (Den qae)), (0 : Int), ()), ())] : List (Den qac)), ()))) (cond ((mchF (([] : List (Den qai)), ([(⟨#[102]⟩, ([] : List (Den I)), (0 : Int), ([] : List (Den I)), ([(([] : List (Den I)), ([] : List (Den qad)), ((4 : Int), ([] : List (Den I)), ([] : List (Den I)), ([] : List (Den qae)), (0 : Int), ()), ())] : List (Den qac)), ())] : List (Den qaa)), ()) (⟨#[102]⟩, ([] : List (Den I)), (0 : Int), ([] : List (Den I)), (8 : Int), (-1 : Int), ([(([] : List (Den I)), ([] : List (Den qad)), ((4 : Int), ([] : List (Den I)), ([] : List (Den I)), ([] : List (Den qae)), (0 : Int), ()), ())] : List (Den qac)), ())) == (3 : Int)) (.chk ((1 + ln I ([] : List (Den I))) * 8 ≤ roomB) (.chk (((3 : Nat) + (1 : Nat)) * 8 ≤ roomB) (.chk ((1 + ln I ([] : List (Den I))) * 8 ≤ roomB) (.chk (((4 : Nat) + (1 : Nat)) * 8 ≤ roomB) (.know (okD (.sl 8 I) ([(0 : Int)] : List (Den I))) (.know (okD (.sl 8 I) ([(0 : Int)] : List (Den I))) (.chk (0 ≤ z (1 : Int) ∧ z (1 : Int) < 10) (.chk ((9 : Nat) ≤ roomB) (.chk ((10 : Nat) ≤ roomB) (.chk ((11 : Nat) ≤ roomB) (.chk (linOK (tOf (⟨#[109, 97, 99, 104, 105, 110, 101, 32, 49, 32, 102]⟩)) ([(0 : Int), (8 : Int), (0 : Int), (0 : Int), (0 : Int)] : List (Den I))) (.chk ((((linF ⟨#[109, 97, 99, 104, 105, 110, 101, 32, 49, 32, 102]⟩ ([(0 : Int), (8 : Int), (0 : Int), (0 : Int), (0 : Int)] : List (Den I)))).size + (1 : Nat)) ≤ roomB) (.know (okD .str (⟨#[49]⟩)) (.know (okD .str (linF ⟨#[109, 97, 99, 104, 105, 110, 101, 32, 49, 32, 102]⟩ ([(0 : Int), (8 : Int), (0 : Int), (0 : Int), (0 : Int)] : List (Den I)))) (.chk (0 ≤ (0 : Int) ∧ (0 : Int) < (1 : Nat)) (.chk ((1 + ln I ([] : List (Den I))) * 8 ≤ roomB) (.know (okD (.sl 8 I) ([(0 : Int)] : List (Den I))) (.chk (linOK (tOf (⟨#[98, 108, 111, 99, 107]⟩)) ([(0 : Int)] : List (Den I))) (.know (okD .str (linF ⟨#[98, 108, 111, 99, 107]⟩ ([(0 : Int)] : List (Den I)))) (.chk ((((linF ⟨#[98, 108, 111, 99, 107]⟩ ([(0 : Int)] : List (Den I)))).size + (1 : Nat)) ≤ roomB) (.chk (((((linF ⟨#[109, 97, 99, 104, 105, 110, 101, 32, 49, 32, 102]⟩ ([(0 : Int), (8 : Int), (0 : Int), (0 : Int), (0 : Int)] : List (Den I))) ++ ⟨#[10]⟩)).size + (((linF ⟨#[98, 108, 111, 99, 107]⟩ ([(0 : Int)] : List (Den I))) ++ ⟨#[10]⟩)).size) ≤ roomB) (.chk ((1 + ln I ([] : List (Den I))) * 8 ≤ roomB) (.chk (((2 : Nat) + (1 : Nat)) * 8 ≤ roomB) (.chk (linOK (tOf (⟨#[116, 101, 114, 109]⟩)) ([(4 : Int), (0 : Int), (0 : Int)] : List (Den I))) (.chk (linOK (tOf ByteArray.empty) ([(0 : Int)] : List (Den I))) (.chk ((((linF ⟨#[116, 101, 114, 109]⟩ ([(4 : Int), (0 : Int), (0 : Int)] : List (Den I)))).size + ((linF ByteArray.empty ([(0 : Int)] : List (Den I)))).size) ≤ roomB) (.chk ((((((linF ⟨#[109, 97, 99, 104, 105, 110, 101, 32, 49, 32, 102]⟩ ([(0 : Int), (8 : Int), (0 : Int), (0 : Int), (0 : Int)] : List (Den I))) ++ ⟨#[10]⟩) ++ ((linF ⟨#[98, 108, 111, 99, 107]⟩ ([(0 : Int)] : List (Den I))) ++ ⟨#[10]⟩))).size + (((linF ⟨#[116, 101, 114, 109]⟩ ([(4 : Int), (0 : Int), (0 : Int)] : List (Den I))) ++ (linF ByteArray.empty ([(0 : Int)] : List (Den I))))).size) ≤ roomB) (.know (okD (.sl 8 I) ([(0 : Int)] : List (Den I))) (.know (okD .str (linF ⟨#[116, 101, 114, 109]⟩ ([(4 : Int), (0 : Int), (0 : Int)] : List (Den I)))) (.know (okD .str (linF ByteArray.empty ([(0 : Int)] : List (Den I)))) (.chk (linOK (tOf ByteArray.empty) ([(0 : Int)] : List (Den I))) (.know (okD .str (linF ByteArray.empty ([(0 : Int)] : List (Den I)))) (.chk (((((((linF ⟨#[109, 97, 99, 104, 105, 110, 101, 32, 49, 32, 102]⟩ ([(0 : Int), (8 : Int), (0 : Int), (0 : Int), (0 : Int)] : List (Den I))) ++ ⟨#[10]⟩) ++ ((linF ⟨#[98, 108, 111, 99, 107]⟩ ([(0 : Int)] : List (Den I))) ++ ⟨#[10]⟩)) ++ ((linF ⟨#[116, 101, 114, 109]⟩ ([(4 : Int), (0 : Int), (0 : Int)] : List (Den I))) ++ (linF ByteArray.empty ([(0 : Int)] : List (Den I)))))).size + ((linF ByteArray.empty ([(0 : Int)] : List (Den I)))).size) ≤ roomB) (.chk ((((((((linF ⟨#[109, 97, 99, 104, 105, 110, 101, 32, 49, 32, 102]⟩ ([(0 : Int), (8 : Int), (0 : Int), (0 : Int), (0 : Int)] : List (Den I))) ++ ⟨#[10]⟩) ++ ((linF ⟨#[98, 108, 111, 99, 107]⟩ ([(0 : Int)] : List (Den I))) ++ ⟨#[10]⟩)) ++ ((linF ⟨#[116, 101, 114, 109]⟩ ([(4 : Int), (0 : Int), (0 : Int)] : List (Den I))) ++ (linF ByteArray.empty ([(0 : Int)] : List (Den I))))) ++ (linF ByteArray.empty ([(0 : Int)] : List (Den I))))).size + (1 : Nat)) ≤ roomB) (rt (vb ((((((((linF ⟨#[109, 97, 99, 104, 105, 110, 101, 32, 49, 32, 102]⟩ ([(0 : Int), (8 : Int), (0 : Int), (0 : Int), (0 : Int)] : List (Den I))) ++ ⟨#[10]⟩) ++ ((linF ⟨#[98, 108, 111, 99, 107]⟩ ([(0 : Int)] : List (Den I))) ++ ⟨#[10]⟩)) ++ ((linF ⟨#[116, 101, 114, 109]⟩ ([(4 : Int), (0 : Int), (0 : Int)] : List (Den I))) ++ (linF ByteArray.empty ([(0 : Int)] : List (Den I))))) ++ (linF ByteArray.empty ([(0 : Int)] : List (Den I)))) ++ ⟨#[10]⟩)).toList == (⟨#[109, 97, 99, 104, 105, 110, 101, 32, 49, 32, 102, 32, 48, 32, 56, 32, 48, 32, 48, 32, 48, 10, 98, 108, 111, 99, 107, 32, 48, 10, 116, 101, 114, 109, 32, 52, 32, 48, 32, 48, 32, 48, 32, 48, 10]⟩ : ByteArray).toList)) []))))))))))))))))))))))))))))))))))) (rt (vb false) [])))) (rt (vb false) [])))) (rt (vb false) [])))) (rt (vb false) [])))) (rt (vb false) [])))) (rt (vb false) [])))))))) := by kernel_rfl
def wrkT : Bool := true
theorem no_way {X : Bool} {P : Prop} (h : X = false) (ht : X = true) : P := by rw [h] at ht; exact Bool.noConfusion ht

def k_law50_works : Con := con [] .bool (fun x => True) fun x => wrkT
theorem m_law50_works (hp : True) : Runs E_V46 (start E_V46 f_law50_works []) (fun r_ h_ => r_ = (vb (wrkT)) ∧ h_ = []) := .tree E_V46_ok (law50_works_t) (by
 simp only [sS, implies_true]
 repeat' (first | refine And.intro ?_ ?_ | refine onP fun _ => ?_)
 all_goals first
 | exact of_decide_eq_true (by kernel_rfl)
 | (unfold linOK; exact of_decide_eq_true (by kernel_rfl))
 | exact no_way (by assumption) (by kernel_rfl)
 | (show _ = vb true; refine congrArg vb ?_; rw [ByteArray.toList_eq, ByteArray.toList_eq]; kernel_rfl))
theorem c_law50_works : qal E_V46 f_law50_works k_law50_works.spec := qan fun x hx hp => ⟨rfl, m_law50_works hp⟩
def L_V46 : List (FuncId × FSpec) := [(f_law50_works, k_law50_works.spec)] ++ L_V45
theorem L_V46_ok : ∀ x ∈ L_V46, qal (ctx []) x.1 x.2 := by
 unfold L_V46
 simp only [List.cons_append, List.nil_append, List.forall_mem_cons]
 exact ⟨c_law50_works, L_V45_ok⟩
end Burn.MC
namespace Burn.MC
open Go Go.BE Go.Proofs
set_option maxRecDepth 100000
set_option linter.unusedVariables false
set_option linter.unusedSimpArgs false
open Burn.Intn Burn.Ref
def mrg_V47 : FuncId → List Nat
 | 5 => [23, 61, 67, 77, 128, 137, 168, 192, 193, 194]
 | 6 => [15, 21, 27, 45, 52, 58]
 | _ => []
noncomputable abbrev E_V47 : Ctx := { ctx L_V46 with mrg := mrg_V47 }
theorem qfs : EOK E_V47 := have h : EOK (ctx L_V46) := qbo L_V46_ok; ⟨h.ty, h.env, h.fns, h.mixed⟩
def cuts_V47 : CutL := [([], 5, 0, [1, 3, 4, 5, 6, 7], [], []),
 ([], 5, 2, [1, 3, 4, 5, 6, 8], [], []),
 ([], 5, 4, [1, 3, 4, 5, 6, 8, 9, 10], [], []),
 ([], 5, 6, [1, 3, 4, 5, 6, 8, 9, 10, 11, 12], [], []),
 ([], 5, 8, [1, 3, 4, 5, 6, 8, 9, 10, 11, 13], [], []),
 ([], 6, 0, [3, 29, 30, 31], [], [])]
def rets_V47 : FuncId → List (Option Fx)
 | _ => []
def H_V47 : Hints := { cut := cutOf cuts_V47, ret := rets_V47 }
noncomputable def qej (m : Den qab) (n : Int) (edges : Int) (calls : Int) (wide : Bool) (i : Int) : Cfg := hcfg E_V47 qax 0 [(1, (.rtp qab m)), (3, (vi n)), (4, (vi edges)), (5, (vi calls)), (6, (vb wide)), (7, (vi i))] [] 0
noncomputable def qei (m : Den qab) (n : Int) (edges : Int) (calls : Int) (wide : Bool) (i : Int) : Cfg := hcfg E_V47 qax 2 [(1, (.rtp qab m)), (3, (vi n)), (4, (vi edges)), (5, (vi calls)), (6, (vb wide)), (8, (vi i))] [] 0
noncomputable def qdd (m : Den qab) (n : Int) (edges : Int) (calls : Int) (wide : Bool) (i : Int) (k : Int) (f_0 : ByteArray) (f_1 : List (Den I)) (f_2 : Int) (f_3 : List (Den I)) (f_4 : List (Den qac)) : Cfg := hcfg E_V47 qax 4 [(1, (.rtp qab m)), (3, (vi n)), (4, (vi edges)), (5, (vi calls)), (6, (vb wide)), (8, (vi i)), (9, (.ref 0 0)), (10, (vi k))] [(0, ⟨(.cells [(vs f_0), (.tv (.sl 8 I) f_1), (vi f_2), (.tv (.sl 8 I) f_3), (.tv (.sl 136 qac) f_4)]), 0, [], false, none⟩)] 1
noncomputable def qeh (m : Den qab) (n : Int) (edges : Int) (calls : Int) (wide : Bool) (i : Int) (k : Int) (j : Int) (f_0 : ByteArray) (f_1 : List (Den I)) (f_2 : Int) (f_3 : List (Den I)) (f_4 : List (Den qac)) (b_0 : List (Den I)) (b_1 : List (Den qad)) (b_2 : Int) (b_3 : List (Den I)) (b_4 : List (Den I)) (b_5 : List (Den qae)) (b_6 : Int) : Cfg := hcfg E_V47 qax 6 [(1, (.rtp qab m)), (3, (vi n)), (4, (vi edges)), (5, (vi calls)), (6, (vb wide)), (8, (vi i)), (9, (.ref 0 0)), (10, (vi k)), (11, (.ref 1 0)), (12, (vi j))] [(0, ⟨(.cells [(vs f_0), (.tv (.sl 8 I) f_1), (vi f_2), (.tv (.sl 8 I) f_3), (.tv (.sl 136 qac) f_4)]), 0, [], false, none⟩), (1, ⟨(.cells [(.tv (.sl 8 I) b_0), (.tv (.sl 80 qad) b_1), (vi b_2), (.tv (.sl 8 I) b_3), (.tv (.sl 8 I) b_4), (.tv (.sl 32 qae) b_5), (vi b_6)]), 1, [], false, none⟩)] 2
noncomputable def qgt (m : Den qab) (n : Int) (edges : Int) (calls : Int) (wide : Bool) (i : Int) (k : Int) (j : Int) (f_0 : ByteArray) (f_1 : List (Den I)) (f_2 : Int) (f_3 : List (Den I)) (f_4 : List (Den qac)) (b_0 : List (Den I)) (b_1 : List (Den qad)) (b_2 : Int) (b_3 : List (Den I)) (b_4 : List (Den I)) (b_5 : List (Den qae)) (b_6 : Int) : Cfg := hcfg E_V47 qax 8 [(1, (.rtp qab m)), (3, (vi n)), (4, (vi edges)), (5, (vi calls)), (6, (vb wide)), (8, (vi i)), (9, (.ref 0 0)), (10, (vi k)), (11, (.ref 1 0)), (13, (vi j))] [(0, ⟨(.cells [(vs f_0), (.tv (.sl 8 I) f_1), (vi f_2), (.tv (.sl 8 I) f_3), (.tv (.sl 136 qac) f_4)]), 0, [], false, none⟩), (1, ⟨(.cells [(.tv (.sl 8 I) b_0), (.tv (.sl 80 qad) b_1), (vi b_2), (.tv (.sl 8 I) b_3), (.tv (.sl 8 I) b_4), (.tv (.sl 32 qae) b_5), (vi b_6)]), 1, [], false, none⟩)] 2
theorem law24_TooLarge_t (m : Den qab) : run E_V47 H_V47 qax 3000 (start E_V47 qax [(.tv qab m)]) = (cond (cond (decide (((ln qai m.1) : Int) > (8 : Int))) true (decide (((ln qaa m.2.1) : Int) > (5 : Int)))) (rt (vi (1 : Int)) []) (hd (qej m (0 : Int) (0 : Int) (0 : Int) false (0 : Int)))) := by kernel_rfl
theorem law24_TooLarge_L0_t (m : Den qab) (n : Int) (edges : Int) (calls : Int) (wide : Bool) (i : Int) : run E_V47 H_V47 qax 3000 (qej m n edges calls wide i) = (cond (decide (i < ((ln qai m.1) : Int))) (.chk (0 ≤ i ∧ i < (ln qai m.1)) (hd (qej m (IntKind.wrap .i64 (n + ((ln I ((gd qai m.1 i.toNat).2.2.2.1)) : Int))) edges calls wide (IntKind.wrap .i64 (i + (1 : Int)))))) (hd (qei m n edges calls wide (0 : Int)))) := by kernel_rfl
theorem law24_TooLarge_L2_t (m : Den qab) (n : Int) (edges : Int) (calls : Int) (wide : Bool) (i : Int) : run E_V47 H_V47 qax 3000 (qei m n edges calls wide i) = (cond (decide (i < ((ln qaa m.2.1) : Int))) (.chk (0 ≤ i ∧ i < (ln qaa m.2.1)) (cond (cond (cond (cond (decide (((ln I ((gd qaa m.2.1 i.toNat).2.2.2.1)) : Int) > (300 : Int))) true (decide (((ln qac ((gd qaa m.2.1 i.toNat).2.2.2.2.1)) : Int) > (60 : Int)))) true (decide (((ln I ((gd qaa m.2.1 i.toNat).2.1)) : Int) > (10 : Int)))) true (decide ((IntKind.wrap .i64 (((ln I ((gd qaa m.2.1 i.toNat).2.2.2.1)) : Int) * ((ln qac ((gd qaa m.2.1 i.toNat).2.2.2.2.1)) : Int))) > (2000 : Int)))) (rt (vi (1 : Int)) []) (hd (qdd m n edges calls wide i (0 : Int) (tOf ((gd qaa m.2.1 i.toNat).1)) ((gd qaa m.2.1 i.toNat).2.1) (z ((gd qaa m.2.1 i.toNat).2.2.1)) ((gd qaa m.2.1 i.toNat).2.2.2.1) ((gd qaa m.2.1 i.toNat).2.2.2.2.1))))) (cond (cond (decide (n > (700 : Int))) true (cond wide (cond (decide (edges > (60 : Int))) true (decide (calls > (8 : Int)))) false)) (rt (vi (1 : Int)) []) (rt (vi (0 : Int)) []))) := by kernel_rfl
theorem law24_TooLarge_L4_t (m : Den qab) (n : Int) (edges : Int) (calls : Int) (wide : Bool) (i : Int) (k : Int) (f_0 : ByteArray) (f_1 : List (Den I)) (f_2 : Int) (f_3 : List (Den I)) (f_4 : List (Den qac)) : run E_V47 H_V47 qax 3000 (qdd m n edges calls wide i k f_0 f_1 f_2 f_3 f_4) = (cond (decide (k < ((ln qac f_4) : Int))) (.chk (0 ≤ k ∧ k < (ln qac f_4)) (hd (qeh m (IntKind.wrap .i64 ((IntKind.wrap .i64 ((IntKind.wrap .i64 ((IntKind.wrap .i64 ((IntKind.wrap .i64 (n + ((ln qad ((gd qac f_4 k.toNat).2.1)) : Int))) + ((ln I ((gd qac f_4 k.toNat).1)) : Int))) + ((ln I ((gd qac f_4 k.toNat).2.2.1.2.2.1)) : Int))) + (IntKind.wrap .i64 ((3 : Int) * ((ln qae ((gd qac f_4 k.toNat).2.2.1.2.2.2.1)) : Int))))) + ((ln I ((gd qac f_4 k.toNat).2.2.1.2.1)) : Int))) (IntKind.wrap .i64 (edges + ((ln qae ((gd qac f_4 k.toNat).2.2.1.2.2.2.1)) : Int))) calls (cond wide true (decide (((ln qae ((gd qac f_4 k.toNat).2.2.1.2.2.2.1)) : Int) > (4 : Int)))) i k (0 : Int) f_0 f_1 f_2 f_3 f_4 ((gd qac f_4 k.toNat).1) ((gd qac f_4 k.toNat).2.1) (z ((gd qac f_4 k.toNat).2.2.1.1)) ((gd qac f_4 k.toNat).2.2.1.2.1) ((gd qac f_4 k.toNat).2.2.1.2.2.1) ((gd qac f_4 k.toNat).2.2.1.2.2.2.1) (z ((gd qac f_4 k.toNat).2.2.1.2.2.2.2.1))))) (hd (qei m n edges calls wide (IntKind.wrap .i64 (i + (1 : Int)))))) := by kernel_rfl
theorem law24_TooLarge_L6_t (m : Den qab) (n : Int) (edges : Int) (calls : Int) (wide : Bool) (i : Int) (k : Int) (j : Int) (f_0 : ByteArray) (f_1 : List (Den I)) (f_2 : Int) (f_3 : List (Den I)) (f_4 : List (Den qac)) (b_0 : List (Den I)) (b_1 : List (Den qad)) (b_2 : Int) (b_3 : List (Den I)) (b_4 : List (Den I)) (b_5 : List (Den qae)) (b_6 : Int) : run E_V47 H_V47 qax 3000 (qeh m n edges calls wide i k j f_0 f_1 f_2 f_3 f_4 b_0 b_1 b_2 b_3 b_4 b_5 b_6) = (cond (cond (decide (j < ((ln qad b_1) : Int))) (decide (n ≤ (700 : Int))) false) (.chk (0 ≤ j ∧ j < (ln qad b_1)) (.chk ((8 : Int) ≠ 0) (.chk (0 ≤ j ∧ j < (ln qad b_1)) (cond ((z ((gd qad b_1 j.toNat).1)) == (30 : Int)) (hd (qeh m (IntKind.wrap .i64 (n + (IntKind.wrap .i64 (Int.tdiv ((ln I ((gd qad b_1 j.toNat).2.2.2.1)) : Int) (8 : Int))))) edges (IntKind.wrap .i64 (calls + (1 : Int))) wide i k (IntKind.wrap .i64 (j + (1 : Int))) f_0 f_1 f_2 f_3 f_4 b_0 b_1 b_2 b_3 b_4 b_5 b_6)) (hd (qeh m (IntKind.wrap .i64 (n + (IntKind.wrap .i64 (Int.tdiv ((ln I ((gd qad b_1 j.toNat).2.2.2.1)) : Int) (8 : Int))))) edges calls wide i k (IntKind.wrap .i64 (j + (1 : Int))) f_0 f_1 f_2 f_3 f_4 b_0 b_1 b_2 b_3 b_4 b_5 b_6)))))) (hd (qgt m n edges calls wide i k (0 : Int) f_0 f_1 f_2 f_3 f_4 b_0 b_1 b_2 b_3 b_4 b_5 b_6))) := by kernel_rfl
theorem law24_TooLarge_L8_t (m : Den qab) (n : Int) (edges : Int) (calls : Int) (wide : Bool) (i : Int) (k : Int) (j : Int) (f_0 : ByteArray) (f_1 : List (Den I)) (f_2 : Int) (f_3 : List (Den I)) (f_4 : List (Den qac)) (b_0 : List (Den I)) (b_1 : List (Den qad)) (b_2 : Int) (b_3 : List (Den I)) (b_4 : List (Den I)) (b_5 : List (Den qae)) (b_6 : Int) : run E_V47 H_V47 qax 3000 (qgt m n edges calls wide i k j f_0 f_1 f_2 f_3 f_4 b_0 b_1 b_2 b_3 b_4 b_5 b_6) = (cond (cond (decide (j < ((ln qae b_5) : Int))) (decide (n ≤ (700 : Int))) false) (.chk (0 ≤ j ∧ j < (ln qae b_5)) (.chk ((2 : Int) ≠ 0) (hd (qgt m (IntKind.wrap .i64 (n + (IntKind.wrap .i64 (Int.tdiv ((ln I ((gd qae b_5 j.toNat).2.1)) : Int) (2 : Int))))) edges calls wide i k (IntKind.wrap .i64 (j + (1 : Int))) f_0 f_1 f_2 f_3 f_4 b_0 b_1 b_2 b_3 b_4 b_5 b_6)))) (hd (qdd m n edges calls wide i (IntKind.wrap .i64 (k + (1 : Int))) f_0 f_1 f_2 f_3 f_4))) := by kernel_rfl
noncomputable def law50_Large_L0 (n : Int) (t29 : List (Den qac)) (t30 : Int) (t31 : Int) : Cfg := hcfg E_V47 qex 0 [(3, (vi n)), (29, (.tv (.sl 136 qac) t29)), (30, (vi t30)), (31, (vi t31))] [] 0
theorem law50_Large_t (f : Den qag) : run E_V47 H_V47 qex 3000 (start E_V47 qex [(.tv qag f)]) = (cond (cond (cond (cond (decide (((ln qac f.2.2.2.2.2.2.1) : Int) > (60 : Int))) true (decide (((ln I f.2.2.2.1) : Int) > (300 : Int)))) true (decide (((ln I f.2.1) : Int) > (50 : Int)))) true (decide ((((tOf f.1)).size : Int) > (200 : Int)))) (rt (vb true) []) (hd (law50_Large_L0 (0 : Int) f.2.2.2.2.2.2.1 ((ln qac f.2.2.2.2.2.2.1) : Int) (0 : Int)))) := by kernel_rfl
theorem law50_Large_L0_t (n : Int) (t29 : List (Den qac)) (t30 : Int) (t31 : Int) : run E_V47 H_V47 qex 3000 (law50_Large_L0 n t29 t30 t31) = (cond (decide (t31 < t30)) (.chk (0 ≤ t31 ∧ t31 < (ln qac t29)) (cond (cond (cond (cond (decide (((ln qad ((gd qac t29 t31.toNat).2.1)) : Int) > (200 : Int))) true (decide (((ln qae ((gd qac t29 t31.toNat).2.2.1.2.2.2.1)) : Int) > (50 : Int)))) true (decide (((ln I ((gd qac t29 t31.toNat).2.2.1.2.2.1)) : Int) > (50 : Int)))) true (decide (((ln I ((gd qac t29 t31.toNat).1)) : Int) > (50 : Int)))) (rt (vb true) []) (hd (law50_Large_L0 (IntKind.wrap .i64 (n + ((ln qad ((gd qac t29 t31.toNat).2.1)) : Int))) t29 t30 (IntKind.wrap .i64 (t31 + (1 : Int))))))) (rt (vb (decide (n > (400 : Int)))) [])) := by kernel_rfl
def Ex (E : Ctx) (c : Cfg) : Prop := ∃ v, RunI E c v
def ExT (E : Ctx) (t : Tre Leaf) : Prop := ∃ v, t.wp (contL E (IsI v))
theorem ExT.cond {E : Ctx} {b : Bool} {t e : Tre Leaf} (h1 : b = true → ExT E t) (h2 : b = false → ExT E e) : ExT E (cond b t e) := by
 cases b
 ·exact h2 rfl
 ·exact h1 rfl
theorem ExT.chk {E : Ctx} {C : Prop} {t : Tre Leaf} (hC : C) (h : ExT E t) : ExT E (.chk C t) := h.elim fun v hv => ⟨v, hC, fun _ => hv⟩
theorem ExT.know {E : Ctx} {K : Prop} {t : Tre Leaf} (h : ExT E t) : ExT E (.know K t) := h.elim fun v hv => ⟨v, fun _ => hv⟩
theorem ExT.rt {E : Ctx} {k : Int} : ExT E (rt (vi k) []) := ⟨k, rt_iff.2 ⟨rfl, rfl⟩⟩
theorem ExT.hd {E : Ctx} {c : Cfg} (h : Ex E c) : ExT E (hd c) := h.elim fun v hv => ⟨v, hd_iff.2 hv⟩
theorem Ex.tree {E : Ctx} {H : Hints} {f : FuncId} {n : Nat} {c : Cfg} {t : Tre Leaf} (hE : EOK E) (h : run E H f n c = t) (ht : ExT E t) : Ex E c := ht.elim fun v hv => ⟨v, .tree hE h hv⟩
theorem not_lt_self {n : Nat} {P : Prop} {b : Bool} (h : cond (decide ((n : Int) < (n : Int))) b false = true) : P := by
 rw [decide_eq_false (Int.lt_irrefl _)] at h
 exact Bool.noConfusion h
theorem idx_ok {i n : Nat} (h : i < n) : 0 ≤ (i : Int) ∧ (i : Int) < (n : Nat) := ⟨Int.natCast_nonneg _, Int.ofNat_lt.mpr h⟩
theorem tl_l8 (m : Md) (f : Fn) (b : Blk) (i k : Int) (edges calls : Int) (wide : Bool) (hb : okD qac b) (ih : ∀ n, Ex E_V47 (qdd m n edges calls wide i (IntKind.wrap .i64 (k + 1)) (tOf f.1) f.2.1 (z f.2.2.1) f.2.2.2.1 f.2.2.2.2.1)) : ∀ j : Nat, j ≤ ln qae b.2.2.1.2.2.2.1 → ∀ n, Ex E_V47 (qgt m n edges calls wide i k j (tOf f.1) f.2.1 (z f.2.2.1) f.2.2.2.1 f.2.2.2.2.1 b.1 b.2.1 (z b.2.2.1.1) b.2.2.1.2.1 b.2.2.1.2.2.1 b.2.2.1.2.2.2.1 (z b.2.2.1.2.2.2.2.1)) :=
 qay (fun n => .tree qfs (law24_TooLarge_L8_t ..) (.cond (fun h => not_lt_self h) fun _ => .hd (ih n)))
  fun j hj ihj n => .tree qfs (law24_TooLarge_L8_t ..) (.cond (fun _ => .chk (idx_ok hj) (.chk (by decide) (.hd (by
   rw [wrapS hj (qar hb.2.2.1.2.2.2.1.1)]
   exact ihj _)))) fun _ => .hd (ih n))
theorem tl_l6 (m : Md) (f : Fn) (b : Blk) (i k : Int) (edges : Int) (wide : Bool) (hb : okD qac b) (ih : ∀ n calls, Ex E_V47 (qdd m n edges calls wide i (IntKind.wrap .i64 (k + 1)) (tOf f.1) f.2.1 (z f.2.2.1) f.2.2.2.1 f.2.2.2.2.1)) : ∀ j : Nat, j ≤ ln qad b.2.1 → ∀ n calls, Ex E_V47 (qeh m n edges calls wide i k j (tOf f.1) f.2.1 (z f.2.2.1) f.2.2.2.1 f.2.2.2.2.1 b.1 b.2.1 (z b.2.2.1.1) b.2.2.1.2.1 b.2.2.1.2.2.1 b.2.2.1.2.2.2.1 (z b.2.2.1.2.2.2.2.1)) :=
 qay (fun n calls => .tree qfs (law24_TooLarge_L6_t ..) (.cond (fun h => not_lt_self h) fun _ => .hd (tl_l8 m f b i k edges calls wide hb (fun n => ih n calls) 0 (Nat.zero_le _) n)))
  fun j hj ihj n calls => .tree qfs (law24_TooLarge_L6_t ..) (.cond (fun _ => .chk (idx_ok hj) (.chk (by decide) (.chk (idx_ok hj) (.cond (fun _ => .hd (by
   rw [wrapS hj (qar hb.2.1.1)]
   exact ihj _ _)) (fun _ => .hd (by
   rw [wrapS hj (qar hb.2.1.1)]
   exact ihj _ _)))))) fun _ => .hd (tl_l8 m f b i k edges calls wide hb (fun n => ih n calls) 0 (Nat.zero_le _) n))
theorem tl_l4 (m : Md) (f : Fn) (i : Int) (hf : okD qaa f) (ih : ∀ n edges calls wide, Ex E_V47 (qei m n edges calls wide (IntKind.wrap .i64 (i + 1)))) : ∀ k : Nat, k ≤ ln qac f.2.2.2.2.1 → ∀ n edges calls wide, Ex E_V47 (qdd m n edges calls wide i k (tOf f.1) f.2.1 (z f.2.2.1) f.2.2.2.1 f.2.2.2.2.1) :=
 qay (fun n edges calls wide => .tree qfs (law24_TooLarge_L4_t ..) (.cond (fun h => absurd (of_decide_eq_true h) (Int.lt_irrefl _)) fun _ => .hd (ih ..)))
  fun k hk ihk n edges calls wide => .tree qfs (law24_TooLarge_L4_t ..) (.cond (fun _ => .chk (idx_ok hk) (.hd (tl_l6 m f (gd qac f.2.2.2.2.1 k) i k _ _ (ok_gd hf.2.2.2.2.1 hk) (fun n calls => by
   rw [wrapS hk (qar hf.2.2.2.2.1.1)]
   exact ihk ..) 0 (Nat.zero_le _) _ calls))) fun _ => .hd (ih ..))
theorem tl_l2 (m : Md) (hm : okD qab m) : ∀ i : Nat, i ≤ ln qaa m.2.1 → ∀ n edges calls wide, Ex E_V47 (qei m n edges calls wide i) :=
 qay (fun n edges calls wide => .tree qfs (law24_TooLarge_L2_t ..) (.cond (fun h => absurd (of_decide_eq_true h) (Int.lt_irrefl _)) fun _ => .cond (fun _ => .rt) fun _ => .rt))
  fun i hi ihi n edges calls wide => .tree qfs (law24_TooLarge_L2_t ..) (.cond (fun _ => .chk (idx_ok hi) (.cond (fun _ => .rt) fun _ => .hd (tl_l4 m (gd qaa m.2.1 i) i (ok_gd hm.2.1 hi) (fun n edges calls wide => by
   rw [wrapS hi (qar hm.2.1.1)]
   exact ihi ..) 0 (Nat.zero_le _) n edges calls wide))) fun _ => .cond (fun _ => .rt) fun _ => .rt)
theorem tl_l0 (m : Md) (hm : okD qab m) : ∀ i : Nat, i ≤ ln qai m.1 → ∀ n edges calls wide, Ex E_V47 (qej m n edges calls wide i) :=
 qay (fun n edges calls wide => .tree qfs (law24_TooLarge_L0_t ..) (.cond (fun h => absurd (of_decide_eq_true h) (Int.lt_irrefl _)) fun _ => .hd (tl_l2 m hm 0 (Nat.zero_le _) n edges calls wide)))
  fun i hi ihi n edges calls wide => .tree qfs (law24_TooLarge_L0_t ..) (.cond (fun _ => .chk (idx_ok hi) (.hd (by
   rw [wrapS hi (qar hm.1.1)]
   exact ihi ..))) fun _ => .hd (tl_l2 m hm 0 (Nat.zero_le _) n edges calls wide))
noncomputable def tlT (m : Md) : Tre Leaf := cond (cond (decide ((ln qai m.1 : Int) > (8 : Int))) true (decide ((ln qaa m.2.1 : Int) > (5 : Int)))) (rt (vi (1 : Int)) []) (hd (qej m (0 : Int) (0 : Int) (0 : Int) false (0 : Int)))
theorem tl_ex (m : Md) : ∃ v, okD qab m → (tlT m).wp (contL E_V47 (IsI v)) := by
 by_cases hm : okD qab m
 ·have h : ExT E_V47 (tlT m) := .cond (fun _ => .rt) fun _ => .hd (tl_l0 m hm 0 (Nat.zero_le _) 0 0 0 false)
  exact h.elim fun v hv => ⟨v, fun _ => hv⟩
 ·exact ⟨0, fun h => absurd h hm⟩
noncomputable def tlF (m : Md) : Int := Classical.choose (tl_ex m)
noncomputable def k_law24_TooLarge : Con := con [.d qab] I (fun x => True) fun x => tlF x.1
theorem m_law24_TooLarge (m : Den qab) (h_m : okD qab m) (hp : True) : Runs E_V47 (start E_V47 qax [(.tv qab m)]) (fun r_ h_ => r_ = (vi (tlF m)) ∧ h_ = []) := .tree qfs (law24_TooLarge_t m) (by
 show (tlT m).wp (contL _ (IsI (tlF m)))
 exact Classical.choose_spec (tl_ex m) h_m)
theorem c_law24_TooLarge : qal E_V47 qax k_law24_TooLarge.spec := qan fun x hx hp => ⟨rfl, m_law24_TooLarge x.1 hx.1 hp⟩
def lgL : Int → List Blk → Bool
 | n, [] => decide (n > (400 : Int))
 | n, b :: l => cond (cond (cond (cond (decide ((ln qad b.2.1 : Int) > (200 : Int))) true (decide ((ln qae b.2.2.1.2.2.2.1 : Int) > (50 : Int)))) true (decide ((ln I b.2.2.1.2.2.1 : Int) > (50 : Int)))) true (decide ((ln I b.1 : Int) > (50 : Int)))) true (lgL (IntKind.wrap .i64 (n + (ln qad b.2.1 : Int))) l)
def lgF (f : MFn) : Bool := cond (cond (cond (cond (decide ((ln qac f.2.2.2.2.2.2.1 : Int) > (60 : Int))) true (decide ((ln I f.2.2.2.1 : Int) > (300 : Int)))) true (decide ((ln I f.2.1 : Int) > (50 : Int)))) true (decide (((tOf f.1).size : Int) > (200 : Int)))) true (lgL 0 f.2.2.2.2.2.2.1)
theorem law50_Large_l (l : List Blk) (hl : ln qac l < 9223372036854775807) : ∀ i, i ≤ ln qac l → ∀ n, Runs E_V47 (law50_Large_L0 n l (ln qac l : Nat) i) (fun r h => r = vb (lgL n (l.drop i)) ∧ h = []) :=
 qay (fun n => .tree qfs (law50_Large_L0_t ..) (by
  rw [show l.drop (ln qac l) = [] from qhb, lgL]
  simp only [sS, sL,  Nat.lt_irrefl]))
  fun i hi ih n => .tree qfs (law50_Large_L0_t ..) (by
   rw [show l.drop i = gd qac l i :: l.drop (i + 1) from qhc hi, lgL]
   simp only [sS, sL,  hi, wrapS hi hl]
   refine ⟨fun h => congrArg vb (Bool.cond_pos h).symm, fun h => ?_⟩
   have := ih (IntKind.wrap .i64 (n + (ln qad (gd qac l i).2.1 : Int)))
   rw [Bool.cond_neg h]
   exact this)
def k_law50_Large : Con := con [.d qag] .bool (fun x => True) fun x => lgF x.1
theorem m_law50_Large (f : Den qag) (h_f : okD qag f) (hp : True) : Runs E_V47 (start E_V47 qex [(.tv qag f)]) (fun r_ h_ => r_ = (vb (lgF f)) ∧ h_ = []) := .tree qfs (law50_Large_t f) (by
 simp only [sS, implies_true]
 refine ⟨fun h => congrArg vb (Bool.cond_pos h).symm, fun h => ?_⟩
 have := law50_Large_l f.2.2.2.2.2.2.1 (qar h_f.2.2.2.2.2.2.1.1) 0 (Nat.zero_le _) 0
 unfold lgF
 rw [Bool.cond_neg h]
 exact this)
theorem c_law50_Large : qal E_V47 qex k_law50_Large.spec := qan fun x hx hp => ⟨rfl, m_law50_Large x.1 hx.1 hp⟩
noncomputable def L_V47 : List (FuncId × FSpec) := [(qax, k_law24_TooLarge.spec), (qex, k_law50_Large.spec)] ++ L_V46
theorem L_V47_ok : ∀ x ∈ L_V47, qal (ctx []) x.1 x.2 := by
 unfold L_V47
 simp only [List.cons_append, List.nil_append, List.forall_mem_cons]
 exact ⟨c_law24_TooLarge, c_law50_Large, L_V46_ok⟩
end Burn.MC
namespace Burn.MC
open Go Go.BE Go.Proofs
set_option maxRecDepth 100000
set_option linter.unusedVariables false
set_option linter.unusedSimpArgs false
open Burn.Intn Burn.Ref
def mrg_V48 : FuncId → List Nat
 | 3 => [11, 22]
 | _ => []
noncomputable abbrev E_V48 : Ctx := { ctx L_V47 with mrg := mrg_V48 }
theorem E_V48_ok : EOK E_V48 := have h : EOK (ctx L_V47) := qbo L_V47_ok; ⟨h.ty, h.env, h.fns, h.mixed⟩
def cuts_V48 : CutL := []
def rets_V48 : FuncId → List (Option Fx)
 | _ => []
def H_V48 : Hints := { cut := cutOf cuts_V48, ret := rets_V48 }
theorem law50_MachineCheck_t (m : Den qab) (f : Den qag) : run E_V48 H_V48 qdz 3000 (start E_V48 qdz [(.tv qab m), (.tv qag f)]) = (.chk (True) (.chk ((((tlF m) == (1 : Int)) = false → (True))) (.know (okD (.int .i64) (tlF m)) (cond (cond ((tlF m) == (1 : Int)) true (lgF f)) (.chk (True) (.know True (rt (vb (wrkT)) []))) (.chk (True) (.chk (True) (.chk ((((mchF m f) == (mchF m f)) = true → (True))) (.know (okD (.int .i64) (mchF m f)) (.know (okD (.int .i64) (mchF m f)) (rt (vb (cond ((mchF m f) == (mchF m f)) (wrkT) false)) [])))))))))) := by kernel_rfl
def yesF (m : Md) (f : MFn) : Bool := true

def k_law50_MachineCheck : Con := con [.d qab, .d qag] .bool (fun x => True) fun x => yesF x.1 x.2.1
theorem m_law50_MachineCheck (m : Den qab) (f : Den qag) (h_m : okD qab m) (h_f : okD qag f) (hp : True) : Runs E_V48 (start E_V48 qdz [(.tv qab m), (.tv qag f)]) (fun r_ h_ => r_ = (vb (yesF m f)) ∧ h_ = []) := .tree E_V48_ok (law50_MachineCheck_t m f) (by
 simp only [sS, implies_true]
 refine fun _ => ⟨fun _ => rfl, fun _ _ _ => ?_⟩
 rw [beq_self_eq_true]
 rfl)
theorem c_law50_MachineCheck : qal E_V48 qdz k_law50_MachineCheck.spec := qan fun x hx hp => ⟨rfl, m_law50_MachineCheck x.1 x.2.1 hx.1 hx.2.1 hp⟩
end Burn.MC

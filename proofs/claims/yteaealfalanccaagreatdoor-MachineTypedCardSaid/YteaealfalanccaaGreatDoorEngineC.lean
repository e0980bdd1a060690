/- A part of the proofs over this program: an abstract machine that the kernel evaluates, and its soundness. No conditions. -/
import Derived.Test.YteaealfalanccaaGreatDoorEngineB
import Derived.Test.YteaealfalanccaaGreatDoorEngineA
import Derived.Laws.RangeAny
import Derived.Orders
namespace Go.BE
open Go.RowKit
section
variable {P : Program} {E : Ctx} {w w' w0 : World} {Z Z' : Nat → Prop} {K : Kp} {own own' : Own} {γ γ' : Gst} {h h' : Heap} {used used' : Nat → Prop} {r s d id : Nat} {R : Root} {a A B : AV} {v V U : Value} {cs ds : List AV} {vs us : List Value}
theorem asI_inv {n : Int} (hA : VR w Z γ A V) (h : asI A = some n) : ∃ k, V = .int k n := by
 unfold asI at h
 split at h
 ·obtain rfl := hA.val_inv
  injection h with h
  subst h
  exact ⟨_, rfl⟩
 ·cases h
theorem asB_inv {b : Bool} (hA : VR w Z γ A V) (h : asB A = some b) : V = .bool b := by
 unfold asB at h
 split at h
 ·obtain rfl := hA.val_inv
  injection h with h
  subst h
  rfl
 ·cases h
theorem maps {ρa : Operand → AV} {ρ : Operand → Value} (hρ : ∀ x, VR w Z γ (ρa x) (ρ x)) (l : List Operand) : VRs w Z γ (l.map ρa) (l.map ρ) := by
 induction l with
 | nil => exact .nil
 | cons x l ih => exact .cons (hρ x) ih
theorem parts {ρa : Operand → AV} {ρ : Operand → Value} (hρ : ∀ x, VR w Z γ (ρa x) (ρ x)) (l : Array (Nat × Operand)) :
  Parts w Z γ (l.toList.map fun (i, x) => (i, ρa x)) (l.map fun (i, x) => (i, ρ x)).toList := by
 refine ⟨by simp, fun j x y hx hy => ?_⟩
 simp only [Array.toList_map, List.getElem?_map] at hx hy
 cases hl : l.toList[j]? with
 | none => simp [hl] at hx
 | some p =>
  simp only [hl, Option.map_some, Option.some.injEq] at hx hy
  subst hx
  subst hy
  exact ⟨rfl, hρ _⟩
theorem amax_sound : ∀ {as : List AV} {A a : AV} {V : Value} {Vs : List Value}, amax A as = some a → VR w Z γ A V → VRs w Z γ as Vs → ∃ v, (Vs.foldlM Builtin.max2 V).run P w = .ok v w ∧ VR w Z γ a v
 | [], A, a, V, Vs, he, hA, hs => by
  have : Vs = [] := List.eq_nil_of_length_eq_zero (by simpa using hs.1.symm)
  subst this
  simp only [amax, Option.some.injEq] at he
  subst he
  exact ⟨V, rfl, hA⟩
 | x :: as, A, a, V, Vs, he, hA, hs => by
  cases Vs with
  | nil => simp [VRs] at hs
  | cons y Vs =>
   unfold amax at he
   split at he
   ·rename_i heq; cases heq
   ·rename_i k n k' m as' heq
    injection heq with h1 h2
    subst h1
    subst h2
    split at he
    ·rename_i hk
     subst hk
     have ha1 : k.has n := hA.val_ok
     have ha2 : k.has m := hs.head.val_ok
     obtain rfl := hA.val_inv
     obtain rfl := hs.head.val_inv
     obtain ⟨v, e1, e2⟩ := amax_sound (V := .int k (if m > n then m else n)) he (.cr (.val _ (show k.has (if m > n then m else n) by split <;> assumption))) hs.tail
     exact ⟨v, by simp only [List.foldlM_cons, Sem.run_bind, Builtin.max2, Sem.run_pure, Result.andThen_ok, e1], e2⟩
    ·cases he
   ·cases he
theorem amin_sound : ∀ {as : List AV} {A a : AV} {V : Value} {Vs : List Value}, amin A as = some a → VR w Z γ A V → VRs w Z γ as Vs → ∃ v, (Vs.foldlM Builtin.min2 V).run P w = .ok v w ∧ VR w Z γ a v
 | [], A, a, V, Vs, he, hA, hs => by
  have : Vs = [] := List.eq_nil_of_length_eq_zero (by simpa using hs.1.symm)
  subst this
  simp only [amin, Option.some.injEq] at he
  subst he
  exact ⟨V, rfl, hA⟩
 | x :: as, A, a, V, Vs, he, hA, hs => by
  cases Vs with
  | nil => simp [VRs] at hs
  | cons y Vs =>
   unfold amin at he
   split at he
   ·rename_i heq; cases heq
   ·rename_i k n k' m as' heq
    injection heq with h1 h2
    subst h1
    subst h2
    split at he
    ·rename_i hk
     subst hk
     have ha1 : k.has n := hA.val_ok
     have ha2 : k.has m := hs.head.val_ok
     obtain rfl := hA.val_inv
     obtain rfl := hs.head.val_inv
     obtain ⟨v, e1, e2⟩ := amin_sound (V := .int k (if m < n then m else n)) he (.cr (.val _ (show k.has (if m < n then m else n) by split <;> assumption))) hs.tail
     exact ⟨v, by simp only [List.foldlM_cons, Sem.run_bind, Builtin.min2, Sem.run_pure, Result.andThen_ok, e1], e2⟩
    ·cases he
   ·cases he
theorem VR.fn_inv {f : FuncId} {caps : List AV} (h : VR w Z γ (.fn f caps) v) : ∃ vs : Array Value, v = .func (.func f) #[] vs ∧ VRs w Z γ caps vs.toList := by
 cases h with
 | cr h =>
  cases h with
  | fn _ _ vs hl hr => exact ⟨vs, rfl, by simpa using hl, fun j x y hx hy => .cr (hr j x y hx (by simpa using hy))⟩
 | fn _ _ vs hl hr => exact ⟨vs, rfl, by simpa using hl, fun j x y hx hy => hr j x y hx (by simpa using hy)⟩

def OutOK (E : Ctx) (w0 : World) (K : Kp) (w : World) (Z : Nat → Prop) (γ : Gst) (h : Heap) (used used' : Nat → Prop) (ρ : Operand → Value) (o : Oper) : Out → Prop
 | .v C a => AllP C → ∃ v, (execOp ρ o).run E.P w = .ok (.value v) w ∧ VR w Z γ a v
 | .w C a ws sk => AllP C → ∃ n v w' Z' own' γ', (execOp ρ o).run E.P w = .ok n w' ∧ (if sk then n = .skip ∧ v = undef else n = .value v) ∧ Stay w Z w' Z' ∧ Gst.Ext used γ γ' ∧ MemR w0 K w' Z' own' γ' (qaw h ws) used' ∧ VR w' Z' γ' a v
 | .call f args => ∃ vs : List Value, (execOp ρ o).run E.P w = (callFunc f vs.toArray).run E.P w ∧ VRs w Z γ args vs
 | .any p => ∃ b, p b ∧ (execOp ρ o).run E.P w = .ok (.value (.bool b)) w
 | .no => True
theorem oV_ok {ρ : Operand → Value} {o : Oper} {x : Option AV} (h : ∀ a, x = some a → ∃ v, (execOp ρ o).run E.P w = .ok (.value v) w ∧ VR w Z γ a v) : OutOK E w0 K w Z γ ‹Heap› used used' ρ o (oV x) := by
 cases x with
 | none => trivial
 | some a => exact fun _ => h a rfl
theorem oC_ok {ρ : Operand → Value} {o : Oper} {x : Option (List Prop × AV)} (h : ∀ C a, x = some (C, a) → AllP C → ∃ v, (execOp ρ o).run E.P w = .ok (.value v) w ∧ VR w Z γ a v) : OutOK E w0 K w Z γ ‹Heap› used used' ρ o (oC x) := by
 cases x with
 | none => trivial
 | some a => exact fun hC => h a.1 a.2 rfl hC
theorem WOK.out {ρ : Operand → Value} {o : Oper} {m : Sem Value} {ws : List (Nat × Option Root)} (ho : (execOp ρ o) = (do pure (.value (← m)))) (hw : WOK E.P w0 K w Z γ h used used' m a ws) :
  ∃ n v w' Z' own' γ', (execOp ρ o).run E.P w = .ok n w' ∧ (if false = true then n = .skip ∧ v = undef else n = .value v) ∧ Stay w Z w' Z' ∧ Gst.Ext used γ γ' ∧ MemR w0 K w' Z' own' γ' (qaw h ws) used' ∧ VR w' Z' γ' a v := by
 obtain ⟨v, w', Z', own', γ', e1, e2, e3, e4, e5⟩ := hw
 refine ⟨.value v, v, w', Z', own', γ', ?_, ?_, e2, e3, e4, e5⟩
 ·rw [ho]
  simp only [Sem.run_bind, e1, Result.andThen_ok, Sem.run_pure]
 ·rw [if_neg (by simp)]
theorem WOK.mk_out {ρ : Operand → Value} {o : Oper} {m : Sem Value} {x : Out} (ho : (execOp ρ o) = (do pure (.value (← m)))) (hx : ∀ C a ws sk, x = .w C a ws sk → AllP C → sk = false ∧ WOK E.P w0 K w Z γ h used used' m a ws) (hn : (∃ C a ws sk, x = .w C a ws sk) ∨ x = .no) :
  OutOK E w0 K w Z γ h used used' ρ o x := by
 rcases hn with ⟨C, a, ws, sk, rfl⟩ | rfl
 ·intro hC
  obtain ⟨rfl, hw⟩ := hx C a ws sk rfl hC
  exact WOK.out ho hw
 ·trivial
end
end Go.BE
namespace Go.BE
open Go.RowKit
def IsW (x : Out) : Prop := (∃ C a ws sk, x = .w C a ws sk) ∨ x = .no
theorem IsW.w {C : List Prop} {a : AV} {ws : List (Nat × Option Root)} {sk : Bool} : IsW (.w C a ws sk) := .inl ⟨C, a, ws, sk, rfl⟩
theorem IsW.n : IsW .no := .inr rfl
theorem abuildSlice_form (E : Ctx) (h : Heap) (id lv : Nat) (t : TypeId) (len : Nat) (ps : List (Nat × AV)) : IsW (abuildSlice E h id lv t len ps) := by
 unfold abuildSlice
 repeat' split
 all_goals first | exact IsW.n | exact IsW.w
theorem abuildCells_form (E : Ctx) (id : Nat) (t : TypeId) (len : Nat) (ps : List (Nat × AV)) : IsW (abuildCells E id t len ps) := by
 unfold abuildCells
 repeat' split
 all_goals first | exact IsW.n | exact IsW.w
theorem amakeSlice_form (E : Ctx) (id lv : Nat) (t : TypeId) (n m : Int) : IsW (amakeSlice E id lv t n m) := by
 unfold amakeSlice
 repeat' split
 all_goals first | exact IsW.n | exact IsW.w
theorem aappend_form (E : Ctx) (h : Heap) (id lv : Nat) (t : TypeId) (x y : AV) : IsW (aappend E h id lv t x y) := by
 unfold aappend
 repeat' split
 all_goals first | exact IsW.n | exact IsW.w
theorem astorePend_form (h : Heap) (r s : Nat) (p : Pth) (i : Nat) (st : List St) (v : AV) : IsW (astorePend h r s p i st v) := by
 unfold astorePend
 repeat' split
 all_goals first | exact IsW.n | exact IsW.w
theorem astore_form (E : Ctx) (h : Heap) (id : Nat) (t : TypeId) (x y : AV) : IsW (astore E h id t x y) := by
 unfold astore
 repeat' split
 all_goals first | exact IsW.n | exact IsW.w | exact astorePend_form _ _ _ _ _ _ _
theorem adata_form (h : Heap) (id : Nat) (i : TI) (cs : List AV) : IsW (adata h id i cs) := by
 unfold adata
 repeat' split
 all_goals first | exact IsW.n | exact IsW.w
theorem abox_form (id : Nat) (ro : Bool) (x : AV) : IsW (abox id ro x) := by
 unfold abox
 repeat' split
 all_goals first | exact IsW.n | exact IsW.w
section
variable {P : Program} {E : Ctx} {w w' w0 : World} {Z Z' : Nat → Prop} {K : Kp} {own own' : Own} {γ γ' : Gst} {h h' : Heap} {used used' : Nat → Prop} {r s d id : Nat} {R : Root} {a A B : AV} {v V U : Value} {cs ds : List AV} {vs us : List Value}
theorem WOK.formed {ρ : Operand → Value} {o : Oper} {m : Sem Value} {x : Out} (hf : IsW x) (ho : (execOp ρ o) = (do pure (.value (← m)))) (hx : ∀ C a ws sk, x = .w C a ws sk → AllP C → sk = false ∧ WOK E.P w0 K w Z γ h used used' m a ws) :
  OutOK E w0 K w Z γ h used used' ρ o x := WOK.mk_out ho hx hf
theorem optI_rel {ρa : Operand → AV} {ρ : Operand → Value} (hρ : ∀ x, VR w Z γ (ρa x) (ρ x)) {x : Option Operand} {i : Option Int} (he : optI ρa x = some i) : OI i (x.map ρ) := by
 cases x with
 | none =>
  simp only [optI, Option.some.injEq] at he
  subst he
  exact .inl ⟨rfl, rfl⟩
 | some y =>
  simp only [optI, Option.map_eq_some_iff] at he
  obtain ⟨n, hn, rfl⟩ := he
  obtain ⟨k, hk⟩ := asI_inv (hρ y) hn
  exact .inr ⟨n, k, rfl, by simp [hk]⟩
theorem append_congr {ats : Array TypeId} {t ty : TypeId} {args : Array Value} (h0 : ats[0]? = some t) (h1 : ats[1]? = some t) : Builtin.append_ ats ty args = Builtin.append_ #[t, t] ty args := by
 unfold Builtin.append_
 simp only [h0, h1]
 rfl
theorem rop_vals {cs : List AV} {v : Value} (hA : CR w Z (.rop cs 0) v) : ∃ b o us, v = .pointer (some ⟨b, o, none⟩) ∧ Z b ∧ Run w b o us ∧ CRs w Z cs us := by
 generalize hB : AV.rop cs 0 = B at hA
 cases hA with
 | rop cs' off b o u hz hc hr =>
  injection hB with h1 h2
  subst h1; subst h2
  refine ⟨b, o + 0, (List.range cs.length).map u, rfl, hz, fun j v hj => ?_, by simp, fun j x z hx hz => ?_⟩
  ·rw [List.getElem?_map] at hj
   obtain ⟨i, hi, rfl⟩ := Option.map_eq_some_iff.1 hj
   have hlt : j < cs.length := by
    have := (List.getElem?_eq_some_iff.1 hi).1
    simpa using this
   rw [List.getElem?_range hlt] at hi
   injection hi with hi
   subst hi
   exact hc j cs[j] (List.getElem?_eq_getElem hlt)
  ·rw [List.getElem?_map] at hz
   obtain ⟨i, hi, rfl⟩ := Option.map_eq_some_iff.1 hz
   rw [List.getElem?_range (List.getElem?_eq_some_iff.1 hx).1] at hi
   injection hi with hi
   subst hi
   exact hr _ x hx
 | _ => cases hB
theorem asliceArr_sound (hT : TyOK E.P E.ty) (hm : MemR w0 K w Z own γ h used) (hu : ∀ s, used s → used' s) {t : TypeId} {C : List Prop} {ws : List (Nat × Option Root)} (he : asliceArr E h t A = some (C, a, ws)) (hC : AllP C) (hA : VR w Z γ A V) :
  WOK E.P w0 K w Z γ h used used' (Instr.sliceAt t V none none none) a ws := by
 unfold asliceArr at he
 split at he
 ·rename_i n e _ _ _ _ hty
  obtain ⟨d, hd, hk⟩ := (hT t _ hty).desc
  simp only [TKOK] at hk
  subst hk
  split at he
  ·rename_i ie hie
   obtain ⟨tie, k1, k2, _⟩ := (hT e _ hie).info
   split at he
   ·rename_i S hS
    split at he
    ·rename_i hcond
     obtain ⟨c1, c2, c3, c4⟩ := hcond
     split at he
     ·rename_i r
      split at he
      ·rename_i C1 cs ws1 hcl
       obtain ⟨xs, hxs, e1⟩ := Option.map_eq_some_iff.1 he
       simp only [Prod.mk.injEq] at e1
       obtain ⟨rfl, rfl, rfl⟩ := e1
       obtain ⟨Z1, own1, q1, q2⟩ := closeC_sound hm hcl hC hA
       obtain ⟨b, o, us, rfl, hz, hr, hcs⟩ := rop_vals q2
       obtain ⟨j1, j2, j3⟩ := elemsOf_sound n hxs hcs
       refine ⟨.slice (some ⟨b, o, none⟩) n n, w, Z1, own1, γ, ?_, q1.stay, Gst.Ext.refl _ _, q1.mem.used_mono hu, .cr (.tv1 _ _ _ rfl ⟨_, n, by rw [← j1], Nat.le_of_eq j1, ⟨by show (xs : List (Den S)).length * _ ≤ _; rw [j1]; exact c3, by show (xs : List (Den S)).length ≤ _; rw [j1]; exact c4⟩, fun _ => ⟨b, o, rfl, hz, fun i y hy => ⟨seg us (i * S.size) S.size, ?_, fun j v hj => ?_, j3 i y hy⟩⟩⟩)⟩
       ·simp only [Instr.sliceAt, Instr.sureAddr, asAddr, Instr.sliceBounds, Sem.run_bind, run_underlying hd, Result.andThen_ok, Sem.run_pure, qar k1 k2, Nat.zero_mul, Nat.sub_zero]
        rw [if_neg (by omega)]
        simp [Addr.add]
       ·exact (j3 i y hy).len
       ·have hj' : us[i * S.size + j]? = some v := by
         have hlt := (List.getElem?_eq_some_iff.1 hj).1
         unfold BE.seg at hj hlt
         simp only [List.length_take] at hlt
         rw [List.getElem?_take_of_lt (by omega), List.getElem?_drop] at hj
         exact hj
        have := hr _ v hj'
        rw [← Nat.add_assoc] at this
        exact this
      ·cases he
     ·cases he
    ·cases he
   ·cases he
  ·cases he
 ·cases he
set_option maxHeartbeats 2000000 in
theorem valsOf_rel : ∀ {cs : List AV} {us vs : List Value}, valsOf cs = some us → VRs w Z γ cs vs → us = vs
 | [], us, [], h, _ => by injection h with h; exact h.symm
 | [], us, _ :: _, h, hr => by simp [VRs] at hr
 | a :: l, us, [], h, hr => by simp [VRs] at hr
 | a :: l, us, v :: vs, h, hr => by
  unfold valsOf at h
  split at h
  ·cases ‹_ :: _ = []›
  ·rename_i u l' heq
   injection heq with e1 e2
   subst e1; subst e2
   split at h
   ·rename_i us' hus
    injection h with h
    subst h
    have h1 := hr.head.val_inv
    have h2 := valsOf_rel hus hr.tail
    rw [h1, h2]
   ·cases h
  ·cases h
theorem okV1_of {u : Value} (h : okV u) : okV1 u := by cases u <;> first | exact h | trivial
theorem valsOf_ok : ∀ {cs : List AV} {us vs : List Value}, valsOf cs = some us → VRs w Z γ cs vs → ∀ (j : Nat) u, vs[j]? = some u → okV1 u
 | [], us, [], h, _, j, u, hj => by simp at hj
 | [], us, _ :: _, h, hr, _, _, _ => by simp [VRs] at hr
 | a :: l, us, [], h, hr, _, _, _ => by simp [VRs] at hr
 | a :: l, us, v :: vs, h, hr, j, u, hj => by
  unfold valsOf at h
  split at h
  ·cases ‹_ :: _ = []›
  ·rename_i u' l' heq
   injection heq with e1 e2
   subst e1; subst e2
   split at h
   ·rename_i us' hus
    cases j with
    | zero =>
     simp at hj
     subst hj
     have h0 := hr.head
     have h1 := h0.val_inv
     rw [h1]
     exact okV1_of h0.val_ok
    | succ j => exact valsOf_ok hus hr.tail j u (by simpa using hj)
   ·cases h
  ·cases h
theorem aiface_sound (hT : TyOK P E.ty) {t : TypeId} (he : aiface E t A = some a) (hA : VR w Z γ A V) : ∃ v, (Instr.makeInterface t V).run P w = .ok v w ∧ VR w Z γ a v := by
 unfold aiface at he
 split at he
 ·rename_i fs sz bs zz shp hi
  split at he
  ·rename_i cs hcs
   split at he
   ·rename_i us hus
    injection he with he
    subst he
    have hx := hA.expand
    rw [hcs] at hx
    obtain ⟨arr, rfl, hv⟩ := hx.agg_inv'
    have := valsOf_rel hus hv
    subst this
    obtain ⟨d, hd, hk⟩ := (hT t _ hi).desc
    obtain ⟨gs, hgs, _⟩ : ∃ gs, d = .struct gs ∧ True := by
     obtain ⟨gs, h1, _⟩ := hk
     exact ⟨gs, h1, trivial⟩
    subst hgs
    have hall : okV (.iface t (.agg arr)) := fun u hu => by
     obtain ⟨j, hj⟩ := List.mem_iff_getElem?.1 hu
     exact valsOf_ok hus hv j u hj
    refine ⟨.iface t (.agg arr), ?_, by simpa using VR.cr (.val (.iface t (.agg arr)) hall)⟩
    simp only [Instr.makeInterface, Sem.run_bind, run_underlying hd, Result.andThen_ok, Sem.run_pure]
   ·cases he
  ·cases he
 ·cases he
set_option maxHeartbeats 1600000 in
theorem aop1_sound (hT : TyOK E.P E.ty) (hm : MemR w0 K w Z own γ h used) (hid : ¬ used id) (hu : ∀ s, used s → used' s) (hid' : used' id) {si : Nat} {ρa : Operand → AV} {ρ : Operand → Value} (hρ : ∀ x, VR w Z γ (ρa x) (ρ x)) (o : Oper) : OutOK E w0 K w Z γ h used used' ρ o (aop1 E h id si ρa o.op) := by
 unfold aop1
 split
 ·rename_i x ho
  exact fun _ => ⟨ρ x, by simp only [execOp, ho, Sem.run_pure], hρ x⟩
 ·rename_i x ho
  exact fun _ => ⟨ρ x, by simp only [execOp, ho, Sem.run_pure], hρ x⟩
 ·trivial
 ·rename_i t ho
  split
  ·rename_i i hi
   split
   ·refine WOK.formed (adata_form _ _ _ _) (m := Instr.alloc t true (.tuple #[])) (by simp only [execOp, ho]) fun C a ws sk he hC => ?_
    obtain ⟨arr, e1, e2⟩ := alloc_sound (w := w) (Z := Z) (γ := γ) hT hi
    exact adata_sound hT hm hid hu hid' hi he hC e2 e1
   ·exact fun _ => WOK.out (m := Instr.alloc t true (.tuple #[])) (by simp only [execOp, ho]) (alloc_ok hT hm hid hu hid' hi)
  ·trivial
 ·rename_i t x ho
  split
  ·rename_i i hi
   split
   ·refine WOK.formed (adata_form _ _ _ _) (m := Instr.box t (ρ x)) (by simp only [execOp, ho]) fun C a ws sk he hC => ?_
    have hall : (ρa x).cells.all AV.one = true := by
     unfold adata at he
     split at he
     ·split at he
      ·rename_i hcond
       exact hcond.2.2.2
      ·cases he
     ·cases he
    obtain ⟨e1, e2⟩ := box_sound (P := E.P) (t := t) (hρ x) hall
    exact adata_sound hT hm hid hu hid' hi he hC e2 e1
   ·exact WOK.formed (abox_form _ _ _) (m := Instr.box t (ρ x)) (by simp only [execOp, ho]) fun C a ws sk he _ => abox_sound hm hid hu hid' he (hρ x)
  ·trivial
 ·rename_i t ps ho
  refine oV_ok fun a he => ?_
  obtain ⟨v, e1, e2⟩ := abuild_sound hT (parts hρ ps) he
  exact ⟨v, by simp only [execOp, ho, Sem.run_bind, e1, Result.andThen_ok, Sem.run_pure], e2⟩
 ·rename_i t len ps ho
  split
  ·exact WOK.formed (abuildCells_form _ _ _ _ _) (m := Instr.buildSlice t len (ps.map fun (i, x) => (i, ρ x))) (by simp only [execOp, ho]) fun C a ws sk he hC => abuildCells_sound (ps := ps.toList.map fun (i, x) => (i, ρa x)) (vps := ps.map fun (i, x) => (i, ρ x)) hT hm hid hu hid' (parts hρ ps) he hC
  exact WOK.formed (abuildSlice_form _ _ _ _ _ _ _) (m := Instr.buildSlice t len (ps.map fun (i, x) => (i, ρ x))) (by simp only [execOp, ho]) fun C a ws sk he hC => abuildSlice_sound (ps := ps.toList.map fun (i, x) => (i, ρa x)) (vps := ps.map fun (i, x) => (i, ρ x)) hT hm hid hu hid' (parts hρ ps) he hC
 ·rename_i t len cap ho
  split
  ·rename_i n m hn hm'
   obtain ⟨k1, e1⟩ := asI_inv (hρ len) hn
   obtain ⟨k2, e2⟩ := asI_inv (hρ cap) hm'
   exact WOK.formed (amakeSlice_form _ _ _ _ _ _) (m := Instr.makeSlice t (.int k1 n) (.int k2 m)) (by simp only [execOp, ho, e1, e2]) fun C a ws sk he hC => amakeSlice_sound hT hm hid hu hid' he hC
  ·trivial
 ·rename_i t x ho
  refine oC_ok fun C a he hC => ?_
  obtain ⟨v, e1, e2⟩ := aload_sound hT hm he hC (hρ x)
  exact ⟨v, by simp only [execOp, ho, Sem.run_bind, e1, Result.andThen_ok, Sem.run_pure], e2⟩
 ·rename_i t x y ho
  rcases astore_form E h id t (ρa y) (ρa x) with ⟨C, a, ws, sk, he⟩ | he
  ·rw [he]
   intro hC
   obtain ⟨rfl, rfl, w', Z', own', γ', e1, e2, e3, e4⟩ := astore_sound hT hm hid hu hid' he hC (hρ y) (hρ x)
   exact ⟨.skip, undef, w', Z', own', γ', by simp only [execOp, ho, Sem.run_bind, e1, Result.andThen_ok, Sem.run_pure], by rw [if_pos rfl]; exact ⟨rfl, rfl⟩, e2, e3, e4, .cr (.val _ trivial)⟩
  ·rw [he]
   trivial
 ·rename_i x ho
  have hx := hρ x
  split
  ·rename_i r off hr
   rw [hr] at hx
   intro _
   obtain ⟨b, hb, hv⟩ := hx.ref_inv
   exact ⟨.pointer (some ⟨b, off, none⟩), by simp only [execOp, ho, hv, Sem.run_pure], .ref _ _ _ hb⟩
  ·rename_i cs off hr
   rw [hr] at hx
   intro _
   obtain ⟨b, off', hv, hb⟩ := hx.rop_inv
   exact ⟨.pointer (some ⟨b, off' + off, none⟩), by simp only [execOp, ho, hv, Sem.run_pure], hb off⟩
  ·rename_i S y hr
   rw [hr] at hx
   intro _
   obtain ⟨b, o', us, hv, h1, h2, h3⟩ := hx.rtp_inv
   exact ⟨.pointer (some ⟨b, o', none⟩), by simp only [execOp, ho, hv, Sem.run_pure], .cr (.rtp _ _ _ _ _ h1 h2 h3)⟩
  ·rename_i r s p i st hr
   rw [hr] at hx
   intro _
   obtain ⟨hd, b, o', so, T, h1, h2, h3, h4, hv⟩ := hx.tref_inv
   exact ⟨_, by simp only [execOp, ho, hv, Sem.run_pure], .tref _ _ _ _ _ hd b o' so T h1 h2 h3 h4⟩
  ·trivial
 ·rename_i op t x y yt ho
  split
  ·rename_i p hp
   obtain ⟨b, e1, e2⟩ := anil_sound (xo := x) (yo := y) hT hp (hρ x) (hρ y)
   exact ⟨b, e1, by simp only [execOp, ho]; rw [Sem.run_bind, e2]; rfl⟩
  ·refine oC_ok fun C a he hC => ?_
   obtain ⟨v, e1, e2⟩ := abin_sound (xo := x) (yo := y) hT he hC (hρ x) (hρ y)
   exact ⟨v, by simp only [execOp, ho]; rw [Sem.run_bind, e1]; rfl, e2⟩
 ·rename_i op t x ho
  refine oC_ok fun C a he hC => ?_
  obtain ⟨v, e1, e2⟩ := aun_sound (P := E.P) he (hρ x)
  exact ⟨v, by simp only [execOp, ho, Sem.run_bind, e1, Result.andThen_ok, Sem.run_pure], e2⟩
 ·rename_i s d x ho
  refine oC_ok fun C a he hC => ?_
  obtain ⟨v, e1, e2⟩ := aconv_sound hT he (hρ x)
  exact ⟨v, by simp only [execOp, ho, Sem.run_bind, e1, Result.andThen_ok, Sem.run_pure], e2⟩
 ·rename_i f first caps ho
  split
  ·rename_i hf
   have hf' : first = #[] := by simpa [Array.isEmpty] using hf
   subst hf'
   intro _
   have hc := maps hρ caps.toList
   refine ⟨.func (.func f) #[] (caps.map ρ), by simp [execOp, ho, Instr.makeFunc], .fn _ _ _ (by simp) (fun j x y hx hy => hc.2 j x y hx ?_)⟩
   rw [← Array.getElem?_toList] at hy
   simpa using hy
  ·trivial
 ·rename_i s x f ho
  refine oC_ok fun C a he hC => ?_
  obtain ⟨v, e1, e2⟩ := afieldAddr_sound hT hm he hC (hρ x)
  exact ⟨v, by simp only [execOp, ho, Sem.run_bind, e1, Result.andThen_ok, Sem.run_pure], e2⟩
 ·rename_i t x f ho
  refine oV_ok fun a he => ?_
  obtain ⟨v, e1, e2⟩ := afield_sound hT he (hρ x)
  exact ⟨v, by simp only [execOp, ho, Sem.run_bind, e1, Result.andThen_ok, Sem.run_pure], e2⟩
 ·rename_i t x i ho
  split
  ·rename_i n hn
   obtain ⟨k, hk⟩ := asI_inv (hρ i) hn
   refine oC_ok fun C a he hC => ?_
   obtain ⟨v, e1, e2⟩ := aindexAddr_sound (k := k) hT hm he hC (hρ x)
   exact ⟨v, by simp only [execOp, ho, hk, Sem.run_bind, e1, Result.andThen_ok, Sem.run_pure], e2⟩
  ·trivial
 ·rename_i t x i ho
  split
  ·rename_i n hn
   obtain ⟨k, hk⟩ := asI_inv (hρ i) hn
   refine oC_ok fun C a he hC => ?_
   obtain ⟨v, e1, e2⟩ := aindex_sound (k := k) hT he hC (hρ x)
   exact ⟨v, by simp only [execOp, ho, hk, Sem.run_bind, e1, Result.andThen_ok, Sem.run_pure], e2⟩
  ·trivial
 ·rename_i t x lo hi mx ho
  split
  ·rename_i lo' hi' mx' h1 h2 h3
   have hnone : ∀ {y : Option Operand} {i : Option Int}, optI ρa y = some i → i.isNone = true → y = none := fun {y i} hy hi => by
    cases y with
    | none => rfl
    | some y =>
     simp only [optI, Option.map_eq_some_iff] at hy
     obtain ⟨_, _, rfl⟩ := hy
     cases hi
   split
   ·rename_i C a ws hb hs
    simp only [Bool.and_eq_true] at hb
    have g1 := hnone h1 hb.1.1
    have g2 := hnone h2 hb.1.2
    have g3 := hnone h3 hb.2
    subst g1; subst g2; subst g3
    refine WOK.formed IsW.w (m := Instr.sliceAt t (ρ x) none none none) (by simp only [execOp, ho, Option.map_none]) fun C' a' ws' sk he hC => ?_
    injection he with q1 q2 q3 q4
    subst q1; subst q2; subst q3; subst q4
    exact ⟨rfl, asliceArr_sound hT hm hu hs hC (hρ x)⟩
   ·refine oC_ok fun C a he hC => ?_
    obtain ⟨v, e1, e2⟩ := aslice_sound hT hm (optI_rel hρ h1) (optI_rel hρ h2) (optI_rel hρ h3) he hC (hρ x)
    exact ⟨v, by simp only [execOp, ho, Sem.run_bind, e1, Result.andThen_ok, Sem.run_pure], e2⟩
  ·trivial
 ·rename_i t i ho
  refine oV_ok fun a he => ?_
  obtain ⟨v, e1, e2⟩ := aextract_sound (P := E.P) he (hρ t)
  exact ⟨v, by simp only [execOp, ho, Sem.run_bind, e1, Result.andThen_ok, Sem.run_pure], e2⟩
 ·rename_i t x ho
  split
  ·rename_i i s hi hs
   have hx := hρ x
   rw [hs] at hx
   have hv := hx.val_inv
   have hok : okV (.string s) := hx.val_ok
   obtain ⟨d, hd, hk⟩ := (hT t _ hi).desc
   have hk : d = .string := hk
   subst hk
   obtain ⟨own', γ', g1, g2, g3, g4⟩ := hm.newObj hid hu hid' (x := .iter s 0) (o := .stringIter s 0) ⟨rfl, hok⟩
   refine fun _ => WOK.out (m := Instr.range t (ρ x)) (by simp only [execOp, ho]) ⟨.pointer (some ⟨w.heap.size, 0, none⟩), w.alloc (.stringIter s 0), Z, own', γ', ?_, g1, g2, g3, .ref _ _ _ g4⟩
   rw [hv]
   simp [Instr.range, run_underlying hd]
  ·trivial
 ·rename_i t x ho
  refine oV_ok fun a he => ?_
  obtain ⟨v, e1, e2⟩ := aiface_sound (P := E.P) hT he (hρ x)
  exact ⟨v, by simp only [execOp, ho, Sem.run_bind, e1, Result.andThen_ok, Sem.run_pure], e2⟩
 ·rename_i f args ats ho
  split
  ·rename_i g caps hg
   have hf := hρ f
   rw [hg] at hf
   obtain ⟨us, hv, hc⟩ := hf.fn_inv
   refine ⟨(args.toList.map ρ) ++ us.toList, ?_, (maps hρ args.toList).append hc⟩
   simp only [execOp, ho, resolve, hv, Deferred.ofValue, Sem.run_bind, Sem.run_pure, Result.andThen_ok, invoke]
   congr 2
   apply Array.ext'
   simp
  ·trivial
 ·rename_i args ats ho
  split
  ·rename_i t x ht hx
   refine oC_ok fun C a he hC => ?_
   obtain ⟨v, e1, e2⟩ := alen_sound (rt := o.type) (ats := ats) (args := args.map ρ) hT hm ht (by rw [Array.getElem?_map, hx]; rfl) he hC (hρ x)
   exact ⟨v, by simp only [execOp, ho, resolve, invoke, builtin, Sem.run_bind, Sem.run_pure, Result.andThen_ok, e1], e2⟩
  ·trivial
 ·rename_i args ats ho
  split
  ·rename_i t u x y ht hu2 hxy
   split
   ·rename_i htu
    subst htu
    have hargs : args = #[x, y] := by apply Array.ext'; simpa using hxy
    refine WOK.formed (aappend_form _ _ _ _ _ _ _) (m := Builtin.append_ #[t, t] o.type #[ρ x, ρ y]) ?_ fun C a ws sk he hC => aappend_sound hT hm hid hu hid' he hC (hρ x) (hρ y)
    rw [← append_congr ht hu2]
    simp only [execOp, ho, resolve, invoke, builtin, hargs, pure_bind, List.map_toArray, List.map_cons, List.map_nil]
   ·trivial
  ·trivial
 ·rename_i args ats ho
  split
  ·rename_i x r hx
   refine oV_ok fun a he => ?_
   obtain ⟨v, e1, e2⟩ := amax_sound (P := E.P) he (hρ x) (maps hρ r)
   exact ⟨v, by simp only [execOp, ho, resolve, invoke, builtin, Builtin.max_, Sem.run_bind, Sem.run_pure, Result.andThen_ok, Array.toList_map, hx, List.map_cons, e1], e2⟩
  ·trivial
 ·rename_i args ats ho
  split
  ·rename_i x r hx
   refine oV_ok fun a he => ?_
   obtain ⟨v, e1, e2⟩ := amin_sound (P := E.P) he (hρ x) (maps hρ r)
   exact ⟨v, by simp only [execOp, ho, resolve, invoke, builtin, Builtin.min_, Sem.run_bind, Sem.run_pure, Result.andThen_ok, Array.toList_map, hx, List.map_cons, e1], e2⟩
  ·trivial
 ·trivial
end
end Go.BE
namespace Go.BE
inductive Tre (α : Type) : Type where
 | ok (a : α)
 | ite (b : Bool) (t e : Tre α)
 | chk (C : Prop) (t : Tre α)
 | know (K : Prop) (t : Tre α)
 | any (p : Bool → Prop) (k : Bool → Tre α)
 | bad
def Tre.bind {α β : Type} : Tre α → (α → Tre β) → Tre β
 | .ok a, f => f a
 | .ite b t e, f => .ite b (t.bind f) (e.bind f)
 | .chk C t, f => .chk C (t.bind f)
 | .know K t, f => .know K (t.bind f)
 | .any p k, f => .any p fun b => (k b).bind f
 | .bad, _ => .bad
def chks {α : Type} : List Prop → Tre α → Tre α
 | [], t => t
 | C :: l, t => .chk C (chks l t)
def Tre.wp {α : Type} (Q : α → Prop) : Tre α → Prop
 | .ok a => Q a
 | .ite b t e => (b = true → t.wp Q) ∧ (b = false → e.wp Q)
 | .chk C t => C ∧ (C → t.wp Q)
 | .know K t => K → t.wp Q
 | .any p k => ∀ b, p b → (k b).wp Q
 | .bad => False
mutual
/-- what is known of a value that occurs -/
def okAV : AV → Prop
 | .val (.int k n) => k.has n
 | .val (.string s) => s.size ≤ roomB
 | .tv S x => okD S x
 | .rtp S x => okD S x
 | .agg cs => okAVs cs
 | .tup cs => okAVs cs
 | .fn _ cs => okAVs cs
 | .rop cs _ => okAVs cs
 | _ => True
def okAVs : List AV → Prop
 | [] => True
 | a :: l => okAV a ∧ okAVs l
end
def okCont : Cont → Prop
 | .obj _ => True
 | .cells cs => okAVs cs
 | .arr _ b S xs => room b xs.length ∧ ∀ y ∈ xs, okD S y
def okHeap : Heap → Prop
 | [] => True
 | (_, R) :: h => okCont R.cont ∧ okHeap h

inductive Fin where
 | at_ (c : Cfg)
 | ret (v : AV) (h : Heap) (nx : Nat)
 | pan (v : AV) (h : Heap) (nx : Nat)   -- all frames are left by a panic with that value
def und : AV := .val undef
def putT (fr : List AV) : Option Tmp → AV → List AV
 | some d, a => fr.set d a
 | none, _ => fr
def opTmp : Operand → Option Nat
 | .tmp t => some t
 | _ => none
def setB (fr : List AV) (x : Option Nat) (b : Bool) : List AV := match x with | some t => fr.set t (abool b) | none => fr
def aresults (E : Ctx) (h : Heap) (fr : List AV) : List ResultVar → Option (List Prop × List AV)
 | [] => some ([], [])
 | .tmp t :: r => match aresults E h fr r with | some (C, l) => some (C, lget fr t :: l) | none => none
 | .cell a t :: r => match aload E h t (lget fr a), aresults E h fr r with
  | some (C, v), some (C', l) => some (C ++ C', v :: l)
  | _, _ => none
def retv : List AV → AV
 | [a] => a
 | l => .tup l
def enter (E : Ctx) (f : FuncId) (args : List AV) : Option AFr :=
 match E.P.funcs[f]? with
 | some fn => match fn.body with
  | some c => if args.length ≤ fn.ntmps then some ⟨f, [.code c], args ++ List.replicate (fn.ntmps - args.length) und⟩ else none
  | none => none
 | none => none
def AFr.fin (F : AFr) (ops : Array Oper) (dst : Option Tmp) (rest : List Nat) (k : List Item) (a : AV) : AFr :=
 { F with todo := .inRegion ops rest :: k, fr := putT F.fr dst a }
mutual
def AV.sh (base : Nat) : AV → AV
 | .agg cs => .agg (shL base cs)
 | .tup cs => .tup (shL base cs)
 | .fn g cs => .fn g (shL base cs)
 | .ref r o => .ref (base + r) o
 | .tref r s p i st => .tref (base + r) (base + s) p i st
 | .osl r s p w => .osl (base + r) (base + s) p w
 | .optr r s p => .optr (base + r) (base + s) p
 | .csl r o n => .csl (base + r) o n
 | a => a
def shL (base : Nat) : List AV → List AV
 | [] => []
 | a :: l => a.sh base :: shL base l
end
def Cont.sh (base : Nat) : Cont → Cont
 | .cells cs => .cells (shL base cs)
 | c => c
def Root.sh (base : Nat) (R : Root) : Root := { R with cont := R.cont.sh base, cur := base + R.cur, old := [] }
def newRoots (base : Nat) : List (Nat × Root) → List (Nat × Option Root)
 | [] => []
 | (r, R) :: l => newRoots base l ++ [(base + r, some (R.sh base))]
def SRes.fits (r : SRes) : Bool := r.roots.all fun x => decide (x.1 < 16) && decide (x.2.cur < 16) && x.2.pend.isNone
def acall (E : Ctx) (h : Heap) (id : Nat) (f : FuncId) (args : List AV) : Option (List Prop × Prop × AV × List (Nat × Option Root)) :=
 match closeL h args with
 | some (C, args', ws) => match E.env f args' with
  | some r => if r.pan.isNone && r.fits then (if r.res.plain && r.roots.isEmpty then some (C ++ [r.pre], okAV r.res, r.res, []) else some (C ++ [r.pre], okAV r.res, r.res.sh id, ws ++ newRoots id r.roots)) else none
  | none => none
 | none => none
def acallP (E : Ctx) (h : Heap) (f : FuncId) (args : List AV) : Option (List Prop × Bool × AV × AV) :=
 match closeL h args with
 | some (C, args', _) => match E.env f args' with
  | some r => match r.pan with
   | some (b, v) => if r.res.plain && r.roots.isEmpty then some (C ++ [r.pre], b, v, r.res) else none
   | none => none
  | none => none
 | none => none
def okFns (E : Ctx) (c : Cfg) : Bool := (E.P.funcs[c.cur.fn]?).isSome && c.callers.all fun F => (E.P.funcs[F.fn]?).isSome
def panT (E : Ctx) (c : Cfg) (v : AV) : Tre Fin := match okFns E c with
 | true => .ok (.pan v c.h c.nx)
 | false => .bad
def qay : Nat := 16
def runOp (E : Ctx) (c : Cfg) (ops : Array Oper) (o : Oper) (rest : List Nat) (k : List Item) : Tre Fin :=
 match o.op with
 | .pick x y z => match asB (ev E c.cur.fr x) with
  | some b => .ite b (.ok (.at_ { c with cur := { c.cur with fr := setB c.cur.fr (opTmp x) true }.fin ops o.dst rest k (ev E c.cur.fr y) }))
    (.ok (.at_ { c with cur := { c.cur with fr := setB c.cur.fr (opTmp x) false }.fin ops o.dst rest k (ev E c.cur.fr z) }))
  | none => .bad
 | .panic x => match ev E c.cur.fr x with
  | .val (.iface t v) => panT E c (.val (.iface t v))
  | _ => .bad
 | .next x true => match ev E c.cur.fr x with
  | .ref r 0 => match hget c.h r with
   | some R => match R.cont with
    | .obj (.iter s pos) => .ite (decide (pos < s.size))
     (.ok (.at_ { c with cur := c.cur.fin ops o.dst rest k (.tup [abool true, aint .i64 (pos : Nat), aint .i32 (runeAt s pos)]), h := hput c.h r { R with cont := .obj (.iter s (pos + runeW s pos)) } }))
     (.ok (.at_ { c with cur := c.cur.fin ops o.dst rest k (.tup [abool false]) }))
    | _ => .bad
   | none => .bad
  | _ => .bad
 | op => match aop E c.h c.nx (siteOp E c.cur.fn o.dst) (ev E c.cur.fr) op with
  | .v C a => chks C (.ok (.at_ { c with cur := c.cur.fin ops o.dst rest k a, nx := c.nx + qay }))
  | .w C a ws _ => chks C (.ok (.at_ { c with cur := c.cur.fin ops o.dst rest k a, h := qaw c.h ws, nx := c.nx + qay }))
  | .any p => .any p fun b => .ok (.at_ { c with cur := c.cur.fin ops o.dst rest k (abool b), nx := c.nx + qay })
  | .call f args => if E.fns f then (match acall E c.h c.nx f args with
   | some (C, K, a, ws) => chks C (.know K (.ok (.at_ { c with cur := c.cur.fin ops o.dst rest k a, h := qaw c.h ws, nx := c.nx + qay })))
   | none => match acallP E c.h f args with
    | some (C, b, v, a) => chks C (.ite b (panT E c v) (.ok (.at_ { c with cur := c.cur.fin ops o.dst rest k a, nx := c.nx + qay })))
    | none => match enter E f args with
     | some F => .ok (.at_ { c with cur := F, callers := c.cur :: c.callers })
     | none => .bad) else .bad
  | .no => .bad
def todoC (c : Cfg) (t : List Item) : Tre Fin := .ok (.at_ { c with cur := { c.cur with todo := t } })
def leave (E : Ctx) (c : Cfg) : Tre Fin :=
 match E.P.funcs[c.cur.fn]? with
 | none => .bad
 | some fn => match aresults E c.h c.cur.fr fn.results.toList with
  | none => .bad
  | some (C, vs) => match c.callers with
   | [] => chks C (.ok (.ret (retv vs) c.h c.nx))
   | F :: Fs => match F.todo with
    | .inRegion ops (i :: rest) :: k => match ops[i]? with
     | some o => chks C (.ok (.at_ { c with cur := F.fin ops o.dst rest k (retv vs), callers := Fs }))
     | none => .bad
    | _ => .bad

def names (ops : Array Oper) (o : Oper) : List Nat :=
 o.dst.toList ++ o.op.operands.toList.filterMap opTmp ++ (match o.guard with | some (j, _) => ((ops[j]?).bind (·.dst)).toList | none => [])
def maskF (ns : List Nat) : List AV → Nat → List AV
 | [], _ => []
 | a :: l, i => (if ns.contains i then a else .bad) :: maskF ns l (i + 1)
mutual
def AV.rts : AV → List Nat
 | .agg cs => rtsL cs
 | .tup cs => rtsL cs
 | .fn _ cs => rtsL cs
 | .ref r _ => [r]
 | .tref r .. => [r]
 | .osl r .. => [r]
 | .optr r .. => [r]
 | .csl r .. => [r]
 | _ => []
def rtsL : List AV → List Nat
 | [] => []
 | a :: l => a.rts ++ rtsL l
end
def rdOf (fr : List AV) : List Nat → List Nat
 | [] => []
 | t :: l => (lget fr t).rts ++ rdOf fr l
def rdFor : Op → List Nat → List Nat
 | .move _, _ => []
 | .assign _, _ => []
 | _, l => l
def innerR (h : Heap) : List Nat → List Nat
 | [] => []
 | r :: l => (match hget h r with
  | some R => match R.cont with | .cells cs => rtsL cs | _ => []
  | none => []) ++ innerR h l
def rdDeep (h : Heap) : Op → List Nat → List Nat
 | .call { callee := .value _, .. }, l => l ++ innerR h l
 | _, l => l
def maskH (h : Heap) : List Nat → Heap
 | [] => []
 | r :: rs => match hget h r with | some R => (r, R) :: maskH h rs | none => maskH h rs
structure Rc where
 dst : Option Tmp
 val : AV
 ws : List (Nat × Option Root)
 nm : List Nat
 rd : List Nat
 call : Bool := false
def dval (E : Ctx) (ro : Nat) (id : Nat) (o : Oper) (ns : List Nat) (fm : List AV) (rd : List Nat) (hm : Heap) : Tre Rc :=
 match o.op with
 | .pick x y z => match asB (ev E fm x) with
  | some b => .ite b (.ok ⟨o.dst, ev E fm y, [], ns, rd, false⟩) (.ok ⟨o.dst, ev E fm z, [], ns, rd, false⟩)
  | none => .bad
 | op => match aop E hm id ro (ev E fm) op with
  | .v C a => chks C (.ok ⟨o.dst, a, [], ns, rd, false⟩)
  | .w C a ws _ => chks C (.ok ⟨o.dst, a, ws, ns, rd, false⟩)
  | .any _ => .bad
  | .call f args => if E.fns f then (match acall E hm id f args with
   | some (C, _, a, ws) => chks C (.ok ⟨o.dst, a, ws, ns, rd, true⟩)
   | none => .bad) else .bad
  | .no => .bad
def dop (E : Ctx) (fn : FuncId) (ops : Array Oper) (id : Nat) (o : Oper) (fr : List AV) (h : Heap) : Tre Rc :=
 let ns := names ops o
 let fm := maskF ns fr 0
 let rd := rdDeep h o.op (rdFor o.op (rdOf fm ns))
 let hm := maskH h rd
 let ro := siteOp E fn o.dst
 match o.guard with
 | none => dval E ro id o ns fm rd hm
 | some (j, want) => match (ops[j]?).bind (·.dst) with
  | none => .bad
  | some t => match lget fm t with
   | .val (.bool b) => if want then .ite b (dval E ro id o ns fm rd hm) (.ok ⟨o.dst, und, [], ns, rd, false⟩) else .ite b (.ok ⟨o.dst, und, [], ns, rd, false⟩) (dval E ro id o ns fm rd hm)
   | .val (.tuple _) => .ok ⟨o.dst, und, [], ns, rd, false⟩
   | _ => .bad
def guardT (ops : Array Oper) (o : Oper) : Option Nat := match o.guard with | some (j, _) => (ops[j]?).bind (·.dst) | none => (match o.op with | .pick x _ _ => opTmp x | _ => none)
def decideT (fr : List AV) : Option Nat → (List AV → Tre (List Rc × List AV × Heap)) → Tre (List Rc × List AV × Heap)
 | some t, k => match lget fr t with
  | .val (.bool b) => .ite b (k (fr.set t (abool true))) (k (fr.set t (abool false)))
  | _ => k fr
 | none, k => k fr
def drun (E : Ctx) (fn : FuncId) (ops : Array Oper) (base : Nat) : Nat → List Oper → List AV → Heap → Tre (List Rc × List AV × Heap)
 | _, [], fr, h => .ok ([], fr, h)
 | i, o :: os, fr, h => decideT fr (guardT ops o) fun fr => (dop E fn ops (base + i * qay) o fr h).bind fun r =>
   (drun E fn ops base (i + 1) os (putT fr r.dst r.val) (qaw h r.ws)).bind fun x => .ok (r :: x.1, x.2.1, x.2.2)
def addN (l : List Nat) (x : Nat) : List Nat := if l.contains x then l else x :: l
def addAll (l : List Nat) : List Nat → List Nat
 | [] => l
 | x :: xs => addAll (addN l x) xs
def ancOf (acc : List (List Nat)) (j : Nat) : List Go.Edge → Option (List Nat)
 | [] => some []
 | e :: es => if Region.binds .any e then (if e.on < j then (match ancOf acc j es with | some l => some (addAll (addN l e.on) (acc.getD e.on [])) | none => none) else none) else ancOf acc j es
def ancs : List (List Nat) → List Oper → Option (List (List Nat))
 | acc, [] => some acc
 | acc, o :: os => match ancOf acc acc.length o.after.toList with
  | some l => ancs (acc ++ [l]) os
  | none => none
def meets (l m : List Nat) : Bool := l.any fun x => m.contains x
def wrs (r : Rc) : List Nat := r.ws.map (·.1)
def conf (a b : Rc) : Bool := meets a.dst.toList b.nm || meets b.dst.toList a.nm || meets (wrs a) (wrs b ++ b.rd) || meets (wrs b) (wrs a ++ a.rd)
def okAgainst (anc : List Nat) (r : Rc) : Nat → List Rc → Bool
 | _, [] => true
 | i, q :: qs => (!conf q r || anc.contains i) && okAgainst anc r (i + 1) qs
def okAll (A : List (List Nat)) : Nat → List Rc → List Rc → Bool
 | _, _, [] => true
 | j, done, r :: rs => okAgainst (A.getD j []) r 0 done && okAll A (j + 1) (done ++ [r]) rs
def tells : List Rc → List Prop
 | [] => []
 | r :: rs => if r.call then okAV r.val :: tells rs else tells rs
def knows {α : Type} : List Prop → Tre α → Tre α
 | [], t => t
 | K :: l, t => .know K (knows l t)
def allIn (l : List Nat) : Nat → Bool
 | 0 => true
 | n + 1 => l.contains n && allIn l n
def adraw0 (E : Ctx) (fn : FuncId) (ops : Array Oper) (m : Nat) (fr : List AV) (h : Heap) (nx : Nat) : Tre (List Rc × List AV × Heap) :=
 match ancs [] ops.toList with
 | some A => if decide (m = ops.size) || (decide (m + 1 = ops.size) && allIn (A.getD m []) m) then (drun E fn ops nx 0 (ops.toList.take m) fr h).bind fun x => if okAll A 0 [] x.1 then .ok x else .bad else .bad
 | none => .bad
def flat : Tre Rc → Option (List Prop × Rc)
 | .ok r => some ([], r)
 | .chk C t => match flat t with | some (l, r) => some (C :: l, r) | none => none
 | .ite b t e => match b with | true => flat t | false => flat e
 | _ => none
def splitPick (l : List Nat) (t : Nat) : List Oper → Option (List Oper × Oper × Nat × List Oper)
 | [] => none
 | o :: os => match o.op, o.dst with
  | .pick (.tmp u) _ _, some d => (match u == t with
   | true => (match l.contains d with | true => some ([], o, d, os) | false => none)
   | false => (match splitPick l t os with | some (p, x, d, r) => some (o :: p, x, d, r) | none => none))
  | _, _ => (match splitPick l t os with | some (p, x, d, r) => some (o :: p, x, d, r) | none => none)
structure Grp where
 t : Nat
 b : Bool
 p : List Oper
 x : Oper
 d : Nat
 r : List Oper
def mgroup (l : List Nat) (ops : Array Oper) (o : Oper) (os : List Oper) (fr : List AV) (ex : List Nat) : Option Grp :=
 match guardT ops o with
 | some t => (match ex.contains t with
  | true => none
  | false => (match lget fr t with
   | .val (.bool b) => (match splitPick l t (o :: os) with
    | some (p, x, d, r) => some ⟨t, b, p, x, d, r⟩
    | none => none)
   | _ => none))
 | none => none
def joinV (b : Bool) : AV → AV → Option AV
 | .val (.bool x), .val (.bool y) => some (abool (cond b x y))
 | _, _ => none
def whenP (b v : Bool) : List Prop → List Prop
 | [] => []
 | C :: l => (b = v → C) :: whenP b v l
def forgetF : List Nat → List AV → List AV
 | [], fr => fr
 | t :: l, fr => forgetF l (fr.set t .bad)
def dsts : List Oper → List Nat
 | [] => []
 | o :: os => o.dst.toList ++ dsts os
def joinRc : List Rc → List Rc → List Rc
 | r :: rs, q :: qs => ⟨r.dst, .bad, [], r.nm, r.rd ++ q.rd, false⟩ :: joinRc rs qs
 | _, _ => []
structure FRes where
 C : List Prop
 rs : List Rc
 fr : List AV
 F : List Nat
def mergeT (g : Grp) (F : List Nat) (fr : List AV) (A B : Option FRes) : Option (List Prop × List Rc × List AV × List Nat) :=
 match A, B with
 | some ⟨C1, r1, f1, _⟩, some ⟨C2, r2, f2, _⟩ => (match joinV g.b (lget f1 g.d) (lget f2 g.d), decide (g.d < fr.length) with
  | some v, true => some (whenP g.b true C1 ++ whenP g.b false C2, joinRc r1 r2, (forgetF (dsts g.p) fr).set g.d v, dsts g.p ++ F)
  | _, _ => none)
 | _, _ => none
def drunF (E : Ctx) (fn : FuncId) (ops : Array Oper) (base : Nat) (l : List Nat) (h : Heap) : Nat → List Nat → List Nat → Nat → List Oper → List AV → Option FRes
 | 0, _, _, _, _, _ => none
 | _ + 1, _, F, _, [], fr => some ⟨[], [], fr, F⟩
 | n + 1, ex, F, i, o :: os, fr => match mgroup l ops o os fr ex with
  | some g => (match mergeT g F fr (drunF E fn ops base l h n (g.t :: ex) F i (g.p ++ [g.x]) (fr.set g.t (abool true))) (drunF E fn ops base l h n (g.t :: ex) F i (g.p ++ [g.x]) (fr.set g.t (abool false))) with
   | some (C, rs, fr, F) => (match drunF E fn ops base l h n ex F (i + g.p.length + 1) g.r fr with
    | some ⟨C', rs', fr', F'⟩ => some ⟨C ++ C', rs ++ rs', fr', F'⟩
    | none => none)
   | none => none)
  | none => (match meets (names ops o) F with
   | true => none
   | false => (match flat (dop E fn ops (base + i * qay) o fr h) with
    | some (C, q) => (match q.ws with
     | [] => (match drunF E fn ops base l h n ex F (i + 1) os (putT fr o.dst q.val) with
      | some ⟨C', rs, fr', F'⟩ => some ⟨C ++ C', ⟨o.dst, q.val, [], names ops o, q.rd, q.call⟩ :: rs, fr', F'⟩
      | none => none)
     | _ => none)
    | none => none))
def drunM (E : Ctx) (fn : FuncId) (ops : Array Oper) (base : Nat) (l : List Nat) : Nat → List Nat → Nat → List Oper → List AV → Heap → Tre (List Rc × List AV × Heap)
 | 0, _, _, _, _, _ => .bad
 | _ + 1, _, _, [], fr, h => .ok ([], fr, h)
 | n + 1, F, i, o :: os, fr, h => match mgroup l ops o os fr [] with
  | some g => (match mergeT g F fr (drunF E fn ops base l h n [g.t] F i (g.p ++ [g.x]) (fr.set g.t (abool true))) (drunF E fn ops base l h n [g.t] F i (g.p ++ [g.x]) (fr.set g.t (abool false))) with
   | some (C, rs, fr, F) => chks C ((drunM E fn ops base l n F (i + g.p.length + 1) g.r fr h).bind fun x => .ok (rs ++ x.1, x.2.1, x.2.2))
   | none => .bad)
  | none => (match meets (names ops o) F with
   | true => .bad
   | false => decideT fr (guardT ops o) fun fr => (dop E fn ops (base + i * qay) o fr h).bind fun r =>
     (drunM E fn ops base l n F (i + 1) os (putT fr r.dst r.val) (qaw h r.ws)).bind fun x => .ok (r :: x.1, x.2.1, x.2.2))

def adrawM (E : Ctx) (fn : FuncId) (ops : Array Oper) (m : Nat) (l : List Nat) (fr : List AV) (h : Heap) (nx : Nat) : Tre (List Rc × List AV × Heap) :=
 match ancs [] ops.toList with
 | some A => if decide (m = ops.size) || (decide (m + 1 = ops.size) && allIn (A.getD m []) m) then (drunM E fn ops nx l 4000 [] 0 (ops.toList.take m) fr h).bind fun x => if okAll A 0 [] x.1 then .ok x else .bad else .bad
 | none => .bad
def mergeHere : List Nat → Array Oper → Bool
 | [], _ => false
 | d :: l, ops => ops.toList.any fun o => match o.op, o.dst with | .pick .., some t => (d :: l).contains t | _, _ => false
def adraw (E : Ctx) (fn : FuncId) (ops : Array Oper) (m : Nat) (fr : List AV) (h : Heap) (nx : Nat) : Tre (List Rc × List AV × Heap) :=
 match E.mrg fn with
 | [] => adraw0 E fn ops m fr h nx
 | d :: l => adrawM E fn ops m (d :: l) fr h nx
def lastPan (E : Ctx) (ops : Array Oper) : Bool := match ops[ops.size - 1]? with
 | some { op := .call { callee := .value (.func f), .. }, .. } => E.pans f
 | _ => false
def astep (E : Ctx) (c : Cfg) : Tre Fin :=
 match c.cur.todo with
 | [] => leave E c
 | .code .ret :: _ => leave E c
 | .code .skip :: k | .code (.label _) :: k | .inBlock _ :: k => todoC c k
 | .code (.seq a b) :: k => todoC c (.code a :: .code b :: k)
 | .code (.cond x a b) :: k => match asB (ev E c.cur.fr x) with
  | some t => .ite t (.ok (.at_ { c with cur := { c.cur with todo := .code a :: k, fr := setB c.cur.fr (opTmp x) true } })) (.ok (.at_ { c with cur := { c.cur with todo := .code b :: k, fr := setB c.cur.fr (opTmp x) false } }))
  | none => .bad
 | .code (.block id a) :: k => todoC c (.code a :: .inBlock id :: k)
 | .code (.loop a) :: k | .inLoop a :: k => todoC c (.code a :: .inLoop a :: k)
 | .code (.exit id) :: k => match exitTo id k with | some k' => todoC c k' | none => .bad
 | .code (.region _ ops false) :: k => match mergeHere (E.mrg c.cur.fn) ops with
  | true => (drunM E c.cur.fn ops c.nx (E.mrg c.cur.fn) 4000 [] 0 ops.toList c.cur.fr c.h).bind fun x => knows (tells x.1) (.ok (.at_ { c with cur := { c.cur with todo := k, fr := x.2.1 }, h := x.2.2, nx := c.nx + ops.size * qay }))
  | false => todoC c (.inRegion ops (List.range ops.size) :: k)
 | .code (.region _ ops true) :: k => match lastPan E ops with
  | false => (adraw E c.cur.fn ops ops.size c.cur.fr c.h c.nx).bind fun x => knows (tells x.1) (.ok (.at_ { c with cur := { c.cur with todo := k, fr := x.2.1 }, h := x.2.2, nx := c.nx + ops.size * qay }))
  | true => (adraw E c.cur.fn ops (ops.size - 1) c.cur.fr c.h c.nx).bind fun x => knows (tells x.1) (.ok (.at_ { c with cur := { c.cur with todo := .inRegion ops [ops.size - 1] :: k, fr := x.2.1 }, h := x.2.2, nx := c.nx + ops.size * qay }))
 | .inRegion _ [] :: k => todoC c k
 | .inRegion ops (i :: rest) :: k => match ops[i]? with
  | none => .bad
  | some o => match o.guard with
   | none => runOp E c ops o rest k
   | some (j, want) => match (ops[j]?).bind (·.dst) with
    | none => .bad
    | some t => match lget c.cur.fr t with
     | .val (.bool b) =>
      let yes (d : Bool) : Tre Fin := runOp E { c with cur := { c.cur with fr := c.cur.fr.set t (abool d) } } ops o rest k
      let no (d : Bool) : Tre Fin := .ok (.at_ { c with cur := { c.cur with fr := c.cur.fr.set t (abool d) }.fin ops o.dst rest k und })
      if want then .ite b (yes true) (no false) else .ite b (no true) (yes false)
     | .val (.tuple _) => .ok (.at_ { c with cur := c.cur.fin ops o.dst rest k und })
     | _ => .bad
 | _ => .bad
end Go.BE
namespace Go.BE
open Go.RowKit
theorem Tre.wp_bind {α β : Type} {f : α → Tre β} {Q : β → Prop} : ∀ {t : Tre α}, (t.bind f).wp Q ↔ t.wp fun a => (f a).wp Q
 | .ok a => Iff.rfl
 | .ite b t e => by simp only [Tre.bind, Tre.wp, Tre.wp_bind]
 | .chk C t => by simp only [Tre.bind, Tre.wp, Tre.wp_bind]
 | .know K t => by simp only [Tre.bind, Tre.wp, Tre.wp_bind]
 | .any p k => by simp only [Tre.bind, Tre.wp, Tre.wp_bind]
 | .bad => Iff.rfl
theorem Tre.wp_mono {α : Type} {Q Q' : α → Prop} (h : ∀ a, Q a → Q' a) : ∀ {t : Tre α}, t.wp Q → t.wp Q'
 | .ok a, ht => h a ht
 | .ite b t e, ht => ⟨fun hb => Tre.wp_mono h (ht.1 hb), fun hb => Tre.wp_mono h (ht.2 hb)⟩
 | .chk C t, ht => ⟨ht.1, fun hc => Tre.wp_mono h (ht.2 hc)⟩
 | .know K t, ht => fun hk => Tre.wp_mono h (ht hk)
 | .any p k, ht => fun b hb => Tre.wp_mono h (ht b hb)
 | .bad, ht => ht.elim
theorem qha {α : Type} {Q : α → Prop} {t : Tre α} : ∀ {C : List Prop}, (chks C t).wp Q → AllP C ∧ t.wp Q
 | [], h => ⟨trivial, h⟩
 | C :: l, h => by
  have := qha (h.2 h.1)
  exact ⟨⟨h.1, this.1⟩, this.2⟩
theorem okAVs_at : ∀ {l : List AV}, (∀ (j : Nat) a, l[j]? = some a → okAV a) → okAVs l
 | [], _ => trivial
 | a :: l, h => ⟨h 0 a rfl, okAVs_at fun j x hx => h (j + 1) x (by simpa using hx)⟩
section
variable {w w' w0 : World} {Z Z' : Nat → Prop} {K : Kp} {own own' : Own} {γ γ' : Gst} {h h' : Heap} {used used' : Nat → Prop} {r s d id : Nat} {R : Root} {a A B : AV} {v V U : Value} {cs ds : List AV} {vs us : List Value}
theorem okAV_val {u : Value} (h : okV u) : okAV (.val u) := by cases u <;> first | trivial | exact h
theorem CR.ok (h : CR w Z a v) : okAV a := by
 induction h with
 | val v h => exact okAV_val h
 | tva S x vs hS h => exact h.ok
 | tv1 S x v hS h => exact h.ok
 | rtp S x b o us hz hr h => exact h.ok
 | rop cs off b o u hz hc hr ih => exact okAVs_at fun j a ha => ih j a ha
 | agg cs vs hl hr ih => exact okAVs_at fun j a ha => ih j a _ ha (Array.getElem?_eq_getElem (by rw [← hl]; exact (List.getElem?_eq_some_iff.1 ha).1))
 | tup cs vs hl hr ih => exact okAVs_at fun j a ha => ih j a _ ha (Array.getElem?_eq_getElem (by rw [← hl]; exact (List.getElem?_eq_some_iff.1 ha).1))
 | fn f cs vs hl hr ih => exact okAVs_at fun j a ha => ih j a _ ha (Array.getElem?_eq_getElem (by rw [← hl]; exact (List.getElem?_eq_some_iff.1 ha).1))
theorem VR.ok (h : VR w Z γ a v) : okAV a := by
 induction h with
 | bad => trivial
 | cr h => exact h.ok
 | ref => trivial
 | tref => trivial
 | osl => trivial
 | optr => trivial
 | csl => trivial
 | agg cs vs hl hr ih => exact okAVs_at fun j a ha => ih j a _ ha (Array.getElem?_eq_getElem (by rw [← hl]; exact (List.getElem?_eq_some_iff.1 ha).1))
 | tup cs vs hl hr ih => exact okAVs_at fun j a ha => ih j a _ ha (Array.getElem?_eq_getElem (by rw [← hl]; exact (List.getElem?_eq_some_iff.1 ha).1))
 | fn f cs vs hl hr ih => exact okAVs_at fun j a ha => ih j a _ ha (Array.getElem?_eq_getElem (by rw [← hl]; exact (List.getElem?_eq_some_iff.1 ha).1))
theorem VRs.ok (h : VRs w Z γ cs vs) : okAVs cs := okAVs_at fun j a ha => by
 obtain ⟨v, _, hr⟩ := h.get ha
 exact hr.ok
theorem RootR.ok (h : RootR w Z own γ r R) : okCont R.cont := by
 have hc := h.cont
 unfold ContR at hc
 unfold okCont
 split at hc
 ·rename_i cs hcs
  simp only [hcs]
  obtain ⟨_, _, b, arr, e, _, _, _, hv⟩ := hc
  exact hv.ok
 ·rename_i x hcs
  simp only [hcs]
 ·rename_i m by_ S xs hcs
  simp only [hcs]
  refine ⟨hc.1.1, ?_⟩
  have hc := hc.2
  split at hc
  ·obtain ⟨_, own0, h1, h2⟩ := hc
   exact h2.ok
  ·split at hc
   ·exact hc.ok
   ·obtain ⟨p0, i, st, hd0, b0, o0, so, T, hd, v, row, e1, e2, e3, e4, e5, e6, e7, e8, e9, e10, e11⟩ := hc
    exact (e11 v e7).ok
theorem okHeap_of : ∀ {h : Heap}, (∀ r R, (r, R) ∈ h → okCont R.cont) → okHeap h
 | [], _ => trivial
 | (r, R) :: h, hh => ⟨hh r R List.mem_cons_self, okHeap_of fun r R hm => hh r R (List.mem_cons_of_mem _ hm)⟩

theorem FR.plain : ∀ {S : Sh} {x : Den S} {us : List Value}, S.flat = true → FR w Z S x us → FR w' Z' S x us := by
 intro S
 induction S with
 | int k => intro x us _ h; exact h
 | bool => intro x us _ h; exact h
 | str => intro x us _ h; exact h
 | unit => intro x us _ h; exact h
 | pair a b iha ihb =>
  intro x us hf ⟨u1, u2, h1, h2, h3⟩
  simp only [Sh.flat, Bool.and_eq_true] at hf
  exact ⟨u1, u2, h1, iha hf.1 h2, ihb hf.2 h3⟩
 | arr n a ih => intro x us hf h; exact FRV.imp (f := FR w Z a) (fun _ _ h => ih hf h) h
 | sl => intro x us hf; cases hf
 | ptr => intro x us hf; cases hf
theorem plainAll_at : ∀ {l : List AV}, plainAll l = true → ∀ (j : Nat) (a : AV), l[j]? = some a → a.plain = true
 | [], _, j, a, ha => by simp at ha
 | x :: l, h, j, a, ha => by
  simp only [plainAll, Bool.and_eq_true] at h
  cases j with
  | zero => simp at ha; subst ha; exact h.1
  | succ j => exact plainAll_at h.2 j a (by simpa using ha)
theorem CR.plain (h : CR w Z a v) : a.plain = true → CR w' Z' a v := by
 induction h with
 | val v h => exact fun _ => .val v h
 | tva S x vs hS h => exact fun hp => .tva S x vs hS (h.plain hp)
 | tv1 S x v hS h => exact fun hp => .tv1 S x v hS (h.plain hp)
 | rtp => intro hp; simp [AV.plain] at hp
 | rop => intro hp; simp [AV.plain] at hp
 | agg cs vs hl hr ih => exact fun hp => .agg cs vs hl fun j a v ha hv => ih j a v ha hv (plainAll_at (by simpa [AV.plain] using hp) j a ha)
 | tup cs vs hl hr ih => exact fun hp => .tup cs vs hl fun j a v ha hv => ih j a v ha hv (plainAll_at (by simpa [AV.plain] using hp) j a ha)
 | fn => intro hp; simp [AV.plain] at hp
mutual
theorem plain_closed : ∀ {a : AV}, a.plain = true → a.closed = true
 | .bad, h => by simp [AV.plain] at h
 | .val _, _ => rfl
 | .tv _ _, _ => rfl
 | .rtp _ _, _ => rfl
 | .agg cs, h => by simp only [AV.plain] at h; simp only [AV.closed]; exact plainAll_closed h
 | .tup cs, h => by simp only [AV.plain] at h; simp only [AV.closed]; exact plainAll_closed h
 | .fn _ _, h => by simp [AV.plain] at h
 | .rop _ _, _ => rfl
 | .ref _ _, h => by simp [AV.plain] at h
 | .tref .., h => by simp [AV.plain] at h
 | .osl .., h => by simp [AV.plain] at h
 | .optr .., h => by simp [AV.plain] at h
 | .csl .., h => by simp [AV.plain] at h
theorem plainAll_closed : ∀ {l : List AV}, plainAll l = true → qdb l = true
 | [], _ => rfl
 | a :: l, h => by
  simp only [plainAll, Bool.and_eq_true] at h
  simp only [qdb, Bool.and_eq_true]
  exact ⟨plain_closed h.1, plainAll_closed h.2⟩
end
end

def GlR (E : Ctx) (w : World) (Z : Nat → Prop) : Prop := ∀ g a, E.gl g = some a → CR w Z a (.pointer (some ⟨g, 0, none⟩))
theorem GlR.mono {E : Ctx} {w w' : World} {Z Z' : Nat → Prop} (hs : Stay w Z w' Z') (h : GlR E w Z) : GlR E w' Z' := fun g cs hg => (h g cs hg).mono hs
def PromiseR (P : Program) (f : FuncId) (vs : Array Value) (w : World) (Z : Nat → Prop) (r : SRes) : Prop :=
 Calls P f vs w fun e w' => ∃ v Z' own' γ', e = .returned v ∧ Stay w Z w' Z' ∧ MemR w ⟨fun _ => True, Z⟩ w' Z' own' γ' r.roots (fun s => s < 16) ∧ VR w' Z' γ' r.res v
def PromiseP (P : Program) (f : FuncId) (vs : Array Value) (w : World) (Z : Nat → Prop) (r : SRes) (b : Bool) (pv : AV) : Prop :=
 Calls P f vs w fun e w' => ∃ Z' own' γ' h' used', Stay w Z w' Z' ∧ MemR w ⟨fun _ => True, Z⟩ w' Z' own' γ' h' used' ∧
  ((b = true ∧ ∃ V, e = .panicked [{ v := V, recovered := false }] ∧ ∃ Z2, Stay w Z w' Z2 ∧ CR w' Z2 pv V) ∨ (b = false ∧ ∃ V, e = .returned V ∧ VR w' Z' γ' r.res V))
def qgr (P : Program) (f : FuncId) (vs : Array Value) (w : World) (Z : Nat → Prop) (r : SRes) : Prop :=
 match r.pan with
 | none => PromiseR P f vs w Z r
 | some (b, pv) => PromiseP P f vs w Z r b pv
theorem qgr.r {P : Program} {f : FuncId} {vs : Array Value} {w : World} {Z : Nat → Prop} {r : SRes} (h : qgr P f vs w Z r) (hp : r.pan = none) : PromiseR P f vs w Z r := by
 unfold qgr at h
 rw [hp] at h
 exact h
theorem qgr.p {P : Program} {f : FuncId} {vs : Array Value} {w : World} {Z : Nat → Prop} {r : SRes} {b : Bool} {pv : AV} (h : qgr P f vs w Z r) (hp : r.pan = some (b, pv)) : PromiseP P f vs w Z r b pv := by
 unfold qgr at h
 rw [hp] at h
 exact h
theorem qgr.of_r {P : Program} {f : FuncId} {vs : Array Value} {w : World} {Z : Nat → Prop} {r : SRes} (h : PromiseR P f vs w Z r) (hp : r.pan = none) : qgr P f vs w Z r := by
 unfold qgr
 rw [hp]
 exact h
theorem qgr.of_p {P : Program} {f : FuncId} {vs : Array Value} {w : World} {Z : Nat → Prop} {r : SRes} {b : Bool} {pv : AV} (h : PromiseP P f vs w Z r b pv) (hp : r.pan = some (b, pv)) : qgr P f vs w Z r := by
 unfold qgr
 rw [hp]
 exact h
def EnvOK (E : Ctx) : Prop := ∀ f args r, qdb args = true → E.env f args = some r → r.pre → ∀ (w : World) (Z : Nat → Prop) (vs : List Value), GlR E w Z → (∀ b, Z b → b < w.heap.size) → CRs w Z args vs → qgr E.P f vs.toArray w Z r
section
variable {E : Ctx} {w w' w0 : World} {Z Z' : Nat → Prop} {K : Kp} {own own' own2 : Own} {γ γ' γ2 : Gst} {h h' : Heap} {used used' : Nat → Prop} {r s d id : Nat} {R : Root} {a A B : AV} {v V U : Value} {cs ds : List AV} {vs us : List Value}
theorem shL_get (base : Nat) : ∀ (l : List AV) (j : Nat), (shL base l)[j]? = (l[j]?).map (AV.sh base)
 | [], j => by simp [shL]
 | a :: l, 0 => by simp [shL]
 | a :: l, j + 1 => by simpa [shL] using shL_get base l j
theorem qih (base : Nat) : ∀ l : List AV, (shL base l).length = l.length
 | [] => rfl
 | _ :: l => by simp [shL, qih base l]
structure Shift (base : Nat) (γ γ' : Gst) : Prop where
 β : ∀ r b, γ.β r = some b → γ'.β (base + r) = some b
 G : ∀ s p hd, γ.G s p = some hd → γ'.G (base + s) p = some hd
theorem CR.sh {base : Nat} (h : CR w Z a v) : CR w Z (a.sh base) v := by
 induction h with
 | val v h => exact .val v h
 | tva S x vs hS h => exact .tva S x vs hS h
 | tv1 S x v hS h => exact .tv1 S x v hS h
 | rtp S x b o us hz hr h => exact .rtp S x b o us hz hr h
 | rop cs off b o u hz hc hr ih => exact .rop cs off b o u hz hc hr
 | agg cs vs hl hr ih =>
  refine .agg _ vs (by rw [qih]; exact hl) fun j x y hx hy => ?_
  rw [shL_get] at hx
  obtain ⟨x', hx', rfl⟩ := Option.map_eq_some_iff.1 hx
  exact ih j x' y hx' hy
 | tup cs vs hl hr ih =>
  refine .tup _ vs (by rw [qih]; exact hl) fun j x y hx hy => ?_
  rw [shL_get] at hx
  obtain ⟨x', hx', rfl⟩ := Option.map_eq_some_iff.1 hx
  exact ih j x' y hx' hy
 | fn f cs vs hl hr ih =>
  refine .fn f _ vs (by rw [qih]; exact hl) fun j x y hx hy => ?_
  rw [shL_get] at hx
  obtain ⟨x', hx', rfl⟩ := Option.map_eq_some_iff.1 hx
  exact ih j x' y hx' hy
theorem VR.sh {base : Nat} (hs : Shift base γ γ') (h : VR w Z γ a v) : VR w Z γ' (a.sh base) v := by
 induction h with
 | bad v => exact .bad v
 | cr h => exact .cr h.sh
 | ref r off b h => exact .ref _ off b (hs.β _ _ h)
 | tref r s p i st hd b o so T h hi hb hst => exact .tref _ _ p i st hd b o so T (hs.G _ _ _ h) hi hb hst
 | osl r s p win v hd h hv => exact .osl _ _ p win v hd (hs.G _ _ _ h) hv
 | optr r s p v hd h hp hv => exact .optr _ _ p v hd (hs.G _ _ _ h) hp hv
 | csl r off n b c h hc hr => exact .csl _ off n b c (hs.β _ _ h) hc hr
 | agg cs vs hl hr ih =>
  refine .agg _ vs (by rw [qih]; exact hl) fun j x y hx hy => ?_
  rw [shL_get] at hx
  obtain ⟨x', hx', rfl⟩ := Option.map_eq_some_iff.1 hx
  exact ih j x' y hx' hy
 | tup cs vs hl hr ih =>
  refine .tup _ vs (by rw [qih]; exact hl) fun j x y hx hy => ?_
  rw [shL_get] at hx
  obtain ⟨x', hx', rfl⟩ := Option.map_eq_some_iff.1 hx
  exact ih j x' y hx' hy
 | fn f cs vs hl hr ih =>
  refine .fn f _ vs (by rw [qih]; exact hl) fun j x y hx hy => ?_
  rw [shL_get] at hx
  obtain ⟨x', hx', rfl⟩ := Option.map_eq_some_iff.1 hx
  exact ih j x' y hx' hy
theorem VRs.sh {base : Nat} (hs : Shift base γ γ') (h : VRs w Z γ cs vs) : VRs w Z γ' (shL base cs) vs := by
 refine ⟨by rw [qih]; exact h.1, fun j x y hx hy => ?_⟩
 rw [shL_get] at hx
 obtain ⟨x', hx', rfl⟩ := Option.map_eq_some_iff.1 hx
 exact (h.2 j x' y hx' hy).sh hs
theorem qbx.moveR {M M' : Rows} {r' : Nat} {g g' : Pth → Option Hd} {n : Node} {m : Nat} {p : Pth} (hs : Stay w Z w' Z') (hg : ∀ q hd, g q = some hd → g' q = some hd) (hb : ∀ b q row, own b = some (r, q) → M b = some row → own' b = some (r', q) ∧ M' b = some row)
  (h : qbx w Z M own r g n m p) : qbx w' Z' M' own' r' g' n m p := by
 obtain ⟨hd, h1, h2, h3, h4, hle, hlim, hel⟩ := h
 refine ⟨hd, hg _ _ h1, h2, h3, h4, hle, hlim, fun hc => ?_⟩
 obtain ⟨b, o, row, e1, e2, e3, e4, e5⟩ := hel hc
 obtain ⟨k1, k2⟩ := hb _ _ _ e2 e3
 refine ⟨b, o, row, e1, k1, k2, e4, fun j hj => ?_⟩
 obtain ⟨y, hy, hor⟩ := e5 j hj
 exact ⟨y, hy, OR.move (r' := r') hs [] (fun q hd _ => hg q hd) (fun b q row _ => hb b q row) hor⟩
theorem RootR.sh {base : Nat} (hs : Shift base γ γ') (hGe : γ'.G (base + R.cur) = γ.G R.cur) (ho : ∀ b p, own b = some (r, p) → own' b = some (base + r, p)) (hp : R.pend = none) (h : RootR w Z own γ r R) : RootR w Z own' γ' (base + r) (R.sh base) := by
 refine ⟨fun e he => by simp [Root.sh] at he, ?_⟩
 have hc := h.cont
 unfold ContR at hc ⊢
 split at hc
 ·rename_i cs hcs
  simp only [Root.sh, hcs, Cont.sh]
  obtain ⟨e1, e2, b, arr, e, k1, k2, k3, k4⟩ := hc
  exact ⟨e1, e2, b, arr, e, hs.β _ _ k1, ho _ _ k2, k3, k4.sh hs⟩
 ·rename_i x hcs
  simp only [Root.sh, hcs, Cont.sh]
  obtain ⟨e1, e2, b, o, k1, k2, k3, k4⟩ := hc
  exact ⟨e1, e2, b, o, hs.β _ _ k1, ho _ _ k2, k3, k4⟩
 ·rename_i m by_ S xs hcs
  simp only [Root.sh, hcs, Cont.sh, hp]
  refine ⟨⟨hc.1.1, by rw [hGe]; exact hc.1.2⟩, ?_⟩
  have hc := hc.2
  split at hc
  ·rename_i hf
   rw [if_pos hf]
   obtain ⟨_, own0, h1, h2⟩ := hc
   exact ⟨trivial, own0, h1, h2.moveR (Stay.refl _ _) (fun q hd hq => hs.G _ _ _ hq) fun b q row hob hM => ⟨hob, hM⟩⟩
  ·rename_i hf
   rw [if_neg hf]
   simp only [hp] at hc
   exact hc.moveR (Stay.refl _ _) (fun q hd hq => hs.G _ _ _ hq) fun b q row hob hM => ⟨ho b q hob, hM⟩
theorem hget_newRoots (base : Nat) : ∀ (l : List (Nat × Root)) (h : Heap) (x : Nat), hget (qaw h (newRoots base l)) x = if base ≤ x ∧ (hget l (x - base)).isSome then (hget l (x - base)).map (Root.sh base) else hget h x
 | [], h, x => by simp [newRoots, qaw, hget]
 | (r, R) :: l, h, x => by
  rw [newRoots, qdu]
  show hget (hput _ _ _) x = _
  rw [qcw, hget_newRoots base l h x]
  by_cases hx : x = base + r
  ·subst hx
   simp [hget]
  ·rw [if_neg hx]
   by_cases hb : base ≤ x
   ·have hr : ¬ r = x - base := by omega
    simp only [hget, hr, if_false]
   ·rw [if_neg (by omega), if_neg (by omega)]
theorem hget_mem {l : List (Nat × Root)} (h : hget l r = some R) : (r, R) ∈ l := by
 induction l with
 | nil => simp [hget] at h
 | cons x l ih =>
  obtain ⟨k, c⟩ := x
  simp only [hget] at h
  split at h
  ·rename_i hk
   injection h with h
   subst hk; subst h
   exact List.mem_cons_self
  ·exact List.mem_cons_of_mem _ (ih h)
theorem closeC0_closed {C : List Prop} {ws : List (Nat × Option Root)} {h : Heap} (he : closeC0 h A = some (C, B, ws)) : B.closed = true := by
 unfold closeC0 at he
 split at he
 ·split at he
  ·split at he
   ·simp only [Option.some.injEq, Prod.mk.injEq] at he; obtain ⟨_, rfl, _⟩ := he; rfl
   ·cases he
  ·cases he
 ·split at he
  ·rename_i hc; simp only [Option.some.injEq, Prod.mk.injEq] at he; obtain ⟨_, rfl, _⟩ := he; exact hc
  ·cases he
theorem closeC_closed {C : List Prop} {ws : List (Nat × Option Root)} {h : Heap} (he : closeC h A = some (C, B, ws)) : B.closed = true := by
 unfold closeC at he
 split at he
 ·split at he
  ·split at he
   ·split at he
    ·split at he
     ·simp only [Option.some.injEq, Prod.mk.injEq] at he; obtain ⟨_, rfl, _⟩ := he; rfl
     ·cases he
    ·cases he
   ·cases he
  ·cases he
 ·exact closeC0_closed he
theorem closeL_closed : ∀ {cs : List AV} {C : List Prop} {ds : List AV} {ws : List (Nat × Option Root)} {h : Heap}, closeL h cs = some (C, ds, ws) → qdb ds = true := by
 intro cs
 induction cs with
 | nil => intro C ds ws h he; simp only [closeL, Option.some.injEq, Prod.mk.injEq] at he; obtain ⟨_, rfl, _⟩ := he; rfl
 | cons c cs ih =>
  intro C ds ws h he
  simp only [closeL] at he
  split at he
  ·rename_i h1
   split at he
   ·rename_i h2
    simp only [Option.some.injEq, Prod.mk.injEq] at he
    obtain ⟨_, rfl, _⟩ := he
    simp only [qdb, Bool.and_eq_true]
    exact ⟨closeC_closed h1, ih h2⟩
   ·cases he
  ·cases he
theorem acall_sound (hE : EnvOK E) (hm : MemR w0 K w Z own γ h used) (hgl : GlR E w Z) {f : FuncId} {args : List AV} {C : List Prop} {Kn : Prop} {ws : List (Nat × Option Root)} (he : acall E h id f args = some (C, Kn, a, ws)) (hC : AllP C) (hv : VRs w Z γ args vs)
  (hid : ∀ j, j < 16 → ¬ used (id + j)) (hu : ∀ s, used s → used' s) (hid' : ∀ j, j < 16 → used' (id + j)) :
  Calls E.P f vs.toArray w fun e w' => ∃ v Z' own' γ', e = .returned v ∧ Kn ∧ Stay w Z w' Z' ∧ Gst.Ext used γ γ' ∧ MemR w0 K w' Z' own' γ' (qaw h ws) used' ∧ VR w' Z' γ' a v := by
 unfold acall at he
 split at he
 ·rename_i C1 args' ws1 hcl
  split at he
  ·rename_i r hr
   split at he
   ·rename_i hfit0
    simp only [Bool.and_eq_true, Option.isNone_iff_eq_none] at hfit0
    obtain ⟨hpn, hfit⟩ := hfit0
    have hclosed : qdb args' = true := closeL_closed hcl
    have hpre : AllP C1 ∧ r.pre ∧ (C = C1 ++ [r.pre]) ∧ Kn = okAV r.res := by
     split at he <;> (simp only [Option.some.injEq, Prod.mk.injEq] at he; obtain ⟨rfl, rfl, _⟩ := he; rw [AllP.append] at hC; exact ⟨hC.1, hC.2.1, rfl, rfl⟩)
    obtain ⟨hC1, hpre, _, rfl⟩ := hpre
    obtain ⟨Z1, own1, k1, k2, k3⟩ := qgq hm hcl hC1 hv
    refine ((hE f args' r hclosed hr hpre w Z1 vs (hgl.mono k1.stay) k1.mem.zlt ⟨k2, k3⟩).r hpn).mono fun e w' ⟨v, Z2, own2, γ2, e1, e2, e3, e4⟩ => ?_
    have hall : ∀ b, b < w.heap.size → w'.heap[b]? = w.heap[b]? := fun b hb => e3.kept b hb trivial
    split at he
    ·rename_i hpl
     simp only [Bool.and_eq_true] at hpl
     simp only [Option.some.injEq, Prod.mk.injEq] at he
     obtain ⟨_, _, rfl, rfl⟩ := he
     have hst : Stay w Z w' Z := ⟨fun b hb => hall b (hm.zlt b hb), fun _ h => h⟩
     refine ⟨v, Z, own, γ, e1, e4.ok, hst, Gst.Ext.refl _ _, ?_, .cr ((e4.toCR (plain_closed hpl.1)).plain hpl.1)⟩
     refine hm.step hst (Gst.Ext.refl used γ) hu e3.os e3.tape e3.output e3.size (fun _ => False) (fun b hb _ => hall b hb) (fun b o ho _ => ho) (fun b o ho => .inl ⟨ho, fun h => h⟩) (fun b hb => ⟨Nat.lt_of_lt_of_le (hm.zlt b hb) e3.size, .inl hb⟩) (fun r R hg => .inl ⟨hg, fun h => h⟩) (fun s hs => hm.fresh s (fun h => hs (hu s h)))
    ·simp only [Option.some.injEq, Prod.mk.injEq] at he
     obtain ⟨_, _, rfl, rfl⟩ := he
     classical
     let γ3 : Gst := { β := fun s => if used s then γ.β s else if id ≤ s then γ2.β (s - id) else none, G := fun s => if used s then γ.G s else if id ≤ s then γ2.G (s - id) else fun _ => none }
     let own3 : Own := fun b => if b < w.heap.size then own1 b else (own2 b).map fun o => (id + o.1, o.2)
     have hext : Gst.Ext used γ γ3 := fun s hs => ⟨by simp only [γ3, if_pos hs], by simp only [γ3, if_pos hs]⟩
     have hsh : Shift id γ2 γ3 := by
      refine ⟨fun r b hb => ?_, fun s p hd hp => ?_⟩
      ·have hr : r < 16 := by
        rcases Nat.lt_or_ge r 16 with h | h
        ·exact h
        ·rw [(e3.fresh r (by omega)).1] at hb; cases hb
       simp only [γ3]
       rw [if_neg (hid r hr), if_pos (by omega), Nat.add_sub_cancel_left]
       exact hb
      ·have hr : s < 16 := by
        rcases Nat.lt_or_ge s 16 with h | h
        ·exact h
        ·rw [(e3.fresh s (by omega)).2] at hp; cases hp
       simp only [γ3]
       rw [if_neg (hid s hr), if_pos (by omega), Nat.add_sub_cancel_left]
       exact hp
     have hge : ∀ b o, own2 b = some o → w.heap.size ≤ b := fun b o ho => by
      rcases Nat.lt_or_ge b w.heap.size with h | h
      ·exact absurd trivial (e3.ownK b o ho h)
      ·exact h
     refine ⟨v, Z2, own3, γ3, e1, e4.ok, k1.stay.trans e2, hext, ?_, e4.sh hsh⟩
     rw [qdu]
     refine k1.mem.step e2 hext hu e3.os e3.tape e3.output e3.size (fun _ => False) (fun b hb _ => hall b hb) (fun b o ho _ => ?_) (fun b o ho => ?_) (fun b hb => ⟨e3.zlt b hb, ?_⟩) (fun r' R' hg => ?_) (fun s hs => ?_)
     ·simp only [own3]
      rw [if_pos (k1.mem.ownlt b o ho)]
      exact ho
     ·simp only [own3] at ho
      split at ho
      ·exact .inl ⟨ho, fun h => h⟩
      ·rename_i hb
       obtain ⟨o', ho', rfl⟩ := Option.map_eq_some_iff.1 ho
       exact .inr ⟨e3.ownlt b _ ho', e3.ownZ b _ ho', .inr (by omega)⟩
     ·rcases Nat.lt_or_ge b w.heap.size with h | h
      ·exact .inl (e3.zin b hb h trivial)
      ·exact .inr (.inr h)
     ·rw [hget_newRoots] at hg
      split at hg
      ·rename_i hcond
       obtain ⟨R0, hR0, rfl⟩ := Option.map_eq_some_iff.1 hg
       have hmem := hget_mem hR0
       have hf := List.all_eq_true.1 hfit _ hmem
       simp only [Bool.and_eq_true, decide_eq_true_eq, Option.isNone_iff_eq_none] at hf
       obtain ⟨⟨f1, f2⟩, f3⟩ := hf
       have hr' : r' = id + (r' - id) := by omega
       refine .inr ⟨?_, by rw [hr']; exact hid' _ f1, hid' _ f2, fun e he => by simp [Root.sh] at he⟩
       rw [hr']
       refine (e3.root _ _ hR0).sh hsh (by
        simp only [γ3]
        rw [if_neg (hid _ f2), if_pos (by omega), Nat.add_sub_cancel_left]) (fun b p ho => ?_) f3
       simp only [own3]
       rw [if_neg (by have := hge b _ ho; omega), ho]
       simp
      ·exact .inl ⟨hg, fun h => h⟩
     ·have hns : ¬ used s := fun h => hs (hu s h)
      have key : ∀ {k}, id ≤ s → s - id = k → ¬ k < 16 := fun h1 h2 h3 => hs (by have := hid' _ h3; rwa [← h2, show id + (s - id) = s from by omega] at this)
      simp only [γ3]
      rw [if_neg hns, if_neg hns]
      by_cases h1 : id ≤ s
      ·rw [if_pos h1, if_pos h1]
       exact e3.fresh _ (key h1 rfl)
      ·rw [if_neg h1, if_neg h1]
       exact ⟨rfl, fun _ => rfl⟩
   ·cases he
  ·cases he
 ·cases he
theorem acallP_sound (hE : EnvOK E) (hm : MemR w0 K w Z own γ h used) (hgl : GlR E w Z) {f : FuncId} {args : List AV} {C : List Prop} {bb : Bool} {pv : AV} (he : acallP E h f args = some (C, bb, pv, a)) (hC : AllP C) (hv : VRs w Z γ args vs) (hu : ∀ s, used s → used' s) :
  Calls E.P f vs.toArray w fun e w' => ∃ Z', Stay w Z w' Z' ∧ MemR w0 K w' Z' own γ h used' ∧
   ((bb = true ∧ ∃ V, e = .panicked [{ v := V, recovered := false }] ∧ ∃ Z2, Stay w Z w' Z2 ∧ CR w' Z2 pv V) ∨ (bb = false ∧ ∃ V, e = .returned V ∧ VR w' Z' γ a V)) := by
 unfold acallP at he
 split at he
 ·rename_i C1 args' ws1 hcl
  split at he
  ·rename_i r hr
   split at he
   ·rename_i b v hpan
    split at he
    ·rename_i hpl
     simp only [Bool.and_eq_true] at hpl
     simp only [Option.some.injEq, Prod.mk.injEq] at he
     obtain ⟨rfl, rfl, rfl, rfl⟩ := he
     rw [AllP.append] at hC
     have hclosed : qdb args' = true := closeL_closed hcl
     obtain ⟨Z1, own1, k1, k2, k3⟩ := qgq hm hcl hC.1 hv
     refine ((hE f args' r hclosed hr hC.2.1 w Z1 vs (hgl.mono k1.stay) k1.mem.zlt ⟨k2, k3⟩).p hpan).mono fun e w' ⟨Z2, own2, γ2, h2, u2, e2, e3, e4⟩ => ?_
     have hall : ∀ b, b < w.heap.size → w'.heap[b]? = w.heap[b]? := fun b hb => e3.kept b hb trivial
     have hst : Stay w Z w' Z := ⟨fun b hb => hall b (hm.zlt b hb), fun _ h => h⟩
     refine ⟨Z, hst, hm.step hst (Gst.Ext.refl used γ) hu e3.os e3.tape e3.output e3.size (fun _ => False) (fun b hb _ => hall b hb) (fun b o ho _ => ho) (fun b o ho => .inl ⟨ho, fun h => h⟩) (fun b hb => ⟨Nat.lt_of_lt_of_le (hm.zlt b hb) e3.size, .inl hb⟩) (fun r R hg => .inl ⟨hg, fun h => h⟩) (fun s hs => hm.fresh s (fun h => hs (hu s h))), ?_⟩
     rcases e4 with ⟨hb, V, q1, Z3, q3, q2⟩ | ⟨hb, V, q1, q2⟩
     ·exact .inl ⟨hb, V, q1, Z3, k1.stay.trans q3, q2⟩
     ·exact .inr ⟨hb, V, q1, .cr ((q2.toCR (plain_closed hpl.1)).plain hpl.1)⟩
    ·cases he
   ·cases he
  ·cases he
 ·cases he
end
end Go.BE
namespace Go.BE
open Go.RowKit
def fb (f : FuncId) : Frame := { (default : Frame) with fn := f, kind := .normal }
def mkF (F : AFr) (a : Act) : Frame := (fb F.fn).at a F.todo
def frs : List AFr → List Act → List Frame
 | F :: Fs, a :: as => mkF F a :: frs Fs as
 | _, _ => []
structure FrR (w : World) (Z : Nat → Prop) (γ : Gst) (F : AFr) (a : Act) : Prop where
 defers : a.defers = []
 tmps : VRs w Z γ F.fr a.tmps.toList
def CsR (w : World) (Z : Nat → Prop) (γ : Gst) : List AFr → List Act → Prop
 | [], [] => True
 | F :: Fs, a :: as => FrR w Z γ F a ∧ CsR w Z γ Fs as
 | _, _ => False
structure StOK (E : Ctx) (w0 : World) (K : Kp) (c : Cfg) (a : Act) (as : List Act) (w : World) (Z : Nat → Prop) (own : Own) (γ : Gst) : Prop where
 cur : FrR w Z γ c.cur a
 callers : CsR w Z γ c.callers as
 mem : MemR w0 K w Z own γ c.h (fun s => s < c.nx)
 gl : GlR E w Z
def FnsOK (E : Ctx) : Prop := ∀ f, E.fns f = true → ∀ args w, (callFunc f args).run E.P w = .ok (.enter f args) w
structure EOK (E : Ctx) : Prop where
 ty : TyOK E.P E.ty
 env : EnvOK E
 fns : FnsOK E
 mixed : E.P.follows .mixedOrders = true
def botFn : AFr → List AFr → FuncId
 | F, [] => F.fn
 | _, G :: Gs => botFn G Gs
def FinOK (E : Ctx) (w0 : World) (K : Kp) (base : List Frame) (c : Cfg) (a : Act) (as : List Act) (w : World) (Z : Nat → Prop) : Fin → Prop
 | .at_ c' => ∃ a' as' w' Z' own' γ', StOK E w0 K c' a' as' w' Z' own' γ' ∧ Stay w Z w' Z' ∧ botFn c'.cur c'.callers = botFn c.cur c.callers ∧ Steps E.P (lone (mkF c.cur a) (frs c.callers as ++ base) w) (lone (mkF c'.cur a') (frs c'.callers as' ++ base) w')
 | .ret A h nx => ∃ V w' Z' own' γ' fr, VR w' Z' γ' A V ∧ Stay w Z w' Z' ∧ MemR w0 K w' Z' own' γ' h (fun s => s < nx) ∧ Steps E.P (lone (mkF c.cur a) (frs c.callers as ++ base) w) (lone fr base w') ∧ fr.fn = botFn c.cur c.callers ∧ fr.leaving E.P w' (.returned V)
 | .pan A h nx => ∃ V w' Z' own' γ' fr, CR w' Z' A V ∧ Stay w Z w' Z' ∧ (∃ Z'', Stay w Z w' Z'' ∧ MemR w0 K w' Z'' own' γ' h (fun s => s < nx)) ∧ Steps E.P (lone (mkF c.cur a) (frs c.callers as ++ base) w) (lone fr base w') ∧ fr.fn = botFn c.cur c.callers ∧ fr.leaving E.P w' (.panicked [{ v := V, recovered := false }])
section
variable {P : Program} {E : Ctx} {w w' w0 : World} {Z Z' : Nat → Prop} {K : Kp} {own own' : Own} {γ γ' : Gst} {h h' : Heap} {used used' : Nat → Prop} {r s d id : Nat} {R : Root} {A B : AV} {v V U : Value} {cs ds : List AV} {vs us : List Value} {F : AFr} {Fs : List AFr} {a : Act} {as : List Act} {c : Cfg}
theorem FrR.mono (hs : Stay w Z w' Z') (hγ : γ.Le γ') (h : FrR w Z γ F a) : FrR w' Z' γ' F a := ⟨h.defers, h.tmps.mono hs hγ⟩
theorem CsR.mono (hs : Stay w Z w' Z') (hγ : γ.Le γ') : ∀ {Fs : List AFr} {as : List Act}, CsR w Z γ Fs as → CsR w' Z' γ' Fs as
 | [], [], _ => trivial
 | _ :: _, _ :: _, h => ⟨h.1.mono hs hγ, CsR.mono hs hγ h.2⟩
theorem lget_val {t : Nat} {u : Value} {l : List AV} {vs : List Value} (h : VRs w Z γ l vs) (hl : lget l t = .val u) : vs[t]? = some u := by
 unfold lget at hl
 rw [List.getD_eq_getElem?_getD] at hl
 cases hx : l[t]? with
 | none => rw [hx] at hl; simp at hl
 | some x =>
  rw [hx] at hl
  simp only [Option.getD_some] at hl
  subst hl
  obtain ⟨v, h1, h2⟩ := h.get hx
  rw [h1, h2.val_inv]
theorem lget_rel {t : Nat} {l : List AV} {arr : Array Value} (h : VRs w Z γ l arr.toList) : VR w Z γ (lget l t) (arr.getD t undef) := by
 unfold lget
 rw [List.getD_eq_getElem?_getD]
 cases hx : l[t]? with
 | none => exact .bad _
 | some x =>
  obtain ⟨v, h1, h2⟩ := h.get hx
  rw [Array.getElem?_toList] at h1
  rw [Array.getD_eq_getD_getElem?, h1]
  exact h2
theorem ev_rel (hg : GlR E w Z) (hf : VRs w Z γ F.fr a.tmps.toList) (x : Operand) : VR w Z γ (ev E F.fr x) (a.eval x) := by
 cases x with
 | tmp t => exact lget_rel hf
 | const v => exact cval_rel v
 | global g =>
  simp only [ev, Act.eval]
  split
  ·rename_i cs hcs
   exact .cr (hg g cs hcs)
  ·exact .bad _
 | func f => exact .cr (.fn f [] #[] rfl (fun j a v h => by simp at h))
theorem ev_rel' {fr : List AV} (hg : GlR E w Z) (hf : VRs w Z γ fr a.tmps.toList) (x : Operand) : VR w Z γ (ev E fr x) (a.eval x) := ev_rel (F := ⟨0, [], fr⟩) hg hf x
theorem op_value {b : Frame} {k : List Item} {fs : List Frame} {ops : Array Oper} {i : Nat} {rest : List Nat} {o : Oper} (ho : ops[i]? = some o) (hw : Region.wanted o (yielded ops a.tmps) = true)
  (hr : (execOp a.eval o).run P w = .ok (.value v) w') : step P (lone (b.at a (.inRegion ops (i :: rest) :: k)) fs w) = .next (lone (b.at (a.put o.dst v) (.inRegion ops rest :: k)) fs w') := by
 have hg := stepG_op (P := P) (b := b) (k := k) (cs := fs) (w := w) (rest := rest) ho hw
 have hfin : (b.at a (.inRegion ops (i :: rest) :: k)).finish v = b.at (a.put o.dst v) (.inRegion ops rest :: k) := by rw [Frame.finish_at, ho]; rfl
 refine step_lone_go ?_
 rw [hg, ← hfin]
 simp [stepG.apply, hr]
theorem op_skipv {b : Frame} {k : List Item} {fs : List Frame} {ops : Array Oper} {i : Nat} {rest : List Nat} {o : Oper} (ho : ops[i]? = some o) (hw : Region.wanted o (yielded ops a.tmps) = true)
  (hr : (execOp a.eval o).run P w = .ok .skip w') : step P (lone (b.at a (.inRegion ops (i :: rest) :: k)) fs w) = .next (lone (b.at (a.put o.dst undef) (.inRegion ops rest :: k)) fs w') := by
 have hg := stepG_op (P := P) (b := b) (k := k) (cs := fs) (w := w) (rest := rest) ho hw
 have hfin : (b.at a (.inRegion ops (i :: rest) :: k)).finish undef = b.at (a.put o.dst undef) (.inRegion ops rest :: k) := by rw [Frame.finish_at, ho]; rfl
 refine step_lone_go ?_
 rw [hg, ← hfin]
 simp [stepG.apply, hr]
theorem op_enter {b : Frame} {k : List Item} {fs : List Frame} {ops : Array Oper} {i : Nat} {rest : List Nat} {o : Oper} {f : FuncId} {args : Array Value} (ho : ops[i]? = some o) (hw : Region.wanted o (yielded ops a.tmps) = true)
  (hr : (execOp a.eval o).run P w = .ok (.enter f args) w') : step P (lone (b.at a (.inRegion ops (i :: rest) :: k)) fs w) = .next (lone (Frame.enter P f args .normal) (b.at a (.inRegion ops (i :: rest) :: k) :: fs) w') := by
 have hg := stepG_op (P := P) (b := b) (k := k) (cs := fs) (w := w) (rest := rest) ho hw
 refine step_lone_go ?_
 rw [hg]
 simp [stepG.apply, hr, Frame.at]
theorem op_back {b : Frame} {k : List Item} {fs : List Frame} {ops : Array Oper} {i : Nat} {rest : List Nat} {o : Oper} {fr : Frame} (ho : ops[i]? = some o) (hl : fr.leaving P w (.returned v)) :
  step P (lone fr (b.at a (.inRegion ops (i :: rest) :: k) :: fs) w) = .next (lone (b.at (a.put o.dst v) (.inRegion ops rest :: k)) fs w) := by
 have hfin : (b.at a (.inRegion ops (i :: rest) :: k)).finish v = b.at (a.put o.dst v) (.inRegion ops rest :: k) := by rw [Frame.finish_at, ho]; rfl
 rw [← hfin]
 exact step_leave_returned hl

theorem VRs.putT {fr : List AV} (hf : VRs w Z γ fr a.tmps.toList) (dst : Option Tmp) (hv : VR w Z γ A v) : VRs w Z γ (putT fr dst A) (a.put dst v).tmps.toList := by
 cases dst with
 | none => exact hf
 | some t =>
  simp only [BE.putT, Act.put, Array.toList_setIfInBounds]
  exact hf.set t hv
theorem FrR.fin (hf : FrR w Z γ F a) {ops : Array Oper} {dst : Option Tmp} {rest : List Nat} {k : List Item} (hv : VR w Z γ A v) : FrR w Z γ (F.fin ops dst rest k A) (a.put dst v) :=
 ⟨by cases dst <;> exact hf.defers, hf.tmps.putT dst hv⟩
theorem set_self {fr : List AV} {t : Nat} {y : AV} (h : fr[t]? = some y) : fr.set t y = fr := by
 apply List.ext_getElem?
 intro i
 rw [List.getElem?_set]
 by_cases hi : t = i
 ·subst hi
  have := (List.getElem?_eq_some_iff.1 h).1
  rw [if_pos rfl, if_pos this, h]
 ·rw [if_neg hi]
theorem lget_set_self {fr : List AV} {t : Nat} {x : AV} (h : lget fr t = x) (hx : x ≠ .bad) : fr.set t x = fr := by
 unfold lget at h
 rw [List.getD_eq_getElem?_getD] at h
 cases ht : fr[t]? with
 | none => rw [ht] at h; exact absurd h.symm hx
 | some y =>
  rw [ht] at h
  simp only [Option.getD_some] at h
  subst h
  exact set_self ht
theorem setB_eq {fr : List AV} {x : Operand} {b d : Bool} (hb : asB (ev E fr x) = some b) (hd : b = d) : setB fr (opTmp x) d = fr := by
 subst hd
 cases x with
 | tmp t =>
  simp only [opTmp, setB]
  refine lget_set_self ?_ (by simp [abool])
  simp only [ev] at hb
  unfold asB at hb
  split at hb
  ·rename_i heq
   injection hb with hb
   subst hb
   exact heq
  ·cases hb
 | _ => rfl
theorem frs_cons {F : AFr} {Fs : List AFr} {b : Act} {bs : List Act} {base : List Frame} : frs (F :: Fs) (b :: bs) ++ base = mkF F b :: (frs Fs bs ++ base) := rfl
theorem replicate_und (n : Nat) : VRs w Z γ (List.replicate n und) (List.replicate n undef) := by
 refine ⟨by simp, fun j x y hx hy => ?_⟩
 rw [List.getElem?_replicate] at hx hy
 split at hx
 ·rename_i hj
  rw [if_pos hj] at hy
  injection hx with hx; injection hy with hy
  subst hx; subst hy
  exact .cr (.val _ trivial)
 ·cases hx
theorem enter_ok {f : FuncId} {args : List AV} {vs : List Value} {F : AFr} (he : enter E f args = some F) (hr : VRs w Z γ args vs) :
  ∃ b, Frame.enter E.P f vs.toArray .normal = mkF F b ∧ FrR w Z γ F b ∧ F.fn = f := by
 unfold enter at he
 split at he
 ·rename_i fn hfn
  split at he
  ·rename_i code hb
   split at he
   ·rename_i hl
    injection he with he
    subst he
    refine ⟨{ tmps := vs.toArray ++ Array.replicate (fn.ntmps - vs.toArray.size) undef, defers := [] }, ?_, ⟨rfl, ?_⟩, rfl⟩
    ·simp [Frame.enter, mkF, fb, Frame.at, hfn, hb]
    ·simp only [Array.toList_append, Array.toList_replicate, List.size_toArray]
     rw [← hr.1]
     exact hr.append (replicate_und _)
   ·cases he
  ·cases he
 ·cases he
theorem aop_sound (hT : TyOK E.P E.ty) (hm : MemR w0 K w Z own γ h used) (hid : ¬ used id) (hu : ∀ s, used s → used' s) (hid' : used' id) {ro : Nat} {ρa : Operand → AV} {ρ : Operand → Value} (hρ : ∀ x, VR w Z γ (ρa x) (ρ x)) (o : Oper) : OutOK E w0 K w Z γ h used used' ρ o (aop E h id ro ρa o.op) :=
 aop1_sound hT hm hid hu hid' (fun x => norm_sound hm (hρ x)) o
theorem raise_up {base : List Frame} {chain : List PanicEntry} : ∀ {Fs : List AFr} {as : List Act} {F : AFr} {b : Act}, b.defers = [] → CsR w Z γ Fs as → (E.P.funcs[F.fn]?).isSome = true → (Fs.all fun F => (E.P.funcs[F.fn]?).isSome) = true →
  ∃ fr, Steps E.P (lone ((mkF F b).raise chain) (frs Fs as ++ base) w) (lone fr base w) ∧ fr.fn = botFn F Fs ∧ fr.leaving E.P w (.panicked chain)
 | [], [], F, b, hd, _, hf, _ => by
  obtain ⟨fn, hfn⟩ := Option.isSome_iff_exists.1 hf
  exact ⟨(mkF F b).raise chain, .refl _ _, rfl, rfl, hd, fn, hfn⟩
 | G :: Gs, c :: cs, F, b, hd, hc, hf, hs => by
  obtain ⟨fn, hfn⟩ := Option.isSome_iff_exists.1 hf
  simp only [List.all_cons, Bool.and_eq_true] at hs
  obtain ⟨fr, h1, h2, h3⟩ := raise_up (base := base) (chain := chain) (F := G) (b := c) hc.1.defers hc.2 hs.1 hs.2
  refine ⟨fr, .head ?_ h1, h2, h3⟩
  rw [frs_cons]
  exact step_leave_panicked (fr := (mkF F b).raise chain) ⟨rfl, hd, fn, hfn⟩
 | [], _ :: _, _, _, _, hc, _, _ => hc.elim
 | _ :: _, [], _, _, _, hc, _, _ => hc.elim
theorem panT_sound {base : List Frame} (hS : StOK E w0 K c a as w Z own γ) {A : AV} {Q : Fin → Prop} (he : (panT E c A).wp Q) {V : Value} {w' : World} {Z' Z2 : Nat → Prop} (hv : CR w' Z2 A V) (h2 : Stay w Z w' Z2) (h3 : Stay w Z w' Z') (hm : MemR w0 K w' Z' own γ c.h (fun s => s < c.nx))
  (hst : Steps E.P (lone (mkF c.cur a) (frs c.callers as ++ base) w) (lone ((mkF c.cur a).raise [{ v := V, recovered := false }]) (frs c.callers as ++ base) w')) : ∃ f, Q f ∧ FinOK E w0 K base c a as w Z f := by
 unfold panT at he
 split at he
 ·rename_i hok
  simp only [okFns, Bool.and_eq_true] at hok
  obtain ⟨fr, k1, k2, k3⟩ := raise_up (base := base) (w := w') (Z := Z') (γ := γ) (chain := [{ v := V, recovered := false }]) (F := c.cur) (b := a) hS.cur.defers (hS.callers.mono h3 (Gst.Le.refl _)) hok.1 hok.2
  exact ⟨_, he, V, w', Z2, own, γ, fr, hv, h2, ⟨Z', h3, hm⟩, hst.trans k1, k2, k3⟩
 ·exact he.elim
theorem runOp_sound {base : List Frame} (hE : EOK E) (hS : StOK E w0 K c a as w Z own γ) {ops : Array Oper} {i : Nat} {o : Oper} {rest : List Nat} {k : List Item} {Q : Fin → Prop}
  (ht : c.cur.todo = .inRegion ops (i :: rest) :: k) (ho : ops[i]? = some o) (hw : Region.wanted o (yielded ops a.tmps) = true)
  (he : (runOp E c ops o rest k).wp Q) : ∃ f, Q f ∧ FinOK E w0 K base c a as w Z f := by
 have hev : ∀ x, VR w Z γ (ev E c.cur.fr x) (a.eval x) := fun x => ev_rel' hS.gl hS.cur.tmps x
 have hmk : mkF c.cur a = (fb c.cur.fn).at a (.inRegion ops (i :: rest) :: k) := by simp [mkF, ht]
 have hu : ∀ s, s < c.nx → s < c.nx + qay := fun s h => by omega
 unfold runOp at he
 split at he
 ·rename_i x y z hop
  split at he
  ·rename_i b hb
   have hv := asB_inv (hev x) hb
   have hrun : (execOp a.eval o).run E.P w = .ok (.value (a.eval (if b then y else z))) w := by
    simp only [execOp, hop, hv, asBool, Sem.run_bind, Sem.run_pure, Result.andThen_ok]
    cases b <;> rfl
   cases hbb : b with
   | true =>
    refine ⟨_, he.1 hbb, a.put o.dst (a.eval y), as, w, Z, own, γ, ⟨?_, hS.callers, hS.mem, hS.gl⟩, Stay.refl _ _, by first | rfl | (cases c.callers <;> rfl), ?_⟩
    ·have : setB c.cur.fr (opTmp x) true = c.cur.fr := setB_eq hb hbb
     rw [this]
     exact hS.cur.fin (hev y)
    ·rw [hmk]
     rw [hbb] at hrun
     exact .one (op_value ho hw hrun)
   | false =>
    refine ⟨_, he.2 hbb, a.put o.dst (a.eval z), as, w, Z, own, γ, ⟨?_, hS.callers, hS.mem, hS.gl⟩, Stay.refl _ _, by first | rfl | (cases c.callers <;> rfl), ?_⟩
    ·have : setB c.cur.fr (opTmp x) false = c.cur.fr := setB_eq hb hbb
     rw [this]
     exact hS.cur.fin (hev z)
    ·rw [hmk]
     rw [hbb] at hrun
     exact .one (op_value ho hw hrun)
  ·exact he.elim
 ·rename_i x hop
  split at he
  ·rename_i t v hv
   have hx := hev x
   rw [hv] at hx
   have hval := hx.val_inv
   have hrun : (execOp a.eval o).run E.P w = .halt (.panic (.iface t v)) w := by
    simp only [execOp, hop, hval]
    rfl
   refine panT_sound hS he (V := .iface t v) (.val _ hx.val_ok) (Stay.refl _ _) (Stay.refl _ _) hS.mem ?_
   rw [hmk]
   have hg := stepG_op (P := E.P) (b := fb c.cur.fn) (k := k) (cs := frs c.callers as ++ base) (w := w) (rest := rest) ho hw
   refine .one (step_lone_go ?_)
   rw [hg]
   simp [stepG.apply, hrun]
  ·exact he.elim
 ·rename_i x hop
  split at he
  ·rename_i r hv
   have hx := hev x
   rw [hv] at hx
   obtain ⟨b, hb, hval⟩ := hx.ref_inv
   split at he
   ·rename_i R hR
    split at he
    ·rename_i s pos hc
     obtain ⟨b0, o0, k1, k2, k3, ⟨k4, k4'⟩, k5, k6⟩ := hS.mem.obj hR hc
     rw [hb] at k1
     injection k1 with k1
     subst k1
     subst k4
     have hobj : ∀ {u : World}, u.heap = w.heap → (getObj b).run E.P u = .ok (.stringIter s pos) u := fun {u} hu => by simp [getObj, Sem.run, hu, k3]
     cases hpos : decide (pos < s.size) with
     | true =>
      have hp := of_decide_eq_true hpos
      obtain ⟨m1, m2⟩ := hS.mem.setObj (x' := .iter s (pos + runeW s pos)) (o' := .stringIter s (pos + runeW s pos)) hR hc hb ⟨rfl, k4'⟩
      have hrun : (execOp a.eval o).run E.P w = .ok (.value (.tuple #[.bool true, goInt pos, .int .i32 (runeAt s pos)])) { w with heap := w.heap.setIfInBounds b (.stringIter s (pos + runeW s pos)) } := by
       simp only [execOp, hop, hval]
       simp [Instr.next, getObj, setObj, Sem.run, k3, hp, runeAt, runeW]
      refine ⟨_, he.1 hpos, a.put o.dst (.tuple #[.bool true, goInt pos, .int .i32 (runeAt s pos)]), as, _, Z, own, γ, ⟨(hS.cur.mono m1 (Gst.Le.refl _)).fin ?_, hS.callers.mono m1 (Gst.Le.refl _), m2, hS.gl.mono m1⟩, m1, by cases c.callers <;> rfl, ?_⟩
      ·refine .tup _ _ rfl fun j x y hx hy => ?_
       have hd := decode_le s pos
       match j, hx, hy with
       | 0, hx, hy => simp at hx hy; subst hx; subst hy; exact .cr (.val _ trivial)
       | 1, hx, hy => simp at hx hy; subst hx; subst hy; exact .cr (.val _ (by
         show IntKind.i64.has _
         unfold roomB at k4'
         exact ⟨by simp [IntKind.min, IntKind.signed, IntKind.bits] <;> omega, by simp [IntKind.max, IntKind.signed, IntKind.bits] <;> omega⟩))
       | 2, hx, hy => simp at hx hy; subst hx; subst hy; exact .cr (.val _ (by
         show IntKind.i32.has _
         unfold runeAt
         exact ⟨by simp [IntKind.min, IntKind.signed, IntKind.bits] <;> omega, by simp [IntKind.max, IntKind.signed, IntKind.bits] <;> omega⟩))
       | j + 3, hx, hy => simp at hx
      ·rw [hmk]
       exact .one (op_value ho hw hrun)
     | false =>
      have hp := of_decide_eq_false hpos
      have hrun : (execOp a.eval o).run E.P w = .ok (.value (.tuple #[.bool false])) w := by
       simp only [execOp, hop, hval]
       simp [Instr.next, getObj, Sem.run, k3, hp]
      refine ⟨_, he.2 hpos, a.put o.dst (.tuple #[.bool false]), as, w, Z, own, γ, ⟨hS.cur.fin ?_, hS.callers, hS.mem, hS.gl⟩, Stay.refl _ _, by cases c.callers <;> rfl, ?_⟩
      ·exact .tup _ _ rfl fun j x y hx hy => by
        cases j with
        | zero => simp at hx hy; subst hx; subst hy; exact .cr (.val _ trivial)
        | succ j => simp at hx
      ·rw [hmk]
       exact .one (op_value ho hw hrun)
    ·exact he.elim
   ·exact he.elim
  ·exact he.elim
 ·rename_i hnp1 hnp2 hnp3
  have hop := aop_sound (K := K) (used' := fun s => s < c.nx + qay) hE.ty hS.mem (id := c.nx) (Nat.lt_irrefl _) hu (by show c.nx < c.nx + 16; omega) (ro := siteOp E c.cur.fn o.dst) hev o
  split at he
  ·rename_i C' A' hv
   rw [hv] at hop
   obtain ⟨hC, he⟩ := qha he
   obtain ⟨v, e1, e2⟩ := hop hC
   refine ⟨_, he, a.put o.dst v, as, w, Z, own, γ, ⟨hS.cur.fin e2, hS.callers, hS.mem.used_mono hu, hS.gl⟩, Stay.refl _ _, by cases c.callers <;> rfl, ?_⟩
   rw [hmk]
   exact .one (op_value ho hw e1)
  ·rename_i C' A' ws sk hv
   rw [hv] at hop
   obtain ⟨hC, he⟩ := qha he
   obtain ⟨n, v, w', Z', own', γ', e1, e2, e3, e4, e5, e6⟩ := hop hC
   have hle := e4.le hS.mem.fresh
   refine ⟨_, he, a.put o.dst v, as, w', Z', own', γ', ⟨(hS.cur.mono e3 hle).fin e6, hS.callers.mono e3 hle, e5, hS.gl.mono e3⟩, e3, by cases c.callers <;> rfl, ?_⟩
   rw [hmk]
   split at e2
   ·obtain ⟨rfl, rfl⟩ := e2
    exact .one (op_skipv ho hw e1)
   ·subst e2
    exact .one (op_value ho hw e1)
  ·rename_i p hv
   rw [hv] at hop
   obtain ⟨b, e1, e2⟩ := hop
   refine ⟨_, he b e1, a.put o.dst (.bool b), as, w, Z, own, γ, ⟨hS.cur.fin (.cr (.val _ trivial)), hS.callers, hS.mem.used_mono hu, hS.gl⟩, Stay.refl _ _, by cases c.callers <;> rfl, ?_⟩
   rw [hmk]
   exact .one (op_value ho hw e2)
  ·rename_i f args hv
   rw [hv] at hop
   obtain ⟨vs, e1, e2⟩ := hop
   split at he
   ·rename_i hfn
    rw [hE.fns f hfn] at e1
    split at he
    ·rename_i C' Kn A' ws hcall
     obtain ⟨hC, he⟩ := qha he
     have hcl := acall_sound (used' := fun s => s < c.nx + qay) hE.env hS.mem hS.gl hcall hC e2 (fun j hj => by omega) hu (fun j hj => by show c.nx + j < c.nx + 16; omega)
     obtain ⟨e, w', fr, ⟨v, Z', own', γ', rfl, k1, k2, k3, k4, k5⟩, q1, q2, q3⟩ := hcl (mkF c.cur a :: (frs c.callers as ++ base))
     have hle := k3.le hS.mem.fresh
     refine ⟨_, he k1, a.put o.dst v, as, w', Z', own', γ', ⟨(hS.cur.mono k2 hle).fin k5, hS.callers.mono k2 hle, k4, hS.gl.mono k2⟩, k2, by cases c.callers <;> rfl, ?_⟩
     have hst := op_enter (P := E.P) (b := fb c.cur.fn) (k := k) (rest := rest) (fs := frs c.callers as ++ base) ho hw e1
     rw [← hmk] at hst
     refine .head hst (Steps.trans q1 ?_)
     rw [hmk]
     exact .one (op_back ho q3)
    ·split at he
     ·rename_i C' bb pv A' hcall
      obtain ⟨hC, he⟩ := qha he
      have hcl := acallP_sound (used' := fun s => s < c.nx + qay) hE.env hS.mem hS.gl hcall hC e2 hu
      have hcl2 := acallP_sound (used' := fun s => s < c.nx) hE.env hS.mem hS.gl hcall hC e2 (fun _ h => h)
      have hst := op_enter (P := E.P) (b := fb c.cur.fn) (k := k) (rest := rest) (fs := frs c.callers as ++ base) ho hw e1
      rw [← hmk] at hst
      cases hbb : bb with
      | true =>
       obtain ⟨e, w', fr, ⟨Z', k1, k2, k3⟩, q1, q2, q3⟩ := hcl2 (mkF c.cur a :: (frs c.callers as ++ base))
       rcases k3 with ⟨_, V, rfl, Z2, j1, j2⟩ | ⟨h0, _⟩
       ·exact panT_sound hS (he.1 hbb) j2 j1 k1 k2 (.head hst (Steps.trans q1 (.one (step_leave_panicked q3))))
       ·rw [hbb] at h0; cases h0
      | false =>
       obtain ⟨e, w', fr, ⟨Z', k1, k2, k3⟩, q1, q2, q3⟩ := hcl (mkF c.cur a :: (frs c.callers as ++ base))
       rcases k3 with ⟨h0, _⟩ | ⟨_, V, rfl, j1⟩
       ·rw [hbb] at h0; cases h0
       ·refine ⟨_, he.2 hbb, a.put o.dst V, as, w', Z', own, γ, ⟨(hS.cur.mono k1 (Gst.Le.refl _)).fin j1, hS.callers.mono k1 (Gst.Le.refl _), k2, hS.gl.mono k1⟩, k1, by cases c.callers <;> rfl, ?_⟩
        refine .head hst (Steps.trans q1 ?_)
        rw [hmk]
        exact .one (op_back ho q3)
     ·split at he
      ·rename_i F' hF
       obtain ⟨b, q1, q2, q3⟩ := enter_ok hF e2
       refine ⟨_, he, b, a :: as, w, Z, own, γ, ⟨q2, ⟨hS.cur, hS.callers⟩, hS.mem, hS.gl⟩, Stay.refl _ _, rfl, ?_⟩
       rw [frs_cons, ← q1]
       have hst := op_enter (P := E.P) (b := fb c.cur.fn) (k := k) (rest := rest) (fs := frs c.callers as ++ base) ho hw e1
       rw [← hmk] at hst
       exact .one hst
      ·exact he.elim
   ·exact he.elim
  ·exact he.elim
def resOne (arr : Array Value) : ResultVar → Sem Value
 | .tmp t => pure (arr.getD t undef)
 | .cell a t => do loadVar t (← asAddr (arr.getD a undef))
theorem results_eq (fn : Func) (arr : Array Value) : results fn arr = (do let vs ← fn.results.mapM (resOne arr); pure (if h : vs.size = 1 then vs[0] else .tuple vs)) := by
 unfold results
 have : (fun (x : ResultVar) => match x with | .tmp t => (pure (arr.getD t undef) : Sem Value) | .cell a t => do loadVar t (← asAddr (arr.getD a undef))) = resOne arr := by funext x; cases x <;> rfl
 rw [← this]
 rfl
theorem aload_addr {C : List Prop} {t : TypeId} (he : aload E h t A = some (C, B)) (hA : VR w Z γ A V) : ∃ ad, V = .pointer (some ad) := by
 unfold aload at he
 split at he
 ·obtain ⟨b, o, rfl, _⟩ := hA.rop_inv; exact ⟨_, rfl⟩
 ·obtain ⟨b, o, us, rfl, _⟩ := hA.rtp_inv; exact ⟨_, rfl⟩
 ·obtain ⟨b, _, rfl⟩ := hA.ref_inv; exact ⟨_, rfl⟩
 ·obtain ⟨hd, b, o, so, T, _, _, _, _, rfl⟩ := hA.tref_inv; exact ⟨_, rfl⟩
 ·cases he
theorem aresults_sound (hT : TyOK E.P E.ty) (hm : MemR w0 K w Z own γ h used) {fr : List AV} {arr : Array Value} (hf : VRs w Z γ fr arr.toList) : ∀ {rs : List ResultVar} {C : List Prop} {vs : List AV}, aresults E h fr rs = some (C, vs) → AllP C →
  ∃ us : List Value, (rs.mapM (resOne arr)).run E.P w = .ok us w ∧ VRs w Z γ vs us
 | [], C, vs, he, _ => by
  simp only [aresults, Option.some.injEq, Prod.mk.injEq] at he
  obtain ⟨_, rfl⟩ := he
  exact ⟨[], rfl, .nil⟩
 | .tmp t :: rs, C, vs, he, hC => by
  simp only [aresults] at he
  split at he
  ·rename_i C1 l hl
   injection he with he
   injection he with he1 he2
   subst he1; subst he2
   obtain ⟨us, h1, h2⟩ := aresults_sound hT hm hf hl hC
   exact ⟨arr.getD t undef :: us, by simp only [List.mapM_cons, resOne, Sem.run_bind, Sem.run_pure, Result.andThen_ok, h1], .cons (lget_rel hf) h2⟩
  ·cases he
 | .cell x t :: rs, C, vs, he, hC => by
  simp only [aresults] at he
  split at he
  ·rename_i C1 v C2 l hv hl
   injection he with he
   injection he with he1 he2
   subst he1; subst he2
   rw [AllP.append] at hC
   obtain ⟨us, h1, h2⟩ := aresults_sound hT hm hf hl hC.2
   obtain ⟨ad, had⟩ := aload_addr hv (lget_rel (t := x) hf)
   obtain ⟨u, h3, h4⟩ := aload_sound hT hm hv hC.1 (lget_rel (t := x) hf)
   rw [had] at h3
   simp only [Instr.loadAt, Instr.sureAddr, Sem.run_bind, Sem.run_pure, Result.andThen_ok] at h3
   exact ⟨u :: us, by simp only [List.mapM_cons, resOne, Sem.run_bind, Sem.run_pure, Result.andThen_ok, had, asAddr, h3, h1], .cons h4 h2⟩
  ·cases he
theorem results_sound (hT : TyOK E.P E.ty) (hm : MemR w0 K w Z own γ h used) {fr : List AV} {arr : Array Value} (hf : VRs w Z γ fr arr.toList) {fn : Func} {C : List Prop} {vs : List AV} (he : aresults E h fr fn.results.toList = some (C, vs)) (hC : AllP C) :
  ∃ V, (results fn arr).run E.P w = .ok V w ∧ VR w Z γ (retv vs) V := by
 obtain ⟨us, h1, h2⟩ := aresults_sound hT hm hf he hC
 refine ⟨if h : us.toArray.size = 1 then us.toArray[0] else .tuple us.toArray, ?_, ?_⟩
 ·rw [results_eq, Sem.run_bind, Array.mapM_eq_mapM_toList, Sem.run_map, h1]
  rfl
 ·cases us with
  | nil =>
   have : vs = [] := List.eq_nil_of_length_eq_zero (by simpa using h2.1)
   subst this
   exact .tup _ _ rfl (fun j x y hx => by simp at hx)
  | cons u us =>
   cases vs with
   | nil => simp [VRs] at h2
   | cons x vs =>
    cases us with
    | nil =>
     have : vs = [] := List.eq_nil_of_length_eq_zero (by have := h2.1; simp at this; simpa using this)
     subst this
     exact h2.head
    | cons u' us =>
     cases vs with
     | nil => simp [VRs] at h2
     | cons x' vs => exact .tup _ _ (by simpa using h2.1) (fun j p q hp hq => h2.2 j p q hp (by simpa using hq))
theorem leave_sound {base : List Frame} (hE : EOK E) (hS : StOK E w0 K c a as w Z own γ) {Q : Fin → Prop} {todo : List Item}
  (hst : ∀ fs, Steps E.P (lone (mkF c.cur a) fs w) (lone { (fb c.cur.fn).at a todo with mode := .returning } fs w)) (he : (leave E c).wp Q) : ∃ f, Q f ∧ FinOK E w0 K base c a as w Z f := by
 unfold leave at he
 split at he
 ·exact he.elim
 ·rename_i fn hfn
  split at he
  ·exact he.elim
  ·rename_i C vs hvs
   have hcs := hS.callers
   split at he
   ·rename_i hc
    obtain ⟨hC, he⟩ := qha he
    obtain ⟨V, h1, h2⟩ := results_sound hE.ty hS.mem hS.cur.tmps hvs hC
    have hl : ({ (fb c.cur.fn).at a todo with mode := .returning } : Frame).leaving E.P w (.returned V) := ⟨rfl, hS.cur.defers, rfl, fn, hfn, h1⟩
    rw [hc] at hcs
    cases as with
    | cons => exact hcs.elim
    | nil =>
     refine ⟨_, he, V, w, Z, own, γ, _, h2, Stay.refl _ _, hS.mem, ?_, ?_, hl⟩
     ·rw [hc]
      exact hst base
     ·rw [hc]
      rfl
   ·rename_i F Fs hc
    rw [hc] at hcs
    cases as with
    | nil => exact hcs.elim
    | cons b bs =>
     obtain ⟨hF, hFs⟩ := hcs
     split at he
     ·rename_i ops i rest k htodo
      split at he
      ·rename_i o ho
       obtain ⟨hC, he⟩ := qha he
       obtain ⟨V, h1, h2⟩ := results_sound hE.ty hS.mem hS.cur.tmps hvs hC
       have hl : ({ (fb c.cur.fn).at a todo with mode := .returning } : Frame).leaving E.P w (.returned V) := ⟨rfl, hS.cur.defers, rfl, fn, hfn, h1⟩
       have hmk : mkF F b = (fb F.fn).at b (.inRegion ops (i :: rest) :: k) := by simp [mkF, htodo]
       refine ⟨_, he, b.put o.dst V, bs, w, Z, own, γ, ⟨hF.fin h2, hFs, hS.mem, hS.gl⟩, Stay.refl _ _, ?_, ?_⟩
       ·rw [hc]
        cases Fs <;> rfl
       ·rw [hc, frs_cons, hmk]
        exact (hst _).trans (.one (op_back ho hl))
      ·exact he.elim
     ·exact he.elim
theorem qfl {base : List Frame} (hS : StOK E w0 K c a as w Z own γ) {t : List Item} (hst : ∀ fs, step E.P (lone (mkF c.cur a) fs w) = .next (lone ((fb c.cur.fn).at a t) fs w)) {Q : Fin → Prop} (he : (todoC c t).wp Q) : ∃ f, Q f ∧ FinOK E w0 K base c a as w Z f :=
 ⟨_, he, a, as, w, Z, own, γ, ⟨⟨hS.cur.defers, hS.cur.tmps⟩, hS.callers, hS.mem, hS.gl⟩, Stay.refl _ _, by cases c.callers <;> rfl, .one (hst _)⟩
theorem yielded_at {ops : Array Oper} {j t : Nat} (hj : (ops[j]?).bind (·.dst) = some t) : yielded ops a.tmps j = match a.tmps[t]? with | some (.bool b) => some b | _ => none := by
 unfold yielded
 rw [hj]
 rfl
end
end Go.BE
namespace Go.BE
open Go.RowKit
theorem putT_length (F : List AV) (d : Option Tmp) (v : AV) : (putT F d v).length = F.length := by cases d <;> simp [putT]
theorem putT_get (F : List AV) (d : Option Tmp) (v : AV) (t : Nat) : (putT F d v)[t]? = if d = some t ∧ t < F.length then some v else F[t]? := by
 cases d with
 | none => simp [putT]
 | some d =>
  simp only [putT, List.getElem?_set, Option.some.injEq]
  by_cases h : d = t
  ·subst h
   by_cases h2 : d < F.length
   ·simp [h2]
   ·simp [h2, List.getElem?_eq_none (Nat.le_of_not_lt h2)]
  ·simp [h]

def upW : List (Nat × Option Root) → (Nat → Option Root) → Nat → Option Root
 | [], g => g
 | (k, R) :: ws, g => upW ws fun x => if x = k then R else g x
theorem qid : ∀ (ws : List (Nat × Option Root)) (h : Heap), hget (qaw h ws) = upW ws (hget h)
 | [], h => rfl
 | (k, some R) :: ws, h => by
  rw [qaw, qid ws, upW]
  congr 1
  funext x
  exact qcw h k x R
 | (k, none) :: ws, h => by
  rw [qaw, qid ws, upW]
  congr 1
  funext x
  exact hget_hdel h k x
theorem upW_not {x : Nat} : ∀ {ws : List (Nat × Option Root)} {g : Nat → Option Root}, x ∉ ws.map (·.1) → upW ws g x = g x
 | [], g, _ => rfl
 | (k, R) :: ws, g, h => by
  simp only [List.map_cons, List.mem_cons, not_or] at h
  rw [upW, upW_not h.2, if_neg h.1]
theorem upW_in {x : Nat} : ∀ {ws : List (Nat × Option Root)} {g g' : Nat → Option Root}, (x ∈ ws.map (·.1) ∨ g x = g' x) → upW ws g x = upW ws g' x
 | [], g, g', h => by
  rcases h with h | h
  ·cases h
  ·exact h
 | (k, R) :: ws, g, g', h => by
  rw [upW, upW]
  by_cases hk : x = k
  ·exact upW_in (.inr (by simp [hk]))
  ·refine upW_in ?_
   rcases h with h | h
   ·simp only [List.map_cons, List.mem_cons] at h
    exact .inl (h.resolve_left hk)
   ·exact .inr (by simp [hk, h])
def selF (L : Nat → Bool) : Nat → List Rc → List AV → List AV
 | _, [], F => F
 | i, r :: rs, F => selF L (i + 1) rs (if L i then putT F r.dst r.val else F)
def selH (L : Nat → Bool) : Nat → List Rc → (Nat → Option Root) → Nat → Option Root
 | _, [], g => g
 | i, r :: rs, g => selH L (i + 1) rs (if L i then upW r.ws g else g)
theorem selF_length (L : Nat → Bool) : ∀ (rs : List Rc) (i : Nat) (F : List AV), (selF L i rs F).length = F.length
 | [], i, F => rfl
 | r :: rs, i, F => by
  simp only [selF]
  rw [selF_length L rs]
  split
  ·exact putT_length _ _ _
  ·rfl
theorem selF_congr {L L' : Nat → Bool} {t : Nat} : ∀ (rs : List Rc) (i : Nat) (F F' : List AV), F.length = F'.length → F[t]? = F'[t]? →
  (∀ (m : Nat) r, rs[m]? = some r → r.dst = some t → L (i + m) = L' (i + m)) → (selF L i rs F)[t]? = (selF L' i rs F')[t]?
 | [], i, F, F', hl, ht, h => ht
 | r :: rs, i, F, F', hl, ht, h => by
  simp only [selF]
  refine selF_congr rs (i + 1) _ _ ?_ ?_ fun m q hm hq => ?_
  ·split <;> split <;> simp [putT_length, hl]
  ·have h0 := h 0 r rfl
   simp only [Nat.add_zero] at h0
   by_cases hd : r.dst = some t
   ·rw [← h0 hd]
    split
    ·rw [putT_get, putT_get, hl, ht]
    ·exact ht
   ·have key : ∀ (b : Bool) (G : List AV), (if b then putT G r.dst r.val else G)[t]? = G[t]? := by
     intro b G
     cases b
     ·rfl
     ·simp only [if_true]
      rw [putT_get, if_neg (fun hh => hd hh.1)]
    rw [key, key, ht]
  ·have := h (m + 1) q (by simpa using hm) hq
   rwa [show i + 1 + m = i + (m + 1) from by omega]
theorem selH_congr {L L' : Nat → Bool} {x : Nat} : ∀ (rs : List Rc) (i : Nat) (g g' : Nat → Option Root), g x = g' x →
  (∀ (m : Nat) r, rs[m]? = some r → x ∈ wrs r → L (i + m) = L' (i + m)) → selH L i rs g x = selH L' i rs g' x
 | [], i, g, g', ht, h => ht
 | r :: rs, i, g, g', ht, h => by
  simp only [selH]
  refine selH_congr rs (i + 1) _ _ ?_ fun m q hm hq => ?_
  ·by_cases hd : x ∈ wrs r
   ·have h0 := h 0 r rfl hd
    simp only [Nat.add_zero] at h0
    rw [← h0]
    split
    ·exact upW_in (.inr ht)
    ·exact ht
   ·have key : ∀ (b : Bool) (G : Nat → Option Root), (if b then upW r.ws G else G) x = G x := by
     intro b G
     cases b
     ·rfl
     ·simp only [if_true]
      exact upW_not hd
    rw [key, key, ht]
  ·have := h (m + 1) q (by simpa using hm) hq
   rwa [show i + 1 + m = i + (m + 1) from by omega]
theorem selF_last {L : Nat → Bool} {t : Nat} {v : AV} : ∀ (rs : List Rc) (i : Nat) (F : List AV) (j : Nat) (r : Rc), rs[j]? = some r → r.dst = some t → r.val = v → L (i + j) = true →
  (∀ (m : Nat) q, j < m → rs[m]? = some q → q.dst = some t → L (i + m) = false) → (selF L i rs F)[t]? = if t < F.length then some v else none
 | [], i, F, j, r, hj, _, _, _, _ => by simp at hj
 | q :: rs, i, F, 0, r, hj, hd, hv, hL, h => by
  simp only [List.getElem?_cons_zero, Option.some.injEq] at hj
  subst hj
  simp only [selF, Nat.add_zero] at hL ⊢
  rw [if_pos hL]
  have : (selF L (i + 1) rs (putT F q.dst q.val))[t]? = (selF (fun _ => false) (i + 1) rs (putT F q.dst q.val))[t]? := by
   refine selF_congr rs (i + 1) _ _ rfl rfl fun m p hm hp => ?_
   have := h (m + 1) p (by omega) (by simpa using hm) hp
   rwa [show i + 1 + m = i + (m + 1) from by omega]
  rw [this]
  have none : ∀ (rs : List Rc) (i : Nat) (F : List AV), selF (fun _ => false) i rs F = F := by
   intro rs
   induction rs with
   | nil => intro i F; rfl
   | cons r rs ih => intro i F; simp only [selF]; exact ih _ _
  rw [none, putT_get, hd, hv]
  simp only [true_and]
  split
  ·rfl
  ·rename_i hlt
   exact List.getElem?_eq_none (Nat.le_of_not_lt hlt)
 | q :: rs, i, F, j + 1, r, hj, hd, hv, hL, h => by
  simp only [selF]
  have hlen : (if L i = true then putT F q.dst q.val else F).length = F.length := by
   split
   ·exact putT_length _ _ _
   ·rfl
  rw [← hlen]
  refine selF_last rs (i + 1) _ j r (by simpa using hj) hd hv (by rwa [show i + 1 + j = i + (j + 1) from by omega]) fun m p hm hp hpd => ?_
  have := h (m + 1) p (by omega) (by simpa using hp) hpd
  rwa [show i + 1 + m = i + (m + 1) from by omega]
theorem selH_none : ∀ (rs : List Rc) (i : Nat) (g : Nat → Option Root), selH (fun _ => false) i rs g = g
 | [], i, g => rfl
 | r :: rs, i, g => by simp only [selH]; exact selH_none rs _ g
theorem selH_last {L : Nat → Bool} {x : Nat} : ∀ (rs : List Rc) (i : Nat) (g : Nat → Option Root) (j : Nat) (r : Rc), rs[j]? = some r → x ∈ wrs r → L (i + j) = true →
  (∀ (m : Nat) q, j < m → rs[m]? = some q → x ∈ wrs q → L (i + m) = false) → ∀ g', selH L i rs g x = upW r.ws g' x
 | [], i, g, j, r, hj, _, _, _, _ => by simp at hj
 | q :: rs, i, g, 0, r, hj, hd, hL, h, g' => by
  simp only [List.getElem?_cons_zero, Option.some.injEq] at hj
  subst hj
  simp only [selH, Nat.add_zero] at hL ⊢
  rw [if_pos hL]
  have : selH L (i + 1) rs (upW q.ws g) x = selH (fun _ => false) (i + 1) rs (upW q.ws g) x := by
   refine selH_congr rs (i + 1) _ _ rfl fun m p hm hp => ?_
   have := h (m + 1) p (by omega) (by simpa using hm) hp
   rwa [show i + 1 + m = i + (m + 1) from by omega]
  rw [this, selH_none]
  exact upW_in (.inl hd)
 | q :: rs, i, g, j + 1, r, hj, hd, hL, h, g' => by
  simp only [selH]
  refine selH_last rs (i + 1) _ j r (by simpa using hj) hd (by rwa [show i + 1 + j = i + (j + 1) from by omega]) (fun m p hm hp hpd => ?_) g'
  have := h (m + 1) p (by omega) (by simpa using hp) hpd
  rwa [show i + 1 + m = i + (m + 1) from by omega]
def addL (L : Nat → Bool) (j : Nat) : Nat → Bool := fun i => L i || i == j
theorem selF_add {L : Nat → Bool} {j : Nat} {r : Rc} {rs : List Rc} {F : List AV} (hj : rs[j]? = some r)
  (h : ∀ (m : Nat) q t, j < m → rs[m]? = some q → q.dst = some t → r.dst = some t → L m = false) : selF (addL L j) 0 rs F = putT (selF L 0 rs F) r.dst r.val := by
 refine List.ext_getElem? fun t => ?_
 rw [putT_get, selF_length]
 by_cases hd : r.dst = some t
 ·rw [selF_last rs 0 F j r hj hd rfl (by simp [addL]) fun m q hm hq hqd => ?_]
  ·simp only [hd, true_and]
   split
   ·rfl
   ·rename_i hlt
    rw [List.getElem?_eq_none]
    rw [selF_length]
    omega
  ·simp only [addL, Nat.zero_add, Bool.or_eq_false_iff]
   exact ⟨h m q t hm hq hqd hd, by simp; omega⟩
 ·rw [if_neg (fun hh => hd hh.1)]
  refine selF_congr rs 0 _ _ rfl rfl fun m q hm hq => ?_
  simp only [addL, Nat.zero_add]
  by_cases hmj : m = j
  ·subst hmj
   rw [hj] at hm
   injection hm with hm
   subst hm
   exact absurd hq hd
  ·simp [hmj]
theorem selH_add {L : Nat → Bool} {j : Nat} {r : Rc} {rs : List Rc} {g : Nat → Option Root} (hj : rs[j]? = some r)
  (h : ∀ (m : Nat) q x, j < m → rs[m]? = some q → x ∈ wrs q → x ∈ wrs r → L m = false) (x : Nat) : selH (addL L j) 0 rs g x = upW r.ws (selH L 0 rs g) x := by
 by_cases hd : x ∈ wrs r
 ·refine selH_last rs 0 g j r hj hd (by simp [addL]) (fun m q hm hq hqd => ?_) _
  simp only [addL, Nat.zero_add, Bool.or_eq_false_iff]
  exact ⟨h m q x hm hq hqd hd, by simp; omega⟩
 ·rw [upW_not hd]
  refine selH_congr rs 0 _ _ rfl fun m q hm hq => ?_
  simp only [addL, Nat.zero_add]
  by_cases hmj : m = j
  ·subst hmj
   rw [hj] at hm
   injection hm with hm
   subst hm
   exact absurd hq hd
  ·simp [hmj]
theorem maskF_get (ns : List Nat) : ∀ (F : List AV) (i t : Nat), (maskF ns F i)[t]? = (F[t]?).map fun a => if ns.contains (i + t) then a else .bad
 | [], i, t => by simp [maskF]
 | a :: F, i, 0 => by simp [maskF]
 | a :: F, i, t + 1 => by
  simp only [maskF, List.getElem?_cons_succ]
  rw [maskF_get ns F (i + 1) t, show i + 1 + t = i + (t + 1) from by omega]
theorem maskF_congr {ns : List Nat} {F F' : List AV} (h : ∀ t, ns.contains t = true → F[t]? = F'[t]?) (hl : F.length = F'.length) : maskF ns F 0 = maskF ns F' 0 := by
 refine List.ext_getElem? fun t => ?_
 rw [maskF_get, maskF_get, Nat.zero_add]
 by_cases hc : ns.contains t = true
 ·rw [h t hc]
 ·simp only [hc, Bool.false_eq_true, if_false]
  rcases Nat.lt_or_ge t F.length with hlt | hge
  ·rw [List.getElem?_eq_getElem hlt, List.getElem?_eq_getElem (by omega)]; rfl
  ·rw [List.getElem?_eq_none hge, List.getElem?_eq_none (by omega)]
theorem maskH_congr {H H' : Heap} : ∀ {l : List Nat}, (∀ x ∈ l, hget H x = hget H' x) → maskH H l = maskH H' l
 | [], _ => rfl
 | x :: l, h => by
  simp only [maskH]
  rw [h x (by simp), maskH_congr fun y hy => h y (by simp [hy])]

def foldF (rs : List Rc) (F : List AV) : List AV := rs.foldl (fun F r => putT F r.dst r.val) F
def foldH (rs : List Rc) (h : Heap) : Heap := rs.foldl (fun h r => qaw h r.ws) h
theorem foldF_sel (rs : List Rc) : ∀ (k i : Nat) (F : List AV), foldF (rs.take k) F = selF (fun m => decide (m < i + k)) i rs F := by
 have none : ∀ (rs : List Rc) (L : Nat → Bool) (i : Nat) (F : List AV), (∀ m, i ≤ m → L m = false) → selF L i rs F = F := by
  intro rs
  induction rs with
  | nil => intro L i F _; rfl
  | cons r rs ih =>
   intro L i F h
   simp only [selF, h i (Nat.le_refl _), Bool.false_eq_true, if_false]
   exact ih _ _ _ fun m hm => h m (by omega)
 induction rs with
 | nil => intro k i F; simp [foldF, selF]
 | cons r rs ih =>
  intro k i F
  cases k with
  | zero =>
   rw [none _ _ _ _ (fun m hm => by simp; omega)]
   rfl
  | succ k =>
   simp only [List.take_succ_cons, selF, show i < i + (k + 1) from by omega, decide_true, if_true]
   have := ih k (i + 1) (putT F r.dst r.val)
   rw [show i + 1 + k = i + (k + 1) from by omega] at this
   exact this
theorem foldH_sel (rs : List Rc) : ∀ (k i : Nat) (h : Heap) (x : Nat), hget (foldH (rs.take k) h) x = selH (fun m => decide (m < i + k)) i rs (hget h) x := by
 have none : ∀ (rs : List Rc) (L : Nat → Bool) (i : Nat) (g : Nat → Option Root), (∀ m, i ≤ m → L m = false) → selH L i rs g = g := by
  intro rs
  induction rs with
  | nil => intro L i g _; rfl
  | cons r rs ih =>
   intro L i g h
   simp only [selH, h i (Nat.le_refl _), Bool.false_eq_true, if_false]
   exact ih _ _ _ fun m hm => h m (by omega)
 induction rs with
 | nil => intro k i h x; simp [foldH, selH]
 | cons r rs ih =>
  intro k i h x
  cases k with
  | zero =>
   rw [none _ _ _ _ (fun m hm => by simp; omega)]
   rfl
  | succ k =>
   simp only [List.take_succ_cons, selH, show i < i + (k + 1) from by omega, decide_true, if_true]
   have := ih k (i + 1) (qaw h r.ws) x
   rw [show i + 1 + k = i + (k + 1) from by omega, qid] at this
   exact this
theorem addN_mem {l : List Nat} {x y : Nat} (h : y ∈ addN l x) : y = x ∨ y ∈ l := by
 unfold addN at h
 split at h
 ·exact .inr h
 ·simpa using h
theorem addAll_mem {y : Nat} : ∀ {m l : List Nat}, y ∈ addAll l m → y ∈ l ∨ y ∈ m
 | [], l, h => .inl h
 | x :: m, l, h => by
  rcases addAll_mem (m := m) h with h | h
  ·rcases addN_mem h with rfl | h
   ·exact .inr (by simp)
   ·exact .inl h
  ·exact .inr (by simp [h])
theorem ancOf_ok {acc : List (List Nat)} {j : Nat} : ∀ {es : List Go.Edge} {l : List Nat}, ancOf acc j es = some l → (∀ e ∈ es, Region.binds .any e = true → e.on < j) ∧ ∀ i ∈ l, ∃ e ∈ es, Region.binds .any e = true ∧ (i = e.on ∨ i ∈ acc.getD e.on [])
 | [], l, h => by
  simp only [ancOf, Option.some.injEq] at h
  subst h
  exact ⟨fun e he => by simp at he, fun i hi => by simp at hi⟩
 | e :: es, l, h => by
  simp only [ancOf] at h
  split at h
  ·rename_i hb
   split at h
   ·rename_i hlt
    split at h
    ·rename_i l' hl'
     injection h with h
     subst h
     obtain ⟨h1, h2⟩ := ancOf_ok hl'
     refine ⟨fun e' he' hb' => ?_, fun i hi => ?_⟩
     ·simp only [List.mem_cons] at he'
      rcases he' with rfl | he'
      ·exact hlt
      ·exact h1 e' he' hb'
     ·rcases addAll_mem hi with hi | hi
      ·rcases addN_mem hi with rfl | hi
       ·exact ⟨e, by simp, hb, .inl rfl⟩
       ·obtain ⟨e', he', r⟩ := h2 i hi
        exact ⟨e', by simp [he'], r⟩
      ·exact ⟨e, by simp, hb, .inr hi⟩
    ·cases h
   ·cases h
  ·rename_i hb
   obtain ⟨h1, h2⟩ := ancOf_ok h
   refine ⟨fun e' he' hb' => ?_, fun i hi => ?_⟩
   ·simp only [List.mem_cons] at he'
    rcases he' with rfl | he'
    ·exact absurd hb' hb
    ·exact h1 e' he' hb'
   ·obtain ⟨e', he', r⟩ := h2 i hi
    exact ⟨e', by simp [he'], r⟩
theorem ancs_ok : ∀ {os : List Oper} {acc A : List (List Nat)}, ancs acc os = some A → (∀ k, k < acc.length → A[k]? = acc[k]?) ∧
  ∀ (k : Nat) o, os[k]? = some o → (∀ e ∈ o.after.toList, Region.binds .any e = true → e.on < acc.length + k) ∧ ∀ i ∈ A.getD (acc.length + k) [], ∃ e ∈ o.after.toList, Region.binds .any e = true ∧ (i = e.on ∨ i ∈ A.getD e.on [])
 | [], acc, A, h => by
  simp only [ancs, Option.some.injEq] at h
  subst h
  exact ⟨fun k hk => rfl, fun k o ho => by simp at ho⟩
 | o :: os, acc, A, h => by
  simp only [ancs] at h
  split at h
  ·rename_i l hl
   obtain ⟨h1, h2⟩ := ancs_ok h
   simp only [List.length_append, List.length_cons, List.length_nil, Nat.zero_add] at h1 h2
   have hA : ∀ k, k < acc.length → A[k]? = acc[k]? := fun k hk => by rw [h1 k (by omega), List.getElem?_append_left hk]
   refine ⟨hA, fun k q hq => ?_⟩
   cases k with
   | zero =>
    simp only [List.getElem?_cons_zero, Option.some.injEq] at hq
    subst hq
    obtain ⟨k1, k2⟩ := ancOf_ok hl
    refine ⟨k1, fun i hi => ?_⟩
    have hAj : A.getD acc.length [] = l := by
     rw [List.getD_eq_getElem?_getD, h1 _ (by omega)]
     simp
    rw [Nat.add_zero, hAj] at hi
    obtain ⟨e, he, hb, hr⟩ := k2 i hi
    refine ⟨e, he, hb, hr.imp id fun hr => ?_⟩
    rw [List.getD_eq_getElem?_getD, hA _ (k1 e he hb), ← List.getD_eq_getElem?_getD]
    exact hr
   | succ k =>
    have := h2 k q (by simpa using hq)
    rw [show acc.length + 1 + k = acc.length + (k + 1) from by omega] at this
    exact this
  ·cases h

theorem okAgainst_ok {anc : List Nat} {r : Rc} : ∀ {qs : List Rc} {i : Nat}, okAgainst anc r i qs = true → ∀ (m : Nat) q, qs[m]? = some q → conf q r = true → i + m ∈ anc
 | [], i, h, m, q, hm, hc => by simp at hm
 | p :: qs, i, h, m, q, hm, hc => by
  simp only [okAgainst, Bool.and_eq_true, Bool.or_eq_true, Bool.not_eq_true'] at h
  cases m with
  | zero =>
   simp only [List.getElem?_cons_zero, Option.some.injEq] at hm
   subst hm
   rcases h.1 with h1 | h1
   ·rw [h1] at hc; cases hc
   ·simpa using h1
  | succ m =>
   have := okAgainst_ok h.2 m q (by simpa using hm) hc
   rwa [show i + 1 + m = i + (m + 1) from by omega] at this
theorem okAll_ok {A : List (List Nat)} : ∀ {rs done : List Rc}, okAll A done.length done rs = true → ∀ (i k : Nat) q r, (done ++ rs)[i]? = some q → (done ++ rs)[k]? = some r → i < k → done.length ≤ k → conf q r = true → i ∈ A.getD k []
 | [], done, h, i, k, q, r, hi, hk, hik, hd, hc => by
  have := (List.getElem?_eq_some_iff.1 hk).1
  simp at this
  omega
 | p :: rs, done, h, i, k, q, r, hi, hk, hik, hd, hc => by
  simp only [okAll, Bool.and_eq_true] at h
  by_cases hkd : k = done.length
  ·subst hkd
   rw [List.getElem?_append_right (Nat.le_refl _)] at hk
   simp only [Nat.sub_self, List.getElem?_cons_zero, Option.some.injEq] at hk
   subst hk
   rw [List.getElem?_append_left hik] at hi
   have := okAgainst_ok h.1 i q hi hc
   simpa using this
  ·have h2 := h.2
   have := okAll_ok (done := done ++ [p]) (rs := rs) (by simpa using h2) i k q r (by simpa using hi) (by simpa using hk) hik (by simp; omega) hc
   exact this
theorem meets_of {l m : List Nat} {x : Nat} (h1 : x ∈ l) (h2 : m.contains x = true) : meets l m = true := by
 unfold meets
 rw [List.any_eq_true]
 exact ⟨x, h1, h2⟩
end Go.BE
namespace Go.BE
open Go.RowKit
def Lof (listed : Array Bool) : Nat → Bool := fun i => listed.getD i false
theorem Lof_set {listed : Array Bool} {i : Nat} (hi : i < listed.size) : Lof (listed.setIfInBounds i true) = addL (Lof listed) i := by
 funext j
 simp only [Lof, addL, Array.getD_eq_getD_getElem?]
 by_cases h : i = j
 ·subst h
  simp [Array.getElem?_setIfInBounds_self, hi]
 ·rw [Array.getElem?_setIfInBounds_ne h]
  have : (j == i) = false := by simpa using Ne.symm h
  rw [this, Bool.or_false]
theorem Lof_true {listed : Array Bool} {j : Nat} (hj : j < listed.size) : listed.getD j true = Lof listed j := by
 simp only [Lof, Array.getD_eq_getD_getElem?, Array.getElem?_eq_getElem hj, Option.getD_some]
def DOK (E : Ctx) (fn : FuncId) (ops : Array Oper) (id : Nat) (o : Oper) (F : List AV) (H : Heap) (r : Rc) : Prop := (dop E fn ops id o F H).wp fun r' => r' = r
def Tre.det {α : Type} : Tre α → Prop
 | .ok _ => True
 | .ite _ t e => t.det ∧ e.det
 | .chk _ t => t.det
 | .know _ _ => False
 | .any _ _ => False
 | .bad => True
theorem Tre.resolve {α : Type} {Q : α → Prop} {t : Tre α} (hd : t.det) (h : t.wp Q) : ∃ r, t.wp (fun r' => r' = r) ∧ Q r := by
 induction t with
 | ok a => exact ⟨a, rfl, h⟩
 | ite b t e iht ihe =>
  cases hb : b with
  | true =>
   obtain ⟨r, h1, h2⟩ := iht hd.1 (h.1 hb)
   exact ⟨r, ⟨fun _ => h1, fun h => (nomatch h)⟩, h2⟩
  | false =>
   obtain ⟨r, h1, h2⟩ := ihe hd.2 (h.2 hb)
   exact ⟨r, ⟨fun h => (nomatch h), fun _ => h1⟩, h2⟩
 | chk C t ih =>
  obtain ⟨r, h1, h2⟩ := ih hd (h.2 h.1)
  exact ⟨r, ⟨h.1, fun _ => h1⟩, h2⟩
 | know K t _ => exact hd.elim
 | any p k _ => exact hd.elim
 | bad => exact h.elim
theorem chks_det {α : Type} {t : Tre α} : ∀ {C : List Prop}, t.det → (chks C t).det
 | [], h => h
 | _ :: l, h => chks_det (C := l) h
theorem dval_det {E : Ctx} {ro : Nat} {id : Nat} {o : Oper} {ns : List Nat} {fm : List AV} {rd : List Nat} {hm : Heap} : (dval E ro id o ns fm rd hm).det := by
 unfold dval
 split
 ·split
  ·exact ⟨trivial, trivial⟩
  ·trivial
 ·split
  ·exact chks_det trivial
  ·exact chks_det trivial
  ·trivial
  ·split
   ·split
    ·exact chks_det trivial
    ·trivial
   ·trivial
  ·trivial
theorem dop_det {E : Ctx} {fn : FuncId} {ops : Array Oper} {id : Nat} {o : Oper} {F : List AV} {H : Heap} : (dop E fn ops id o F H).det := by
 unfold dop
 dsimp only
 split
 ·exact dval_det
 ·split
  ·trivial
  ·split
   ·split
    ·exact ⟨dval_det, trivial⟩
    ·exact ⟨trivial, dval_det⟩
   ·trivial
   ·trivial
theorem dval_nm {E : Ctx} {ro : Nat} {id : Nat} {o : Oper} {ns : List Nat} {fm : List AV} {rd : List Nat} {hm : Heap} {r : Rc} (h : (dval E ro id o ns fm rd hm).wp fun r' => r' = r) : r.nm = ns ∧ r.dst = o.dst ∧ r.rd = rd := by
 unfold dval at h
 split at h
 ·split at h
  ·rename_i b hb
   cases hbb : b with
   | true => have := h.1 hbb; subst this; exact ⟨rfl, rfl, rfl⟩
   | false => have := h.2 hbb; subst this; exact ⟨rfl, rfl, rfl⟩
  ·exact h.elim
 ·split at h
  ·have := (qha h).2; subst this; exact ⟨rfl, rfl, rfl⟩
  ·have := (qha h).2; subst this; exact ⟨rfl, rfl, rfl⟩
  ·exact h.elim
  ·split at h
   ·split at h
    ·have := (qha h).2; subst this; exact ⟨rfl, rfl, rfl⟩
    ·exact h.elim
   ·exact h.elim
  ·exact h.elim
theorem DOK.nm {E : Ctx} {fn : FuncId} {ops : Array Oper} {id : Nat} {o : Oper} {F : List AV} {H : Heap} {r : Rc} (h : DOK E fn ops id o F H r) : r.nm = names ops o ∧ r.dst = o.dst ∧ r.rd = rdDeep H o.op (rdFor o.op (rdOf (maskF (names ops o) F 0) (names ops o))) := by
 unfold DOK dop at h
 dsimp only at h
 split at h
 ·exact dval_nm h
 ·split at h
  ·exact h.elim
  ·split at h
   ·rename_i b hb
    split at h
    ·cases hbb : b with
     | true => exact dval_nm (h.1 hbb)
     | false => have := h.2 hbb; subst this; exact ⟨rfl, rfl, rfl⟩
    ·cases hbb : b with
     | true => have := h.1 hbb; subst this; exact ⟨rfl, rfl, rfl⟩
     | false => exact dval_nm (h.2 hbb)
   ·have h : _ = r := h
    subst h
    exact ⟨rfl, rfl, rfl⟩
   ·exact h.elim
theorem innerR_congr {H H' : Heap} : ∀ {l : List Nat}, (∀ x ∈ l, hget H x = hget H' x) → innerR H l = innerR H' l
 | [], _ => rfl
 | r :: l, h => by
  simp only [innerR]
  rw [h r List.mem_cons_self, innerR_congr fun x hx => h x (List.mem_cons_of_mem _ hx)]
theorem rdDeep_congr {H H' : Heap} {o : Op} {l : List Nat} (h : ∀ x ∈ rdDeep H o l, hget H x = hget H' x) : rdDeep H o l = rdDeep H' o l := by
 unfold rdDeep at h ⊢
 split
 ·rw [innerR_congr fun x hx => h x (by simp [hx])]
 ·rfl
theorem DOK.congr {E : Ctx} {fn : FuncId} {ops : Array Oper} {id : Nat} {o : Oper} {F F' : List AV} {H H' : Heap} {r : Rc} (h : DOK E fn ops id o F H r) (hF : ∀ t, r.nm.contains t = true → F[t]? = F'[t]?) (hl : F.length = F'.length) (hH : ∀ x ∈ r.rd, hget H x = hget H' x) :
  DOK E fn ops id o F' H' r := by
 obtain ⟨h1, h2, h3⟩ := h.nm
 rw [h1] at hF
 have e1 := maskF_congr hF hl
 rw [h3] at hH
 have e2 := maskH_congr hH
 have e3 := rdDeep_congr hH
 unfold DOK dop at h ⊢
 dsimp only at h ⊢
 rw [← e1, ← e3, ← e2]
 exact h
theorem decideT_wp {fr : List AV} {t : Option Nat} {g : List AV → Tre (List Rc × List AV × Heap)} {Q : List Rc × List AV × Heap → Prop} (h : (decideT fr t g).wp Q) : (g fr).wp Q := by
 unfold decideT at h
 split at h
 ·rename_i t
  split at h
  ·rename_i b hb
   cases hbb : b with
   | true =>
    have := h.1 hbb
    rw [lget_set_self (x := abool true) (by rw [hb, hbb]; rfl) (by simp [abool])] at this
    exact this
   | false =>
    have := h.2 hbb
    rw [lget_set_self (x := abool false) (by rw [hb, hbb]; rfl) (by simp [abool])] at this
    exact this
  ·exact h
 ·exact h
theorem drun_ok {E : Ctx} {fn : FuncId} {ops : Array Oper} {base : Nat} {Q : List Rc × List AV × Heap → Prop} : ∀ (os : List Oper) (i : Nat) (F : List AV) (h : Heap), (drun E fn ops base i os F h).wp Q →
  ∃ rs, Q (rs, foldF rs F, foldH rs h) ∧ rs.length = os.length ∧ ∀ (j : Nat) o, os[j]? = some o → ∃ r, rs[j]? = some r ∧ DOK E fn ops (base + (i + j) * qay) o (foldF (rs.take j) F) (foldH (rs.take j) h) r
 | [], i, F, h, hw => ⟨[], hw, rfl, fun j o ho => by simp at ho⟩
 | o :: os, i, F, h, hw => by
  simp only [drun] at hw
  have hw := decideT_wp hw
  rw [Tre.wp_bind] at hw
  obtain ⟨r, h1, h2⟩ := Tre.resolve dop_det hw
  rw [Tre.wp_bind] at h2
  obtain ⟨rs, k1, k2, k3⟩ := drun_ok (Q := fun x => Q (r :: x.1, x.2.1, x.2.2)) os (i + 1) (putT F r.dst r.val) (qaw h r.ws) h2
  refine ⟨r :: rs, k1, by simp [k2], fun j q hq => ?_⟩
  cases j with
  | zero =>
   simp only [List.getElem?_cons_zero, Option.some.injEq] at hq
   subst hq
   exact ⟨r, rfl, h1⟩
  | succ j =>
   obtain ⟨r', e1, e2⟩ := k3 j q (by simpa using hq)
   refine ⟨r', by simpa using e1, ?_⟩
   rw [show i + (j + 1) = i + 1 + j from by omega]
   exact e2
section
variable {P : Program} {E : Ctx} {w w' w0 : World} {Z Z' : Nat → Prop} {K : Kp} {own own' : Own} {γ γ' : Gst} {h h' H : Heap} {used used' : Nat → Prop} {s d id nx : Nat} {A B : AV} {v V U : Value} {cs ds : List AV} {vs us : List Value} {F fr : List AV} {a : Act} {fn : FuncId} {ops : Array Oper} {r : Rc}
theorem mask_VRs {ns : List Nat} {F : List AV} (h : VRs w Z γ F vs) : VRs w Z γ (maskF ns F 0) vs := by
 have hl : (maskF ns F 0).length = F.length := by
  have : ∀ (F : List AV) (i : Nat), (maskF ns F i).length = F.length := by
   intro F
   induction F with
   | nil => intro i; rfl
   | cons a F ih => intro i; simp [maskF, ih]
  exact this F 0
 refine ⟨hl.trans h.1, fun j x y hx hy => ?_⟩
 rw [maskF_get] at hx
 cases hF : F[j]? with
 | none => rw [hF] at hx; cases hx
 | some z =>
  rw [hF] at hx
  simp only [Option.map_some, Option.some.injEq] at hx
  subst hx
  split
  ·exact h.2 j z y hF hy
  ·exact .bad _


theorem hget_maskH {x : Nat} : ∀ {l : List Nat}, hget (maskH H l) x = if x ∈ l then hget H x else none
 | [] => by simp [maskH, hget]
 | r :: l => by
  simp only [maskH]
  split
  ·rename_i R hR
   simp only [hget]
   by_cases hx : r = x
   ·subst hx; simp [hR]
   ·rw [if_neg hx, hget_maskH]
    simp [Ne.symm hx]
  ·rename_i hR
   rw [hget_maskH]
   by_cases hx : x = r
   ·subst hx; simp [hR]
   ·simp [hx]
theorem MemR.congr (hm : MemR w0 K w Z own γ H used) (hh : ∀ x, hget h' x = hget H x) : MemR w0 K w Z own γ h' used :=
 hm.step (Stay.refl w Z) (Gst.Ext.refl used γ) (fun _ h => h) rfl rfl rfl (Nat.le_refl _) (fun _ => False) (fun _ _ _ => rfl) (fun _ _ ho _ => ho) (fun _ _ ho => .inl ⟨ho, fun h => h⟩) (fun b hb => ⟨hm.zlt b hb, .inl hb⟩) (fun x R hg => .inl ⟨by rw [← hh]; exact hg, fun h => h⟩) hm.fresh
def ownM (own : Own) (hm : Heap) : Own := fun b => match own b with | some o => if (hget hm o.1).isSome then some o else none | none => none
def KM (Z : Nat → Prop) (own : Own) (hm : Heap) : Kp := ⟨fun b => ∀ o, own b = some o → (hget hm o.1).isSome = false, Z⟩
theorem ownM_some {hm : Heap} {b : Nat} {o : Nat × Pth} (h : ownM own hm b = some o) : own b = some o ∧ (hget hm o.1).isSome = true := by
 unfold ownM at h
 split at h
 ·rename_i o' ho
  split at h
  ·rename_i hi
   injection h with h
   subst h
   exact ⟨ho, hi⟩
  ·cases h
 ·cases h
theorem MemR.masked (hm : MemR w0 K w Z own γ H used) (l : List Nat) : MemR w (KM Z own (maskH H l)) w Z (ownM own (maskH H l)) γ (maskH H l) used := by
 refine ⟨rfl, rfl, rfl, Nat.le_refl _, fun _ _ _ => rfl, fun b hb _ _ => hb, hm.zlt, fun b o ho => hm.ownlt b o (ownM_some ho).1, fun b o ho => hm.ownZ b o (ownM_some ho).1, fun b o ho _ hk => ?_, fun x R hg => ?_, fun x R hg => ?_, hm.fresh⟩
 ·obtain ⟨h1, h2⟩ := ownM_some ho
  rw [hk o h1] at h2
  cases h2
 ·have hg' := hg
  rw [hget_maskH] at hg
  split at hg
  ·refine RootR.frame (used := used) (Stay.refl w Z) (Gst.Le.refl γ) (Gst.Ext.refl used γ) (hm.keys x R hg).2 (fun b q ho => ⟨?_, rfl⟩) (hm.root x R hg)
   simp only [ownM, ho]
   rw [if_pos (by rw [hg']; rfl)]
  ·cases hg
 ·rw [hget_maskH] at hg
  split at hg
  ·exact hm.keys x R hg
  ·cases hg
theorem MemR.framed (hm : MemR w0 K w Z own γ H used) {l : List Nat} {ws : List (Nat × Option Root)} (hs : Stay w Z w' Z') (he : Gst.Ext used γ γ') (hu : ∀ s, used s → used' s)
  (hr : MemR w (KM Z own (maskH H l)) w' Z' own' γ' (qaw (maskH H l) ws) used') : ∃ own2, MemR w0 K w' Z' own2 γ' (qaw H ws) used' := by
 let own2 : Own := fun b => match own' b with | some o => some o | none => match own b with | some o => if (hget (maskH H l) o.1).isSome then none else some o | none => none
 have hk : ∀ b, b < w.heap.size → (∀ o, own b = some o → ¬ (hget (maskH H l) o.1).isSome = true) → (KM Z own (maskH H l)).k b := fun b _ h o ho => by
  have := h o ho
  simpa using this
 have hsome : ∀ b o, own' b = some o → b < w.heap.size → ∃ o', own b = some o' ∧ (hget (maskH H l) o'.1).isSome = true := fun b o ho hb => by
  have := hr.ownK b o ho hb
  simp only [KM] at this
  rcases Classical.em (∃ o', own b = some o' ∧ (hget (maskH H l) o'.1).isSome = true) with h | h
  ·exact h
  ·refine absurd (fun o' ho' => ?_) this
   cases hh : (hget (maskH H l) o'.1).isSome with
   | false => rfl
   | true => exact absurd ⟨o', ho', hh⟩ h
 refine ⟨own2, hm.step hs he hu hr.os hr.tape hr.output hr.size (fun x => (hget (maskH H l) x).isSome = true) (fun b hb hno => hr.kept b hb (hk b hb hno)) (fun b o ho hno => ?_) (fun b o ho => ?_) (fun b hb => ⟨hr.zlt b hb, ?_⟩) (fun x R hg => ?_) hr.fresh⟩
 ·have hb := hm.ownlt b o ho
  have hnone : own' b = none := by
   cases h : own' b with
   | none => rfl
   | some o2 =>
    obtain ⟨o', h1, h2⟩ := hsome b o2 h hb
    rw [ho] at h1
    injection h1 with h1
    subst h1
    exact absurd h2 hno
  simp only [own2, hnone, ho]
  rw [if_neg hno]
 ·simp only [own2] at ho
  split at ho
  ·rename_i o2 ho2
   injection ho with ho
   subst ho
   refine .inr ⟨hr.ownlt b _ ho2, hr.ownZ b _ ho2, ?_⟩
   rcases Nat.lt_or_ge b w.heap.size with hb | hb
   ·exact .inl (hsome b _ ho2 hb)
   ·exact .inr hb
  ·split at ho
   ·rename_i o2 ho2
    split at ho
    ·cases ho
    ·rename_i hno
     injection ho with ho
     subst ho
     exact .inl ⟨ho2, hno⟩
   ·cases ho
 ·rcases Nat.lt_or_ge b w.heap.size with hb' | hb'
  ·rcases Classical.em (∃ o, own b = some o ∧ (hget (maskH H l) o.1).isSome = true) with h | h
   ·exact .inr (.inl h)
   ·exact .inl (hr.zin b hb hb' (hk b hb' fun o ho hh => h ⟨o, ho, hh⟩))
  ·exact .inr (.inr hb')
 ·rw [qid] at hg
  by_cases hin : x ∈ ws.map (·.1) ∨ hget H x = hget (maskH H l) x
  ·rw [upW_in hin, ← qid] at hg
   by_cases hch : (hget (maskH H l) x).isSome = true ∨ x ∈ ws.map (·.1)
   ·obtain ⟨k1, k2, k3⟩ := hr.keys x R hg
    refine .inr ⟨RootR.frame (used := used') (Stay.refl w' Z') (Gst.Le.refl γ') (Gst.Ext.refl used' γ') ⟨k2, k3⟩ (fun b q ho => ⟨?_, rfl⟩) (hr.root x R hg), k1, k2, k3⟩
    simp only [own2, ho]
   ·simp only [not_or] at hch
    rw [qid, upW_not hch.2] at hg
    rw [hg] at hch
    exact absurd rfl hch.1
  ·simp only [not_or] at hin
   rw [upW_not hin.1] at hg
   refine .inl ⟨hg, fun hh => hin.2 ?_⟩
   rw [hget_maskH]
   rw [hget_maskH] at hh
   split
   ·rfl
   ·rename_i hx
    rw [if_neg hx] at hh
    cases hh
end
end Go.BE
namespace Go.BE
open Go.RowKit
section
variable {P : Program} {E : Ctx} {w w' w0 : World} {Z Z' : Nat → Prop} {K : Kp} {own own' : Own} {γ γ' : Gst} {h h' H : Heap} {used used' : Nat → Prop} {s d id nx : Nat} {A B : AV} {v V U : Value} {cs ds : List AV} {vs us : List Value} {F fr fm : List AV} {a : Act} {fn : FuncId} {ops : Array Oper} {r : Rc} {rs : List Rc} {AA : List (List Nat)} {listed : Array Bool} {m : Nat}
structure Did (E : Ctx) (w0 : World) (K : Kp) (w : World) (Z : Nat → Prop) (γ : Gst) (H : Heap) (used used' : Nat → Prop) (r : Rc) (v : Value) (w' : World) (Z' : Nat → Prop) (own' : Own) (γ' : Gst) : Prop where
 val : VR w' Z' γ' r.val v
 stay : Stay w Z w' Z'
 ext : Gst.Ext used γ γ'
 mem : MemR w0 K w' Z' own' γ' (qaw H r.ws) used'
theorem dval_run (hE : EOK E) {b : Frame} {k : List Item} {fs : List Frame} {i : Nat} {rest : List Nat} {o : Oper} {ro : Nat} {ns rd : List Nat} (hm : MemR w0 K w Z own γ H used) (hg : GlR E w Z)
  (hf : VRs w Z γ fm a.tmps.toList) (hd : (dval E ro id o ns fm rd (maskH H rd)).wp fun r' => r' = r) (ho : ops[i]? = some o) (hw : Region.wanted o (yielded ops a.tmps) = true)
  (hid : ∀ j, j < 16 → ¬ used (id + j)) (hu : ∀ s, used s → used' s) (hid' : ∀ j, j < 16 → used' (id + j)) :
  ∃ v w' Z' own' γ', Did E w0 K w Z γ H used used' r v w' Z' own' γ' ∧ Steps E.P (lone (b.at a (.inRegion ops (i :: rest) :: k)) fs w) (lone (b.at (a.put r.dst v) (.inRegion ops rest :: k)) fs w') := by
 have hev : ∀ x, VR w Z γ (ev E fm x) (a.eval x) := fun x => ev_rel' hg hf x
 unfold dval at hd
 split at hd
 ·rename_i x y z hop
  split at hd
  ·rename_i b' hb
   have hv := asB_inv (hev x) hb
   have hrun : (execOp a.eval o).run E.P w = .ok (.value (a.eval (if b' then y else z))) w := by
    simp only [execOp, hop, hv, asBool, Sem.run_bind, Sem.run_pure, Result.andThen_ok]
    cases b' <;> rfl
   cases hbb : b' with
   | true =>
    have := hd.1 hbb
    subst this
    rw [hbb] at hrun
    exact ⟨_, w, Z, own, γ, ⟨hev _, Stay.refl _ _, Gst.Ext.refl _ _, hm.used_mono hu⟩, .one (op_value ho hw hrun)⟩
   | false =>
    have := hd.2 hbb
    subst this
    rw [hbb] at hrun
    exact ⟨_, w, Z, own, γ, ⟨hev _, Stay.refl _ _, Gst.Ext.refl _ _, hm.used_mono hu⟩, .one (op_value ho hw hrun)⟩
  ·exact hd.elim
 ·rename_i hnp
  have hmm := hm.masked rd
  have hop := aop_sound (used' := used') hE.ty hmm (id := id) (hid 0 (by omega)) hu (hid' 0 (by omega)) (ro := ro) hev o
  split at hd
  ·rename_i C' A' hv
   rw [hv] at hop
   obtain ⟨hC, hd⟩ := qha hd
   obtain ⟨v, e1, e2⟩ := hop hC
   subst hd
   exact ⟨v, w, Z, own, γ, ⟨e2, Stay.refl _ _, Gst.Ext.refl _ _, hm.used_mono hu⟩, .one (op_value ho hw e1)⟩
  ·rename_i C' A' ws sk hv
   rw [hv] at hop
   obtain ⟨hC, hd⟩ := qha hd
   obtain ⟨n, v, w', Z', own', γ', e1, e2, e3, e4, e5, e6⟩ := hop hC
   subst hd
   obtain ⟨own2, hm2⟩ := hm.framed e3 e4 hu e5
   refine ⟨v, w', Z', own2, γ', ⟨e6, e3, e4, hm2⟩, ?_⟩
   split at e2
   ·obtain ⟨rfl, rfl⟩ := e2
    exact .one (op_skipv ho hw e1)
   ·subst e2
    exact .one (op_value ho hw e1)
  ·exact hd.elim
  ·rename_i f args hv
   rw [hv] at hop
   obtain ⟨vs, e1, e2⟩ := hop
   split at hd
   ·rename_i hfn
    rw [hE.fns f hfn] at e1
    split at hd
    ·rename_i C' Kn A' ws hcall
     obtain ⟨hC, hd⟩ := qha hd
     subst hd
     have hcl := acall_sound (used' := used') hE.env hmm hg hcall hC e2 hid hu hid'
     obtain ⟨e, w', fr, ⟨v, Z', own', γ', rfl, k1, k2, k3, k4, k5⟩, q1, q2, q3⟩ := hcl (b.at a (.inRegion ops (i :: rest) :: k) :: fs)
     obtain ⟨own2, hm2⟩ := hm.framed k2 k3 hu k4
     exact ⟨v, w', Z', own2, γ', ⟨k5, k2, k3, hm2⟩, .head (op_enter ho hw e1) (Steps.trans q1 (.one (op_back ho q3)))⟩
    ·exact hd.elim
   ·exact hd.elim
  ·exact hd.elim
theorem dok_run (hE : EOK E) {b : Frame} {k : List Item} {fs : List Frame} {i : Nat} {rest : List Nat} {o : Oper} (hm : MemR w0 K w Z own γ H used) (hg : GlR E w Z)
  (hf : VRs w Z γ F a.tmps.toList) (hd : DOK E fn ops id o F H r) (ho : ops[i]? = some o)
  (hid : ∀ j, j < 16 → ¬ used (id + j)) (hu : ∀ s, used s → used' s) (hid' : ∀ j, j < 16 → used' (id + j)) :
  ∃ v w' Z' own' γ', Did E w0 K w Z γ H used used' r v w' Z' own' γ' ∧ Steps E.P (lone (b.at a (.inRegion ops (i :: rest) :: k)) fs w) (lone (b.at (a.put r.dst v) (.inRegion ops rest :: k)) fs w') := by
 have hfm : VRs w Z γ (maskF (names ops o) F 0) a.tmps.toList := mask_VRs hf
 have hskip : ∀ ns rd, r = ⟨o.dst, und, [], ns, rd, false⟩ → ((ops[i]?).map (Region.wanted · (yielded ops a.tmps))).getD false = false →
   ∃ v w' Z' own' γ', Did E w0 K w Z γ H used used' r v w' Z' own' γ' ∧ Steps E.P (lone (b.at a (.inRegion ops (i :: rest) :: k)) fs w) (lone (b.at (a.put r.dst v) (.inRegion ops rest :: k)) fs w') := by
  rintro ns rd rfl hw
  have := step_op_skip (P := E.P) (b := b) (a := a) (k := k) (cs := fs) (w := w) (ops := ops) (i := i) (rest := rest) hw
  rw [ho] at this
  exact ⟨undef, w, Z, own, γ, ⟨.cr (.val _ trivial), Stay.refl _ _, Gst.Ext.refl _ _, hm.used_mono hu⟩, .one this⟩
 unfold DOK dop at hd
 dsimp only at hd
 split at hd
 ·rename_i hgd
  exact dval_run hE hm hg hfm hd ho (by simp [Region.wanted, hgd]) hid hu hid'
 ·rename_i j want hgd
  split at hd
  ·exact hd.elim
  ·rename_i t ht
   split at hd
   ·rename_i b' hb'
    have hbt := lget_val hfm hb'
    rw [Array.getElem?_toList] at hbt
    have hyes : b' = want → Region.wanted o (yielded ops a.tmps) = true := fun e => by
     simp only [Region.wanted, hgd, yielded_at ht, hbt, e]
     simp
    have hno : b' ≠ want → ((ops[i]?).map (Region.wanted · (yielded ops a.tmps))).getD false = false := fun e => by
     simp only [ho, Option.map_some, Option.getD_some, Region.wanted, hgd, yielded_at ht, hbt]
     simpa using e
    split at hd
    ·rename_i hwant
     cases hbb : b' with
     | true => exact dval_run hE hm hg hfm (hd.1 hbb) ho (hyes (by rw [hbb, hwant])) hid hu hid'
     | false => exact hskip _ _ (hd.2 hbb).symm (hno (by rw [hbb, hwant]; simp))
    ·rename_i hwant
     have hwant : want = false := by simpa using hwant
     cases hbb : b' with
     | true => exact hskip _ _ (hd.1 hbb).symm (hno (by rw [hbb, hwant]; simp))
     | false => exact dval_run hE hm hg hfm (hd.2 hbb) ho (hyes (by rw [hbb, hwant])) hid hu hid'
   ·rename_i vs hb'
    have hd : _ = r := hd
    have hbt := lget_val hfm hb'
    rw [Array.getElem?_toList] at hbt
    refine hskip _ _ hd.symm ?_
    simp only [ho, Option.map_some, Option.getD_some, Region.wanted, hgd, yielded_at ht, hbt]
    rfl
   ·exact hd.elim
structure Plan (E : Ctx) (fn : FuncId) (ops : Array Oper) (m : Nat) (nx : Nat) (fr : List AV) (h : Heap) (AA : List (List Nat)) (rs : List Rc) : Prop where
 le : m ≤ ops.size
 ge : ops.size ≤ m + 1
 last : ∀ j, m ≤ j → j < ops.size → ∀ i, i < m → i ∈ AA.getD j []
 len : rs.length = m
 recs : ∀ (j : Nat) o, j < m → ops[j]? = some o → ∃ r, rs[j]? = some r ∧ DOK E fn ops (nx + j * qay) o (foldF (rs.take j) fr) (foldH (rs.take j) h) r
 anc : ∀ (j : Nat) o, ops[j]? = some o → (∀ e ∈ o.after, Region.binds .any e = true → e.on < j) ∧ ∀ i ∈ AA.getD j [], ∃ e ∈ o.after, Region.binds .any e = true ∧ (i = e.on ∨ i ∈ AA.getD e.on [])
 conf : ∀ (i k : Nat) q r, rs[i]? = some q → rs[k]? = some r → i < k → conf q r = true → i ∈ AA.getD k []
def usedL (nx : Nat) (listed : Array Bool) (s : Nat) : Prop := s < nx ∨ ∃ j, Lof listed j = true ∧ nx + j * qay ≤ s ∧ s < nx + j * qay + qay
structure Inv (E : Ctx) (ops : Array Oper) (m : Nat) (nx : Nat) (fr : List AV) (h : Heap) (AA : List (List Nat)) (rs : List Rc) (w0 : World) (K : Kp) (listed : Array Bool) (a : Act) (w : World) (Z : Nat → Prop) (own : Own) (γ : Gst) (H : Heap) : Prop where
 size : listed.size = ops.size
 part : ∀ j, Lof listed j = true → j < m
 closed : ∀ j, Lof listed j = true → ∀ i ∈ AA.getD j [], Lof listed i = true
 frame : VRs w Z γ (selF (Lof listed) 0 rs fr) a.tmps.toList
 heap : ∀ x, hget H x = selH (Lof listed) 0 rs (hget h) x
 mem : MemR w0 K w Z own γ H (usedL nx listed)
 ok : ∀ j r, Lof listed j = true → rs[j]? = some r → okAV r.val
 gl : GlR E w Z
theorem conf1 {q r : Rc} {t : Nat} (h : q.dst = some t) (k : r.nm.contains t = true) : conf q r = true := by
 have : meets q.dst.toList r.nm = true := meets_of (x := t) (by simp [h]) k
 simp [conf, this]
theorem conf2 {q r : Rc} {t : Nat} (h : r.dst = some t) (k : q.nm.contains t = true) : conf q r = true := by
 have : meets r.dst.toList q.nm = true := meets_of (x := t) (by simp [h]) k
 simp [conf, this]
theorem conf3 {q r : Rc} {x : Nat} (h : x ∈ wrs q) (k : x ∈ wrs r ∨ x ∈ r.rd) : conf q r = true := by
 have : meets (wrs q) (wrs r ++ r.rd) = true := meets_of (x := x) h (by simpa using k)
 simp [conf, this]
theorem conf4 {q r : Rc} {x : Nat} (h : x ∈ wrs r) (k : x ∈ wrs q ∨ x ∈ q.rd) : conf q r = true := by
 have : meets (wrs r) (wrs q ++ q.rd) = true := meets_of (x := x) h (by simpa using k)
 simp [conf, this]
theorem names_dst {o : Oper} {t : Nat} (h : o.dst = some t) : (names ops o).contains t = true := by
 simp [names, h]
theorem usedL_new {i : Nat} (hs : listed.size = ops.size) (hL : Lof listed i = false) (j : Nat) (hj : j < 16) : ¬ usedL nx listed (nx + i * qay + j) := by
 rintro (h | ⟨m, h1, h2, h3⟩)
 ·omega
 ·simp only [qay] at *
  have : m = i := by omega
  subst this
  rw [h1] at hL
  cases hL
theorem usedL_add {i : Nat} (hi : i < listed.size) : ∀ s, usedL nx (listed.setIfInBounds i true) s ↔ usedL nx listed s ∨ (nx + i * qay ≤ s ∧ s < nx + i * qay + qay) := by
 intro s
 simp only [usedL, Lof_set hi, addL, Bool.or_eq_true, beq_iff_eq]
 constructor
 ·rintro (h | ⟨j, h1 | rfl, h2⟩)
  ·exact .inl (.inl h)
  ·exact .inl (.inr ⟨j, h1, h2⟩)
  ·exact .inr h2
 ·rintro ((h | ⟨j, h1, h2⟩) | h)
  ·exact .inl h
  ·exact .inr ⟨j, .inl h1, h2⟩
  ·exact .inr ⟨i, .inr rfl, h⟩
theorem inv_step (hE : EOK E) (hP : Plan E fn ops m nx fr h AA rs) (hI : Inv E ops m nx fr h AA rs w0 K listed a w Z own γ H) {i : Nat} (him : i < m) (hi : i ∈ Region.ready .any ops listed) (b : Frame) (k : List Item) (fs : List Frame) (rest : List Nat) :
  ∃ a' w' Z' own' γ' H', Inv E ops m nx fr h AA rs w0 K (listed.setIfInBounds i true) a' w' Z' own' γ' H' ∧ a'.defers = a.defers ∧ Stay w Z w' Z' ∧ γ.Le γ' ∧
   Steps E.P (lone (b.at a (.inRegion ops (i :: rest) :: k)) fs w) (lone (b.at a' (.inRegion ops rest :: k)) fs w') := by
 rw [mem_ready] at hi
 obtain ⟨hun, o, ho, hed⟩ := hi
 have hlt : i < ops.size := (Array.getElem?_eq_some_iff.1 ho).1
 have hlt' : i < listed.size := by rw [hI.size]; exact hlt
 rw [Lof_true hlt'] at hun
 obtain ⟨r, hr, hd⟩ := hP.recs i o him ho
 have hanc : ∀ m ∈ AA.getD i [], Lof listed m = true := fun m hm => by
  obtain ⟨e, he, hb, hm | hm⟩ := (hP.anc i o ho).2 m hm
  ·subst hm; exact hed e he hb
  ·exact hI.closed e.on (hed e he hb) m hm
 have hlater : ∀ m q, i < m → rs[m]? = some q → conf r q = true → Lof listed m = false := fun m q hm hq hc => by
  cases hL : Lof listed m with
  | false => rfl
  | true =>
   have := hI.closed m hL i (hP.conf i m r q hr hq hm hc)
   rw [hun] at this
   cases this
 have hbefore : ∀ m q, m < i → rs[m]? = some q → conf q r = true → Lof listed m = true := fun m q hm hq hc => hanc m (hP.conf m i q r hq hr hm hc)
 obtain ⟨hnm, hdst, hrd⟩ := hd.nm
 have hd' : DOK E fn ops (nx + i * qay) o (selF (Lof listed) 0 rs fr) H r := by
  refine hd.congr (fun t ht => ?_) (by rw [foldF_sel rs i 0, selF_length, selF_length]) (fun x hx => ?_)
  ·rw [foldF_sel rs i 0]
   refine selF_congr rs 0 fr fr rfl rfl fun m q hm hq => ?_
   simp only [Nat.zero_add]
   rcases Nat.lt_trichotomy m i with hmi | hmi | hmi
   ·rw [hbefore m q hmi hm (conf1 hq ht)]; simpa using hmi
   ·subst hmi; rw [hun]; simp
   ·rw [hlater m q hmi hm (conf2 hq ht)]; simp; omega
  ·rw [foldH_sel rs i 0, hI.heap x]
   refine selH_congr rs 0 _ _ rfl fun m q hm hq => ?_
   simp only [Nat.zero_add]
   rcases Nat.lt_trichotomy m i with hmi | hmi | hmi
   ·rw [hbefore m q hmi hm (conf3 hq (.inr hx))]; simpa using hmi
   ·subst hmi; rw [hun]; simp
   ·rw [hlater m q hmi hm (conf4 hq (.inr hx))]; simp; omega
 obtain ⟨v, w', Z', own', γ', D, hs⟩ := dok_run (used' := usedL nx (listed.setIfInBounds i true)) (b := b) (k := k) (fs := fs) (rest := rest) hE hI.mem hI.gl hI.frame hd' ho (fun j hj => usedL_new hI.size hun j hj) (fun s h => (usedL_add hlt' s).2 (.inl h)) (fun j hj => (usedL_add hlt' _).2 (.inr ⟨by omega, by simp only [qay]; omega⟩))
 have hle := D.ext.le hI.mem.fresh
 refine ⟨a.put r.dst v, w', Z', own', γ', qaw H r.ws, ⟨by simp [hI.size], ?_, ?_, ?_, ?_, D.mem, ?_, hI.gl.mono D.stay⟩, ?_, D.stay, hle, hs⟩
 ·rw [Lof_set hlt']
  intro j hj
  simp only [addL, Bool.or_eq_true, beq_iff_eq] at hj
  rcases hj with hj | rfl
  ·exact hI.part j hj
  ·exact him
 ·rw [Lof_set hlt']
  intro j hj m hm
  simp only [addL, Bool.or_eq_true, beq_iff_eq] at hj ⊢
  rcases hj with hj | rfl
  ·exact .inl (hI.closed j hj m hm)
  ·exact .inl (hanc m hm)
 ·rw [Lof_set hlt', selF_add hr fun m q t hm hq hqt hrt => hlater m q hm hq (conf2 hqt (by rw [hnm]; exact names_dst (hdst ▸ hrt)))]
  exact (hI.frame.mono D.stay hle).putT r.dst D.val
 ·intro x
  rw [Lof_set hlt', selH_add hr fun m q y hm hq hqt hrt => hlater m q hm hq (conf4 hqt (.inl hrt)), qid]
  have : hget H = selH (Lof listed) 0 rs (hget h) := funext hI.heap
  rw [this]
 ·rw [Lof_set hlt']
  intro j q hj hq
  simp only [addL, Bool.or_eq_true, beq_iff_eq] at hj
  rcases hj with hj | rfl
  ·exact hI.ok j q hj hq
  ·rw [hr] at hq
   injection hq with hq
   subst hq
   exact D.val.ok
 ·cases r.dst <;> rfl
theorem ready_part (hP : Plan E fn ops m nx fr h AA rs) (hs : listed.size = ops.size) (hc : ∀ j, Lof listed j = true → ∀ i ∈ AA.getD j [], Lof listed i = true) {i : Nat} (hi : i ∈ Region.ready .any ops listed) : i < m ∨ ∀ j, j < m → Lof listed j = true := by
 rcases Nat.lt_or_ge i m with h | hge
 ·exact .inl h
 ·refine .inr fun j hj => ?_
  rw [mem_ready] at hi
  obtain ⟨_, o, ho, hed⟩ := hi
  have hlt : i < ops.size := (Array.getElem?_eq_some_iff.1 ho).1
  obtain ⟨e, he, hb, hm | hm⟩ := (hP.anc i o ho).2 j (hP.last i hge hlt j hj)
  ·subst hm; exact hed e he hb
  ·exact hc e.on (hed e he hb) j hm
theorem ready_rest (hP : Plan E fn ops m nx fr h AA rs) (hs : listed.size = ops.size) (hp : ∀ j, Lof listed j = true → j < m) (hall : ∀ j, j < m → Lof listed j = true) (i : Nat) : i ∈ Region.ready .any ops listed ↔ (m ≤ i ∧ i < ops.size) := by
 rw [mem_ready]
 constructor
 ·rintro ⟨h1, o, ho, _⟩
  have hlt : i < ops.size := (Array.getElem?_eq_some_iff.1 ho).1
  rw [Lof_true (by omega)] at h1
  refine ⟨?_, hlt⟩
  rcases Nat.lt_or_ge i m with h | h
  ·rw [hall i h] at h1; cases h1
  ·exact h
 ·rintro ⟨h1, h2⟩
  refine ⟨?_, ops[i], Array.getElem?_eq_getElem h2, fun e he hb => ?_⟩
  ·rw [Lof_true (by omega)]
   cases hL : Lof listed i with
   | false => rfl
   | true => have := hp i hL; omega
  ·have hlt := (hP.anc i ops[i] (Array.getElem?_eq_getElem h2)).1 e he hb
   exact hall _ (by have := hP.ge; omega)
theorem ready_nil (hP : Plan E fn ops m nx fr h AA rs) (hs : listed.size = ops.size) (hn : Region.ready .any ops listed = []) : ∀ j, j < ops.size → Lof listed j = true := by
 intro j
 induction j using Nat.strongRecOn with
 | _ j ih =>
  intro hj
  cases hL : Lof listed j with
  | true => rfl
  | false =>
   have : j ∈ Region.ready .any ops listed := by
    rw [mem_ready, Lof_true (by omega)]
    refine ⟨hL, ops[j], Array.getElem?_eq_getElem hj, fun e he hb => ?_⟩
    have hlt := (hP.anc j ops[j] (Array.getElem?_eq_getElem hj)).1 e he hb
    exact ih e.on hlt (by omega)
   rw [hn] at this
   cases this
def unl (n : Nat) (listed : Array Bool) : Nat := ((List.range n).filter fun i => !Lof listed i).length
theorem unl_lt {n i : Nat} (hs : i < listed.size) (hi : i < n) (hL : Lof listed i = false) : unl n (listed.setIfInBounds i true) < unl n listed := by
 unfold unl
 rw [Lof_set hs]
 have : (List.range n).filter (fun j => !addL (Lof listed) i j) = ((List.range n).filter fun j => !Lof listed j).filter fun j => !(j == i) := by
  rw [List.filter_filter]
  congr 1
  funext j
  simp [addL, Bool.not_or, Bool.and_comm]
 rw [this, List.length_filter_lt_length_iff_exists]
 exact ⟨i, by simp [hi, hL], by simp⟩
def restL (n m : Nat) : List Nat := if m = n then [] else [m]
theorem ready_nodup (listed : Array Bool) : (Region.ready .any ops listed).Nodup := by
 unfold Region.ready
 exact List.Pairwise.filter _ List.nodup_range
theorem single {l : List Nat} {x : Nat} (hn : l.Nodup) (h : ∀ i, i ∈ l ↔ i = x) : l = [x] := by
 cases l with
 | nil => exact absurd ((h x).2 rfl) (by simp)
 | cons y l =>
  have hy : y = x := (h y).1 List.mem_cons_self
  subst hy
  cases l with
  | nil => rfl
  | cons u l =>
   have hu : u = y := (h u).1 (List.mem_cons_of_mem _ List.mem_cons_self)
   rw [List.nodup_cons] at hn
   exact absurd (by rw [hu]; exact List.mem_cons_self) hn.1
theorem go_succ (fuel t : Nat) (listed : Array Bool) : Region.linearise.go .any ops (fuel + 1) t listed [] = (match (Region.ready .any ops listed)[t % (Region.ready .any ops listed).length]? with
  | some i => Region.linearise.go .any ops fuel (t / (Region.ready .any ops listed).length) (listed.setIfInBounds i true) [i]
  | none => [].reverse) := by
 simp only [Region.linearise.go]
 rfl
theorem go_rest (hP : Plan E fn ops m nx fr h AA rs) (hs : listed.size = ops.size) (hp : ∀ j, Lof listed j = true → j < m) (hall : ∀ j, j < m → Lof listed j = true) (fuel t : Nat) (hf : m < ops.size → 0 < fuel) : Region.linearise.go .any ops fuel t listed [] = restL ops.size m := by
 unfold restL
 by_cases hm : m = ops.size
 ·rw [if_pos hm]
  have hnil : Region.ready .any ops listed = [] := by
   cases hr : Region.ready .any ops listed with
   | nil => rfl
   | cons x xs =>
    have := (ready_rest hP hs hp hall x).1 (by rw [hr]; exact List.mem_cons_self)
    omega
  cases fuel with
  | zero => rfl
  | succ fuel => rw [go_succ, hnil]; rfl
 ·have hlt : m < ops.size := by have := hP.le; omega
  rw [if_neg hm]
  have h1 : Region.ready .any ops listed = [m] := single (ready_nodup listed) fun i => by
   rw [ready_rest hP hs hp hall]
   have := hP.ge
   omega
  cases fuel with
  | zero => exact absurd (hf hlt) (Nat.lt_irrefl _)
  | succ fuel =>
   rw [go_succ, h1]
   simp only [List.length_singleton, Nat.mod_one, List.getElem?_cons_zero]
   rw [linearise_go_acc, List.reverse_singleton, List.singleton_append]
   have h2 : Region.ready .any ops (listed.setIfInBounds m true) = [] := by
    cases hr : Region.ready .any ops (listed.setIfInBounds m true) with
    | nil => rfl
    | cons x xs =>
     have hx : x ∈ Region.ready .any ops (listed.setIfInBounds m true) := by rw [hr]; exact List.mem_cons_self
     rw [mem_ready] at hx
     obtain ⟨h3, o, ho, _⟩ := hx
     have hxl : x < ops.size := (Array.getElem?_eq_some_iff.1 ho).1
     rw [Lof_true (by simp only [Array.size_setIfInBounds]; omega), Lof_set (by omega)] at h3
     simp only [addL, Bool.or_eq_false_iff, beq_eq_false_iff_ne] at h3
     have := hP.ge
     rcases Nat.lt_or_ge x m with h4 | h4
     ·rw [hall x h4] at h3; cases h3.1
     ·omega
   cases fuel with
   | zero => rfl
   | succ fuel => rw [go_succ, h2]; rfl
theorem go_sound (hE : EOK E) (hP : Plan E fn ops m nx fr h AA rs) (b : Frame) (k : List Item) (fs : List Frame) : ∀ (fuel t : Nat) {listed : Array Bool} {a : Act} {w : World} {Z : Nat → Prop} {own : Own} {γ : Gst} {H : Heap}, unl ops.size listed ≤ fuel →
  Inv E ops m nx fr h AA rs w0 K listed a w Z own γ H → ∃ listed' a' w' Z' own' γ' H', Inv E ops m nx fr h AA rs w0 K listed' a' w' Z' own' γ' H' ∧ (∀ j, j < m → Lof listed' j = true) ∧ a'.defers = a.defers ∧ Stay w Z w' Z' ∧ γ.Le γ' ∧
   Steps E.P (lone (b.at a (.inRegion ops (Region.linearise.go .any ops fuel t listed []) :: k)) fs w) (lone (b.at a' (.inRegion ops (restL ops.size m) :: k)) fs w')
 | fuel, t, listed, a, w, Z, own, γ, H, hu, hI => by
  by_cases hall : ∀ j, j < m → Lof listed j = true
  ·rw [go_rest hP hI.size hI.part hall fuel t fun hlt => by
    have : m ∈ (List.range ops.size).filter fun i => !Lof listed i := by
     rw [List.mem_filter]
     refine ⟨List.mem_range.2 hlt, ?_⟩
     cases hL : Lof listed m with
     | false => rfl
     | true => have := hI.part m hL; omega
    have := List.length_pos_of_mem this
    unfold unl at hu
    omega]
   exact ⟨listed, a, w, Z, own, γ, H, hI, hall, rfl, Stay.refl _ _, Gst.Le.refl _, .refl _ _⟩
  ·cases fuel with
   | zero =>
    exfalso
    refine hall fun j hj => ?_
    cases hL : Lof listed j with
    | true => rfl
    | false =>
     have hm : j ∈ (List.range ops.size).filter fun i => !Lof listed i := by
      have := hP.le
      rw [List.mem_filter]
      exact ⟨List.mem_range.2 (by omega), by rw [hL]; rfl⟩
     have : (List.range ops.size).filter (fun i => !Lof listed i) = [] := List.eq_nil_of_length_eq_zero (by unfold unl at hu; omega)
     rw [this] at hm
     cases hm
   | succ fuel =>
    simp only [Region.linearise.go]
    change ∃ listed' a' w' Z' own' γ' H', Inv E ops m nx fr h AA rs w0 K listed' a' w' Z' own' γ' H' ∧ (∀ j, j < m → Lof listed' j = true) ∧ a'.defers = a.defers ∧ Stay w Z w' Z' ∧ γ.Le γ' ∧
     Steps E.P (lone (b.at a (.inRegion ops (match (Region.ready .any ops listed)[t % (Region.ready .any ops listed).length]? with
      | some i => Region.linearise.go .any ops fuel (t / (Region.ready .any ops listed).length) (listed.setIfInBounds i true) [i]
      | none => [].reverse) :: k)) fs w) (lone (b.at a' (.inRegion ops (restL ops.size m) :: k)) fs w')
    cases hi : (Region.ready .any ops listed)[t % (Region.ready .any ops listed).length]? with
    | none =>
     have hnil : Region.ready .any ops listed = [] := by
      cases hr : Region.ready .any ops listed with
      | nil => rfl
      | cons x xs =>
       rw [hr] at hi
       have hlt : t % (x :: xs).length < (x :: xs).length := Nat.mod_lt _ (by simp)
       simp at hi
       simp at hlt
       omega
     exact absurd (fun j hj => ready_nil hP hI.size hnil j (by have := hP.le; omega)) hall
    | some i =>
     simp only []
     rw [linearise_go_acc, List.reverse_singleton, List.singleton_append]
     have hr := List.mem_of_getElem? hi
     have him : i < m := (ready_part hP hI.size hI.closed hr).resolve_right hall
     obtain ⟨a1, w1, Z1, own1, γ1, H1, hI1, hd1, hst1, hx1, hs1⟩ := inv_step hE hP hI him hr b k fs (Region.linearise.go .any ops fuel (t / (Region.ready .any ops listed).length) (listed.setIfInBounds i true) [])
     have hrdy := mem_ready.1 hr
     obtain ⟨hun, o, ho, _⟩ := hrdy
     have hlt : i < ops.size := (Array.getElem?_eq_some_iff.1 ho).1
     rw [Lof_true (by rw [hI.size]; exact hlt)] at hun
     have hlt2 := unl_lt (n := ops.size) (by rw [hI.size]; exact hlt) hlt hun
     obtain ⟨l2, a2, w2, Z2, own2, γ2, H2, hI2, hall2, hd2, hst2, hx2, hs2⟩ := go_sound hE hP b k fs fuel (t / (Region.ready .any ops listed).length) (by omega) hI1
     exact ⟨l2, a2, w2, Z2, own2, γ2, H2, hI2, hall2, hd2.trans hd1, hst1.trans hst2, hx1.trans hx2, hs1.trans hs2⟩
theorem tells_ok : ∀ {rs : List Rc}, (∀ (j : Nat) r, rs[j]? = some r → okAV r.val) → AllP (tells rs)
 | [], _ => trivial
 | r :: rs, h => by
  have := tells_ok (rs := rs) fun j q hq => h (j + 1) q (by simpa using hq)
  unfold tells
  split
  ·exact ⟨h 0 r rfl, this⟩
  ·exact this
theorem knows_wp {α : Type} {Q : α → Prop} {t : Tre α} : ∀ {l : List Prop}, AllP l → (knows l t).wp Q → t.wp Q
 | [], _, h => h
 | _ :: l, hl, h => knows_wp (l := l) hl.2 (h hl.1)
theorem allIn_ok {l : List Nat} : ∀ {n : Nat}, allIn l n = true → ∀ i, i < n → i ∈ l
 | 0, _, i, hi => absurd hi (Nat.not_lt_zero _)
 | n + 1, h, i, hi => by
  simp only [allIn, Bool.and_eq_true] at h
  rcases Nat.lt_or_eq_of_le (Nat.le_of_lt_succ hi) with h1 | rfl
  ·exact allIn_ok h.2 i h1
  ·simpa using h.1
theorem adraw0_sound (hE : EOK E) (hm : MemR w0 K w Z own γ h (fun s => s < nx)) (hg : GlR E w Z) (hf : VRs w Z γ fr a.tmps.toList) {Q : List Rc × List AV × Heap → Prop} (he : (adraw0 E fn ops m fr h nx).wp Q)
  (b : Frame) (k : List Item) (fs : List Frame) (t : Nat) : ∃ x, Q x ∧ AllP (tells x.1) ∧ ∃ a' w' Z' own' γ', a'.defers = a.defers ∧ VRs w' Z' γ' x.2.1 a'.tmps.toList ∧ Stay w Z w' Z' ∧ γ.Le γ' ∧ MemR w0 K w' Z' own' γ' x.2.2 (fun s => s < nx + ops.size * qay) ∧
   Steps E.P (lone (b.at a (.inRegion ops (Region.linearise .any ops t) :: k)) fs w) (lone (b.at a' (.inRegion ops (restL ops.size m) :: k)) fs w') := by
 unfold adraw0 at he
 split at he
 ·rename_i AA hanc
  split at he
  ·rename_i hmm
   simp only [Bool.or_eq_true, Bool.and_eq_true, decide_eq_true_eq] at hmm
   have hle : m ≤ ops.size := by rcases hmm with h | h <;> omega
   rw [Tre.wp_bind] at he
   obtain ⟨rs, e0, e1, e4⟩ := drun_ok (Q := fun x => Tre.wp Q (if okAll AA 0 [] x.1 = true then .ok x else .bad)) (ops.toList.take m) 0 fr h he
   have hlen : (ops.toList.take m).length = m := by rw [List.length_take, Array.length_toList]; omega
   split at e0
   ·rename_i hok
    obtain ⟨_, a2⟩ := ancs_ok hanc
    have hP : Plan E fn ops m nx fr h AA rs := by
     refine ⟨hle, by rcases hmm with h | h <;> omega, fun j h1 h2 i hi => ?_, by rw [e1, hlen], fun j o hjm ho => ?_, fun j o ho => ?_, fun i k q r hi hk hik hc => ?_⟩
     ·rcases hmm with h | ⟨h, h3⟩
      ·omega
      ·obtain rfl : j = m := by omega
       exact allIn_ok h3 i hi
     ·have := e4 j o (by rw [List.getElem?_take, if_pos hjm]; simpa using ho)
      rw [Nat.zero_add] at this
      exact this
     ·have := a2 j o (by simpa using ho)
      simpa using this
     ·exact okAll_ok (done := []) hok i k q r (by simpa using hi) (by simpa using hk) hik (Nat.zero_le _) hc
    have hL0 : Lof (Array.replicate ops.size false) = fun m => decide (m < 0 + 0) := by
     funext j
     simp only [Lof, Array.getD_eq_getD_getElem?, Array.getElem?_replicate]
     split <;> simp
    have hI : Inv E ops m nx fr h AA rs w0 K (Array.replicate ops.size false) a w Z own γ h := by
     refine ⟨by simp, fun j hj => ?_, fun j hj => ?_, ?_, fun x => ?_, hm.used_mono fun s hs => .inl hs, fun j r hj => ?_, hg⟩
     ·rw [hL0] at hj
      simp at hj
     ·rw [hL0] at hj
      simp at hj
     ·rw [hL0, ← foldF_sel rs 0 0]
      exact hf
     ·rw [hL0, ← foldH_sel rs 0 0]
      rfl
     ·rw [hL0] at hj
      simp at hj
    obtain ⟨l2, a2, w2, Z2, own2, γ2, H2, hI2, hall, hd2, hst2, hx2, hs2⟩ := go_sound hE hP b k fs ops.size t (by
     unfold unl
     exact Nat.le_trans (List.length_filter_le _ _) (by simp)) hI
    have hfull : ∀ m (r : Rc), rs[m]? = some r → Lof l2 (0 + m) = decide (0 + m < 0 + rs.length) := fun m r hr => by
     have := (List.getElem?_eq_some_iff.1 hr).1
     rw [Nat.zero_add, hall m (by rw [← hP.len]; exact this)]
     simpa using this
    refine ⟨_, e0, tells_ok fun j r hr => hI2.ok j r ?_ hr, a2, w2, Z2, own2, γ2, hd2, ?_, hst2, hx2, (hI2.mem.congr fun x => ?_).used_mono ?_, hs2⟩
    ·exact hall j (by rw [← hP.len]; exact (List.getElem?_eq_some_iff.1 hr).1)
    ·have : selF (Lof l2) 0 rs fr = foldF rs fr := by
      have h1 := foldF_sel rs rs.length 0 fr
      rw [List.take_length] at h1
      rw [h1]
      exact List.ext_getElem? fun t => selF_congr rs 0 fr fr rfl rfl fun m r hr _ => hfull m r hr
     have h2 := hI2.frame
     rw [this] at h2
     exact h2
    ·have h1 := foldH_sel rs rs.length 0 h x
     rw [List.take_length] at h1
     rw [hI2.heap x, h1]
     exact selH_congr rs 0 _ _ rfl fun m r hr _ => (hfull m r hr).symm
    ·rintro s (h | ⟨j, h1, h2, h3⟩)
     ·omega
     ·have hj : j < ops.size := by
       rcases Nat.lt_or_ge j l2.size with h | h
       ·rw [hI2.size] at h; exact h
       ·simp [Lof, Array.getD_eq_getD_getElem?, Array.getElem?_eq_none h] at h1
      simp only [qay] at *
      omega
   ·exact e0.elim
  ·exact he.elim
 ·exact he.elim
end
theorem AllP.mem {l : List Prop} (h : AllP l) : ∀ C ∈ l, C := by
 induction l with
 | nil => exact fun C hC => by cases hC
 | cons a l ih => exact fun C hC => (List.mem_cons.1 hC).elim (fun e => e ▸ h.1) (ih h.2 C)
theorem flat_wp {Q : Rc → Prop} : ∀ {t : Tre Rc} {C : List Prop} {q : Rc}, flat t = some (C, q) → AllP C → Q q → t.wp Q
 | .ok r, C, q, h, _, hq => by simp [flat] at h; obtain ⟨_, rfl⟩ := h; exact hq
 | .chk P t, C, q, h, hC, hq => by
  simp only [flat] at h
  split at h
  ·rename_i l r hl
   simp at h
   obtain ⟨rfl, rfl⟩ := h
   exact ⟨hC.1, fun _ => flat_wp hl hC.2 hq⟩
  ·cases h
 | .ite b t e, C, q, h, hC, hq => by
  cases b
  ·exact ⟨fun h => Bool.noConfusion h, fun _ => flat_wp (t := e) h hC hq⟩
  ·exact ⟨fun _ => flat_wp (t := t) h hC hq, fun h => Bool.noConfusion h⟩
 | .know .., _, _, h, _, _ => by simp [flat] at h
 | .any .., _, _, h, _, _ => by simp [flat] at h
 | .bad, _, _, h, _, _ => by simp [flat] at h
theorem whenP_all {b v : Bool} : ∀ {C : List Prop}, AllP (whenP b v C) → b = v → AllP C
 | [], _, _ => trivial
 | _ :: _, h, e => ⟨h.1 e, whenP_all h.2 e⟩
theorem splitPick_eq {l : List Nat} {t : Nat} : ∀ {os p : List Oper} {x : Oper} {d : Nat} {r : List Oper}, splitPick l t os = some (p, x, d, r) → os = p ++ x :: r ∧ x.dst = some d
 | [], _, _, _, _, h => by simp [splitPick] at h
 | o :: os, p, x, d, r, h => by
  have go : ∀ {p x d r}, (match splitPick l t os with | some (p, x, d, r) => some (o :: p, x, d, r) | none => none) = some (p, x, d, r) → o :: os = p ++ x :: r ∧ x.dst = some d := by
   intro p x d r h
   split at h
   ·rename_i p' x' d' r' hs
    simp at h
    obtain ⟨rfl, rfl, rfl, rfl⟩ := h
    have := splitPick_eq hs
    exact ⟨by rw [this.1]; rfl, this.2⟩
   ·cases h
  unfold splitPick at h
  split at h
  ·rename_i u y z d' ho hd
   split at h
   ·split at h
    ·simp at h
     obtain ⟨rfl, rfl, rfl, rfl⟩ := h
     exact ⟨rfl, hd⟩
    ·cases h
   ·exact go h
  ·exact go h
theorem mgroup_eq {l : List Nat} {ops : Array Oper} {o : Oper} {os : List Oper} {fr : List AV} {ex : List Nat} {g : Grp} (h : mgroup l ops o os fr ex = some g) : lget fr g.t = .val (.bool g.b) ∧ o :: os = g.p ++ g.x :: g.r ∧ g.x.dst = some g.d := by
 unfold mgroup at h
 repeat' split at h
 all_goals first | (cases h; done) | skip
 rename_i hs
 simp at h
 subst h
 exact ⟨by assumption, splitPick_eq hs⟩
def Ag (F : List Nat) (fr fr' : List AV) : Prop := fr.length = fr'.length ∧ ∀ u, lget fr u = lget fr' u ∨ (lget fr u = .bad ∧ u ∈ F)
theorem Ag.put {F : List Nat} {fr fr' : List AV} (h : Ag F fr fr') (d : Option Tmp) (a : AV) : Ag F (putT fr d a) (putT fr' d a) := by
 cases d with
 | none => exact h
 | some d =>
  refine ⟨by simp [putT, h.1], fun u => ?_⟩
  by_cases hu : u = d
  ·subst hu
   left
   simp only [putT, lget, List.getD_eq_getElem?_getD, List.getElem?_set_self']
   rcases Nat.lt_or_ge u fr'.length with h1 | h1
   ·rw [List.getElem?_eq_getElem (h.1 ▸ h1), List.getElem?_eq_getElem h1]; rfl
   ·rw [List.getElem?_eq_none (h.1 ▸ h1), List.getElem?_eq_none h1]
  ·have e : ∀ l : List AV, lget (l.set d a) u = lget l u := fun l => by simp only [lget, List.getD_eq_getElem?_getD, List.getElem?_set_ne (Ne.symm hu)]
   simp only [putT, e]
   exact h.2 u
theorem Ag.get {F : List Nat} {fr fr' : List AV} (h : Ag F fr fr') {u : Nat} (hu : u ∉ F) : fr[u]? = fr'[u]? := by
 have h2 : lget fr u = lget fr' u := (h.2 u).elim id fun h => absurd h.2 hu
 have h1 := h.1
 unfold lget at h2
 rw [List.getD_eq_getElem?_getD, List.getD_eq_getElem?_getD] at h2
 rcases Nat.lt_or_ge u fr.length with hl | hl
 ·rw [List.getElem?_eq_getElem hl, List.getElem?_eq_getElem (h1 ▸ hl)] at h2 ⊢
  exact congrArg some h2
 ·rw [List.getElem?_eq_none hl, List.getElem?_eq_none (h1 ▸ hl)]
theorem meets_not {l m : List Nat} (h : meets l m = false) {u : Nat} (hu : l.contains u = true) : u ∉ m := fun hm => by
 unfold meets at h
 rw [List.any_eq_false] at h
 exact h u (List.contains_iff_mem.1 hu) (List.contains_iff_mem.2 hm)
theorem dop_congr {E : Ctx} {fn : FuncId} {ops : Array Oper} {id : Nat} {o : Oper} {fr fr' : List AV} {h : Heap} {F : List Nat} (ha : Ag F fr fr') (hm : meets (names ops o) F = false) : dop E fn ops id o fr h = dop E fn ops id o fr' h := by
 have : maskF (names ops o) fr 0 = maskF (names ops o) fr' 0 := maskF_congr (fun u hu => ha.get (meets_not hm hu)) ha.1
 unfold dop
 simp only [this]
theorem set_lget {fr : List AV} {t : Nat} {a : AV} (h : lget fr t = a) (hb : a ≠ .bad) : fr.set t a = fr := by
 apply List.ext_getElem?
 intro u
 by_cases hu : t = u
 ·subst hu
  rcases Nat.lt_or_ge t fr.length with h1 | h1
  ·rw [List.getElem?_set_self h1, List.getElem?_eq_getElem h1]
   unfold lget at h
   rw [List.getD_eq_getElem?_getD, List.getElem?_eq_getElem h1] at h
   rw [← h]; rfl
  ·unfold lget at h
   rw [List.getD_eq_getElem?_getD, List.getElem?_eq_none h1] at h
   exact absurd h.symm hb
 ·rw [List.getElem?_set_ne hu]
theorem decide_iff {fr : List AV} {Q : List Rc × List AV × Heap → Prop} {k : List AV → Tre (List Rc × List AV × Heap)} : ∀ {g : Option Nat}, (decideT fr g k).wp Q ↔ (k fr).wp Q
 | none => Iff.rfl
 | some t => by
  show Tre.wp Q (match lget fr t with | .val (.bool b) => .ite b (k (fr.set t (abool true))) (k (fr.set t (abool false))) | _ => k fr) ↔ _
  split
  ·rename_i b hb
   have e : ∀ v, b = v → fr.set t (abool v) = fr := fun v hv => set_lget (by rw [hb, hv]; rfl) (by simp [abool])
   constructor
   ·intro h
    cases hv : b
    ·have := h.2 hv; rwa [e _ hv] at this
    ·have := h.1 hv; rwa [e _ hv] at this
   ·exact fun h => ⟨fun hv => by rw [e _ hv]; exact h, fun hv => by rw [e _ hv]; exact h⟩
  ·exact Iff.rfl
abbrev DR := List Rc × List AV × Heap
theorem drun_append {E : Ctx} {fn : FuncId} {ops : Array Oper} {base : Nat} : ∀ (a : List Oper) {c : List Oper} {i : Nat} {fr : List AV} {h : Heap} {Q : DR → Prop},
  (drun E fn ops base i a fr h).wp (fun x => (drun E fn ops base (i + a.length) c x.2.1 x.2.2).wp fun y => Q (x.1 ++ y.1, y.2.1, y.2.2)) → (drun E fn ops base i (a ++ c) fr h).wp Q
 | [], c, i, fr, h, Q, hw => by
  have hw' : (drun E fn ops base i c fr h).wp fun y => Q ([] ++ y.1, y.2.1, y.2.2) := hw
  exact Tre.wp_mono (fun _ h => h) hw'
 | o :: a, c, i, fr, h, Q, hw => by
  have go : ∀ fr, ((dop E fn ops (base + i * qay) o fr h).bind fun r => (drun E fn ops base (i + 1) a (putT fr r.dst r.val) (qaw h r.ws)).bind fun x => .ok (r :: x.1, x.2.1, x.2.2)).wp (fun x => (drun E fn ops base (i + (a.length + 1)) c x.2.1 x.2.2).wp fun y => Q (x.1 ++ y.1, y.2.1, y.2.2)) →
    ((dop E fn ops (base + i * qay) o fr h).bind fun r => (drun E fn ops base (i + 1) (a ++ c) (putT fr r.dst r.val) (qaw h r.ws)).bind fun x => .ok (r :: x.1, x.2.1, x.2.2)).wp Q := fun fr h1 => by
   rw [Tre.wp_bind] at h1 ⊢
   refine Tre.wp_mono (fun r h2 => ?_) h1
   rw [Tre.wp_bind] at h2 ⊢
   refine drun_append a (Tre.wp_mono (fun x h3 => ?_) h2)
   have h4 : (drun E fn ops base (i + 1 + a.length) c x.2.1 x.2.2).wp fun y => Q (r :: x.1 ++ y.1, y.2.1, y.2.2) := by
    rw [show i + 1 + a.length = i + (a.length + 1) by omega]; exact h3
   exact h4
  have hw' : (decideT fr (guardT ops o) fun fr => (dop E fn ops (base + i * qay) o fr h).bind fun r => (drun E fn ops base (i + 1) a (putT fr r.dst r.val) (qaw h r.ws)).bind fun x => .ok (r :: x.1, x.2.1, x.2.2)).wp _ := hw
  exact decide_iff.2 (go _ (decide_iff.1 hw'))
theorem lget_putT {fr : List AV} {d : Option Tmp} {a : AV} {u : Nat} (h : u ∉ d.toList) : lget (putT fr d a) u = lget fr u := by
 cases d with
 | none => rfl
 | some d =>
  have : d ≠ u := fun e => h (by simp [e])
  simp only [putT, lget, List.getD_eq_getElem?_getD, List.getElem?_set_ne this]
theorem dop_dst {E : Ctx} {fn : FuncId} {ops : Array Oper} {id : Nat} {o : Oper} {fr : List AV} {h : Heap} {Q : Rc → Prop} (hw : (dop E fn ops id o fr h).wp Q) : (dop E fn ops id o fr h).wp fun r => Q r ∧ r.dst = o.dst ∧ r.nm = names ops o := by
 have hc : ∀ {C : List Prop} {t : Tre Rc}, (t.wp Q → t.wp fun r => Q r ∧ r.dst = o.dst ∧ r.nm = names ops o) → (chks C t).wp Q → (chks C t).wp fun r => Q r ∧ r.dst = o.dst ∧ r.nm = names ops o := by
  intro C t ht
  induction C with
  | nil => exact ht
  | cons P l ih => exact fun h => ⟨h.1, fun hP => ih (h.2 hP)⟩
 have hd : ∀ {ro : Nat} {fm : List AV} {rd : List Nat} {hm : Heap}, (dval E ro id o (names ops o) fm rd hm).wp Q → (dval E ro id o (names ops o) fm rd hm).wp fun r => Q r ∧ r.dst = o.dst ∧ r.nm = names ops o := by
  intro ro fm rd hm hw
  revert hw
  unfold dval
  repeat' split
  all_goals intro hw
  all_goals first
   | exact hw.elim
   | exact ⟨fun e => ⟨hw.1 e, rfl, rfl⟩, fun e => ⟨hw.2 e, rfl, rfl⟩⟩
   | exact hc (fun h => ⟨h, rfl, rfl⟩) hw
 revert hw
 unfold dop
 dsimp only
 split
 ·exact hd
 ·split
  ·exact fun hw => hw.elim
  ·split
   ·split
    ·exact fun hw => ⟨fun e => hd (hw.1 e), fun e => ⟨hw.2 e, rfl, rfl⟩⟩
    ·exact fun hw => ⟨fun e => ⟨hw.1 e, rfl, rfl⟩, fun e => hd (hw.2 e)⟩
   ·exact fun hw => ⟨hw, rfl, rfl⟩
   ·exact fun hw => hw.elim
theorem drun_keep {E : Ctx} {fn : FuncId} {ops : Array Oper} {base : Nat} : ∀ (os : List Oper) {i : Nat} {fr : List AV} {h : Heap} {Q : DR → Prop},
  (drun E fn ops base i os fr h).wp Q → (drun E fn ops base i os fr h).wp fun x => Q x ∧ (∀ u, u ∉ dsts os → lget x.2.1 u = lget fr u) ∧ x.2.1.length = fr.length
 | [], _, _, _, _, hw => ⟨hw, fun _ _ => rfl, rfl⟩
 | o :: os, i, fr, h, Q, hw => by
  have go : ∀ fr, ((dop E fn ops (base + i * qay) o fr h).bind fun r => (drun E fn ops base (i + 1) os (putT fr r.dst r.val) (qaw h r.ws)).bind fun x => .ok (r :: x.1, x.2.1, x.2.2)).wp Q →
    ((dop E fn ops (base + i * qay) o fr h).bind fun r => (drun E fn ops base (i + 1) os (putT fr r.dst r.val) (qaw h r.ws)).bind fun x => .ok (r :: x.1, x.2.1, x.2.2)).wp (fun x => Q x ∧ (∀ u, u ∉ dsts (o :: os) → lget x.2.1 u = lget fr u) ∧ x.2.1.length = fr.length) := fun fr h1 => by
   rw [Tre.wp_bind] at h1 ⊢
   refine Tre.wp_mono (fun r h2 => ?_) (dop_dst h1)
   obtain ⟨h2, hd, _⟩ := h2
   rw [Tre.wp_bind] at h2 ⊢
   refine Tre.wp_mono (fun x h3 => ?_) (drun_keep os h2)
   refine ⟨h3.1, fun u hu => ?_, by rw [h3.2.2]; cases r.dst <;> simp [putT]⟩
   have hu' : u ∉ o.dst.toList ∧ u ∉ dsts os := by
    unfold dsts at hu
    exact ⟨fun h => hu (List.mem_append_left _ h), fun h => hu (List.mem_append_right _ h)⟩
   rw [h3.2.1 u hu'.2, lget_putT (by rw [hd]; exact hu'.1)]
  have hw' : (decideT fr (guardT ops o) fun fr => (dop E fn ops (base + i * qay) o fr h).bind fun r => (drun E fn ops base (i + 1) os (putT fr r.dst r.val) (qaw h r.ws)).bind fun x => .ok (r :: x.1, x.2.1, x.2.2)).wp Q := hw
  exact decide_iff.2 (go _ (decide_iff.1 hw'))
def RcLe (x m : Rc) : Prop := x.dst = m.dst ∧ x.nm = m.nm ∧ x.ws = m.ws ∧ (∀ u ∈ x.rd, u ∈ m.rd) ∧ (m.call = true → x.call = true ∧ x.val = m.val)
inductive RcsLe : List Rc → List Rc → Prop where
 | nil : RcsLe [] []
 | cons {x m xs ms} : RcLe x m → RcsLe xs ms → RcsLe (x :: xs) (m :: ms)
theorem RcLe.refl (x : Rc) : RcLe x x := ⟨rfl, rfl, rfl, fun _ h => h, fun h => ⟨h, rfl⟩⟩
theorem RcsLe.append {a b c d : List Rc} (h : RcsLe a b) (h' : RcsLe c d) : RcsLe (a ++ c) (b ++ d) := by
 induction h with
 | nil => exact h'
 | cons h _ ih => exact .cons h ih
def RcsOf (ops : Array Oper) : List Oper → List Rc → Prop
 | [], [] => True
 | o :: os, m :: ms => m.dst = o.dst ∧ m.nm = names ops o ∧ m.ws = [] ∧ RcsOf ops os ms
 | _, _ => False
theorem RcsOf.append {ops : Array Oper} : ∀ {a b : List Oper} {l m : List Rc}, RcsOf ops a l → RcsOf ops b m → RcsOf ops (a ++ b) (l ++ m)
 | [], _, [], _, _, h => h
 | _ :: _, _, _ :: _, _, h, h' => ⟨h.1, h.2.1, h.2.2.1, h.2.2.2.append h'⟩
 | [], _, _ :: _, _, h, _ => h.elim
 | _ :: _, _, [], _, h, _ => h.elim
theorem join_of {ops : Array Oper} : ∀ {os : List Oper} {l m : List Rc}, RcsOf ops os l → RcsOf ops os m → RcsOf ops os (joinRc l m)
 | [], [], [], _, _ => trivial
 | _ :: _, _ :: _, _ :: _, h, h' => ⟨h.1, h.2.1, rfl, join_of h.2.2.2 h'.2.2.2⟩
 | [], _ :: _, _, h, _ => h.elim
 | [], [], _ :: _, _, h => h.elim
 | _ :: _, [], _, h, _ => h.elim
 | _ :: _, _ :: _, [], _, h => h.elim
theorem join_le1 {ops : Array Oper} : ∀ {os : List Oper} {x l m : List Rc}, RcsOf ops os l → RcsOf ops os m → RcsLe x l → RcsLe x (joinRc l m)
 | [], _, [], [], _, _, h => h
 | _ :: _, _, _ :: _, _ :: _, h, h', .cons h1 h2 => .cons ⟨h1.1, h1.2.1, h1.2.2.1.trans h.2.2.1, fun u hu => List.mem_append_left _ (h1.2.2.2.1 u hu), fun h => Bool.noConfusion h⟩ (join_le1 h.2.2.2 h'.2.2.2 h2)
 | [], _, _ :: _, _, h, _, _ => h.elim
 | [], _, [], _ :: _, _, h, _ => h.elim
 | _ :: _, _, [], _, h, _, _ => h.elim
 | _ :: _, _, _ :: _, [], _, h, _ => h.elim
theorem join_le2 {ops : Array Oper} : ∀ {os : List Oper} {x l m : List Rc}, RcsOf ops os l → RcsOf ops os m → RcsLe x m → RcsLe x (joinRc l m)
 | [], _, [], [], _, _, h => h
 | _ :: _, _, _ :: _, _ :: _, h, h', .cons h1 h2 => .cons ⟨h1.1.trans (h'.1.trans h.1.symm), h1.2.1.trans (h'.2.1.trans h.2.1.symm), h1.2.2.1.trans h'.2.2.1, fun u hu => List.mem_append_right _ (h1.2.2.2.1 u hu), fun h => Bool.noConfusion h⟩ (join_le2 h.2.2.2 h'.2.2.2 h2)
 | [], _, _ :: _, _, h, _, _ => h.elim
 | [], _, [], _ :: _, _, h, _ => h.elim
 | _ :: _, _, [], _, h, _, _ => h.elim
 | _ :: _, _, _ :: _, [], _, h, _ => h.elim
theorem mergeT_inv {g : Grp} {F : List Nat} {fr : List AV} {A B : Option FRes} {C : List Prop} {rs : List Rc} {fr2 : List AV} {F2 : List Nat} (h : mergeT g F fr A B = some (C, rs, fr2, F2)) :
  ∃ C1 r1 f1 F1 C2 r2 f2 F3 v, A = some ⟨C1, r1, f1, F1⟩ ∧ B = some ⟨C2, r2, f2, F3⟩ ∧ joinV g.b (lget f1 g.d) (lget f2 g.d) = some v ∧ g.d < fr.length ∧ C = whenP g.b true C1 ++ whenP g.b false C2 ∧ rs = joinRc r1 r2 ∧ fr2 = (forgetF (dsts g.p) fr).set g.d v ∧ F2 = dsts g.p ++ F := by
 unfold mergeT at h
 split at h
 ·rename_i C1 r1 f1 F1 C2 r2 f2 F3
  split at h
  ·rename_i v hv hd
   simp at h
   obtain ⟨rfl, rfl, rfl, rfl⟩ := h
   exact ⟨C1, r1, f1, F1, C2, r2, f2, F3, v, rfl, rfl, hv, of_decide_eq_true hd, rfl, rfl, rfl, rfl⟩
  ·cases h
 ·cases h
theorem group_split {o : Oper} {os : List Oper} {g : Grp} (h : o :: os = g.p ++ g.x :: g.r) : o :: os = (g.p ++ [g.x]) ++ g.r := by rw [h, List.append_assoc]; rfl
section
variable {E : Ctx} {fn : FuncId} {ops : Array Oper} {base : Nat} {l : List Nat} {h : Heap}
theorem drunF_rcs : ∀ (n : Nat) {ex F : List Nat} {i : Nat} {os : List Oper} {fr : List AV} {res : FRes}, drunF E fn ops base l h n ex F i os fr = some res → RcsOf ops os res.rs
 | 0, _, _, _, _, _, _, hr => by simp [drunF] at hr
 | _ + 1, _, _, _, [], _, res, hr => by
  simp [drunF] at hr
  subst hr
  trivial
 | n + 1, ex, F, i, o :: os, fr, res, hr => by
  unfold drunF at hr
  split at hr
  ·rename_i g hg
   obtain ⟨_, hsp, _⟩ := mgroup_eq hg
   split at hr
   ·rename_i C rs fr2 F2 hm
    obtain ⟨C1, r1, f1, F1, C2, r2, f2, F3, v, hA, hB, _, _, _, rfl, _, _⟩ := mergeT_inv hm
    split at hr
    ·rename_i C' rs' fr' F' hn
     simp at hr
     subst hr
     rw [group_split hsp]
     exact (join_of (drunF_rcs n hA) (drunF_rcs n hB)).append (drunF_rcs n hn)
    ·cases hr
   ·cases hr
  ·split at hr
   ·cases hr
   ·split at hr
    ·rename_i C q hq
     split at hr
     ·split at hr
      ·rename_i C' rs fr' F' hn
       simp at hr
       subst hr
       exact ⟨rfl, rfl, rfl, drunF_rcs n hn⟩
      ·cases hr
     ·cases hr
    ·cases hr
theorem lget_forget {u : Nat} : ∀ {l : List Nat} {fr : List AV}, (u ∈ l → lget (forgetF l fr) u = .bad) ∧ (u ∉ l → lget (forgetF l fr) u = lget fr u) ∧ (forgetF l fr).length = fr.length
 | [], fr => ⟨fun h => (by cases h), fun _ => rfl, rfl⟩
 | t :: l, fr => by
  have ih := lget_forget (u := u) (l := l) (fr := fr.set t .bad)
  unfold forgetF
  have hs : t = u → lget (fr.set t .bad) u = .bad := fun e => by
   subst e
   simp only [lget, List.getD_eq_getElem?_getD]
   rcases Nat.lt_or_ge t fr.length with h1 | h1
   ·rw [List.getElem?_set_self h1]; rfl
   ·rw [List.getElem?_eq_none (by simpa using h1)]; rfl
  have hn : t ≠ u → lget (fr.set t .bad) u = lget fr u := fun e => by simp only [lget, List.getD_eq_getElem?_getD, List.getElem?_set_ne e]
  refine ⟨fun hu => ?_, fun hu => ?_, by rw [ih.2.2, List.length_set]⟩
  ·by_cases hl : u ∈ l
   ·exact ih.1 hl
   ·rw [ih.2.1 hl]
    exact hs ((List.mem_cons.1 hu).elim Eq.symm fun h => absurd h hl)
  ·rw [ih.2.1 fun h => hu (List.mem_cons_of_mem _ h)]
   exact hn fun e => hu (e ▸ List.mem_cons_self)
def FOk (E : Ctx) (fn : FuncId) (ops : Array Oper) (base : Nat) (h : Heap) (F : List Nat) (i : Nat) (os : List Oper) (fr : List AV) (res : FRes) : Prop :=
 AllP res.C → ∀ fr', Ag F fr fr' → (drun E fn ops base i os fr' h).wp fun x => RcsLe x.1 res.rs ∧ Ag res.F res.fr x.2.1 ∧ x.2.2 = h
theorem Ag.set1 {F : List Nat} {fr fr' : List AV} (ha : Ag F fr fr') {t : Nat} {b v : Bool} (h : lget fr t = .val (.bool b)) (e : b = v) : Ag F (fr.set t (abool v)) fr' := by
 rw [set_lget (a := abool v) (by rw [h, e]; rfl) (by simp [abool])]
 exact ha
theorem join_v {b : Bool} {a c v : AV} (h : joinV b a c = some v) : (b = true → v = a ∧ a ≠ .bad) ∧ (b = false → v = c ∧ c ≠ .bad) := by
 unfold joinV at h
 split at h
 ·simp at h
  subst h
  constructor
  ·intro e
   subst e
   exact ⟨rfl, by simp⟩
  ·intro e
   subst e
   exact ⟨rfl, by simp⟩
 ·cases h
theorem merge_ok {g : Grp} {o : Oper} {os : List Oper} {ex ex' F : List Nat} {i n : Nat} {fr fr' : List AV} {C : List Prop} {rs : List Rc} {fr2 : List AV} {F2 : List Nat} (hg : mgroup l ops o os fr ex = some g)
  (hm : mergeT g F fr (drunF E fn ops base l h n ex' F i (g.p ++ [g.x]) (fr.set g.t (abool true))) (drunF E fn ops base l h n ex' F i (g.p ++ [g.x]) (fr.set g.t (abool false))) = some (C, rs, fr2, F2))
  (ih : ∀ {v res}, drunF E fn ops base l h n ex' F i (g.p ++ [g.x]) (fr.set g.t (abool v)) = some res → FOk E fn ops base h F i (g.p ++ [g.x]) (fr.set g.t (abool v)) res)
  (hC : AllP C) (ha : Ag F fr fr') : (drun E fn ops base i (g.p ++ [g.x]) fr' h).wp fun x => RcsLe x.1 rs ∧ Ag F2 fr2 x.2.1 ∧ x.2.2 = h := by
 obtain ⟨ht, _, hxd⟩ := mgroup_eq hg
 obtain ⟨C1, r1, f1, F1, C2, r2, f2, F3, v, hA, hB, hv, hlt, rfl, rfl, rfl, rfl⟩ := mergeT_inv hm
 obtain ⟨hC1, hC2⟩ := AllP.append.1 hC
 have hjv := join_v hv
 have hR1 := drunF_rcs n hA
 have hR2 := drunF_rcs n hB
 have fin : ∀ {f : List AV} {Fx : List Nat} {y : List AV}, v = lget f g.d → lget f g.d ≠ .bad → Ag Fx f y → (∀ u, u ∉ dsts (g.p ++ [g.x]) → lget y u = lget fr' u) → fr.length = y.length → Ag (dsts g.p ++ F) ((forgetF (dsts g.p) fr).set g.d v) y := by
  intro f Fx y hvv hnb hf hk hlen
  refine ⟨by rw [List.length_set, lget_forget (u := 0).2.2, hlen], fun u => ?_⟩
  by_cases hd : u = g.d
  ·left
   have hl : g.d < (forgetF (dsts g.p) fr).length := by rw [lget_forget (u := 0).2.2]; exact hlt
   have e1 : lget ((forgetF (dsts g.p) fr).set g.d v) g.d = v := by
    simp only [lget, List.getD_eq_getElem?_getD, List.getElem?_set_self hl]; rfl
   rw [hd, e1, hvv]
   rcases hf.2 g.d with h1 | h1
   ·exact h1
   ·exact absurd h1.1 hnb
  ·have e1 : lget ((forgetF (dsts g.p) fr).set g.d v) u = lget (forgetF (dsts g.p) fr) u := by
    simp only [lget, List.getD_eq_getElem?_getD, List.getElem?_set_ne (Ne.symm hd)]
   rw [e1]
   by_cases hu : u ∈ dsts g.p
   ·right
    exact ⟨lget_forget.1 hu, List.mem_append_left _ hu⟩
   ·rw [lget_forget.2.1 hu]
    have hu2 : u ∉ dsts (g.p ++ [g.x]) := by
     have hds : ∀ (a : List Oper) (b : List Oper), dsts (a ++ b) = dsts a ++ dsts b := fun a b => by
      induction a with
      | nil => rfl
      | cons o a ih => simp only [List.cons_append, dsts, ih, List.append_assoc]
     rw [hds]
     intro hmem
     rcases List.mem_append.1 hmem with h1 | h1
     ·exact hu h1
     ·simp [dsts, hxd] at h1
      exact hd h1
    rw [hk u hu2]
    rcases ha.2 u with h1 | h1
    ·exact .inl h1
    ·exact .inr ⟨h1.1, List.mem_append_right _ h1.2⟩
 cases hb : g.b
 ·have hw := ih hB (whenP_all hC2 hb) fr' (ha.set1 ht hb)
  refine Tre.wp_mono (fun x hx => ?_) (drun_keep _ hw)
  obtain ⟨⟨q1, q2, q3⟩, q4, q5⟩ := hx
  obtain ⟨e1, e2⟩ := hjv.2 hb
  refine ⟨join_le2 hR1 hR2 q1, fin e1 e2 q2 q4 (ha.1.trans q5.symm), q3⟩
 ·have hw := ih hA (whenP_all hC1 hb) fr' (ha.set1 ht hb)
  refine Tre.wp_mono (fun x hx => ?_) (drun_keep _ hw)
  obtain ⟨⟨q1, q2, q3⟩, q4, q5⟩ := hx
  obtain ⟨e1, e2⟩ := hjv.1 hb
  refine ⟨join_le1 hR1 hR2 q1, fin e1 e2 q2 q4 (ha.1.trans q5.symm), q3⟩
theorem drunF_ok : ∀ (n : Nat) {ex F : List Nat} {i : Nat} {os : List Oper} {fr : List AV} {res : FRes}, drunF E fn ops base l h n ex F i os fr = some res → FOk E fn ops base h F i os fr res
 | 0, _, _, _, _, _, _, hr => by simp [drunF] at hr
 | _ + 1, _, _, _, [], _, res, hr => by
  simp [drunF] at hr
  subst hr
  exact fun _ fr' ha => ⟨.nil, ha, rfl⟩
 | n + 1, ex, F, i, o :: os, fr, res, hr => by
  unfold drunF at hr
  split at hr
  ·rename_i g hg
   obtain ⟨_, hsp, _⟩ := mgroup_eq hg
   split at hr
   ·rename_i C rs fr2 F2 hm
    split at hr
    ·rename_i C' rs' fr3 F3 hn
     simp at hr
     subst hr
     intro hC fr' ha
     obtain ⟨hC1, hC2⟩ := AllP.append.1 hC
     rw [group_split hsp]
     refine drun_append _ (Tre.wp_mono (fun x hx => ?_) (merge_ok hg hm (fun h => drunF_ok n h) hC1 ha))
     have h2 := drunF_ok n hn hC2 x.2.1 hx.2.1
     rw [show i + g.p.length + 1 = i + (g.p ++ [g.x]).length by simp; omega] at h2
     rw [hx.2.2]
     exact Tre.wp_mono (fun y hy => ⟨hx.1.append hy.1, hy.2.1, hy.2.2⟩) h2
    ·cases hr
   ·cases hr
  ·split at hr
   ·cases hr
   ·rename_i hmt
    split at hr
    ·rename_i C q hq
     split at hr
     ·rename_i hws
      split at hr
      ·rename_i C' rs fr2 F' hn
       simp at hr
       subst hr
       intro hC fr' ha
       obtain ⟨hC1, hC2⟩ := AllP.append.1 hC
       refine decide_iff.2 ?_
       rw [Tre.wp_bind]
       rw [dop_congr ha hmt] at hq
       refine Tre.wp_mono (fun r hr => ?_) (dop_dst (flat_wp (Q := fun r => r = q) hq hC1 rfl))
       obtain ⟨rfl, hd, hnm⟩ := hr
       rw [Tre.wp_bind, hws, hd]
       refine Tre.wp_mono (fun x hx => ?_) (drunF_ok n hn hC2 _ (ha.put o.dst r.val))
       exact ⟨.cons ⟨hd, hnm, hws, fun _ h => h, fun h => ⟨h, rfl⟩⟩ hx.1, hx.2.1, hx.2.2⟩
      ·cases hr
     ·cases hr
    ·cases hr
end
theorem drunM_ok {E : Ctx} {fn : FuncId} {ops : Array Oper} {base : Nat} {l : List Nat} {Q : DR → Prop} : ∀ (n : Nat) {F : List Nat} {i : Nat} {os : List Oper} {fr fr' : List AV} {h : Heap} {P : DR → Prop},
  (drunM E fn ops base l n F i os fr h).wp P → Ag F fr fr' → (drun E fn ops base i os fr' h).wp fun x => ∃ xm F', P xm ∧ RcsLe x.1 xm.1 ∧ Ag F' xm.2.1 x.2.1 ∧ x.2.2 = xm.2.2
 | 0, _, _, _, _, _, _, _, hw, _ => by simp [drunM] at hw; exact hw.elim
 | _ + 1, F, _, [], fr, fr', h, P, hw, ha => by
  have hw' : P ([], fr, h) := by simp only [drunM] at hw; exact hw
  exact ⟨_, F, hw', .nil, ha, rfl⟩
 | n + 1, F, i, o :: os, fr, fr', h, P, hw, ha => by
  unfold drunM at hw
  split at hw
  ·rename_i g hg
   obtain ⟨_, hsp, _⟩ := mgroup_eq hg
   split at hw
   ·rename_i C rs fr2 F2 hm
    obtain ⟨hC, hw⟩ := qha hw
    rw [Tre.wp_bind] at hw
    rw [group_split hsp]
    refine drun_append _ (Tre.wp_mono (fun x hx => ?_) (merge_ok hg hm (fun h => drunF_ok n h) hC ha))
    have h2 := drunM_ok (Q := Q) n hw hx.2.1
    rw [show i + g.p.length + 1 = i + (g.p ++ [g.x]).length by simp; omega] at h2
    rw [hx.2.2]
    refine Tre.wp_mono (fun y hy => ?_) h2
    obtain ⟨xm, F', h3, h4, h5, h6⟩ := hy
    exact ⟨_, F', h3, hx.1.append h4, h5, h6⟩
   ·exact hw.elim
  ·split at hw
   ·exact hw.elim
   ·rename_i hmt
    refine decide_iff.2 ?_
    have hw := decide_iff.1 hw
    rw [Tre.wp_bind] at hw ⊢
    rw [dop_congr ha hmt] at hw
    refine Tre.wp_mono (fun r hr => ?_) hw
    rw [Tre.wp_bind] at hr ⊢
    refine Tre.wp_mono (fun x hx => ?_) (drunM_ok (Q := Q) n hr (ha.put r.dst r.val))
    obtain ⟨xm, F', h3, h4, h5, h6⟩ := hx
    exact ⟨_, F', h3, .cons (.refl r) h4, h5, h6⟩
theorem meets_mono {a a' b b' : List Nat} (ha : ∀ u ∈ a, u ∈ a') (hb : ∀ u ∈ b, u ∈ b') (h : meets a b = true) : meets a' b' = true := by
 unfold meets at h ⊢
 obtain ⟨u, hu, hm⟩ := List.any_eq_true.1 h
 exact List.any_eq_true.2 ⟨u, ha u hu, List.contains_iff_mem.2 (hb u (List.contains_iff_mem.1 hm))⟩
theorem conf_mono {a a' b b' : Rc} (ha : RcLe a a') (hb : RcLe b b') (h : conf a b = true) : conf a' b' = true := by
 unfold conf wrs at h ⊢
 simp only [Bool.or_eq_true] at h ⊢
 rw [← ha.1, ← hb.1, ← ha.2.1, ← hb.2.1, ← ha.2.2.1, ← hb.2.2.1]
 have happ : ∀ {x y z : List Nat}, (∀ u ∈ y, u ∈ z) → ∀ u ∈ x ++ y, u ∈ x ++ z := fun hyz u hu => (List.mem_append.1 hu).elim (fun h => List.mem_append_left _ h) (fun h => List.mem_append_right _ (hyz u h))
 rcases h with ((h | h) | h) | h
 ·exact .inl (.inl (.inl h))
 ·exact .inl (.inl (.inr h))
 ·exact .inl (.inr (meets_mono (fun _ h => h) (happ hb.2.2.2.1) h))
 ·exact .inr (meets_mono (fun _ h => h) (happ ha.2.2.2.1) h)
theorem okAgainst_mono {anc : List Nat} {r r' : Rc} (hr : RcLe r r') : ∀ {qs qs' : List Rc} {i : Nat}, RcsLe qs qs' → okAgainst anc r' i qs' = true → okAgainst anc r i qs = true
 | [], _, _, .nil, _ => rfl
 | q :: qs, q' :: qs', i, .cons h hs, hk => by
  unfold okAgainst at hk ⊢
  simp only [Bool.and_eq_true, Bool.or_eq_true, Bool.not_eq_true'] at hk ⊢
  refine ⟨hk.1.imp (fun h1 => ?_) id, okAgainst_mono hr hs hk.2⟩
  cases hc : conf q r
  ·rfl
  ·rw [conf_mono h hr hc] at h1
   exact h1
theorem okAll_mono {A : List (List Nat)} : ∀ {rs rs' : List Rc} {j : Nat} {d d' : List Rc}, RcsLe rs rs' → RcsLe d d' → okAll A j d' rs' = true → okAll A j d rs = true
 | [], _, _, _, _, .nil, _, _ => rfl
 | r :: rs, r' :: rs', j, d, d', .cons h hs, hd, hk => by
  unfold okAll at hk ⊢
  simp only [Bool.and_eq_true] at hk ⊢
  exact ⟨okAgainst_mono h hd hk.1, okAll_mono hs (hd.append (.cons h .nil)) hk.2⟩
theorem tells_mono : ∀ {rs rs' : List Rc}, RcsLe rs rs' → AllP (tells rs) → AllP (tells rs')
 | [], _, .nil, _ => trivial
 | r :: rs, r' :: rs', .cons h hs, hk => by
  unfold tells at hk ⊢
  cases hc : r'.call
  ·rw [if_neg (by simp)]
   refine tells_mono hs ?_
   split at hk
   ·exact hk.2
   ·exact hk
  ·obtain ⟨h1, h2⟩ := h.2.2.2.2 hc
   rw [if_pos h1] at hk
   rw [if_pos rfl, ← h2]
   exact ⟨hk.1, tells_mono hs hk.2⟩
theorem VRs.weak {w : World} {Z : Nat → Prop} {γ : Gst} {F : List Nat} {fr fr' : List AV} {vs : List Value} (ha : Ag F fr fr') (h : VRs w Z γ fr' vs) : VRs w Z γ fr vs := by
 refine ⟨ha.1.trans h.1, fun j a v hj hv => ?_⟩
 rcases ha.2 j with h1 | ⟨h1, _⟩
 ·have hl : j < fr.length := (List.getElem?_eq_some_iff.1 hj).1
  have hl' : j < fr'.length := ha.1 ▸ hl
  refine h.2 j a v ?_ hv
  unfold lget at h1
  rw [List.getD_eq_getElem?_getD, List.getD_eq_getElem?_getD, hj, List.getElem?_eq_getElem hl'] at h1
  rw [List.getElem?_eq_getElem hl']
  exact congrArg some h1.symm
 ·unfold lget at h1
  rw [List.getD_eq_getElem?_getD, hj] at h1
  rw [show a = .bad from h1]
  exact .bad v
theorem adrawM_adraw {E : Ctx} {fn : FuncId} {ops : Array Oper} {m : Nat} {l : List Nat} {fr : List AV} {h : Heap} {nx : Nat} {Q : DR → Prop} (hw : (adrawM E fn ops m l fr h nx).wp Q) : (adraw0 E fn ops m fr h nx).wp fun x => ∃ xm F, Q xm ∧ RcsLe x.1 xm.1 ∧ Ag F xm.2.1 x.2.1 ∧ x.2.2 = xm.2.2 := by
 unfold adrawM at hw
 unfold adraw0
 split at hw
 ·rename_i A hA
  (try rw [hA])
  (try dsimp only)
  split at hw
  ·rename_i hc
   rw [if_pos hc]
   rw [Tre.wp_bind] at hw ⊢
   refine Tre.wp_mono (fun x hx => ?_) (drunM_ok (Q := Q) _ hw (F := []) (fr' := fr) ⟨rfl, fun u => .inl rfl⟩)
   obtain ⟨xm, F, h1, h2, h3, h4⟩ := hx
   split at h1
   ·rename_i hk
    rw [if_pos (okAll_mono h2 .nil hk)]
    exact ⟨xm, F, h1, h2, h3, h4⟩
   ·exact h1.elim
  ·exact hw.elim
 ·exact hw.elim
section
variable {P : Program} {E : Ctx} {w w' w0 : World} {Z Z' : Nat → Prop} {K : Kp} {own own' : Own} {γ γ' : Gst} {h h' H : Heap} {used used' : Nat → Prop} {s d id nx : Nat} {A B : AV} {v V U : Value} {cs ds : List AV} {vs us : List Value} {F fr fm : List AV} {a : Act} {fn : FuncId} {ops : Array Oper} {r : Rc} {rs : List Rc} {AA : List (List Nat)} {listed : Array Bool} {m : Nat}
theorem drun_text (hE : EOK E) {b : Frame} {k : List Item} {fs : List Frame} {nx : Nat} {rest : List Nat} : ∀ (os : List Oper) (i : Nat) {fr : List AV} {h : Heap} {a : Act} {w : World} {Z : Nat → Prop} {own : Own} {γ : Gst} {Q : DR → Prop}, (∀ (j : Nat) o, os[j]? = some o → ops[i + j]? = some o) →
  (drun E fn ops nx i os fr h).wp Q → MemR w0 K w Z own γ h (fun s => s < nx + i * qay) → GlR E w Z → VRs w Z γ fr a.tmps.toList →
  ∃ x, Q x ∧ AllP (tells x.1) ∧ ∃ a' w' Z' own' γ', a'.defers = a.defers ∧ VRs w' Z' γ' x.2.1 a'.tmps.toList ∧ Stay w Z w' Z' ∧ γ.Le γ' ∧ MemR w0 K w' Z' own' γ' x.2.2 (fun s => s < nx + (i + os.length) * qay) ∧
   Steps E.P (lone (b.at a (.inRegion ops (List.range' i os.length ++ rest) :: k)) fs w) (lone (b.at a' (.inRegion ops rest :: k)) fs w')
 | [], i, fr, h, a, w, Z, own, γ, Q, _, hw, hm, hg, hf => ⟨([], fr, h), hw, trivial, a, w, Z, own, γ, rfl, hf, Stay.refl _ _, Gst.Le.refl _, hm, Steps.refl _ _⟩
 | o :: os, i, fr, h, a, w, Z, own, γ, Q, ho, hw, hm, hg, hf => by
  have hw := decideT_wp (show (decideT fr (guardT ops o) fun fr => (dop E fn ops (nx + i * qay) o fr h).bind fun r => (drun E fn ops nx (i + 1) os (putT fr r.dst r.val) (qaw h r.ws)).bind fun x => .ok (r :: x.1, x.2.1, x.2.2)).wp Q from hw)
  rw [Tre.wp_bind] at hw
  obtain ⟨r, h1, h2⟩ := Tre.resolve dop_det hw
  rw [Tre.wp_bind] at h2
  obtain ⟨v, w1, Z1, own1, γ1, D, hs⟩ := dok_run (used' := fun s => s < nx + (i + 1) * qay) (b := b) (k := k) (fs := fs) (rest := List.range' (i + 1) os.length ++ rest) hE hm hg hf h1 (ho 0 o rfl) (fun j _ => by omega) (fun s h => by simp only [qay] at *; omega) (fun j hj => by simp only [qay]; omega)
  have hle := D.ext.le hm.fresh
  obtain ⟨x, q0, qt, a', w', Z', own', γ', q1, q2, q3, q4, q5, q6⟩ := drun_text hE os (i + 1) (a := a.put r.dst v) (fun j q hj => by
   have := ho (j + 1) q (by simpa using hj)
   rw [show i + 1 + j = i + (j + 1) by omega]
   exact this) h2 D.mem (hg.mono D.stay) ((hf.mono D.stay hle).putT r.dst D.val)
  have hok : okAV r.val := D.val.ok
  refine ⟨_, q0, ?_, a', w', Z', own', γ', q1.trans ?_, q2, D.stay.trans q3, hle.trans q4, ?_, hs.trans q6⟩
  ·show AllP (tells (r :: x.1))
   unfold tells
   split
   ·exact ⟨hok, qt⟩
   ·exact qt
  ·cases r.dst <;> rfl
  ·rw [show i + (o :: os).length = i + 1 + os.length by simp; omega]
   exact q5
theorem dtext_sound (hE : EOK E) (hm : MemR w0 K w Z own γ h (fun s => s < nx)) (hg : GlR E w Z) (hf : VRs w Z γ fr a.tmps.toList) {l : List Nat} {Q : DR → Prop} (he : (drunM E fn ops nx l 4000 [] 0 ops.toList fr h).wp Q)
  (b : Frame) (k : List Item) (fs : List Frame) : ∃ x, Q x ∧ AllP (tells x.1) ∧ ∃ a' w' Z' own' γ', a'.defers = a.defers ∧ VRs w' Z' γ' x.2.1 a'.tmps.toList ∧ Stay w Z w' Z' ∧ γ.Le γ' ∧ MemR w0 K w' Z' own' γ' x.2.2 (fun s => s < nx + ops.size * qay) ∧
   Steps E.P (lone (b.at a (.inRegion ops (List.range ops.size) :: k)) fs w) (lone (b.at a' (.inRegion ops [] :: k)) fs w') := by
 have h0 := drunM_ok (Q := Q) _ he (F := []) (fr' := fr) ⟨rfl, fun u => .inl rfl⟩
 obtain ⟨x, ⟨xm, F, h1, h2, h3, h4⟩, ht, a', w', Z', own', γ', q1, q2, q3, q4, q5, q6⟩ := drun_text hE (b := b) (k := k) (fs := fs) (rest := []) ops.toList 0 (a := a) (fun j o ho => by rw [Nat.zero_add]; simpa using ho) h0 (by rw [Nat.zero_mul]; exact hm) hg hf
 refine ⟨xm, h1, tells_mono h2 ht, a', w', Z', own', γ', q1, q2.weak h3, q3, q4, ?_, ?_⟩
 ·rw [← h4]
  rw [Nat.zero_add, Array.length_toList] at q5
  exact q5
 ·rw [List.append_nil, Array.length_toList, ← List.range_eq_range'] at q6
  exact q6
theorem adraw_sound (hE : EOK E) (hm : MemR w0 K w Z own γ h (fun s => s < nx)) (hg : GlR E w Z) (hf : VRs w Z γ fr a.tmps.toList) {Q : List Rc × List AV × Heap → Prop} (he : (adraw E fn ops m fr h nx).wp Q)
  (b : Frame) (k : List Item) (fs : List Frame) (t : Nat) : ∃ x, Q x ∧ AllP (tells x.1) ∧ ∃ a' w' Z' own' γ', a'.defers = a.defers ∧ VRs w' Z' γ' x.2.1 a'.tmps.toList ∧ Stay w Z w' Z' ∧ γ.Le γ' ∧ MemR w0 K w' Z' own' γ' x.2.2 (fun s => s < nx + ops.size * qay) ∧
   Steps E.P (lone (b.at a (.inRegion ops (Region.linearise .any ops t) :: k)) fs w) (lone (b.at a' (.inRegion ops (restL ops.size m) :: k)) fs w') := by
 unfold adraw at he
 split at he
 ·exact adraw0_sound hE hm hg hf he b k fs t
 ·obtain ⟨x, ⟨xm, F, h1, h2, h3, h4⟩, ht, a', w', Z', own', γ', q1, q2, q3, q4, q5, q6⟩ := adraw0_sound hE hm hg hf (adrawM_adraw he) b k fs t
  exact ⟨xm, h1, tells_mono h2 ht, a', w', Z', own', γ', q1, q2.weak h3, q3, q4, h4 ▸ q5, q6⟩
end
end Go.BE
namespace Go.BE
open Go.RowKit
section
variable {E : Ctx} {w w' w0 : World} {Z Z' : Nat → Prop} {K : Kp} {own own' : Own} {γ γ' : Gst} {h h' : Heap} {a : Act} {as : List Act} {c : Cfg}
theorem astep_sound {base : List Frame} (hE : EOK E) (hS : StOK E w0 K c a as w Z own γ) {Q : Fin → Prop} (he : (astep E c).wp Q) : ∃ f, Q f ∧ FinOK E w0 K base c a as w Z f := by
 have hev : ∀ x, VR w Z γ (ev E c.cur.fr x) (a.eval x) := fun x => ev_rel' hS.gl hS.cur.tmps x
 unfold astep at he
 split at he
 ·rename_i ht
  exact leave_sound (todo := []) hE hS (fun fs => by simp only [mkF, ht]; exact .one step_end) he
 ·rename_i k ht
  exact leave_sound (todo := .code .ret :: k) hE hS (fun fs => by simp only [mkF, ht]; exact .one step_ret) he
 ·rename_i k ht
  exact qfl hS (fun fs => by simp only [mkF, ht]; exact step_skip) he
 ·rename_i l k ht
  exact qfl hS (fun fs => by simp only [mkF, ht]; exact step_label) he
 ·rename_i l k ht
  exact qfl hS (fun fs => by simp only [mkF, ht]; exact step_inBlock) he
 ·rename_i x y k ht
  exact qfl hS (fun fs => by simp only [mkF, ht]; exact step_seq) he
 ·rename_i x y z k ht
  split at he
  ·rename_i b hb
   have hv := asB_inv (hev x) hb
   cases hbb : b with
   | true =>
    refine ⟨_, he.1 hbb, a, as, w, Z, own, γ, ⟨⟨hS.cur.defers, ?_⟩, hS.callers, hS.mem, hS.gl⟩, Stay.refl _ _, by cases c.callers <;> rfl, ?_⟩
    ·show VRs w Z γ (setB c.cur.fr (opTmp x) true) _
     rw [setB_eq hb hbb]
     exact hS.cur.tmps
    ·rw [hbb] at hv
     simp only [mkF, ht]
     exact .one (step_cond hv)
   | false =>
    refine ⟨_, he.2 hbb, a, as, w, Z, own, γ, ⟨⟨hS.cur.defers, ?_⟩, hS.callers, hS.mem, hS.gl⟩, Stay.refl _ _, by cases c.callers <;> rfl, ?_⟩
    ·show VRs w Z γ (setB c.cur.fr (opTmp x) false) _
     rw [setB_eq hb hbb]
     exact hS.cur.tmps
    ·rw [hbb] at hv
     simp only [mkF, ht]
     exact .one (step_cond hv)
  ·exact he.elim
 ·rename_i l x k ht
  exact qfl hS (fun fs => by simp only [mkF, ht]; exact step_block) he
 ·rename_i x k ht
  exact qfl hS (fun fs => by simp only [mkF, ht]; exact step_loop) he
 ·rename_i x k ht
  exact qfl hS (fun fs => by simp only [mkF, ht]; exact step_inLoop) he
 ·rename_i l k ht
  split at he
  ·rename_i k' hk
   exact qfl hS (fun fs => by simp only [mkF, ht]; exact step_exit hk) he
  ·exact he.elim
 ·rename_i l ops k ht
  split at he
  ·rw [Tre.wp_bind] at he
   obtain ⟨x, hq, htl, a', w', Z', own', γ', q1, q2, q3, q4, q5, q6⟩ := dtext_sound hE hS.mem hS.gl hS.cur.tmps he (fb c.cur.fn) k (frs c.callers as ++ base)
   refine ⟨_, knows_wp htl hq, a', as, w', Z', own', γ', ⟨⟨q1.trans hS.cur.defers, q2⟩, hS.callers.mono q3 q4, q5, hS.gl.mono q3⟩, q3, by cases c.callers <;> rfl, ?_⟩
   refine .head ?_ (q6.trans (.one step_region_end))
   simp only [mkF, ht]
   exact step_region
  ·exact qfl hS (fun fs => by simp only [mkF, ht]; exact step_region) he
 ·rename_i l ops k ht
  have hst : Stay w Z { w with drawn := w.drawn + 1 } Z := ⟨fun _ _ => rfl, fun _ h => h⟩
  have hm : MemR w0 K { w with drawn := w.drawn + 1 } Z own γ c.h (fun s => s < c.nx) :=
   hS.mem.step hst (Gst.Ext.refl _ γ) (fun _ h => h) rfl rfl rfl (Nat.le_refl _) (fun _ => False) (fun _ _ _ => rfl) (fun _ _ ho _ => ho) (fun _ _ ho => .inl ⟨ho, fun h => h⟩) (fun b hb => ⟨hS.mem.zlt b hb, .inl hb⟩) (fun x R hg => .inl ⟨hg, fun h => h⟩) hS.mem.fresh
  have hst0 := step_region_draw (P := E.P) (b := fb c.cur.fn) (a := a) (k := k) (cs := frs c.callers as ++ base) (w := w) (ops := ops) (id := l)
  simp only [Region.schedule, hE.mixed, Bool.true_or, if_true] at hst0
  split at he
  ·rw [Tre.wp_bind] at he
   obtain ⟨x, hq, htl, a', w', Z', own', γ', q1, q2, q3, q4, q5, q6⟩ := adraw_sound hE hm (hS.gl.mono hst) (hS.cur.tmps.mono hst (Gst.Le.refl _)) he (fb c.cur.fn) k (frs c.callers as ++ base) (w.tape w.drawn (.order c.cur.fn l))
   refine ⟨_, knows_wp htl hq, a', as, w', Z', own', γ', ⟨⟨q1.trans hS.cur.defers, q2⟩, (hS.callers.mono hst (Gst.Le.refl _)).mono q3 q4, q5, (hS.gl.mono hst).mono q3⟩, hst.trans q3, by cases c.callers <;> rfl, ?_⟩
   refine .head ?_ (q6.trans ?_)
   ·simp only [mkF, ht]
    exact hst0
   ·unfold restL
    rw [if_pos rfl]
    exact .one step_region_end
  ·rw [Tre.wp_bind] at he
   obtain ⟨x, hq, htl, a', w', Z', own', γ', q1, q2, q3, q4, q5, q6⟩ := adraw_sound hE hm (hS.gl.mono hst) (hS.cur.tmps.mono hst (Gst.Le.refl _)) he (fb c.cur.fn) k (frs c.callers as ++ base) (w.tape w.drawn (.order c.cur.fn l))
   rename_i hlp
   have hpos : ops.size - 1 ≠ ops.size := by
    intro e
    have : ops.size = 0 := by omega
    unfold lastPan at hlp
    have hn : ops[ops.size - 1]? = none := Array.getElem?_eq_none (by omega)
    rw [hn] at hlp
    cases hlp
   refine ⟨_, knows_wp htl hq, a', as, w', Z', own', γ', ⟨⟨q1.trans hS.cur.defers, q2⟩, (hS.callers.mono hst (Gst.Le.refl _)).mono q3 q4, q5, (hS.gl.mono hst).mono q3⟩, hst.trans q3, by cases c.callers <;> rfl, ?_⟩
   unfold restL at q6
   rw [if_neg hpos] at q6
   refine .head ?_ q6
   simp only [mkF, ht]
   exact hst0
 ·rename_i ops k ht
  exact qfl hS (fun fs => by simp only [mkF, ht]; exact step_region_end) he
 ·rename_i ops i rest k ht
  split at he
  ·exact he.elim
  ·rename_i o ho
   split at he
   ·rename_i hg
    exact runOp_sound hE hS ht ho (by simp [Region.wanted, hg]) he
   ·rename_i j want hg
    split at he
    ·exact he.elim
    ·rename_i t hj
     split at he
     ·rename_i b hb
      have hbt := lget_val hS.cur.tmps hb
      rw [Array.getElem?_toList] at hbt
      have hset : ∀ d, b = d → c.cur.fr.set t (abool d) = c.cur.fr := fun d hd => lget_set_self (by rw [hb, hd]; rfl) (by simp [abool])
      have hcfg : ∀ d, b = d → ({ c with cur := { c.cur with fr := c.cur.fr.set t (abool d) } } : Cfg) = c := fun d hd => by rw [hset d hd]
      have hyes : ∀ d, b = d → d = want → (runOp E { c with cur := { c.cur with fr := c.cur.fr.set t (abool d) } } ops o rest k).wp Q → ∃ f, Q f ∧ FinOK E w0 K base c a as w Z f := fun d hd hw hr => by
       rw [hcfg d hd] at hr
       refine runOp_sound hE hS ht ho ?_ hr
       simp only [Region.wanted, hg, yielded_at hj, hbt, hd, hw]
       simp
      have hno : ∀ d, b = d → d ≠ want → Q (.at_ { c with cur := { c.cur with fr := c.cur.fr.set t (abool d) }.fin ops o.dst rest k und }) → ∃ f, Q f ∧ FinOK E w0 K base c a as w Z f := fun d hd hw hr => by
       have hw : ((ops[i]?).map (Region.wanted · (yielded ops a.tmps))).getD false = false := by
        simp only [ho, Option.map_some, Option.getD_some, Region.wanted, hg, yielded_at hj, hbt, hd]
        simpa using hw
       rw [hset d hd] at hr
       refine ⟨_, hr, a.put o.dst undef, as, w, Z, own, γ, ⟨hS.cur.fin (.cr (.val _ trivial)), hS.callers, hS.mem, hS.gl⟩, Stay.refl _ _, by cases c.callers <;> rfl, ?_⟩
       have := step_op_skip (P := E.P) (b := fb c.cur.fn) (a := a) (k := k) (cs := frs c.callers as ++ base) (w := w) (ops := ops) (i := i) (rest := rest) hw
       rw [ho] at this
       simp only [mkF, ht]
       exact .one this
      dsimp only at he
      split at he
      ·rename_i hwant
       cases hbb : b with
       | true => exact hyes true hbb hwant.symm (he.1 hbb)
       | false => exact hno false hbb (by rw [hwant]; simp) (he.2 hbb)
      ·rename_i hwant
       have hwant : want = false := by simpa using hwant
       cases hbb : b with
       | true => exact hno true hbb (by rw [hwant]; simp) (he.1 hbb)
       | false => exact hyes false hbb hwant.symm (he.2 hbb)
     ·rename_i vs hb
      have hbt := lget_val hS.cur.tmps hb
      rw [Array.getElem?_toList] at hbt
      have hw : ((ops[i]?).map (Region.wanted · (yielded ops a.tmps))).getD false = false := by
       simp only [ho, Option.map_some, Option.getD_some, Region.wanted, hg, yielded_at hj, hbt]
       rfl
      refine ⟨_, he, a.put o.dst undef, as, w, Z, own, γ, ⟨hS.cur.fin (.cr (.val _ trivial)), hS.callers, hS.mem, hS.gl⟩, Stay.refl _ _, by cases c.callers <;> rfl, ?_⟩
      have := step_op_skip (P := E.P) (b := fb c.cur.fn) (a := a) (k := k) (cs := frs c.callers as ++ base) (w := w) (ops := ops) (i := i) (rest := rest) hw
      rw [ho] at this
      simp only [mkF, ht]
      exact .one this
     ·exact he.elim
 ·exact he.elim
end
end Go.BE

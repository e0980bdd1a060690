/- A part of the proofs over this program: an abstract machine that the kernel evaluates, and its soundness. No conditions. -/
import Derived.Test.YtdbjmhlgbdeihaaDoorEngineB
import Derived.Test.YtdbjmhlgbdeihaaDoorEngineA
import Derived.Orders
namespace Go.BE
open Go.RowKit
def IsW (x : Out) : Prop := (∃ C a ws sk, x = .w C a ws sk) ∨ x = .no
theorem IsW.w {C : List Prop} {a : AV} {ws : List (Nat × Option Root)} {sk : Bool} : IsW (.w C a ws sk) := .inl ⟨C, a, ws, sk, rfl⟩
theorem IsW.n : IsW .no := .inr rfl
theorem abuildSlice_form (E : Ctx) (h : Heap) (id lv : Nat) (t : TypeId) (len : Nat) (ps : List (Nat × AV)) : IsW (abuildSlice E h id lv t len ps) := by
  unfold abuildSlice
  repeat' split
  all_goals first | exact IsW.n | exact IsW.w
theorem abuildCells_form (E : Ctx) (id : Nat) (t : TypeId) (len : Nat) (ps : List (Nat × AV)) : IsW (abuildCells E id t len ps) := by
  unfold abuildCells
  repeat' split
  all_goals first | exact IsW.n | exact IsW.w
theorem amakeSlice_form (E : Ctx) (id lv : Nat) (t : TypeId) (n m : Int) : IsW (amakeSlice E id lv t n m) := by
  unfold amakeSlice
  repeat' split
  all_goals first | exact IsW.n | exact IsW.w
theorem aappend_form (E : Ctx) (h : Heap) (id lv : Nat) (t : TypeId) (x y : AV) : IsW (aappend E h id lv t x y) := by
  unfold aappend
  repeat' split
  all_goals first | exact IsW.n | exact IsW.w
theorem astorePend_form (h : Heap) (r s : Nat) (p : Pth) (i : Nat) (st : List St) (v : AV) : IsW (astorePend h r s p i st v) := by
  unfold astorePend
  repeat' split
  all_goals first | exact IsW.n | exact IsW.w
theorem astore_form (E : Ctx) (h : Heap) (id : Nat) (t : TypeId) (x y : AV) : IsW (astore E h id t x y) := by
  unfold astore
  repeat' split
  all_goals first | exact IsW.n | exact IsW.w | exact astorePend_form _ _ _ _ _ _ _
theorem adata_form (h : Heap) (id : Nat) (i : TI) (cs : List AV) : IsW (adata h id i cs) := by
  unfold adata
  repeat' split
  all_goals first | exact IsW.n | exact IsW.w
theorem abox_form (id : Nat) (ro : Bool) (x : AV) : IsW (abox id ro x) := by
  unfold abox
  repeat' split
  all_goals first | exact IsW.n | exact IsW.w
section
variable {P : Program} {E : Ctx} {w w' w0 : World} {Z Z' : Nat → Prop} {K : Kp} {own own' : Own} {γ γ' : Gst} {h h' : Heap} {used used' : Nat → Prop} {r s d id : Nat} {R : Root} {a A B : AV} {v V U : Value} {cs ds : List AV} {vs us : List Value}
theorem WOK.formed {ρ : Operand → Value} {o : Oper} {m : Sem Value} {x : Out} (hf : IsW x) (ho : (execOp ρ o) = (do pure (.value (← m)))) (hx : ∀ C a ws sk, x = .w C a ws sk → AllP C → sk = false ∧ WOK E.P w0 K w Z γ h used used' m a ws) :
    OutOK E w0 K w Z γ h used used' ρ o x := WOK.mk_out ho hx hf
theorem optI_rel {ρa : Operand → AV} {ρ : Operand → Value} (hρ : ∀ x, VR w Z γ (ρa x) (ρ x)) {x : Option Operand} {i : Option Int} (he : optI ρa x = some i) : OI i (x.map ρ) := by
  cases x with
  | none =>
    simp only [optI, Option.some.injEq] at he
    subst he
    exact .inl ⟨rfl, rfl⟩
  | some y =>
    simp only [optI, Option.map_eq_some_iff] at he
    obtain ⟨n, hn, rfl⟩ := he
    obtain ⟨k, hk⟩ := asI_inv (hρ y) hn
    exact .inr ⟨n, k, rfl, by simp [hk]⟩
theorem append_congr {ats : Array TypeId} {t ty : TypeId} {args : Array Value} (h0 : ats[0]? = some t) (h1 : ats[1]? = some t) : Builtin.append_ ats ty args = Builtin.append_ #[t, t] ty args := by
  unfold Builtin.append_
  simp only [h0, h1]
  rfl
theorem rop_vals {cs : List AV} {v : Value} (hA : CR w Z (.rop cs 0) v) : ∃ b o us, v = .pointer (some ⟨b, o, none⟩) ∧ Z b ∧ Run w b o us ∧ CRs w Z cs us := by
  generalize hB : AV.rop cs 0 = B at hA
  cases hA with
  | rop cs' off b o u hz hc hr =>
    injection hB with h1 h2
    subst h1; subst h2
    refine ⟨b, o + 0, (List.range cs.length).map u, rfl, hz, fun j v hj => ?_, by simp, fun j x z hx hz => ?_⟩
    · rw [List.getElem?_map] at hj
      obtain ⟨i, hi, rfl⟩ := Option.map_eq_some_iff.1 hj
      have hlt : j < cs.length := by
        have := (List.getElem?_eq_some_iff.1 hi).1
        simpa using this
      rw [List.getElem?_range hlt] at hi
      injection hi with hi
      subst hi
      exact hc j cs[j] (List.getElem?_eq_getElem hlt)
    · rw [List.getElem?_map] at hz
      obtain ⟨i, hi, rfl⟩ := Option.map_eq_some_iff.1 hz
      rw [List.getElem?_range (List.getElem?_eq_some_iff.1 hx).1] at hi
      injection hi with hi
      subst hi
      exact hr _ x hx
  | _ => cases hB
theorem asliceArr_sound (hT : TyOK E.P E.ty) (hm : MemR w0 K w Z own γ h used) (hu : ∀ s, used s → used' s) {t : TypeId} {C : List Prop} {ws : List (Nat × Option Root)} (he : asliceArr E h t A = some (C, a, ws)) (hC : AllP C) (hA : VR w Z γ A V) :
    WOK E.P w0 K w Z γ h used used' (Instr.sliceAt t V none none none) a ws := by
  unfold asliceArr at he
  split at he
  · rename_i n e _ _ _ _ hty
    obtain ⟨d, hd, hk⟩ := (hT t _ hty).desc
    simp only [TKOK] at hk
    subst hk
    split at he
    · rename_i ie hie
      obtain ⟨tie, k1, k2, _⟩ := (hT e _ hie).info
      split at he
      · rename_i S hS
        split at he
        · rename_i hcond
          obtain ⟨c1, c2, c3, c4⟩ := hcond
          split at he
          · rename_i r
            split at he
            · rename_i C1 cs ws1 hcl
              obtain ⟨xs, hxs, e1⟩ := Option.map_eq_some_iff.1 he
              simp only [Prod.mk.injEq] at e1
              obtain ⟨rfl, rfl, rfl⟩ := e1
              obtain ⟨Z1, own1, q1, q2⟩ := closeC_sound hm hcl hC hA
              obtain ⟨b, o, us, rfl, hz, hr, hcs⟩ := rop_vals q2
              obtain ⟨j1, j2, j3⟩ := elemsOf_sound n hxs hcs
              refine ⟨.slice (some ⟨b, o, none⟩) n n, w, Z1, own1, γ, ?_, q1.stay, Gst.Ext.refl _ _, q1.mem.used_mono hu, .cr (.tv1 _ _ _ rfl ⟨_, n, by rw [← j1], Nat.le_of_eq j1, ⟨by show (xs : List (Den S)).length * _ ≤ _; rw [j1]; exact c3, by show (xs : List (Den S)).length ≤ _; rw [j1]; exact c4⟩, fun _ => ⟨b, o, rfl, hz, fun i y hy => ⟨seg us (i * S.size) S.size, ?_, fun j v hj => ?_, j3 i y hy⟩⟩⟩)⟩
              · simp only [Instr.sliceAt, Instr.sureAddr, asAddr, Instr.sliceBounds, Sem.run_bind, run_underlying hd, Result.andThen_ok, Sem.run_pure, run_sizeOf' k1 k2, Nat.zero_mul, Nat.sub_zero]
                rw [if_neg (by omega)]
                simp [Addr.add]
              · exact (j3 i y hy).len
              · have hj' : us[i * S.size + j]? = some v := by
                  have hlt := (List.getElem?_eq_some_iff.1 hj).1
                  unfold BE.seg at hj hlt
                  simp only [List.length_take] at hlt
                  rw [List.getElem?_take_of_lt (by omega), List.getElem?_drop] at hj
                  exact hj
                have := hr _ v hj'
                rw [← Nat.add_assoc] at this
                exact this
            · cases he
          · cases he
        · cases he
      · cases he
    · cases he
  · cases he
set_option maxHeartbeats 2000000 in
theorem aop1_sound (hT : TyOK E.P E.ty) (hm : MemR w0 K w Z own γ h used) (hid : ¬ used id) (hu : ∀ s, used s → used' s) (hid' : used' id) {si : Nat} {ρa : Operand → AV} {ρ : Operand → Value} (hρ : ∀ x, VR w Z γ (ρa x) (ρ x)) (o : Oper) : OutOK E w0 K w Z γ h used used' ρ o (aop1 E h id si ρa o.op) := by
  unfold aop1
  split
  · rename_i x ho
    exact fun _ => ⟨ρ x, by simp only [execOp, ho, Sem.run_pure], hρ x⟩
  · rename_i x ho
    exact fun _ => ⟨ρ x, by simp only [execOp, ho, Sem.run_pure], hρ x⟩
  · trivial
  · rename_i t ho
    split
    · rename_i i hi
      split
      · refine WOK.formed (adata_form _ _ _ _) (m := Instr.alloc t true (.tuple #[])) (by simp only [execOp, ho]) fun C a ws sk he hC => ?_
        obtain ⟨arr, e1, e2⟩ := alloc_sound (w := w) (Z := Z) (γ := γ) hT hi
        exact adata_sound hT hm hid hu hid' hi he hC e2 e1
      · exact fun _ => WOK.out (m := Instr.alloc t true (.tuple #[])) (by simp only [execOp, ho]) (alloc_ok hT hm hid hu hid' hi)
    · trivial
  · rename_i t x ho
    split
    · rename_i i hi
      split
      · refine WOK.formed (adata_form _ _ _ _) (m := Instr.box t (ρ x)) (by simp only [execOp, ho]) fun C a ws sk he hC => ?_
        have hall : (ρa x).cells.all AV.one = true := by
          unfold adata at he
          split at he
          · split at he
            · rename_i hcond
              exact hcond.2.2.2
            · cases he
          · cases he
        obtain ⟨e1, e2⟩ := box_sound (P := E.P) (t := t) (hρ x) hall
        exact adata_sound hT hm hid hu hid' hi he hC e2 e1
      · exact WOK.formed (abox_form _ _ _) (m := Instr.box t (ρ x)) (by simp only [execOp, ho]) fun C a ws sk he _ => abox_sound hm hid hu hid' he (hρ x)
    · trivial
  · rename_i t ps ho
    refine oV_ok fun a he => ?_
    obtain ⟨v, e1, e2⟩ := abuild_sound hT (parts hρ ps) he
    exact ⟨v, by simp only [execOp, ho, Sem.run_bind, e1, Result.andThen_ok, Sem.run_pure], e2⟩
  · rename_i t len ps ho
    split
    · exact WOK.formed (abuildCells_form _ _ _ _ _) (m := Instr.buildSlice t len (ps.map fun (i, x) => (i, ρ x))) (by simp only [execOp, ho]) fun C a ws sk he hC => abuildCells_sound (ps := ps.toList.map fun (i, x) => (i, ρa x)) (vps := ps.map fun (i, x) => (i, ρ x)) hT hm hid hu hid' (parts hρ ps) he hC
    exact WOK.formed (abuildSlice_form _ _ _ _ _ _ _) (m := Instr.buildSlice t len (ps.map fun (i, x) => (i, ρ x))) (by simp only [execOp, ho]) fun C a ws sk he hC => abuildSlice_sound (ps := ps.toList.map fun (i, x) => (i, ρa x)) (vps := ps.map fun (i, x) => (i, ρ x)) hT hm hid hu hid' (parts hρ ps) he hC
  · rename_i t len cap ho
    split
    · rename_i n m hn hm'
      obtain ⟨k1, e1⟩ := asI_inv (hρ len) hn
      obtain ⟨k2, e2⟩ := asI_inv (hρ cap) hm'
      exact WOK.formed (amakeSlice_form _ _ _ _ _ _) (m := Instr.makeSlice t (.int k1 n) (.int k2 m)) (by simp only [execOp, ho, e1, e2]) fun C a ws sk he hC => amakeSlice_sound hT hm hid hu hid' he hC
    · trivial
  · rename_i t x ho
    refine oC_ok fun C a he hC => ?_
    obtain ⟨v, e1, e2⟩ := aload_sound hT hm he hC (hρ x)
    exact ⟨v, by simp only [execOp, ho, Sem.run_bind, e1, Result.andThen_ok, Sem.run_pure], e2⟩
  · rename_i t x y ho
    rcases astore_form E h id t (ρa y) (ρa x) with ⟨C, a, ws, sk, he⟩ | he
    · rw [he]
      intro hC
      obtain ⟨rfl, rfl, w', Z', own', γ', e1, e2, e3, e4⟩ := astore_sound hT hm hid hu hid' he hC (hρ y) (hρ x)
      exact ⟨.skip, undef, w', Z', own', γ', by simp only [execOp, ho, Sem.run_bind, e1, Result.andThen_ok, Sem.run_pure], by rw [if_pos rfl]; exact ⟨rfl, rfl⟩, e2, e3, e4, .cr (.val _ trivial)⟩
    · rw [he]
      trivial
  · rename_i x ho
    have hx := hρ x
    split
    · rename_i r off hr
      rw [hr] at hx
      intro _
      obtain ⟨b, hb, hv⟩ := hx.ref_inv
      exact ⟨.pointer (some ⟨b, off, none⟩), by simp only [execOp, ho, hv, Sem.run_pure], .ref _ _ _ hb⟩
    · rename_i cs off hr
      rw [hr] at hx
      intro _
      obtain ⟨b, off', hv, hb⟩ := hx.rop_inv
      exact ⟨.pointer (some ⟨b, off' + off, none⟩), by simp only [execOp, ho, hv, Sem.run_pure], hb off⟩
    · rename_i S y hr
      rw [hr] at hx
      intro _
      obtain ⟨b, o', us, hv, h1, h2, h3⟩ := hx.rtp_inv
      exact ⟨.pointer (some ⟨b, o', none⟩), by simp only [execOp, ho, hv, Sem.run_pure], .cr (.rtp _ _ _ _ _ h1 h2 h3)⟩
    · rename_i r s p i st hr
      rw [hr] at hx
      intro _
      obtain ⟨hd, b, o', so, T, h1, h2, h3, h4, hv⟩ := hx.tref_inv
      exact ⟨_, by simp only [execOp, ho, hv, Sem.run_pure], .tref _ _ _ _ _ hd b o' so T h1 h2 h3 h4⟩
    · trivial
  · rename_i op t x y yt ho
    split
    · rename_i p hp
      obtain ⟨b, e1, e2⟩ := anil_sound (xo := x) (yo := y) hT hp (hρ x) (hρ y)
      exact ⟨b, e1, by simp only [execOp, ho]; rw [Sem.run_bind, e2]; rfl⟩
    · refine oC_ok fun C a he hC => ?_
      obtain ⟨v, e1, e2⟩ := abin_sound (xo := x) (yo := y) hT he hC (hρ x) (hρ y)
      exact ⟨v, by simp only [execOp, ho]; rw [Sem.run_bind, e1]; rfl, e2⟩
  · rename_i op t x ho
    refine oC_ok fun C a he hC => ?_
    obtain ⟨v, e1, e2⟩ := aun_sound (P := E.P) he (hρ x)
    exact ⟨v, by simp only [execOp, ho, Sem.run_bind, e1, Result.andThen_ok, Sem.run_pure], e2⟩
  · rename_i s d x ho
    refine oC_ok fun C a he hC => ?_
    obtain ⟨v, e1, e2⟩ := aconv_sound hT he (hρ x)
    exact ⟨v, by simp only [execOp, ho, Sem.run_bind, e1, Result.andThen_ok, Sem.run_pure], e2⟩
  · rename_i f first caps ho
    split
    · rename_i hf
      have hf' : first = #[] := by simpa [Array.isEmpty] using hf
      subst hf'
      intro _
      have hc := maps hρ caps.toList
      refine ⟨.func (.func f) #[] (caps.map ρ), by simp [execOp, ho, Instr.makeFunc], .fn _ _ _ (by simp) (fun j x y hx hy => hc.2 j x y hx ?_)⟩
      rw [← Array.getElem?_toList] at hy
      simpa using hy
    · trivial
  · rename_i s x f ho
    refine oC_ok fun C a he hC => ?_
    obtain ⟨v, e1, e2⟩ := afieldAddr_sound hT hm he hC (hρ x)
    exact ⟨v, by simp only [execOp, ho, Sem.run_bind, e1, Result.andThen_ok, Sem.run_pure], e2⟩
  · rename_i t x f ho
    refine oV_ok fun a he => ?_
    obtain ⟨v, e1, e2⟩ := afield_sound hT he (hρ x)
    exact ⟨v, by simp only [execOp, ho, Sem.run_bind, e1, Result.andThen_ok, Sem.run_pure], e2⟩
  · rename_i t x i ho
    split
    · rename_i n hn
      obtain ⟨k, hk⟩ := asI_inv (hρ i) hn
      refine oC_ok fun C a he hC => ?_
      obtain ⟨v, e1, e2⟩ := aindexAddr_sound (k := k) hT hm he hC (hρ x)
      exact ⟨v, by simp only [execOp, ho, hk, Sem.run_bind, e1, Result.andThen_ok, Sem.run_pure], e2⟩
    · trivial
  · rename_i t x i ho
    split
    · rename_i n hn
      obtain ⟨k, hk⟩ := asI_inv (hρ i) hn
      refine oC_ok fun C a he hC => ?_
      obtain ⟨v, e1, e2⟩ := aindex_sound (k := k) hT he hC (hρ x)
      exact ⟨v, by simp only [execOp, ho, hk, Sem.run_bind, e1, Result.andThen_ok, Sem.run_pure], e2⟩
    · trivial
  · rename_i t x lo hi mx ho
    split
    · rename_i lo' hi' mx' h1 h2 h3
      have hnone : ∀ {y : Option Operand} {i : Option Int}, optI ρa y = some i → i.isNone = true → y = none := fun {y i} hy hi => by
        cases y with
        | none => rfl
        | some y =>
          simp only [optI, Option.map_eq_some_iff] at hy
          obtain ⟨_, _, rfl⟩ := hy
          cases hi
      split
      · rename_i C a ws hb hs
        simp only [Bool.and_eq_true] at hb
        have g1 := hnone h1 hb.1.1
        have g2 := hnone h2 hb.1.2
        have g3 := hnone h3 hb.2
        subst g1; subst g2; subst g3
        refine WOK.formed IsW.w (m := Instr.sliceAt t (ρ x) none none none) (by simp only [execOp, ho, Option.map_none]) fun C' a' ws' sk he hC => ?_
        injection he with q1 q2 q3 q4
        subst q1; subst q2; subst q3; subst q4
        exact ⟨rfl, asliceArr_sound hT hm hu hs hC (hρ x)⟩
      · refine oC_ok fun C a he hC => ?_
        obtain ⟨v, e1, e2⟩ := aslice_sound hT hm (optI_rel hρ h1) (optI_rel hρ h2) (optI_rel hρ h3) he hC (hρ x)
        exact ⟨v, by simp only [execOp, ho, Sem.run_bind, e1, Result.andThen_ok, Sem.run_pure], e2⟩
    · trivial
  · rename_i t i ho
    refine oV_ok fun a he => ?_
    obtain ⟨v, e1, e2⟩ := aextract_sound (P := E.P) he (hρ t)
    exact ⟨v, by simp only [execOp, ho, Sem.run_bind, e1, Result.andThen_ok, Sem.run_pure], e2⟩
  · rename_i f args ats ho
    split
    · rename_i g caps hg
      have hf := hρ f
      rw [hg] at hf
      obtain ⟨us, hv, hc⟩ := hf.fn_inv
      refine ⟨(args.toList.map ρ) ++ us.toList, ?_, (maps hρ args.toList).append hc⟩
      simp only [execOp, ho, resolve, hv, Deferred.ofValue, Sem.run_bind, Sem.run_pure, Result.andThen_ok, invoke]
      congr 2
      apply Array.ext'
      simp
    · trivial
  · rename_i args ats ho
    split
    · rename_i t x ht hx
      refine oC_ok fun C a he hC => ?_
      obtain ⟨v, e1, e2⟩ := alen_sound (rt := o.type) (ats := ats) (args := args.map ρ) hT hm ht (by rw [Array.getElem?_map, hx]; rfl) he hC (hρ x)
      exact ⟨v, by simp only [execOp, ho, resolve, invoke, builtin, Sem.run_bind, Sem.run_pure, Result.andThen_ok, e1], e2⟩
    · trivial
  · rename_i args ats ho
    split
    · rename_i t u x y ht hu2 hxy
      split
      · rename_i htu
        subst htu
        have hargs : args = #[x, y] := by apply Array.ext'; simpa using hxy
        refine WOK.formed (aappend_form _ _ _ _ _ _ _) (m := Builtin.append_ #[t, t] o.type #[ρ x, ρ y]) ?_ fun C a ws sk he hC => aappend_sound hT hm hid hu hid' he hC (hρ x) (hρ y)
        rw [← append_congr ht hu2]
        simp only [execOp, ho, resolve, invoke, builtin, hargs, pure_bind, List.map_toArray, List.map_cons, List.map_nil]
      · trivial
    · trivial
  · rename_i args ats ho
    split
    · rename_i x r hx
      refine oV_ok fun a he => ?_
      obtain ⟨v, e1, e2⟩ := amax_sound (P := E.P) he (hρ x) (maps hρ r)
      exact ⟨v, by simp only [execOp, ho, resolve, invoke, builtin, Builtin.max_, Sem.run_bind, Sem.run_pure, Result.andThen_ok, Array.toList_map, hx, List.map_cons, e1], e2⟩
    · trivial
  · rename_i args ats ho
    split
    · rename_i x r hx
      refine oV_ok fun a he => ?_
      obtain ⟨v, e1, e2⟩ := amin_sound (P := E.P) he (hρ x) (maps hρ r)
      exact ⟨v, by simp only [execOp, ho, resolve, invoke, builtin, Builtin.min_, Sem.run_bind, Sem.run_pure, Result.andThen_ok, Array.toList_map, hx, List.map_cons, e1], e2⟩
    · trivial
  · trivial
end
end Go.BE
namespace Go.BE
inductive Tre (α : Type) : Type where
  | ok (a : α)
  | ite (b : Bool) (t e : Tre α)
  | chk (C : Prop) (t : Tre α)
  | know (K : Prop) (t : Tre α)
  | any (p : Bool → Prop) (k : Bool → Tre α)
  | bad
def Tre.bind {α β : Type} : Tre α → (α → Tre β) → Tre β
  | .ok a, f => f a
  | .ite b t e, f => .ite b (t.bind f) (e.bind f)
  | .chk C t, f => .chk C (t.bind f)
  | .know K t, f => .know K (t.bind f)
  | .any p k, f => .any p fun b => (k b).bind f
  | .bad, _ => .bad
def chks {α : Type} : List Prop → Tre α → Tre α
  | [], t => t
  | C :: l, t => .chk C (chks l t)
def Tre.wp {α : Type} (Q : α → Prop) : Tre α → Prop
  | .ok a => Q a
  | .ite b t e => (b = true → t.wp Q) ∧ (b = false → e.wp Q)
  | .chk C t => C ∧ (C → t.wp Q)
  | .know K t => K → t.wp Q
  | .any p k => ∀ b, p b → (k b).wp Q
  | .bad => False
mutual
/-- what is known of a value that occurs -/
def okAV : AV → Prop
  | .val (.int k n) => k.has n
  | .val (.string s) => s.size ≤ roomB
  | .tv S x => okD S x
  | .rtp S x => okD S x
  | .agg cs => okAVs cs
  | .tup cs => okAVs cs
  | .fn _ cs => okAVs cs
  | .rop cs _ => okAVs cs
  | _ => True
def okAVs : List AV → Prop
  | [] => True
  | a :: l => okAV a ∧ okAVs l
end
def okCont : Cont → Prop
  | .cells cs => okAVs cs
  | .arr _ b S xs => room b xs.length ∧ ∀ y ∈ xs, okD S y
def okHeap : Heap → Prop
  | [] => True
  | (_, R) :: h => okCont R.cont ∧ okHeap h

inductive Fin where
  | at_ (c : Cfg)
  | ret (v : AV) (h : Heap) (nx : Nat)
def und : AV := .val undef
def putT (fr : List AV) : Option Tmp → AV → List AV
  | some d, a => fr.set d a
  | none, _ => fr
def opTmp : Operand → Option Nat
  | .tmp t => some t
  | _ => none
def setB (fr : List AV) (x : Option Nat) (b : Bool) : List AV := match x with | some t => fr.set t (abool b) | none => fr
def aresults (E : Ctx) (h : Heap) (fr : List AV) : List ResultVar → Option (List Prop × List AV)
  | [] => some ([], [])
  | .tmp t :: r => match aresults E h fr r with | some (C, l) => some (C, lget fr t :: l) | none => none
  | .cell a t :: r => match aload E h t (lget fr a), aresults E h fr r with
    | some (C, v), some (C', l) => some (C ++ C', v :: l)
    | _, _ => none
def retv : List AV → AV
  | [a] => a
  | l => .tup l
def enter (E : Ctx) (f : FuncId) (args : List AV) : Option AFr :=
  match E.P.funcs[f]? with
  | some fn => match fn.body with
    | some c => if args.length ≤ fn.ntmps then some ⟨f, [.code c], args ++ List.replicate (fn.ntmps - args.length) und⟩ else none
    | none => none
  | none => none
def AFr.fin (F : AFr) (ops : Array Oper) (dst : Option Tmp) (rest : List Nat) (k : List Item) (a : AV) : AFr :=
  { F with todo := .inRegion ops rest :: k, fr := putT F.fr dst a }
mutual
def AV.sh (base : Nat) : AV → AV
  | .agg cs => .agg (shL base cs)
  | .tup cs => .tup (shL base cs)
  | .fn g cs => .fn g (shL base cs)
  | .ref r o => .ref (base + r) o
  | .tref r s p i st => .tref (base + r) (base + s) p i st
  | .osl r s p w => .osl (base + r) (base + s) p w
  | .optr r s p => .optr (base + r) (base + s) p
  | .csl r o n => .csl (base + r) o n
  | a => a
def shL (base : Nat) : List AV → List AV
  | [] => []
  | a :: l => a.sh base :: shL base l
end
def Cont.sh (base : Nat) : Cont → Cont
  | .cells cs => .cells (shL base cs)
  | c => c
def Root.sh (base : Nat) (R : Root) : Root := { R with cont := R.cont.sh base, cur := base + R.cur, old := [] }
def newRoots (base : Nat) : List (Nat × Root) → List (Nat × Option Root)
  | [] => []
  | (r, R) :: l => newRoots base l ++ [(base + r, some (R.sh base))]
def SRes.fits (r : SRes) : Bool := r.roots.all fun x => decide (x.1 < 16) && decide (x.2.cur < 16) && x.2.pend.isNone
def acall (E : Ctx) (h : Heap) (id : Nat) (f : FuncId) (args : List AV) : Option (List Prop × Prop × AV × List (Nat × Option Root)) :=
  match closeL h args with
  | some (C, args', ws) => match E.env f args' with
    | some r => if r.fits then (if r.res.plain && r.roots.isEmpty then some (C ++ [r.pre], okAV r.res, r.res, []) else some (C ++ [r.pre], okAV r.res, r.res.sh id, ws ++ newRoots id r.roots)) else none
    | none => none
  | none => none
def stepIds : Nat := 16
def runOp (E : Ctx) (c : Cfg) (ops : Array Oper) (o : Oper) (rest : List Nat) (k : List Item) : Tre Fin :=
  match o.op with
  | .pick x y z => match asB (ev E c.cur.fr x) with
    | some b => .ite b (.ok (.at_ { c with cur := { c.cur with fr := setB c.cur.fr (opTmp x) true }.fin ops o.dst rest k (ev E c.cur.fr y) }))
        (.ok (.at_ { c with cur := { c.cur with fr := setB c.cur.fr (opTmp x) false }.fin ops o.dst rest k (ev E c.cur.fr z) }))
    | none => .bad
  | op => match aop E c.h c.nx (siteOp E c.cur.fn o.dst) (ev E c.cur.fr) op with
    | .v C a => chks C (.ok (.at_ { c with cur := c.cur.fin ops o.dst rest k a, nx := c.nx + stepIds }))
    | .w C a ws _ => chks C (.ok (.at_ { c with cur := c.cur.fin ops o.dst rest k a, h := applyW c.h ws, nx := c.nx + stepIds }))
    | .any p => .any p fun b => .ok (.at_ { c with cur := c.cur.fin ops o.dst rest k (abool b), nx := c.nx + stepIds })
    | .call f args => if E.fns f then (match acall E c.h c.nx f args with
      | some (C, K, a, ws) => chks C (.know K (.ok (.at_ { c with cur := c.cur.fin ops o.dst rest k a, h := applyW c.h ws, nx := c.nx + stepIds })))
      | none => match enter E f args with
        | some F => .ok (.at_ { c with cur := F, callers := c.cur :: c.callers })
        | none => .bad) else .bad
    | .no => .bad
def todoC (c : Cfg) (t : List Item) : Tre Fin := .ok (.at_ { c with cur := { c.cur with todo := t } })
def leave (E : Ctx) (c : Cfg) : Tre Fin :=
  match E.P.funcs[c.cur.fn]? with
  | none => .bad
  | some fn => match aresults E c.h c.cur.fr fn.results.toList with
    | none => .bad
    | some (C, vs) => match c.callers with
      | [] => chks C (.ok (.ret (retv vs) c.h c.nx))
      | F :: Fs => match F.todo with
        | .inRegion ops (i :: rest) :: k => match ops[i]? with
          | some o => chks C (.ok (.at_ { c with cur := F.fin ops o.dst rest k (retv vs), callers := Fs }))
          | none => .bad
        | _ => .bad

def names (ops : Array Oper) (o : Oper) : List Nat :=
  o.dst.toList ++ o.op.operands.toList.filterMap opTmp ++ (match o.guard with | some (j, _) => ((ops[j]?).bind (·.dst)).toList | none => [])
def maskF (ns : List Nat) : List AV → Nat → List AV
  | [], _ => []
  | a :: l, i => (if ns.contains i then a else .bad) :: maskF ns l (i + 1)
mutual
def AV.rts : AV → List Nat
  | .agg cs => rtsL cs
  | .tup cs => rtsL cs
  | .fn _ cs => rtsL cs
  | .ref r _ => [r]
  | .tref r .. => [r]
  | .osl r .. => [r]
  | .optr r .. => [r]
  | .csl r .. => [r]
  | _ => []
def rtsL : List AV → List Nat
  | [] => []
  | a :: l => a.rts ++ rtsL l
end
def rdOf (fr : List AV) : List Nat → List Nat
  | [] => []
  | t :: l => (lget fr t).rts ++ rdOf fr l
def rdFor : Op → List Nat → List Nat
  | .move _, _ => []
  | .assign _, _ => []
  | _, l => l
def innerR (h : Heap) : List Nat → List Nat
  | [] => []
  | r :: l => (match hget h r with
    | some R => match R.cont with | .cells cs => rtsL cs | _ => []
    | none => []) ++ innerR h l
def rdDeep (h : Heap) : Op → List Nat → List Nat
  | .call { callee := .value _, .. }, l => l ++ innerR h l
  | _, l => l
def maskH (h : Heap) : List Nat → Heap
  | [] => []
  | r :: rs => match hget h r with | some R => (r, R) :: maskH h rs | none => maskH h rs
structure Rc where
  dst : Option Tmp
  val : AV
  ws : List (Nat × Option Root)
  nm : List Nat
  rd : List Nat
  call : Bool := false
def dval (E : Ctx) (ro : Nat) (id : Nat) (o : Oper) (ns : List Nat) (fm : List AV) (rd : List Nat) (hm : Heap) : Tre Rc :=
  match o.op with
  | .pick x y z => match asB (ev E fm x) with
    | some b => .ite b (.ok ⟨o.dst, ev E fm y, [], ns, rd, false⟩) (.ok ⟨o.dst, ev E fm z, [], ns, rd, false⟩)
    | none => .bad
  | op => match aop E hm id ro (ev E fm) op with
    | .v C a => chks C (.ok ⟨o.dst, a, [], ns, rd, false⟩)
    | .w C a ws _ => chks C (.ok ⟨o.dst, a, ws, ns, rd, false⟩)
    | .any _ => .bad
    | .call f args => if E.fns f then (match acall E hm id f args with
      | some (C, _, a, ws) => chks C (.ok ⟨o.dst, a, ws, ns, rd, true⟩)
      | none => .bad) else .bad
    | .no => .bad
def dop (E : Ctx) (fn : FuncId) (ops : Array Oper) (id : Nat) (o : Oper) (fr : List AV) (h : Heap) : Tre Rc :=
  let ns := names ops o
  let fm := maskF ns fr 0
  let rd := rdDeep h o.op (rdFor o.op (rdOf fm ns))
  let hm := maskH h rd
  let ro := siteOp E fn o.dst
  match o.guard with
  | none => dval E ro id o ns fm rd hm
  | some (j, want) => match (ops[j]?).bind (·.dst) with
    | none => .bad
    | some t => match lget fm t with
      | .val (.bool b) => if want then .ite b (dval E ro id o ns fm rd hm) (.ok ⟨o.dst, und, [], ns, rd, false⟩) else .ite b (.ok ⟨o.dst, und, [], ns, rd, false⟩) (dval E ro id o ns fm rd hm)
      | .val (.tuple _) => .ok ⟨o.dst, und, [], ns, rd, false⟩
      | _ => .bad
def guardT (ops : Array Oper) (o : Oper) : Option Nat := match o.guard with | some (j, _) => (ops[j]?).bind (·.dst) | none => (match o.op with | .pick x _ _ => opTmp x | _ => none)
def decideT (fr : List AV) : Option Nat → (List AV → Tre (List Rc × List AV × Heap)) → Tre (List Rc × List AV × Heap)
  | some t, k => match lget fr t with
    | .val (.bool b) => .ite b (k (fr.set t (abool true))) (k (fr.set t (abool false)))
    | _ => k fr
  | none, k => k fr
def drun (E : Ctx) (fn : FuncId) (ops : Array Oper) (base : Nat) : Nat → List Oper → List AV → Heap → Tre (List Rc × List AV × Heap)
  | _, [], fr, h => .ok ([], fr, h)
  | i, o :: os, fr, h => decideT fr (guardT ops o) fun fr => (dop E fn ops (base + i * stepIds) o fr h).bind fun r =>
      (drun E fn ops base (i + 1) os (putT fr r.dst r.val) (applyW h r.ws)).bind fun x => .ok (r :: x.1, x.2.1, x.2.2)
def addN (l : List Nat) (x : Nat) : List Nat := if l.contains x then l else x :: l
def addAll (l : List Nat) : List Nat → List Nat
  | [] => l
  | x :: xs => addAll (addN l x) xs
def ancOf (acc : List (List Nat)) (j : Nat) : List Go.Edge → Option (List Nat)
  | [] => some []
  | e :: es => if Region.binds .any e then (if e.on < j then (match ancOf acc j es with | some l => some (addAll (addN l e.on) (acc.getD e.on [])) | none => none) else none) else ancOf acc j es
def ancs : List (List Nat) → List Oper → Option (List (List Nat))
  | acc, [] => some acc
  | acc, o :: os => match ancOf acc acc.length o.after.toList with
    | some l => ancs (acc ++ [l]) os
    | none => none
def meets (l m : List Nat) : Bool := l.any fun x => m.contains x
def wrs (r : Rc) : List Nat := r.ws.map (·.1)
def conf (a b : Rc) : Bool := meets a.dst.toList b.nm || meets b.dst.toList a.nm || meets (wrs a) (wrs b ++ b.rd) || meets (wrs b) (wrs a ++ a.rd)
def okAgainst (anc : List Nat) (r : Rc) : Nat → List Rc → Bool
  | _, [] => true
  | i, q :: qs => (!conf q r || anc.contains i) && okAgainst anc r (i + 1) qs
def okAll (A : List (List Nat)) : Nat → List Rc → List Rc → Bool
  | _, _, [] => true
  | j, done, r :: rs => okAgainst (A.getD j []) r 0 done && okAll A (j + 1) (done ++ [r]) rs
def tells : List Rc → List Prop
  | [] => []
  | r :: rs => if r.call then okAV r.val :: tells rs else tells rs
def knows {α : Type} : List Prop → Tre α → Tre α
  | [], t => t
  | K :: l, t => .know K (knows l t)
def adraw (E : Ctx) (fn : FuncId) (ops : Array Oper) (fr : List AV) (h : Heap) (nx : Nat) : Tre (List Rc × List AV × Heap) :=
  match ancs [] ops.toList with
  | some A => (drun E fn ops nx 0 ops.toList fr h).bind fun x => if okAll A 0 [] x.1 then .ok x else .bad
  | none => .bad
def astep (E : Ctx) (c : Cfg) : Tre Fin :=
  match c.cur.todo with
  | [] => leave E c
  | .code .ret :: _ => leave E c
  | .code .skip :: k | .code (.label _) :: k | .inBlock _ :: k => todoC c k
  | .code (.seq a b) :: k => todoC c (.code a :: .code b :: k)
  | .code (.cond x a b) :: k => match asB (ev E c.cur.fr x) with
    | some t => .ite t (.ok (.at_ { c with cur := { c.cur with todo := .code a :: k, fr := setB c.cur.fr (opTmp x) true } })) (.ok (.at_ { c with cur := { c.cur with todo := .code b :: k, fr := setB c.cur.fr (opTmp x) false } }))
    | none => .bad
  | .code (.block id a) :: k => todoC c (.code a :: .inBlock id :: k)
  | .code (.loop a) :: k | .inLoop a :: k => todoC c (.code a :: .inLoop a :: k)
  | .code (.exit id) :: k => match exitTo id k with | some k' => todoC c k' | none => .bad
  | .code (.region _ ops false) :: k => todoC c (.inRegion ops (List.range ops.size) :: k)
  | .code (.region _ ops true) :: k => (adraw E c.cur.fn ops c.cur.fr c.h c.nx).bind fun x => knows (tells x.1) (.ok (.at_ { c with cur := { c.cur with todo := k, fr := x.2.1 }, h := x.2.2, nx := c.nx + ops.size * stepIds }))
  | .inRegion _ [] :: k => todoC c k
  | .inRegion ops (i :: rest) :: k => match ops[i]? with
    | none => .bad
    | some o => match o.guard with
      | none => runOp E c ops o rest k
      | some (j, want) => match (ops[j]?).bind (·.dst) with
        | none => .bad
        | some t => match lget c.cur.fr t with
          | .val (.bool b) =>
            let yes (d : Bool) : Tre Fin := runOp E { c with cur := { c.cur with fr := c.cur.fr.set t (abool d) } } ops o rest k
            let no (d : Bool) : Tre Fin := .ok (.at_ { c with cur := { c.cur with fr := c.cur.fr.set t (abool d) }.fin ops o.dst rest k und })
            if want then .ite b (yes true) (no false) else .ite b (no true) (yes false)
          | .val (.tuple _) => .ok (.at_ { c with cur := c.cur.fin ops o.dst rest k und })
          | _ => .bad
  | _ => .bad
end Go.BE
namespace Go.BE
open Go.RowKit
theorem Tre.wp_bind {α β : Type} {f : α → Tre β} {Q : β → Prop} : ∀ {t : Tre α}, (t.bind f).wp Q ↔ t.wp fun a => (f a).wp Q
  | .ok a => Iff.rfl
  | .ite b t e => by simp only [Tre.bind, Tre.wp, Tre.wp_bind]
  | .chk C t => by simp only [Tre.bind, Tre.wp, Tre.wp_bind]
  | .know K t => by simp only [Tre.bind, Tre.wp, Tre.wp_bind]
  | .any p k => by simp only [Tre.bind, Tre.wp, Tre.wp_bind]
  | .bad => Iff.rfl
theorem chks_wp {α : Type} {Q : α → Prop} {t : Tre α} : ∀ {C : List Prop}, (chks C t).wp Q → AllP C ∧ t.wp Q
  | [], h => ⟨trivial, h⟩
  | C :: l, h => by
    have := chks_wp (h.2 h.1)
    exact ⟨⟨h.1, this.1⟩, this.2⟩
theorem okAVs_at : ∀ {l : List AV}, (∀ (j : Nat) a, l[j]? = some a → okAV a) → okAVs l
  | [], _ => trivial
  | a :: l, h => ⟨h 0 a rfl, okAVs_at fun j x hx => h (j + 1) x (by simpa using hx)⟩
section
variable {w w' w0 : World} {Z Z' : Nat → Prop} {K : Kp} {own own' : Own} {γ γ' : Gst} {h h' : Heap} {used used' : Nat → Prop} {r s d id : Nat} {R : Root} {a A B : AV} {v V U : Value} {cs ds : List AV} {vs us : List Value}
theorem okAV_val {u : Value} (h : okV u) : okAV (.val u) := by cases u <;> first | exact h | trivial
theorem CR.ok (h : CR w Z a v) : okAV a := by
  induction h with
  | val v h => exact okAV_val h
  | tva S x vs hS h => exact h.ok
  | tv1 S x v hS h => exact h.ok
  | rtp S x b o us hz hr h => exact h.ok
  | rop cs off b o u hz hc hr ih => exact okAVs_at fun j a ha => ih j a ha
  | agg cs vs hl hr ih => exact okAVs_at fun j a ha => ih j a _ ha (Array.getElem?_eq_getElem (by rw [← hl]; exact (List.getElem?_eq_some_iff.1 ha).1))
  | tup cs vs hl hr ih => exact okAVs_at fun j a ha => ih j a _ ha (Array.getElem?_eq_getElem (by rw [← hl]; exact (List.getElem?_eq_some_iff.1 ha).1))
  | fn f cs vs hl hr ih => exact okAVs_at fun j a ha => ih j a _ ha (Array.getElem?_eq_getElem (by rw [← hl]; exact (List.getElem?_eq_some_iff.1 ha).1))
theorem VR.ok (h : VR w Z γ a v) : okAV a := by
  induction h with
  | bad => trivial
  | cr h => exact h.ok
  | ref => trivial
  | tref => trivial
  | osl => trivial
  | optr => trivial
  | csl => trivial
  | agg cs vs hl hr ih => exact okAVs_at fun j a ha => ih j a _ ha (Array.getElem?_eq_getElem (by rw [← hl]; exact (List.getElem?_eq_some_iff.1 ha).1))
  | tup cs vs hl hr ih => exact okAVs_at fun j a ha => ih j a _ ha (Array.getElem?_eq_getElem (by rw [← hl]; exact (List.getElem?_eq_some_iff.1 ha).1))
  | fn f cs vs hl hr ih => exact okAVs_at fun j a ha => ih j a _ ha (Array.getElem?_eq_getElem (by rw [← hl]; exact (List.getElem?_eq_some_iff.1 ha).1))
theorem VRs.ok (h : VRs w Z γ cs vs) : okAVs cs := okAVs_at fun j a ha => by
  obtain ⟨v, _, hr⟩ := h.get ha
  exact hr.ok
theorem RootR.ok (h : RootR w Z own γ r R) : okCont R.cont := by
  have hc := h.cont
  unfold ContR at hc
  unfold okCont
  split at hc
  · rename_i cs hcs
    simp only [hcs]
    obtain ⟨_, _, b, arr, e, _, _, _, hv⟩ := hc
    exact hv.ok
  · rename_i m by_ S xs hcs
    simp only [hcs]
    refine ⟨hc.1.1, ?_⟩
    have hc := hc.2
    split at hc
    · obtain ⟨_, own0, h1, h2⟩ := hc
      exact h2.ok
    · split at hc
      · exact hc.ok
      · obtain ⟨p0, i, st, hd0, b0, o0, so, T, hd, v, row, e1, e2, e3, e4, e5, e6, e7, e8, e9, e10, e11⟩ := hc
        exact (e11 v e7).ok
theorem okHeap_of : ∀ {h : Heap}, (∀ r R, (r, R) ∈ h → okCont R.cont) → okHeap h
  | [], _ => trivial
  | (r, R) :: h, hh => ⟨hh r R List.mem_cons_self, okHeap_of fun r R hm => hh r R (List.mem_cons_of_mem _ hm)⟩

theorem FR.plain : ∀ {S : Sh} {x : Den S} {us : List Value}, S.flat = true → FR w Z S x us → FR w' Z' S x us := by
  intro S
  induction S with
  | int k => intro x us _ h; exact h
  | bool => intro x us _ h; exact h
  | str => intro x us _ h; exact h
  | unit => intro x us _ h; exact h
  | pair a b iha ihb =>
    intro x us hf ⟨u1, u2, h1, h2, h3⟩
    simp only [Sh.flat, Bool.and_eq_true] at hf
    exact ⟨u1, u2, h1, iha hf.1 h2, ihb hf.2 h3⟩
  | arr n a ih => intro x us hf h; exact FRV.imp (f := FR w Z a) (fun _ _ h => ih hf h) h
  | sl => intro x us hf; cases hf
  | ptr => intro x us hf; cases hf
theorem plainAll_at : ∀ {l : List AV}, plainAll l = true → ∀ (j : Nat) (a : AV), l[j]? = some a → a.plain = true
  | [], _, j, a, ha => by simp at ha
  | x :: l, h, j, a, ha => by
    simp only [plainAll, Bool.and_eq_true] at h
    cases j with
    | zero => simp at ha; subst ha; exact h.1
    | succ j => exact plainAll_at h.2 j a (by simpa using ha)
theorem CR.plain (h : CR w Z a v) : a.plain = true → CR w' Z' a v := by
  induction h with
  | val v h => exact fun _ => .val v h
  | tva S x vs hS h => exact fun hp => .tva S x vs hS (h.plain hp)
  | tv1 S x v hS h => exact fun hp => .tv1 S x v hS (h.plain hp)
  | rtp => intro hp; simp [AV.plain] at hp
  | rop => intro hp; simp [AV.plain] at hp
  | agg cs vs hl hr ih => exact fun hp => .agg cs vs hl fun j a v ha hv => ih j a v ha hv (plainAll_at (by simpa [AV.plain] using hp) j a ha)
  | tup cs vs hl hr ih => exact fun hp => .tup cs vs hl fun j a v ha hv => ih j a v ha hv (plainAll_at (by simpa [AV.plain] using hp) j a ha)
  | fn => intro hp; simp [AV.plain] at hp
mutual
theorem plain_closed : ∀ {a : AV}, a.plain = true → a.closed = true
  | .bad, h => by simp [AV.plain] at h
  | .val _, _ => rfl
  | .tv _ _, _ => rfl
  | .rtp _ _, _ => rfl
  | .agg cs, h => by simp only [AV.plain] at h; simp only [AV.closed]; exact plainAll_closed h
  | .tup cs, h => by simp only [AV.plain] at h; simp only [AV.closed]; exact plainAll_closed h
  | .fn _ _, h => by simp [AV.plain] at h
  | .rop _ _, _ => rfl
  | .ref _ _, h => by simp [AV.plain] at h
  | .tref .., h => by simp [AV.plain] at h
  | .osl .., h => by simp [AV.plain] at h
  | .optr .., h => by simp [AV.plain] at h
  | .csl .., h => by simp [AV.plain] at h
theorem plainAll_closed : ∀ {l : List AV}, plainAll l = true → closedAll l = true
  | [], _ => rfl
  | a :: l, h => by
    simp only [plainAll, Bool.and_eq_true] at h
    simp only [closedAll, Bool.and_eq_true]
    exact ⟨plain_closed h.1, plainAll_closed h.2⟩
end
end

def GlR (E : Ctx) (w : World) (Z : Nat → Prop) : Prop := ∀ g a, E.gl g = some a → CR w Z a (.pointer (some ⟨g, 0, none⟩))
theorem GlR.mono {E : Ctx} {w w' : World} {Z Z' : Nat → Prop} (hs : Stay w Z w' Z') (h : GlR E w Z) : GlR E w' Z' := fun g cs hg => (h g cs hg).mono hs
def Promise (P : Program) (f : FuncId) (vs : Array Value) (w : World) (Z : Nat → Prop) (r : SRes) : Prop :=
  Calls P f vs w fun e w' => ∃ v Z' own' γ', e = .returned v ∧ Stay w Z w' Z' ∧ MemR w ⟨fun _ => True, Z⟩ w' Z' own' γ' r.roots (fun s => s < 16) ∧ VR w' Z' γ' r.res v
def EnvOK (E : Ctx) : Prop := ∀ f args r, closedAll args = true → E.env f args = some r → r.pre → ∀ (w : World) (Z : Nat → Prop) (vs : List Value), GlR E w Z → (∀ b, Z b → b < w.heap.size) → CRs w Z args vs → Promise E.P f vs.toArray w Z r
section
variable {E : Ctx} {w w' w0 : World} {Z Z' : Nat → Prop} {K : Kp} {own own' own2 : Own} {γ γ' γ2 : Gst} {h h' : Heap} {used used' : Nat → Prop} {r s d id : Nat} {R : Root} {a A B : AV} {v V U : Value} {cs ds : List AV} {vs us : List Value}
theorem shL_get (base : Nat) : ∀ (l : List AV) (j : Nat), (shL base l)[j]? = (l[j]?).map (AV.sh base)
  | [], j => by simp [shL]
  | a :: l, 0 => by simp [shL]
  | a :: l, j + 1 => by simpa [shL] using shL_get base l j
theorem shL_length (base : Nat) : ∀ l : List AV, (shL base l).length = l.length
  | [] => rfl
  | _ :: l => by simp [shL, shL_length base l]
structure Shift (base : Nat) (γ γ' : Gst) : Prop where
  β : ∀ r b, γ.β r = some b → γ'.β (base + r) = some b
  G : ∀ s p hd, γ.G s p = some hd → γ'.G (base + s) p = some hd
theorem CR.sh {base : Nat} (h : CR w Z a v) : CR w Z (a.sh base) v := by
  induction h with
  | val v h => exact .val v h
  | tva S x vs hS h => exact .tva S x vs hS h
  | tv1 S x v hS h => exact .tv1 S x v hS h
  | rtp S x b o us hz hr h => exact .rtp S x b o us hz hr h
  | rop cs off b o u hz hc hr ih => exact .rop cs off b o u hz hc hr
  | agg cs vs hl hr ih =>
    refine .agg _ vs (by rw [shL_length]; exact hl) fun j x y hx hy => ?_
    rw [shL_get] at hx
    obtain ⟨x', hx', rfl⟩ := Option.map_eq_some_iff.1 hx
    exact ih j x' y hx' hy
  | tup cs vs hl hr ih =>
    refine .tup _ vs (by rw [shL_length]; exact hl) fun j x y hx hy => ?_
    rw [shL_get] at hx
    obtain ⟨x', hx', rfl⟩ := Option.map_eq_some_iff.1 hx
    exact ih j x' y hx' hy
  | fn f cs vs hl hr ih =>
    refine .fn f _ vs (by rw [shL_length]; exact hl) fun j x y hx hy => ?_
    rw [shL_get] at hx
    obtain ⟨x', hx', rfl⟩ := Option.map_eq_some_iff.1 hx
    exact ih j x' y hx' hy
theorem VR.sh {base : Nat} (hs : Shift base γ γ') (h : VR w Z γ a v) : VR w Z γ' (a.sh base) v := by
  induction h with
  | bad v => exact .bad v
  | cr h => exact .cr h.sh
  | ref r off b h => exact .ref _ off b (hs.β _ _ h)
  | tref r s p i st hd b o so T h hi hb hst => exact .tref _ _ p i st hd b o so T (hs.G _ _ _ h) hi hb hst
  | osl r s p win v hd h hv => exact .osl _ _ p win v hd (hs.G _ _ _ h) hv
  | optr r s p v hd h hp hv => exact .optr _ _ p v hd (hs.G _ _ _ h) hp hv
  | csl r off n b c h hc hr => exact .csl _ off n b c (hs.β _ _ h) hc hr
  | agg cs vs hl hr ih =>
    refine .agg _ vs (by rw [shL_length]; exact hl) fun j x y hx hy => ?_
    rw [shL_get] at hx
    obtain ⟨x', hx', rfl⟩ := Option.map_eq_some_iff.1 hx
    exact ih j x' y hx' hy
  | tup cs vs hl hr ih =>
    refine .tup _ vs (by rw [shL_length]; exact hl) fun j x y hx hy => ?_
    rw [shL_get] at hx
    obtain ⟨x', hx', rfl⟩ := Option.map_eq_some_iff.1 hx
    exact ih j x' y hx' hy
  | fn f cs vs hl hr ih =>
    refine .fn f _ vs (by rw [shL_length]; exact hl) fun j x y hx hy => ?_
    rw [shL_get] at hx
    obtain ⟨x', hx', rfl⟩ := Option.map_eq_some_iff.1 hx
    exact ih j x' y hx' hy
theorem VRs.sh {base : Nat} (hs : Shift base γ γ') (h : VRs w Z γ cs vs) : VRs w Z γ' (shL base cs) vs := by
  refine ⟨by rw [shL_length]; exact h.1, fun j x y hx hy => ?_⟩
  rw [shL_get] at hx
  obtain ⟨x', hx', rfl⟩ := Option.map_eq_some_iff.1 hx
  exact (h.2 j x' y hx' hy).sh hs
theorem NodeAt.moveR {M M' : Rows} {r' : Nat} {g g' : Pth → Option Hd} {n : Node} {m : Nat} {p : Pth} (hs : Stay w Z w' Z') (hg : ∀ q hd, g q = some hd → g' q = some hd) (hb : ∀ b q row, own b = some (r, q) → M b = some row → own' b = some (r', q) ∧ M' b = some row)
    (h : NodeAt w Z M own r g n m p) : NodeAt w' Z' M' own' r' g' n m p := by
  obtain ⟨hd, h1, h2, h3, h4, hle, hlim, hel⟩ := h
  refine ⟨hd, hg _ _ h1, h2, h3, h4, hle, hlim, fun hc => ?_⟩
  obtain ⟨b, o, row, e1, e2, e3, e4, e5⟩ := hel hc
  obtain ⟨k1, k2⟩ := hb _ _ _ e2 e3
  refine ⟨b, o, row, e1, k1, k2, e4, fun j hj => ?_⟩
  obtain ⟨y, hy, hor⟩ := e5 j hj
  exact ⟨y, hy, OR.move (r' := r') hs [] (fun q hd _ => hg q hd) (fun b q row _ => hb b q row) hor⟩
theorem RootR.sh {base : Nat} (hs : Shift base γ γ') (hGe : γ'.G (base + R.cur) = γ.G R.cur) (ho : ∀ b p, own b = some (r, p) → own' b = some (base + r, p)) (hp : R.pend = none) (h : RootR w Z own γ r R) : RootR w Z own' γ' (base + r) (R.sh base) := by
  refine ⟨fun e he => by simp [Root.sh] at he, ?_⟩
  have hc := h.cont
  unfold ContR at hc ⊢
  split at hc
  · rename_i cs hcs
    simp only [Root.sh, hcs, Cont.sh]
    obtain ⟨e1, e2, b, arr, e, k1, k2, k3, k4⟩ := hc
    exact ⟨e1, e2, b, arr, e, hs.β _ _ k1, ho _ _ k2, k3, k4.sh hs⟩
  · rename_i m by_ S xs hcs
    simp only [Root.sh, hcs, Cont.sh, hp]
    refine ⟨⟨hc.1.1, by rw [hGe]; exact hc.1.2⟩, ?_⟩
    have hc := hc.2
    split at hc
    · rename_i hf
      rw [if_pos hf]
      obtain ⟨_, own0, h1, h2⟩ := hc
      exact ⟨trivial, own0, h1, h2.moveR (Stay.refl _ _) (fun q hd hq => hs.G _ _ _ hq) fun b q row hob hM => ⟨hob, hM⟩⟩
    · rename_i hf
      rw [if_neg hf]
      simp only [hp] at hc
      exact hc.moveR (Stay.refl _ _) (fun q hd hq => hs.G _ _ _ hq) fun b q row hob hM => ⟨ho b q hob, hM⟩
theorem hget_newRoots (base : Nat) : ∀ (l : List (Nat × Root)) (h : Heap) (x : Nat), hget (applyW h (newRoots base l)) x = if base ≤ x ∧ (hget l (x - base)).isSome then (hget l (x - base)).map (Root.sh base) else hget h x
  | [], h, x => by simp [newRoots, applyW, hget]
  | (r, R) :: l, h, x => by
    rw [newRoots, applyW_append]
    show hget (hput _ _ _) x = _
    rw [hget_hput, hget_newRoots base l h x]
    by_cases hx : x = base + r
    · subst hx
      simp [hget]
    · rw [if_neg hx]
      by_cases hb : base ≤ x
      · have hr : ¬ r = x - base := by omega
        simp only [hget, hr, if_false]
      · rw [if_neg (by omega), if_neg (by omega)]
theorem hget_mem {l : List (Nat × Root)} (h : hget l r = some R) : (r, R) ∈ l := by
  induction l with
  | nil => simp [hget] at h
  | cons x l ih =>
    obtain ⟨k, c⟩ := x
    simp only [hget] at h
    split at h
    · rename_i hk
      injection h with h
      subst hk; subst h
      exact List.mem_cons_self
    · exact List.mem_cons_of_mem _ (ih h)
theorem closeC0_closed {C : List Prop} {ws : List (Nat × Option Root)} {h : Heap} (he : closeC0 h A = some (C, B, ws)) : B.closed = true := by
  unfold closeC0 at he
  split at he
  · split at he
    · split at he
      · simp only [Option.some.injEq, Prod.mk.injEq] at he; obtain ⟨_, rfl, _⟩ := he; rfl
      · cases he
    · cases he
  · split at he
    · rename_i hc; simp only [Option.some.injEq, Prod.mk.injEq] at he; obtain ⟨_, rfl, _⟩ := he; exact hc
    · cases he
theorem closeC_closed {C : List Prop} {ws : List (Nat × Option Root)} {h : Heap} (he : closeC h A = some (C, B, ws)) : B.closed = true := by
  unfold closeC at he
  split at he
  · split at he
    · split at he
      · split at he
        · split at he
          · simp only [Option.some.injEq, Prod.mk.injEq] at he; obtain ⟨_, rfl, _⟩ := he; rfl
          · cases he
        · cases he
      · cases he
    · cases he
  · exact closeC0_closed he
theorem closeL_closed : ∀ {cs : List AV} {C : List Prop} {ds : List AV} {ws : List (Nat × Option Root)} {h : Heap}, closeL h cs = some (C, ds, ws) → closedAll ds = true := by
  intro cs
  induction cs with
  | nil => intro C ds ws h he; simp only [closeL, Option.some.injEq, Prod.mk.injEq] at he; obtain ⟨_, rfl, _⟩ := he; rfl
  | cons c cs ih =>
    intro C ds ws h he
    simp only [closeL] at he
    split at he
    · rename_i h1
      split at he
      · rename_i h2
        simp only [Option.some.injEq, Prod.mk.injEq] at he
        obtain ⟨_, rfl, _⟩ := he
        simp only [closedAll, Bool.and_eq_true]
        exact ⟨closeC_closed h1, ih h2⟩
      · cases he
    · cases he
theorem acall_sound (hE : EnvOK E) (hm : MemR w0 K w Z own γ h used) (hgl : GlR E w Z) {f : FuncId} {args : List AV} {C : List Prop} {Kn : Prop} {ws : List (Nat × Option Root)} (he : acall E h id f args = some (C, Kn, a, ws)) (hC : AllP C) (hv : VRs w Z γ args vs)
    (hid : ∀ j, j < 16 → ¬ used (id + j)) (hu : ∀ s, used s → used' s) (hid' : ∀ j, j < 16 → used' (id + j)) :
    Calls E.P f vs.toArray w fun e w' => ∃ v Z' own' γ', e = .returned v ∧ Kn ∧ Stay w Z w' Z' ∧ Gst.Ext used γ γ' ∧ MemR w0 K w' Z' own' γ' (applyW h ws) used' ∧ VR w' Z' γ' a v := by
  unfold acall at he
  split at he
  · rename_i C1 args' ws1 hcl
    split at he
    · rename_i r hr
      split at he
      · rename_i hfit
        have hclosed : closedAll args' = true := closeL_closed hcl
        have hpre : AllP C1 ∧ r.pre ∧ (C = C1 ++ [r.pre]) ∧ Kn = okAV r.res := by
          split at he <;> (simp only [Option.some.injEq, Prod.mk.injEq] at he; obtain ⟨rfl, rfl, _⟩ := he; rw [AllP.append] at hC; exact ⟨hC.1, hC.2.1, rfl, rfl⟩)
        obtain ⟨hC1, hpre, _, rfl⟩ := hpre
        obtain ⟨Z1, own1, k1, k2, k3⟩ := closeL_sound hm hcl hC1 hv
        refine (hE f args' r hclosed hr hpre w Z1 vs (hgl.mono k1.stay) k1.mem.zlt ⟨k2, k3⟩).mono fun e w' ⟨v, Z2, own2, γ2, e1, e2, e3, e4⟩ => ?_
        have hall : ∀ b, b < w.heap.size → w'.heap[b]? = w.heap[b]? := fun b hb => e3.kept b hb trivial
        split at he
        · rename_i hpl
          simp only [Bool.and_eq_true] at hpl
          simp only [Option.some.injEq, Prod.mk.injEq] at he
          obtain ⟨_, _, rfl, rfl⟩ := he
          have hst : Stay w Z w' Z := ⟨fun b hb => hall b (hm.zlt b hb), fun _ h => h⟩
          refine ⟨v, Z, own, γ, e1, e4.ok, hst, Gst.Ext.refl _ _, ?_, .cr ((e4.toCR (plain_closed hpl.1)).plain hpl.1)⟩
          refine hm.step hst (Gst.Ext.refl used γ) hu e3.os e3.tape e3.output e3.size (fun _ => False) (fun b hb _ => hall b hb) (fun b o ho _ => ho) (fun b o ho => .inl ⟨ho, fun h => h⟩) (fun b hb => ⟨Nat.lt_of_lt_of_le (hm.zlt b hb) e3.size, .inl hb⟩) (fun r R hg => .inl ⟨hg, fun h => h⟩) (fun s hs => hm.fresh s (fun h => hs (hu s h)))
        · simp only [Option.some.injEq, Prod.mk.injEq] at he
          obtain ⟨_, _, rfl, rfl⟩ := he
          classical
          let γ3 : Gst := { β := fun s => if used s then γ.β s else if id ≤ s then γ2.β (s - id) else none, G := fun s => if used s then γ.G s else if id ≤ s then γ2.G (s - id) else fun _ => none }
          let own3 : Own := fun b => if b < w.heap.size then own1 b else (own2 b).map fun o => (id + o.1, o.2)
          have hext : Gst.Ext used γ γ3 := fun s hs => ⟨by simp only [γ3, if_pos hs], by simp only [γ3, if_pos hs]⟩
          have hsh : Shift id γ2 γ3 := by
            refine ⟨fun r b hb => ?_, fun s p hd hp => ?_⟩
            · have hr : r < 16 := by
                rcases Nat.lt_or_ge r 16 with h | h
                · exact h
                · rw [(e3.fresh r (by omega)).1] at hb; cases hb
              simp only [γ3]
              rw [if_neg (hid r hr), if_pos (by omega), Nat.add_sub_cancel_left]
              exact hb
            · have hr : s < 16 := by
                rcases Nat.lt_or_ge s 16 with h | h
                · exact h
                · rw [(e3.fresh s (by omega)).2] at hp; cases hp
              simp only [γ3]
              rw [if_neg (hid s hr), if_pos (by omega), Nat.add_sub_cancel_left]
              exact hp
          have hge : ∀ b o, own2 b = some o → w.heap.size ≤ b := fun b o ho => by
            rcases Nat.lt_or_ge b w.heap.size with h | h
            · exact absurd trivial (e3.ownK b o ho h)
            · exact h
          refine ⟨v, Z2, own3, γ3, e1, e4.ok, k1.stay.trans e2, hext, ?_, e4.sh hsh⟩
          rw [applyW_append]
          refine k1.mem.step e2 hext hu e3.os e3.tape e3.output e3.size (fun _ => False) (fun b hb _ => hall b hb) (fun b o ho _ => ?_) (fun b o ho => ?_) (fun b hb => ⟨e3.zlt b hb, ?_⟩) (fun r' R' hg => ?_) (fun s hs => ?_)
          · simp only [own3]
            rw [if_pos (k1.mem.ownlt b o ho)]
            exact ho
          · simp only [own3] at ho
            split at ho
            · exact .inl ⟨ho, fun h => h⟩
            · rename_i hb
              obtain ⟨o', ho', rfl⟩ := Option.map_eq_some_iff.1 ho
              exact .inr ⟨e3.ownlt b _ ho', e3.ownZ b _ ho', .inr (by omega)⟩
          · rcases Nat.lt_or_ge b w.heap.size with h | h
            · exact .inl (e3.zin b hb h trivial)
            · exact .inr (.inr h)
          · rw [hget_newRoots] at hg
            split at hg
            · rename_i hcond
              obtain ⟨R0, hR0, rfl⟩ := Option.map_eq_some_iff.1 hg
              have hmem := hget_mem hR0
              have hf := List.all_eq_true.1 hfit _ hmem
              simp only [Bool.and_eq_true, decide_eq_true_eq, Option.isNone_iff_eq_none] at hf
              obtain ⟨⟨f1, f2⟩, f3⟩ := hf
              have hr' : r' = id + (r' - id) := by omega
              refine .inr ⟨?_, by rw [hr']; exact hid' _ f1, hid' _ f2, fun e he => by simp [Root.sh] at he⟩
              rw [hr']
              refine (e3.root _ _ hR0).sh hsh (by
                simp only [γ3]
                rw [if_neg (hid _ f2), if_pos (by omega), Nat.add_sub_cancel_left]) (fun b p ho => ?_) f3
              simp only [own3]
              rw [if_neg (by have := hge b _ ho; omega), ho]
              simp
            · exact .inl ⟨hg, fun h => h⟩
          · have hns : ¬ used s := fun h => hs (hu s h)
            have key : ∀ {k}, id ≤ s → s - id = k → ¬ k < 16 := fun h1 h2 h3 => hs (by have := hid' _ h3; rwa [← h2, show id + (s - id) = s from by omega] at this)
            simp only [γ3]
            rw [if_neg hns, if_neg hns]
            by_cases h1 : id ≤ s
            · rw [if_pos h1, if_pos h1]
              exact e3.fresh _ (key h1 rfl)
            · rw [if_neg h1, if_neg h1]
              exact ⟨rfl, fun _ => rfl⟩
      · cases he
    · cases he
  · cases he
end
end Go.BE
namespace Go.BE
open Go.RowKit
def fb (f : FuncId) : Frame := { (default : Frame) with fn := f, kind := .normal }
def mkF (F : AFr) (a : Act) : Frame := (fb F.fn).at a F.todo
def frs : List AFr → List Act → List Frame
  | F :: Fs, a :: as => mkF F a :: frs Fs as
  | _, _ => []
structure FrR (w : World) (Z : Nat → Prop) (γ : Gst) (F : AFr) (a : Act) : Prop where
  defers : a.defers = []
  tmps : VRs w Z γ F.fr a.tmps.toList
def CsR (w : World) (Z : Nat → Prop) (γ : Gst) : List AFr → List Act → Prop
  | [], [] => True
  | F :: Fs, a :: as => FrR w Z γ F a ∧ CsR w Z γ Fs as
  | _, _ => False
structure StOK (E : Ctx) (w0 : World) (K : Kp) (c : Cfg) (a : Act) (as : List Act) (w : World) (Z : Nat → Prop) (own : Own) (γ : Gst) : Prop where
  cur : FrR w Z γ c.cur a
  callers : CsR w Z γ c.callers as
  mem : MemR w0 K w Z own γ c.h (fun s => s < c.nx)
  gl : GlR E w Z
def FnsOK (E : Ctx) : Prop := ∀ f, E.fns f = true → ∀ args w, (callFunc f args).run E.P w = .ok (.enter f args) w
structure EOK (E : Ctx) : Prop where
  ty : TyOK E.P E.ty
  env : EnvOK E
  fns : FnsOK E
  mixed : E.P.follows .mixedOrders = true
def botFn : AFr → List AFr → FuncId
  | F, [] => F.fn
  | _, G :: Gs => botFn G Gs
def FinOK (E : Ctx) (w0 : World) (K : Kp) (base : List Frame) (c : Cfg) (a : Act) (as : List Act) (w : World) (Z : Nat → Prop) : Fin → Prop
  | .at_ c' => ∃ a' as' w' Z' own' γ', StOK E w0 K c' a' as' w' Z' own' γ' ∧ Stay w Z w' Z' ∧ botFn c'.cur c'.callers = botFn c.cur c.callers ∧ Steps E.P (lone (mkF c.cur a) (frs c.callers as ++ base) w) (lone (mkF c'.cur a') (frs c'.callers as' ++ base) w')
  | .ret A h nx => ∃ V w' Z' own' γ' fr, VR w' Z' γ' A V ∧ Stay w Z w' Z' ∧ MemR w0 K w' Z' own' γ' h (fun s => s < nx) ∧ Steps E.P (lone (mkF c.cur a) (frs c.callers as ++ base) w) (lone fr base w') ∧ fr.fn = botFn c.cur c.callers ∧ fr.leaving E.P w' (.returned V)
section
variable {P : Program} {E : Ctx} {w w' w0 : World} {Z Z' : Nat → Prop} {K : Kp} {own own' : Own} {γ γ' : Gst} {h h' : Heap} {used used' : Nat → Prop} {r s d id : Nat} {R : Root} {A B : AV} {v V U : Value} {cs ds : List AV} {vs us : List Value} {F : AFr} {Fs : List AFr} {a : Act} {as : List Act} {c : Cfg}
theorem FrR.mono (hs : Stay w Z w' Z') (hγ : γ.Le γ') (h : FrR w Z γ F a) : FrR w' Z' γ' F a := ⟨h.defers, h.tmps.mono hs hγ⟩
theorem CsR.mono (hs : Stay w Z w' Z') (hγ : γ.Le γ') : ∀ {Fs : List AFr} {as : List Act}, CsR w Z γ Fs as → CsR w' Z' γ' Fs as
  | [], [], _ => trivial
  | _ :: _, _ :: _, h => ⟨h.1.mono hs hγ, CsR.mono hs hγ h.2⟩
theorem lget_val {t : Nat} {u : Value} {l : List AV} {vs : List Value} (h : VRs w Z γ l vs) (hl : lget l t = .val u) : vs[t]? = some u := by
  unfold lget at hl
  rw [List.getD_eq_getElem?_getD] at hl
  cases hx : l[t]? with
  | none => rw [hx] at hl; simp at hl
  | some x =>
    rw [hx] at hl
    simp only [Option.getD_some] at hl
    subst hl
    obtain ⟨v, h1, h2⟩ := h.get hx
    rw [h1, h2.val_inv]
theorem lget_rel {t : Nat} {l : List AV} {arr : Array Value} (h : VRs w Z γ l arr.toList) : VR w Z γ (lget l t) (arr.getD t undef) := by
  unfold lget
  rw [List.getD_eq_getElem?_getD]
  cases hx : l[t]? with
  | none => exact .bad _
  | some x =>
    obtain ⟨v, h1, h2⟩ := h.get hx
    rw [Array.getElem?_toList] at h1
    rw [Array.getD_eq_getD_getElem?, h1]
    exact h2
theorem ev_rel (hg : GlR E w Z) (hf : VRs w Z γ F.fr a.tmps.toList) (x : Operand) : VR w Z γ (ev E F.fr x) (a.eval x) := by
  cases x with
  | tmp t => exact lget_rel hf
  | const v => exact cval_rel v
  | global g =>
    simp only [ev, Act.eval]
    split
    · rename_i cs hcs
      exact .cr (hg g cs hcs)
    · exact .bad _
  | func f => exact .cr (.fn f [] #[] rfl (fun j a v h => by simp at h))
theorem ev_rel' {fr : List AV} (hg : GlR E w Z) (hf : VRs w Z γ fr a.tmps.toList) (x : Operand) : VR w Z γ (ev E fr x) (a.eval x) := ev_rel (F := ⟨0, [], fr⟩) hg hf x
theorem op_value {b : Frame} {k : List Item} {fs : List Frame} {ops : Array Oper} {i : Nat} {rest : List Nat} {o : Oper} (ho : ops[i]? = some o) (hw : Region.wanted o (yielded ops a.tmps) = true)
    (hr : (execOp a.eval o).run P w = .ok (.value v) w') : step P (lone (b.at a (.inRegion ops (i :: rest) :: k)) fs w) = .next (lone (b.at (a.put o.dst v) (.inRegion ops rest :: k)) fs w') := by
  have hg := stepG_op (P := P) (b := b) (k := k) (cs := fs) (w := w) (rest := rest) ho hw
  have hfin : (b.at a (.inRegion ops (i :: rest) :: k)).finish v = b.at (a.put o.dst v) (.inRegion ops rest :: k) := by rw [Frame.finish_at, ho]; rfl
  refine step_lone_go ?_
  rw [hg, ← hfin]
  simp [stepG.apply, hr]
theorem op_skipv {b : Frame} {k : List Item} {fs : List Frame} {ops : Array Oper} {i : Nat} {rest : List Nat} {o : Oper} (ho : ops[i]? = some o) (hw : Region.wanted o (yielded ops a.tmps) = true)
    (hr : (execOp a.eval o).run P w = .ok .skip w') : step P (lone (b.at a (.inRegion ops (i :: rest) :: k)) fs w) = .next (lone (b.at (a.put o.dst undef) (.inRegion ops rest :: k)) fs w') := by
  have hg := stepG_op (P := P) (b := b) (k := k) (cs := fs) (w := w) (rest := rest) ho hw
  have hfin : (b.at a (.inRegion ops (i :: rest) :: k)).finish undef = b.at (a.put o.dst undef) (.inRegion ops rest :: k) := by rw [Frame.finish_at, ho]; rfl
  refine step_lone_go ?_
  rw [hg, ← hfin]
  simp [stepG.apply, hr]
theorem op_enter {b : Frame} {k : List Item} {fs : List Frame} {ops : Array Oper} {i : Nat} {rest : List Nat} {o : Oper} {f : FuncId} {args : Array Value} (ho : ops[i]? = some o) (hw : Region.wanted o (yielded ops a.tmps) = true)
    (hr : (execOp a.eval o).run P w = .ok (.enter f args) w') : step P (lone (b.at a (.inRegion ops (i :: rest) :: k)) fs w) = .next (lone (Frame.enter P f args .normal) (b.at a (.inRegion ops (i :: rest) :: k) :: fs) w') := by
  have hg := stepG_op (P := P) (b := b) (k := k) (cs := fs) (w := w) (rest := rest) ho hw
  refine step_lone_go ?_
  rw [hg]
  simp [stepG.apply, hr, Frame.at]
theorem op_back {b : Frame} {k : List Item} {fs : List Frame} {ops : Array Oper} {i : Nat} {rest : List Nat} {o : Oper} {fr : Frame} (ho : ops[i]? = some o) (hl : fr.leaving P w (.returned v)) :
    step P (lone fr (b.at a (.inRegion ops (i :: rest) :: k) :: fs) w) = .next (lone (b.at (a.put o.dst v) (.inRegion ops rest :: k)) fs w) := by
  have hfin : (b.at a (.inRegion ops (i :: rest) :: k)).finish v = b.at (a.put o.dst v) (.inRegion ops rest :: k) := by rw [Frame.finish_at, ho]; rfl
  rw [← hfin]
  exact step_leave_returned hl

theorem VRs.putT {fr : List AV} (hf : VRs w Z γ fr a.tmps.toList) (dst : Option Tmp) (hv : VR w Z γ A v) : VRs w Z γ (putT fr dst A) (a.put dst v).tmps.toList := by
  cases dst with
  | none => exact hf
  | some t =>
    simp only [BE.putT, Act.put, Array.toList_setIfInBounds]
    exact hf.set t hv
theorem FrR.fin (hf : FrR w Z γ F a) {ops : Array Oper} {dst : Option Tmp} {rest : List Nat} {k : List Item} (hv : VR w Z γ A v) : FrR w Z γ (F.fin ops dst rest k A) (a.put dst v) :=
  ⟨by cases dst <;> exact hf.defers, hf.tmps.putT dst hv⟩
theorem set_self {fr : List AV} {t : Nat} {y : AV} (h : fr[t]? = some y) : fr.set t y = fr := by
  apply List.ext_getElem?
  intro i
  rw [List.getElem?_set]
  by_cases hi : t = i
  · subst hi
    have := (List.getElem?_eq_some_iff.1 h).1
    rw [if_pos rfl, if_pos this, h]
  · rw [if_neg hi]
theorem lget_set_self {fr : List AV} {t : Nat} {x : AV} (h : lget fr t = x) (hx : x ≠ .bad) : fr.set t x = fr := by
  unfold lget at h
  rw [List.getD_eq_getElem?_getD] at h
  cases ht : fr[t]? with
  | none => rw [ht] at h; exact absurd h.symm hx
  | some y =>
    rw [ht] at h
    simp only [Option.getD_some] at h
    subst h
    exact set_self ht
theorem setB_eq {fr : List AV} {x : Operand} {b d : Bool} (hb : asB (ev E fr x) = some b) (hd : b = d) : setB fr (opTmp x) d = fr := by
  subst hd
  cases x with
  | tmp t =>
    simp only [opTmp, setB]
    refine lget_set_self ?_ (by simp [abool])
    simp only [ev] at hb
    unfold asB at hb
    split at hb
    · rename_i heq
      injection hb with hb
      subst hb
      exact heq
    · cases hb
  | _ => rfl
theorem frs_cons {F : AFr} {Fs : List AFr} {b : Act} {bs : List Act} {base : List Frame} : frs (F :: Fs) (b :: bs) ++ base = mkF F b :: (frs Fs bs ++ base) := rfl
theorem replicate_und (n : Nat) : VRs w Z γ (List.replicate n und) (List.replicate n undef) := by
  refine ⟨by simp, fun j x y hx hy => ?_⟩
  rw [List.getElem?_replicate] at hx hy
  split at hx
  · rename_i hj
    rw [if_pos hj] at hy
    injection hx with hx; injection hy with hy
    subst hx; subst hy
    exact .cr (.val _ trivial)
  · cases hx
theorem enter_ok {f : FuncId} {args : List AV} {vs : List Value} {F : AFr} (he : enter E f args = some F) (hr : VRs w Z γ args vs) :
    ∃ b, Frame.enter E.P f vs.toArray .normal = mkF F b ∧ FrR w Z γ F b ∧ F.fn = f := by
  unfold enter at he
  split at he
  · rename_i fn hfn
    split at he
    · rename_i code hb
      split at he
      · rename_i hl
        injection he with he
        subst he
        refine ⟨{ tmps := vs.toArray ++ Array.replicate (fn.ntmps - vs.toArray.size) undef, defers := [] }, ?_, ⟨rfl, ?_⟩, rfl⟩
        · simp [Frame.enter, mkF, fb, Frame.at, hfn, hb]
        · simp only [Array.toList_append, Array.toList_replicate, List.size_toArray]
          rw [← hr.1]
          exact hr.append (replicate_und _)
      · cases he
    · cases he
  · cases he
theorem aop_sound (hT : TyOK E.P E.ty) (hm : MemR w0 K w Z own γ h used) (hid : ¬ used id) (hu : ∀ s, used s → used' s) (hid' : used' id) {ro : Nat} {ρa : Operand → AV} {ρ : Operand → Value} (hρ : ∀ x, VR w Z γ (ρa x) (ρ x)) (o : Oper) : OutOK E w0 K w Z γ h used used' ρ o (aop E h id ro ρa o.op) :=
  aop1_sound hT hm hid hu hid' (fun x => norm_sound hm (hρ x)) o
theorem runOp_sound {base : List Frame} (hE : EOK E) (hS : StOK E w0 K c a as w Z own γ) {ops : Array Oper} {i : Nat} {o : Oper} {rest : List Nat} {k : List Item} {Q : Fin → Prop}
    (ht : c.cur.todo = .inRegion ops (i :: rest) :: k) (ho : ops[i]? = some o) (hw : Region.wanted o (yielded ops a.tmps) = true)
    (he : (runOp E c ops o rest k).wp Q) : ∃ f, Q f ∧ FinOK E w0 K base c a as w Z f := by
  have hev : ∀ x, VR w Z γ (ev E c.cur.fr x) (a.eval x) := fun x => ev_rel' hS.gl hS.cur.tmps x
  have hmk : mkF c.cur a = (fb c.cur.fn).at a (.inRegion ops (i :: rest) :: k) := by simp [mkF, ht]
  have hu : ∀ s, s < c.nx → s < c.nx + stepIds := fun s h => by omega
  unfold runOp at he
  split at he
  · rename_i x y z hop
    split at he
    · rename_i b hb
      have hv := asB_inv (hev x) hb
      have hrun : (execOp a.eval o).run E.P w = .ok (.value (a.eval (if b then y else z))) w := by
        simp only [execOp, hop, hv, asBool, Sem.run_bind, Sem.run_pure, Result.andThen_ok]
        cases b <;> rfl
      cases hbb : b with
      | true =>
        refine ⟨_, he.1 hbb, a.put o.dst (a.eval y), as, w, Z, own, γ, ⟨?_, hS.callers, hS.mem, hS.gl⟩, Stay.refl _ _, by first | rfl | (cases c.callers <;> rfl), ?_⟩
        · have : setB c.cur.fr (opTmp x) true = c.cur.fr := setB_eq hb hbb
          rw [this]
          exact hS.cur.fin (hev y)
        · rw [hmk]
          rw [hbb] at hrun
          exact .one (op_value ho hw hrun)
      | false =>
        refine ⟨_, he.2 hbb, a.put o.dst (a.eval z), as, w, Z, own, γ, ⟨?_, hS.callers, hS.mem, hS.gl⟩, Stay.refl _ _, by first | rfl | (cases c.callers <;> rfl), ?_⟩
        · have : setB c.cur.fr (opTmp x) false = c.cur.fr := setB_eq hb hbb
          rw [this]
          exact hS.cur.fin (hev z)
        · rw [hmk]
          rw [hbb] at hrun
          exact .one (op_value ho hw hrun)
    · exact he.elim
  · rename_i hnp
    have hop := aop_sound (K := K) (used' := fun s => s < c.nx + stepIds) hE.ty hS.mem (id := c.nx) (Nat.lt_irrefl _) hu (by show c.nx < c.nx + 16; omega) (ro := siteOp E c.cur.fn o.dst) hev o
    split at he
    · rename_i C' A' hv
      rw [hv] at hop
      obtain ⟨hC, he⟩ := chks_wp he
      obtain ⟨v, e1, e2⟩ := hop hC
      refine ⟨_, he, a.put o.dst v, as, w, Z, own, γ, ⟨hS.cur.fin e2, hS.callers, hS.mem.used_mono hu, hS.gl⟩, Stay.refl _ _, by cases c.callers <;> rfl, ?_⟩
      rw [hmk]
      exact .one (op_value ho hw e1)
    · rename_i C' A' ws sk hv
      rw [hv] at hop
      obtain ⟨hC, he⟩ := chks_wp he
      obtain ⟨n, v, w', Z', own', γ', e1, e2, e3, e4, e5, e6⟩ := hop hC
      have hle := e4.le hS.mem.fresh
      refine ⟨_, he, a.put o.dst v, as, w', Z', own', γ', ⟨(hS.cur.mono e3 hle).fin e6, hS.callers.mono e3 hle, e5, hS.gl.mono e3⟩, e3, by cases c.callers <;> rfl, ?_⟩
      rw [hmk]
      split at e2
      · obtain ⟨rfl, rfl⟩ := e2
        exact .one (op_skipv ho hw e1)
      · subst e2
        exact .one (op_value ho hw e1)
    · rename_i p hv
      rw [hv] at hop
      obtain ⟨b, e1, e2⟩ := hop
      refine ⟨_, he b e1, a.put o.dst (.bool b), as, w, Z, own, γ, ⟨hS.cur.fin (.cr (.val _ trivial)), hS.callers, hS.mem.used_mono hu, hS.gl⟩, Stay.refl _ _, by cases c.callers <;> rfl, ?_⟩
      rw [hmk]
      exact .one (op_value ho hw e2)
    · rename_i f args hv
      rw [hv] at hop
      obtain ⟨vs, e1, e2⟩ := hop
      split at he
      · rename_i hfn
        rw [hE.fns f hfn] at e1
        split at he
        · rename_i C' Kn A' ws hcall
          obtain ⟨hC, he⟩ := chks_wp he
          have hcl := acall_sound (used' := fun s => s < c.nx + stepIds) hE.env hS.mem hS.gl hcall hC e2 (fun j hj => by omega) hu (fun j hj => by show c.nx + j < c.nx + 16; omega)
          obtain ⟨e, w', fr, ⟨v, Z', own', γ', rfl, k1, k2, k3, k4, k5⟩, q1, q2, q3⟩ := hcl (mkF c.cur a :: (frs c.callers as ++ base))
          have hle := k3.le hS.mem.fresh
          refine ⟨_, he k1, a.put o.dst v, as, w', Z', own', γ', ⟨(hS.cur.mono k2 hle).fin k5, hS.callers.mono k2 hle, k4, hS.gl.mono k2⟩, k2, by cases c.callers <;> rfl, ?_⟩
          have hst := op_enter (P := E.P) (b := fb c.cur.fn) (k := k) (rest := rest) (fs := frs c.callers as ++ base) ho hw e1
          rw [← hmk] at hst
          refine .head hst (Steps.trans q1 ?_)
          rw [hmk]
          exact .one (op_back ho q3)
        · split at he
          · rename_i F' hF
            obtain ⟨b, q1, q2, q3⟩ := enter_ok hF e2
            refine ⟨_, he, b, a :: as, w, Z, own, γ, ⟨q2, ⟨hS.cur, hS.callers⟩, hS.mem, hS.gl⟩, Stay.refl _ _, rfl, ?_⟩
            rw [frs_cons, ← q1]
            have hst := op_enter (P := E.P) (b := fb c.cur.fn) (k := k) (rest := rest) (fs := frs c.callers as ++ base) ho hw e1
            rw [← hmk] at hst
            exact .one hst
          · exact he.elim
      · exact he.elim
    · exact he.elim
def resOne (arr : Array Value) : ResultVar → Sem Value
  | .tmp t => pure (arr.getD t undef)
  | .cell a t => do loadVar t (← asAddr (arr.getD a undef))
theorem results_eq (fn : Func) (arr : Array Value) : results fn arr = (do let vs ← fn.results.mapM (resOne arr); pure (if h : vs.size = 1 then vs[0] else .tuple vs)) := by
  unfold results
  have : (fun (x : ResultVar) => match x with | .tmp t => (pure (arr.getD t undef) : Sem Value) | .cell a t => do loadVar t (← asAddr (arr.getD a undef))) = resOne arr := by funext x; cases x <;> rfl
  rw [← this]
  rfl
theorem aload_addr {C : List Prop} {t : TypeId} (he : aload E h t A = some (C, B)) (hA : VR w Z γ A V) : ∃ ad, V = .pointer (some ad) := by
  unfold aload at he
  split at he
  · obtain ⟨b, o, rfl, _⟩ := hA.rop_inv; exact ⟨_, rfl⟩
  · obtain ⟨b, o, us, rfl, _⟩ := hA.rtp_inv; exact ⟨_, rfl⟩
  · obtain ⟨b, _, rfl⟩ := hA.ref_inv; exact ⟨_, rfl⟩
  · obtain ⟨hd, b, o, so, T, _, _, _, _, rfl⟩ := hA.tref_inv; exact ⟨_, rfl⟩
  · cases he
theorem aresults_sound (hT : TyOK E.P E.ty) (hm : MemR w0 K w Z own γ h used) {fr : List AV} {arr : Array Value} (hf : VRs w Z γ fr arr.toList) : ∀ {rs : List ResultVar} {C : List Prop} {vs : List AV}, aresults E h fr rs = some (C, vs) → AllP C →
    ∃ us : List Value, (rs.mapM (resOne arr)).run E.P w = .ok us w ∧ VRs w Z γ vs us
  | [], C, vs, he, _ => by
    simp only [aresults, Option.some.injEq, Prod.mk.injEq] at he
    obtain ⟨_, rfl⟩ := he
    exact ⟨[], rfl, .nil⟩
  | .tmp t :: rs, C, vs, he, hC => by
    simp only [aresults] at he
    split at he
    · rename_i C1 l hl
      injection he with he
      injection he with he1 he2
      subst he1; subst he2
      obtain ⟨us, h1, h2⟩ := aresults_sound hT hm hf hl hC
      exact ⟨arr.getD t undef :: us, by simp only [List.mapM_cons, resOne, Sem.run_bind, Sem.run_pure, Result.andThen_ok, h1], .cons (lget_rel hf) h2⟩
    · cases he
  | .cell x t :: rs, C, vs, he, hC => by
    simp only [aresults] at he
    split at he
    · rename_i C1 v C2 l hv hl
      injection he with he
      injection he with he1 he2
      subst he1; subst he2
      rw [AllP.append] at hC
      obtain ⟨us, h1, h2⟩ := aresults_sound hT hm hf hl hC.2
      obtain ⟨ad, had⟩ := aload_addr hv (lget_rel (t := x) hf)
      obtain ⟨u, h3, h4⟩ := aload_sound hT hm hv hC.1 (lget_rel (t := x) hf)
      rw [had] at h3
      simp only [Instr.loadAt, Instr.sureAddr, Sem.run_bind, Sem.run_pure, Result.andThen_ok] at h3
      exact ⟨u :: us, by simp only [List.mapM_cons, resOne, Sem.run_bind, Sem.run_pure, Result.andThen_ok, had, asAddr, h3, h1], .cons h4 h2⟩
    · cases he
theorem results_sound (hT : TyOK E.P E.ty) (hm : MemR w0 K w Z own γ h used) {fr : List AV} {arr : Array Value} (hf : VRs w Z γ fr arr.toList) {fn : Func} {C : List Prop} {vs : List AV} (he : aresults E h fr fn.results.toList = some (C, vs)) (hC : AllP C) :
    ∃ V, (results fn arr).run E.P w = .ok V w ∧ VR w Z γ (retv vs) V := by
  obtain ⟨us, h1, h2⟩ := aresults_sound hT hm hf he hC
  refine ⟨if h : us.toArray.size = 1 then us.toArray[0] else .tuple us.toArray, ?_, ?_⟩
  · rw [results_eq, Sem.run_bind, Array.mapM_eq_mapM_toList, Sem.run_map, h1]
    rfl
  · cases us with
    | nil =>
      have : vs = [] := List.eq_nil_of_length_eq_zero (by simpa using h2.1)
      subst this
      exact .tup _ _ rfl (fun j x y hx => by simp at hx)
    | cons u us =>
      cases vs with
      | nil => simp [VRs] at h2
      | cons x vs =>
        cases us with
        | nil =>
          have : vs = [] := List.eq_nil_of_length_eq_zero (by have := h2.1; simp at this; simpa using this)
          subst this
          exact h2.head
        | cons u' us =>
          cases vs with
          | nil => simp [VRs] at h2
          | cons x' vs => exact .tup _ _ (by simpa using h2.1) (fun j p q hp hq => h2.2 j p q hp (by simpa using hq))
theorem leave_sound {base : List Frame} (hE : EOK E) (hS : StOK E w0 K c a as w Z own γ) {Q : Fin → Prop} {todo : List Item}
    (hst : ∀ fs, Steps E.P (lone (mkF c.cur a) fs w) (lone { (fb c.cur.fn).at a todo with mode := .returning } fs w)) (he : (leave E c).wp Q) : ∃ f, Q f ∧ FinOK E w0 K base c a as w Z f := by
  unfold leave at he
  split at he
  · exact he.elim
  · rename_i fn hfn
    split at he
    · exact he.elim
    · rename_i C vs hvs
      have hcs := hS.callers
      split at he
      · rename_i hc
        obtain ⟨hC, he⟩ := chks_wp he
        obtain ⟨V, h1, h2⟩ := results_sound hE.ty hS.mem hS.cur.tmps hvs hC
        have hl : ({ (fb c.cur.fn).at a todo with mode := .returning } : Frame).leaving E.P w (.returned V) := ⟨rfl, hS.cur.defers, rfl, fn, hfn, h1⟩
        rw [hc] at hcs
        cases as with
        | cons => exact hcs.elim
        | nil =>
          refine ⟨_, he, V, w, Z, own, γ, _, h2, Stay.refl _ _, hS.mem, ?_, ?_, hl⟩
          · rw [hc]
            exact hst base
          · rw [hc]
            rfl
      · rename_i F Fs hc
        rw [hc] at hcs
        cases as with
        | nil => exact hcs.elim
        | cons b bs =>
          obtain ⟨hF, hFs⟩ := hcs
          split at he
          · rename_i ops i rest k htodo
            split at he
            · rename_i o ho
              obtain ⟨hC, he⟩ := chks_wp he
              obtain ⟨V, h1, h2⟩ := results_sound hE.ty hS.mem hS.cur.tmps hvs hC
              have hl : ({ (fb c.cur.fn).at a todo with mode := .returning } : Frame).leaving E.P w (.returned V) := ⟨rfl, hS.cur.defers, rfl, fn, hfn, h1⟩
              have hmk : mkF F b = (fb F.fn).at b (.inRegion ops (i :: rest) :: k) := by simp [mkF, htodo]
              refine ⟨_, he, b.put o.dst V, bs, w, Z, own, γ, ⟨hF.fin h2, hFs, hS.mem, hS.gl⟩, Stay.refl _ _, ?_, ?_⟩
              · rw [hc]
                cases Fs <;> rfl
              · rw [hc, frs_cons, hmk]
                exact (hst _).trans (.one (op_back ho hl))
            · exact he.elim
          · exact he.elim
theorem todo_sound {base : List Frame} (hS : StOK E w0 K c a as w Z own γ) {t : List Item} (hst : ∀ fs, step E.P (lone (mkF c.cur a) fs w) = .next (lone ((fb c.cur.fn).at a t) fs w)) {Q : Fin → Prop} (he : (todoC c t).wp Q) : ∃ f, Q f ∧ FinOK E w0 K base c a as w Z f :=
  ⟨_, he, a, as, w, Z, own, γ, ⟨⟨hS.cur.defers, hS.cur.tmps⟩, hS.callers, hS.mem, hS.gl⟩, Stay.refl _ _, by cases c.callers <;> rfl, .one (hst _)⟩
theorem yielded_at {ops : Array Oper} {j t : Nat} (hj : (ops[j]?).bind (·.dst) = some t) : yielded ops a.tmps j = match a.tmps[t]? with | some (.bool b) => some b | _ => none := by
  unfold yielded
  rw [hj]
  rfl
end
end Go.BE
namespace Go.BE
open Go.RowKit
theorem putT_length (F : List AV) (d : Option Tmp) (v : AV) : (putT F d v).length = F.length := by cases d <;> simp [putT]
theorem putT_get (F : List AV) (d : Option Tmp) (v : AV) (t : Nat) : (putT F d v)[t]? = if d = some t ∧ t < F.length then some v else F[t]? := by
  cases d with
  | none => simp [putT]
  | some d =>
    simp only [putT, List.getElem?_set, Option.some.injEq]
    by_cases h : d = t
    · subst h
      by_cases h2 : d < F.length
      · simp [h2]
      · simp [h2, List.getElem?_eq_none (Nat.le_of_not_lt h2)]
    · simp [h]

def upW : List (Nat × Option Root) → (Nat → Option Root) → Nat → Option Root
  | [], g => g
  | (k, R) :: ws, g => upW ws fun x => if x = k then R else g x
theorem hget_applyW : ∀ (ws : List (Nat × Option Root)) (h : Heap), hget (applyW h ws) = upW ws (hget h)
  | [], h => rfl
  | (k, some R) :: ws, h => by
    rw [applyW, hget_applyW ws, upW]
    congr 1
    funext x
    exact hget_hput h k x R
  | (k, none) :: ws, h => by
    rw [applyW, hget_applyW ws, upW]
    congr 1
    funext x
    exact hget_hdel h k x
theorem upW_not {x : Nat} : ∀ {ws : List (Nat × Option Root)} {g : Nat → Option Root}, x ∉ ws.map (·.1) → upW ws g x = g x
  | [], g, _ => rfl
  | (k, R) :: ws, g, h => by
    simp only [List.map_cons, List.mem_cons, not_or] at h
    rw [upW, upW_not h.2, if_neg h.1]
theorem upW_in {x : Nat} : ∀ {ws : List (Nat × Option Root)} {g g' : Nat → Option Root}, (x ∈ ws.map (·.1) ∨ g x = g' x) → upW ws g x = upW ws g' x
  | [], g, g', h => by
    rcases h with h | h
    · cases h
    · exact h
  | (k, R) :: ws, g, g', h => by
    rw [upW, upW]
    by_cases hk : x = k
    · exact upW_in (.inr (by simp [hk]))
    · refine upW_in ?_
      rcases h with h | h
      · simp only [List.map_cons, List.mem_cons] at h
        exact .inl (h.resolve_left hk)
      · exact .inr (by simp [hk, h])
def selF (L : Nat → Bool) : Nat → List Rc → List AV → List AV
  | _, [], F => F
  | i, r :: rs, F => selF L (i + 1) rs (if L i then putT F r.dst r.val else F)
def selH (L : Nat → Bool) : Nat → List Rc → (Nat → Option Root) → Nat → Option Root
  | _, [], g => g
  | i, r :: rs, g => selH L (i + 1) rs (if L i then upW r.ws g else g)
theorem selF_length (L : Nat → Bool) : ∀ (rs : List Rc) (i : Nat) (F : List AV), (selF L i rs F).length = F.length
  | [], i, F => rfl
  | r :: rs, i, F => by
    simp only [selF]
    rw [selF_length L rs]
    split
    · exact putT_length _ _ _
    · rfl
theorem selF_congr {L L' : Nat → Bool} {t : Nat} : ∀ (rs : List Rc) (i : Nat) (F F' : List AV), F.length = F'.length → F[t]? = F'[t]? →
    (∀ (m : Nat) r, rs[m]? = some r → r.dst = some t → L (i + m) = L' (i + m)) → (selF L i rs F)[t]? = (selF L' i rs F')[t]?
  | [], i, F, F', hl, ht, h => ht
  | r :: rs, i, F, F', hl, ht, h => by
    simp only [selF]
    refine selF_congr rs (i + 1) _ _ ?_ ?_ fun m q hm hq => ?_
    · split <;> split <;> simp [putT_length, hl]
    · have h0 := h 0 r rfl
      simp only [Nat.add_zero] at h0
      by_cases hd : r.dst = some t
      · rw [← h0 hd]
        split
        · rw [putT_get, putT_get, hl, ht]
        · exact ht
      · have key : ∀ (b : Bool) (G : List AV), (if b then putT G r.dst r.val else G)[t]? = G[t]? := by
          intro b G
          cases b
          · rfl
          · simp only [if_true]
            rw [putT_get, if_neg (fun hh => hd hh.1)]
        rw [key, key, ht]
    · have := h (m + 1) q (by simpa using hm) hq
      rwa [show i + 1 + m = i + (m + 1) from by omega]
theorem selH_congr {L L' : Nat → Bool} {x : Nat} : ∀ (rs : List Rc) (i : Nat) (g g' : Nat → Option Root), g x = g' x →
    (∀ (m : Nat) r, rs[m]? = some r → x ∈ wrs r → L (i + m) = L' (i + m)) → selH L i rs g x = selH L' i rs g' x
  | [], i, g, g', ht, h => ht
  | r :: rs, i, g, g', ht, h => by
    simp only [selH]
    refine selH_congr rs (i + 1) _ _ ?_ fun m q hm hq => ?_
    · by_cases hd : x ∈ wrs r
      · have h0 := h 0 r rfl hd
        simp only [Nat.add_zero] at h0
        rw [← h0]
        split
        · exact upW_in (.inr ht)
        · exact ht
      · have key : ∀ (b : Bool) (G : Nat → Option Root), (if b then upW r.ws G else G) x = G x := by
          intro b G
          cases b
          · rfl
          · simp only [if_true]
            exact upW_not hd
        rw [key, key, ht]
    · have := h (m + 1) q (by simpa using hm) hq
      rwa [show i + 1 + m = i + (m + 1) from by omega]
theorem selF_last {L : Nat → Bool} {t : Nat} {v : AV} : ∀ (rs : List Rc) (i : Nat) (F : List AV) (j : Nat) (r : Rc), rs[j]? = some r → r.dst = some t → r.val = v → L (i + j) = true →
    (∀ (m : Nat) q, j < m → rs[m]? = some q → q.dst = some t → L (i + m) = false) → (selF L i rs F)[t]? = if t < F.length then some v else none
  | [], i, F, j, r, hj, _, _, _, _ => by simp at hj
  | q :: rs, i, F, 0, r, hj, hd, hv, hL, h => by
    simp only [List.getElem?_cons_zero, Option.some.injEq] at hj
    subst hj
    simp only [selF, Nat.add_zero] at hL ⊢
    rw [if_pos hL]
    have : (selF L (i + 1) rs (putT F q.dst q.val))[t]? = (selF (fun _ => false) (i + 1) rs (putT F q.dst q.val))[t]? := by
      refine selF_congr rs (i + 1) _ _ rfl rfl fun m p hm hp => ?_
      have := h (m + 1) p (by omega) (by simpa using hm) hp
      rwa [show i + 1 + m = i + (m + 1) from by omega]
    rw [this]
    have none : ∀ (rs : List Rc) (i : Nat) (F : List AV), selF (fun _ => false) i rs F = F := by
      intro rs
      induction rs with
      | nil => intro i F; rfl
      | cons r rs ih => intro i F; simp only [selF]; exact ih _ _
    rw [none, putT_get, hd, hv]
    simp only [true_and]
    split
    · rfl
    · rename_i hlt
      exact List.getElem?_eq_none (Nat.le_of_not_lt hlt)
  | q :: rs, i, F, j + 1, r, hj, hd, hv, hL, h => by
    simp only [selF]
    have hlen : (if L i = true then putT F q.dst q.val else F).length = F.length := by
      split
      · exact putT_length _ _ _
      · rfl
    rw [← hlen]
    refine selF_last rs (i + 1) _ j r (by simpa using hj) hd hv (by rwa [show i + 1 + j = i + (j + 1) from by omega]) fun m p hm hp hpd => ?_
    have := h (m + 1) p (by omega) (by simpa using hp) hpd
    rwa [show i + 1 + m = i + (m + 1) from by omega]
theorem selH_none : ∀ (rs : List Rc) (i : Nat) (g : Nat → Option Root), selH (fun _ => false) i rs g = g
  | [], i, g => rfl
  | r :: rs, i, g => by simp only [selH]; exact selH_none rs _ g
theorem selH_last {L : Nat → Bool} {x : Nat} : ∀ (rs : List Rc) (i : Nat) (g : Nat → Option Root) (j : Nat) (r : Rc), rs[j]? = some r → x ∈ wrs r → L (i + j) = true →
    (∀ (m : Nat) q, j < m → rs[m]? = some q → x ∈ wrs q → L (i + m) = false) → ∀ g', selH L i rs g x = upW r.ws g' x
  | [], i, g, j, r, hj, _, _, _, _ => by simp at hj
  | q :: rs, i, g, 0, r, hj, hd, hL, h, g' => by
    simp only [List.getElem?_cons_zero, Option.some.injEq] at hj
    subst hj
    simp only [selH, Nat.add_zero] at hL ⊢
    rw [if_pos hL]
    have : selH L (i + 1) rs (upW q.ws g) x = selH (fun _ => false) (i + 1) rs (upW q.ws g) x := by
      refine selH_congr rs (i + 1) _ _ rfl fun m p hm hp => ?_
      have := h (m + 1) p (by omega) (by simpa using hm) hp
      rwa [show i + 1 + m = i + (m + 1) from by omega]
    rw [this, selH_none]
    exact upW_in (.inl hd)
  | q :: rs, i, g, j + 1, r, hj, hd, hL, h, g' => by
    simp only [selH]
    refine selH_last rs (i + 1) _ j r (by simpa using hj) hd (by rwa [show i + 1 + j = i + (j + 1) from by omega]) (fun m p hm hp hpd => ?_) g'
    have := h (m + 1) p (by omega) (by simpa using hp) hpd
    rwa [show i + 1 + m = i + (m + 1) from by omega]
def addL (L : Nat → Bool) (j : Nat) : Nat → Bool := fun i => L i || i == j
theorem selF_add {L : Nat → Bool} {j : Nat} {r : Rc} {rs : List Rc} {F : List AV} (hj : rs[j]? = some r)
    (h : ∀ (m : Nat) q t, j < m → rs[m]? = some q → q.dst = some t → r.dst = some t → L m = false) : selF (addL L j) 0 rs F = putT (selF L 0 rs F) r.dst r.val := by
  refine List.ext_getElem? fun t => ?_
  rw [putT_get, selF_length]
  by_cases hd : r.dst = some t
  · rw [selF_last rs 0 F j r hj hd rfl (by simp [addL]) fun m q hm hq hqd => ?_]
    · simp only [hd, true_and]
      split
      · rfl
      · rename_i hlt
        rw [List.getElem?_eq_none]
        rw [selF_length]
        omega
    · simp only [addL, Nat.zero_add, Bool.or_eq_false_iff]
      exact ⟨h m q t hm hq hqd hd, by simp; omega⟩
  · rw [if_neg (fun hh => hd hh.1)]
    refine selF_congr rs 0 _ _ rfl rfl fun m q hm hq => ?_
    simp only [addL, Nat.zero_add]
    by_cases hmj : m = j
    · subst hmj
      rw [hj] at hm
      injection hm with hm
      subst hm
      exact absurd hq hd
    · simp [hmj]
theorem selH_add {L : Nat → Bool} {j : Nat} {r : Rc} {rs : List Rc} {g : Nat → Option Root} (hj : rs[j]? = some r)
    (h : ∀ (m : Nat) q x, j < m → rs[m]? = some q → x ∈ wrs q → x ∈ wrs r → L m = false) (x : Nat) : selH (addL L j) 0 rs g x = upW r.ws (selH L 0 rs g) x := by
  by_cases hd : x ∈ wrs r
  · refine selH_last rs 0 g j r hj hd (by simp [addL]) (fun m q hm hq hqd => ?_) _
    simp only [addL, Nat.zero_add, Bool.or_eq_false_iff]
    exact ⟨h m q x hm hq hqd hd, by simp; omega⟩
  · rw [upW_not hd]
    refine selH_congr rs 0 _ _ rfl fun m q hm hq => ?_
    simp only [addL, Nat.zero_add]
    by_cases hmj : m = j
    · subst hmj
      rw [hj] at hm
      injection hm with hm
      subst hm
      exact absurd hq hd
    · simp [hmj]
theorem maskF_get (ns : List Nat) : ∀ (F : List AV) (i t : Nat), (maskF ns F i)[t]? = (F[t]?).map fun a => if ns.contains (i + t) then a else .bad
  | [], i, t => by simp [maskF]
  | a :: F, i, 0 => by simp [maskF]
  | a :: F, i, t + 1 => by
    simp only [maskF, List.getElem?_cons_succ]
    rw [maskF_get ns F (i + 1) t, show i + 1 + t = i + (t + 1) from by omega]
theorem maskF_congr {ns : List Nat} {F F' : List AV} (h : ∀ t, ns.contains t = true → F[t]? = F'[t]?) (hl : F.length = F'.length) : maskF ns F 0 = maskF ns F' 0 := by
  refine List.ext_getElem? fun t => ?_
  rw [maskF_get, maskF_get, Nat.zero_add]
  by_cases hc : ns.contains t = true
  · rw [h t hc]
  · simp only [hc, Bool.false_eq_true, if_false]
    rcases Nat.lt_or_ge t F.length with hlt | hge
    · rw [List.getElem?_eq_getElem hlt, List.getElem?_eq_getElem (by omega)]; rfl
    · rw [List.getElem?_eq_none hge, List.getElem?_eq_none (by omega)]
theorem maskH_congr {H H' : Heap} : ∀ {l : List Nat}, (∀ x ∈ l, hget H x = hget H' x) → maskH H l = maskH H' l
  | [], _ => rfl
  | x :: l, h => by
    simp only [maskH]
    rw [h x (by simp), maskH_congr fun y hy => h y (by simp [hy])]

def foldF (rs : List Rc) (F : List AV) : List AV := rs.foldl (fun F r => putT F r.dst r.val) F
def foldH (rs : List Rc) (h : Heap) : Heap := rs.foldl (fun h r => applyW h r.ws) h
theorem foldF_sel (rs : List Rc) : ∀ (k i : Nat) (F : List AV), foldF (rs.take k) F = selF (fun m => decide (m < i + k)) i rs F := by
  have none : ∀ (rs : List Rc) (L : Nat → Bool) (i : Nat) (F : List AV), (∀ m, i ≤ m → L m = false) → selF L i rs F = F := by
    intro rs
    induction rs with
    | nil => intro L i F _; rfl
    | cons r rs ih =>
      intro L i F h
      simp only [selF, h i (Nat.le_refl _), Bool.false_eq_true, if_false]
      exact ih _ _ _ fun m hm => h m (by omega)
  induction rs with
  | nil => intro k i F; simp [foldF, selF]
  | cons r rs ih =>
    intro k i F
    cases k with
    | zero =>
      rw [none _ _ _ _ (fun m hm => by simp; omega)]
      rfl
    | succ k =>
      simp only [List.take_succ_cons, selF, show i < i + (k + 1) from by omega, decide_true, if_true]
      have := ih k (i + 1) (putT F r.dst r.val)
      rw [show i + 1 + k = i + (k + 1) from by omega] at this
      exact this
theorem foldH_sel (rs : List Rc) : ∀ (k i : Nat) (h : Heap) (x : Nat), hget (foldH (rs.take k) h) x = selH (fun m => decide (m < i + k)) i rs (hget h) x := by
  have none : ∀ (rs : List Rc) (L : Nat → Bool) (i : Nat) (g : Nat → Option Root), (∀ m, i ≤ m → L m = false) → selH L i rs g = g := by
    intro rs
    induction rs with
    | nil => intro L i g _; rfl
    | cons r rs ih =>
      intro L i g h
      simp only [selH, h i (Nat.le_refl _), Bool.false_eq_true, if_false]
      exact ih _ _ _ fun m hm => h m (by omega)
  induction rs with
  | nil => intro k i h x; simp [foldH, selH]
  | cons r rs ih =>
    intro k i h x
    cases k with
    | zero =>
      rw [none _ _ _ _ (fun m hm => by simp; omega)]
      rfl
    | succ k =>
      simp only [List.take_succ_cons, selH, show i < i + (k + 1) from by omega, decide_true, if_true]
      have := ih k (i + 1) (applyW h r.ws) x
      rw [show i + 1 + k = i + (k + 1) from by omega, hget_applyW] at this
      exact this
theorem addN_mem {l : List Nat} {x y : Nat} (h : y ∈ addN l x) : y = x ∨ y ∈ l := by
  unfold addN at h
  split at h
  · exact .inr h
  · simpa using h
theorem addAll_mem {y : Nat} : ∀ {m l : List Nat}, y ∈ addAll l m → y ∈ l ∨ y ∈ m
  | [], l, h => .inl h
  | x :: m, l, h => by
    rcases addAll_mem (m := m) h with h | h
    · rcases addN_mem h with rfl | h
      · exact .inr (by simp)
      · exact .inl h
    · exact .inr (by simp [h])
theorem ancOf_ok {acc : List (List Nat)} {j : Nat} : ∀ {es : List Go.Edge} {l : List Nat}, ancOf acc j es = some l → (∀ e ∈ es, Region.binds .any e = true → e.on < j) ∧ ∀ i ∈ l, ∃ e ∈ es, Region.binds .any e = true ∧ (i = e.on ∨ i ∈ acc.getD e.on [])
  | [], l, h => by
    simp only [ancOf, Option.some.injEq] at h
    subst h
    exact ⟨fun e he => by simp at he, fun i hi => by simp at hi⟩
  | e :: es, l, h => by
    simp only [ancOf] at h
    split at h
    · rename_i hb
      split at h
      · rename_i hlt
        split at h
        · rename_i l' hl'
          injection h with h
          subst h
          obtain ⟨h1, h2⟩ := ancOf_ok hl'
          refine ⟨fun e' he' hb' => ?_, fun i hi => ?_⟩
          · simp only [List.mem_cons] at he'
            rcases he' with rfl | he'
            · exact hlt
            · exact h1 e' he' hb'
          · rcases addAll_mem hi with hi | hi
            · rcases addN_mem hi with rfl | hi
              · exact ⟨e, by simp, hb, .inl rfl⟩
              · obtain ⟨e', he', r⟩ := h2 i hi
                exact ⟨e', by simp [he'], r⟩
            · exact ⟨e, by simp, hb, .inr hi⟩
        · cases h
      · cases h
    · rename_i hb
      obtain ⟨h1, h2⟩ := ancOf_ok h
      refine ⟨fun e' he' hb' => ?_, fun i hi => ?_⟩
      · simp only [List.mem_cons] at he'
        rcases he' with rfl | he'
        · exact absurd hb' hb
        · exact h1 e' he' hb'
      · obtain ⟨e', he', r⟩ := h2 i hi
        exact ⟨e', by simp [he'], r⟩
theorem ancs_ok : ∀ {os : List Oper} {acc A : List (List Nat)}, ancs acc os = some A → (∀ k, k < acc.length → A[k]? = acc[k]?) ∧
    ∀ (k : Nat) o, os[k]? = some o → (∀ e ∈ o.after.toList, Region.binds .any e = true → e.on < acc.length + k) ∧ ∀ i ∈ A.getD (acc.length + k) [], ∃ e ∈ o.after.toList, Region.binds .any e = true ∧ (i = e.on ∨ i ∈ A.getD e.on [])
  | [], acc, A, h => by
    simp only [ancs, Option.some.injEq] at h
    subst h
    exact ⟨fun k hk => rfl, fun k o ho => by simp at ho⟩
  | o :: os, acc, A, h => by
    simp only [ancs] at h
    split at h
    · rename_i l hl
      obtain ⟨h1, h2⟩ := ancs_ok h
      simp only [List.length_append, List.length_cons, List.length_nil, Nat.zero_add] at h1 h2
      have hA : ∀ k, k < acc.length → A[k]? = acc[k]? := fun k hk => by rw [h1 k (by omega), List.getElem?_append_left hk]
      refine ⟨hA, fun k q hq => ?_⟩
      cases k with
      | zero =>
        simp only [List.getElem?_cons_zero, Option.some.injEq] at hq
        subst hq
        obtain ⟨k1, k2⟩ := ancOf_ok hl
        refine ⟨k1, fun i hi => ?_⟩
        have hAj : A.getD acc.length [] = l := by
          rw [List.getD_eq_getElem?_getD, h1 _ (by omega)]
          simp
        rw [Nat.add_zero, hAj] at hi
        obtain ⟨e, he, hb, hr⟩ := k2 i hi
        refine ⟨e, he, hb, hr.imp id fun hr => ?_⟩
        rw [List.getD_eq_getElem?_getD, hA _ (k1 e he hb), ← List.getD_eq_getElem?_getD]
        exact hr
      | succ k =>
        have := h2 k q (by simpa using hq)
        rw [show acc.length + 1 + k = acc.length + (k + 1) from by omega] at this
        exact this
    · cases h

theorem okAgainst_ok {anc : List Nat} {r : Rc} : ∀ {qs : List Rc} {i : Nat}, okAgainst anc r i qs = true → ∀ (m : Nat) q, qs[m]? = some q → conf q r = true → i + m ∈ anc
  | [], i, h, m, q, hm, hc => by simp at hm
  | p :: qs, i, h, m, q, hm, hc => by
    simp only [okAgainst, Bool.and_eq_true, Bool.or_eq_true, Bool.not_eq_true'] at h
    cases m with
    | zero =>
      simp only [List.getElem?_cons_zero, Option.some.injEq] at hm
      subst hm
      rcases h.1 with h1 | h1
      · rw [h1] at hc; cases hc
      · simpa using h1
    | succ m =>
      have := okAgainst_ok h.2 m q (by simpa using hm) hc
      rwa [show i + 1 + m = i + (m + 1) from by omega] at this
theorem okAll_ok {A : List (List Nat)} : ∀ {rs done : List Rc}, okAll A done.length done rs = true → ∀ (i k : Nat) q r, (done ++ rs)[i]? = some q → (done ++ rs)[k]? = some r → i < k → done.length ≤ k → conf q r = true → i ∈ A.getD k []
  | [], done, h, i, k, q, r, hi, hk, hik, hd, hc => by
    have := (List.getElem?_eq_some_iff.1 hk).1
    simp at this
    omega
  | p :: rs, done, h, i, k, q, r, hi, hk, hik, hd, hc => by
    simp only [okAll, Bool.and_eq_true] at h
    by_cases hkd : k = done.length
    · subst hkd
      rw [List.getElem?_append_right (Nat.le_refl _)] at hk
      simp only [Nat.sub_self, List.getElem?_cons_zero, Option.some.injEq] at hk
      subst hk
      rw [List.getElem?_append_left hik] at hi
      have := okAgainst_ok h.1 i q hi hc
      simpa using this
    · have h2 := h.2
      have := okAll_ok (done := done ++ [p]) (rs := rs) (by simpa using h2) i k q r (by simpa using hi) (by simpa using hk) hik (by simp; omega) hc
      exact this
theorem meets_of {l m : List Nat} {x : Nat} (h1 : x ∈ l) (h2 : m.contains x = true) : meets l m = true := by
  unfold meets
  rw [List.any_eq_true]
  exact ⟨x, h1, h2⟩
end Go.BE
namespace Go.BE
open Go.RowKit
def Lof (listed : Array Bool) : Nat → Bool := fun i => listed.getD i false
theorem Lof_set {listed : Array Bool} {i : Nat} (hi : i < listed.size) : Lof (listed.setIfInBounds i true) = addL (Lof listed) i := by
  funext j
  simp only [Lof, addL, Array.getD_eq_getD_getElem?]
  by_cases h : i = j
  · subst h
    simp [Array.getElem?_setIfInBounds_self, hi]
  · rw [Array.getElem?_setIfInBounds_ne h]
    have : (j == i) = false := by simpa using Ne.symm h
    rw [this, Bool.or_false]
theorem Lof_true {listed : Array Bool} {j : Nat} (hj : j < listed.size) : listed.getD j true = Lof listed j := by
  simp only [Lof, Array.getD_eq_getD_getElem?, Array.getElem?_eq_getElem hj, Option.getD_some]
def DOK (E : Ctx) (fn : FuncId) (ops : Array Oper) (id : Nat) (o : Oper) (F : List AV) (H : Heap) (r : Rc) : Prop := (dop E fn ops id o F H).wp fun r' => r' = r
def Tre.det {α : Type} : Tre α → Prop
  | .ok _ => True
  | .ite _ t e => t.det ∧ e.det
  | .chk _ t => t.det
  | .know _ _ => False
  | .any _ _ => False
  | .bad => True
theorem Tre.resolve {α : Type} {Q : α → Prop} {t : Tre α} (hd : t.det) (h : t.wp Q) : ∃ r, t.wp (fun r' => r' = r) ∧ Q r := by
  induction t with
  | ok a => exact ⟨a, rfl, h⟩
  | ite b t e iht ihe =>
    cases hb : b with
    | true =>
      obtain ⟨r, h1, h2⟩ := iht hd.1 (h.1 hb)
      exact ⟨r, ⟨fun _ => h1, fun h => (nomatch h)⟩, h2⟩
    | false =>
      obtain ⟨r, h1, h2⟩ := ihe hd.2 (h.2 hb)
      exact ⟨r, ⟨fun h => (nomatch h), fun _ => h1⟩, h2⟩
  | chk C t ih =>
    obtain ⟨r, h1, h2⟩ := ih hd (h.2 h.1)
    exact ⟨r, ⟨h.1, fun _ => h1⟩, h2⟩
  | know K t _ => exact hd.elim
  | any p k _ => exact hd.elim
  | bad => exact h.elim
theorem chks_det {α : Type} {t : Tre α} : ∀ {C : List Prop}, t.det → (chks C t).det
  | [], h => h
  | _ :: l, h => chks_det (C := l) h
theorem dval_det {E : Ctx} {ro : Nat} {id : Nat} {o : Oper} {ns : List Nat} {fm : List AV} {rd : List Nat} {hm : Heap} : (dval E ro id o ns fm rd hm).det := by
  unfold dval
  split
  · split
    · exact ⟨trivial, trivial⟩
    · trivial
  · split
    · exact chks_det trivial
    · exact chks_det trivial
    · trivial
    · split
      · split
        · exact chks_det trivial
        · trivial
      · trivial
    · trivial
theorem dop_det {E : Ctx} {fn : FuncId} {ops : Array Oper} {id : Nat} {o : Oper} {F : List AV} {H : Heap} : (dop E fn ops id o F H).det := by
  unfold dop
  dsimp only
  split
  · exact dval_det
  · split
    · trivial
    · split
      · split
        · exact ⟨dval_det, trivial⟩
        · exact ⟨trivial, dval_det⟩
      · trivial
      · trivial
theorem dval_nm {E : Ctx} {ro : Nat} {id : Nat} {o : Oper} {ns : List Nat} {fm : List AV} {rd : List Nat} {hm : Heap} {r : Rc} (h : (dval E ro id o ns fm rd hm).wp fun r' => r' = r) : r.nm = ns ∧ r.dst = o.dst ∧ r.rd = rd := by
  unfold dval at h
  split at h
  · split at h
    · rename_i b hb
      cases hbb : b with
      | true => have := h.1 hbb; subst this; exact ⟨rfl, rfl, rfl⟩
      | false => have := h.2 hbb; subst this; exact ⟨rfl, rfl, rfl⟩
    · exact h.elim
  · split at h
    · have := (chks_wp h).2; subst this; exact ⟨rfl, rfl, rfl⟩
    · have := (chks_wp h).2; subst this; exact ⟨rfl, rfl, rfl⟩
    · exact h.elim
    · split at h
      · split at h
        · have := (chks_wp h).2; subst this; exact ⟨rfl, rfl, rfl⟩
        · exact h.elim
      · exact h.elim
    · exact h.elim
theorem DOK.nm {E : Ctx} {fn : FuncId} {ops : Array Oper} {id : Nat} {o : Oper} {F : List AV} {H : Heap} {r : Rc} (h : DOK E fn ops id o F H r) : r.nm = names ops o ∧ r.dst = o.dst ∧ r.rd = rdDeep H o.op (rdFor o.op (rdOf (maskF (names ops o) F 0) (names ops o))) := by
  unfold DOK dop at h
  dsimp only at h
  split at h
  · exact dval_nm h
  · split at h
    · exact h.elim
    · split at h
      · rename_i b hb
        split at h
        · cases hbb : b with
          | true => exact dval_nm (h.1 hbb)
          | false => have := h.2 hbb; subst this; exact ⟨rfl, rfl, rfl⟩
        · cases hbb : b with
          | true => have := h.1 hbb; subst this; exact ⟨rfl, rfl, rfl⟩
          | false => exact dval_nm (h.2 hbb)
      · have h : _ = r := h
        subst h
        exact ⟨rfl, rfl, rfl⟩
      · exact h.elim
theorem innerR_congr {H H' : Heap} : ∀ {l : List Nat}, (∀ x ∈ l, hget H x = hget H' x) → innerR H l = innerR H' l
  | [], _ => rfl
  | r :: l, h => by
    simp only [innerR]
    rw [h r List.mem_cons_self, innerR_congr fun x hx => h x (List.mem_cons_of_mem _ hx)]
theorem rdDeep_congr {H H' : Heap} {o : Op} {l : List Nat} (h : ∀ x ∈ rdDeep H o l, hget H x = hget H' x) : rdDeep H o l = rdDeep H' o l := by
  unfold rdDeep at h ⊢
  split
  · rw [innerR_congr fun x hx => h x (by simp [hx])]
  · rfl
theorem DOK.congr {E : Ctx} {fn : FuncId} {ops : Array Oper} {id : Nat} {o : Oper} {F F' : List AV} {H H' : Heap} {r : Rc} (h : DOK E fn ops id o F H r) (hF : ∀ t, r.nm.contains t = true → F[t]? = F'[t]?) (hl : F.length = F'.length) (hH : ∀ x ∈ r.rd, hget H x = hget H' x) :
    DOK E fn ops id o F' H' r := by
  obtain ⟨h1, h2, h3⟩ := h.nm
  rw [h1] at hF
  have e1 := maskF_congr hF hl
  rw [h3] at hH
  have e2 := maskH_congr hH
  have e3 := rdDeep_congr hH
  unfold DOK dop at h ⊢
  dsimp only at h ⊢
  rw [← e1, ← e3, ← e2]
  exact h
theorem decideT_wp {fr : List AV} {t : Option Nat} {g : List AV → Tre (List Rc × List AV × Heap)} {Q : List Rc × List AV × Heap → Prop} (h : (decideT fr t g).wp Q) : (g fr).wp Q := by
  unfold decideT at h
  split at h
  · rename_i t
    split at h
    · rename_i b hb
      cases hbb : b with
      | true =>
        have := h.1 hbb
        rw [lget_set_self (x := abool true) (by rw [hb, hbb]; rfl) (by simp [abool])] at this
        exact this
      | false =>
        have := h.2 hbb
        rw [lget_set_self (x := abool false) (by rw [hb, hbb]; rfl) (by simp [abool])] at this
        exact this
    · exact h
  · exact h
theorem drun_ok {E : Ctx} {fn : FuncId} {ops : Array Oper} {base : Nat} {Q : List Rc × List AV × Heap → Prop} : ∀ (os : List Oper) (i : Nat) (F : List AV) (h : Heap), (drun E fn ops base i os F h).wp Q →
    ∃ rs, Q (rs, foldF rs F, foldH rs h) ∧ rs.length = os.length ∧ ∀ (j : Nat) o, os[j]? = some o → ∃ r, rs[j]? = some r ∧ DOK E fn ops (base + (i + j) * stepIds) o (foldF (rs.take j) F) (foldH (rs.take j) h) r
  | [], i, F, h, hw => ⟨[], hw, rfl, fun j o ho => by simp at ho⟩
  | o :: os, i, F, h, hw => by
    simp only [drun] at hw
    have hw := decideT_wp hw
    rw [Tre.wp_bind] at hw
    obtain ⟨r, h1, h2⟩ := Tre.resolve dop_det hw
    rw [Tre.wp_bind] at h2
    obtain ⟨rs, k1, k2, k3⟩ := drun_ok (Q := fun x => Q (r :: x.1, x.2.1, x.2.2)) os (i + 1) (putT F r.dst r.val) (applyW h r.ws) h2
    refine ⟨r :: rs, k1, by simp [k2], fun j q hq => ?_⟩
    cases j with
    | zero =>
      simp only [List.getElem?_cons_zero, Option.some.injEq] at hq
      subst hq
      exact ⟨r, rfl, h1⟩
    | succ j =>
      obtain ⟨r', e1, e2⟩ := k3 j q (by simpa using hq)
      refine ⟨r', by simpa using e1, ?_⟩
      rw [show i + (j + 1) = i + 1 + j from by omega]
      exact e2
section
variable {P : Program} {E : Ctx} {w w' w0 : World} {Z Z' : Nat → Prop} {K : Kp} {own own' : Own} {γ γ' : Gst} {h h' H : Heap} {used used' : Nat → Prop} {s d id nx : Nat} {A B : AV} {v V U : Value} {cs ds : List AV} {vs us : List Value} {F fr : List AV} {a : Act} {fn : FuncId} {ops : Array Oper} {r : Rc}
theorem mask_VRs {ns : List Nat} {F : List AV} (h : VRs w Z γ F vs) : VRs w Z γ (maskF ns F 0) vs := by
  have hl : (maskF ns F 0).length = F.length := by
    have : ∀ (F : List AV) (i : Nat), (maskF ns F i).length = F.length := by
      intro F
      induction F with
      | nil => intro i; rfl
      | cons a F ih => intro i; simp [maskF, ih]
    exact this F 0
  refine ⟨hl.trans h.1, fun j x y hx hy => ?_⟩
  rw [maskF_get] at hx
  cases hF : F[j]? with
  | none => rw [hF] at hx; cases hx
  | some z =>
    rw [hF] at hx
    simp only [Option.map_some, Option.some.injEq] at hx
    subst hx
    split
    · exact h.2 j z y hF hy
    · exact .bad _


theorem hget_maskH {x : Nat} : ∀ {l : List Nat}, hget (maskH H l) x = if x ∈ l then hget H x else none
  | [] => by simp [maskH, hget]
  | r :: l => by
    simp only [maskH]
    split
    · rename_i R hR
      simp only [hget]
      by_cases hx : r = x
      · subst hx; simp [hR]
      · rw [if_neg hx, hget_maskH]
        simp [Ne.symm hx]
    · rename_i hR
      rw [hget_maskH]
      by_cases hx : x = r
      · subst hx; simp [hR]
      · simp [hx]
theorem MemR.congr (hm : MemR w0 K w Z own γ H used) (hh : ∀ x, hget h' x = hget H x) : MemR w0 K w Z own γ h' used :=
  hm.step (Stay.refl w Z) (Gst.Ext.refl used γ) (fun _ h => h) rfl rfl rfl (Nat.le_refl _) (fun _ => False) (fun _ _ _ => rfl) (fun _ _ ho _ => ho) (fun _ _ ho => .inl ⟨ho, fun h => h⟩) (fun b hb => ⟨hm.zlt b hb, .inl hb⟩) (fun x R hg => .inl ⟨by rw [← hh]; exact hg, fun h => h⟩) hm.fresh
def ownM (own : Own) (hm : Heap) : Own := fun b => match own b with | some o => if (hget hm o.1).isSome then some o else none | none => none
def KM (Z : Nat → Prop) (own : Own) (hm : Heap) : Kp := ⟨fun b => ∀ o, own b = some o → (hget hm o.1).isSome = false, Z⟩
theorem ownM_some {hm : Heap} {b : Nat} {o : Nat × Pth} (h : ownM own hm b = some o) : own b = some o ∧ (hget hm o.1).isSome = true := by
  unfold ownM at h
  split at h
  · rename_i o' ho
    split at h
    · rename_i hi
      injection h with h
      subst h
      exact ⟨ho, hi⟩
    · cases h
  · cases h
theorem MemR.masked (hm : MemR w0 K w Z own γ H used) (l : List Nat) : MemR w (KM Z own (maskH H l)) w Z (ownM own (maskH H l)) γ (maskH H l) used := by
  refine ⟨rfl, rfl, rfl, Nat.le_refl _, fun _ _ _ => rfl, fun b hb _ _ => hb, hm.zlt, fun b o ho => hm.ownlt b o (ownM_some ho).1, fun b o ho => hm.ownZ b o (ownM_some ho).1, fun b o ho _ hk => ?_, fun x R hg => ?_, fun x R hg => ?_, hm.fresh⟩
  · obtain ⟨h1, h2⟩ := ownM_some ho
    rw [hk o h1] at h2
    cases h2
  · have hg' := hg
    rw [hget_maskH] at hg
    split at hg
    · refine RootR.frame (used := used) (Stay.refl w Z) (Gst.Le.refl γ) (Gst.Ext.refl used γ) (hm.keys x R hg).2 (fun b q ho => ⟨?_, rfl⟩) (hm.root x R hg)
      simp only [ownM, ho]
      rw [if_pos (by rw [hg']; rfl)]
    · cases hg
  · rw [hget_maskH] at hg
    split at hg
    · exact hm.keys x R hg
    · cases hg
theorem MemR.framed (hm : MemR w0 K w Z own γ H used) {l : List Nat} {ws : List (Nat × Option Root)} (hs : Stay w Z w' Z') (he : Gst.Ext used γ γ') (hu : ∀ s, used s → used' s)
    (hr : MemR w (KM Z own (maskH H l)) w' Z' own' γ' (applyW (maskH H l) ws) used') : ∃ own2, MemR w0 K w' Z' own2 γ' (applyW H ws) used' := by
  let own2 : Own := fun b => match own' b with | some o => some o | none => match own b with | some o => if (hget (maskH H l) o.1).isSome then none else some o | none => none
  have hk : ∀ b, b < w.heap.size → (∀ o, own b = some o → ¬ (hget (maskH H l) o.1).isSome = true) → (KM Z own (maskH H l)).k b := fun b _ h o ho => by
    have := h o ho
    simpa using this
  have hsome : ∀ b o, own' b = some o → b < w.heap.size → ∃ o', own b = some o' ∧ (hget (maskH H l) o'.1).isSome = true := fun b o ho hb => by
    have := hr.ownK b o ho hb
    simp only [KM] at this
    rcases Classical.em (∃ o', own b = some o' ∧ (hget (maskH H l) o'.1).isSome = true) with h | h
    · exact h
    · refine absurd (fun o' ho' => ?_) this
      cases hh : (hget (maskH H l) o'.1).isSome with
      | false => rfl
      | true => exact absurd ⟨o', ho', hh⟩ h
  refine ⟨own2, hm.step hs he hu hr.os hr.tape hr.output hr.size (fun x => (hget (maskH H l) x).isSome = true) (fun b hb hno => hr.kept b hb (hk b hb hno)) (fun b o ho hno => ?_) (fun b o ho => ?_) (fun b hb => ⟨hr.zlt b hb, ?_⟩) (fun x R hg => ?_) hr.fresh⟩
  · have hb := hm.ownlt b o ho
    have hnone : own' b = none := by
      cases h : own' b with
      | none => rfl
      | some o2 =>
        obtain ⟨o', h1, h2⟩ := hsome b o2 h hb
        rw [ho] at h1
        injection h1 with h1
        subst h1
        exact absurd h2 hno
    simp only [own2, hnone, ho]
    rw [if_neg hno]
  · simp only [own2] at ho
    split at ho
    · rename_i o2 ho2
      injection ho with ho
      subst ho
      refine .inr ⟨hr.ownlt b _ ho2, hr.ownZ b _ ho2, ?_⟩
      rcases Nat.lt_or_ge b w.heap.size with hb | hb
      · exact .inl (hsome b _ ho2 hb)
      · exact .inr hb
    · split at ho
      · rename_i o2 ho2
        split at ho
        · cases ho
        · rename_i hno
          injection ho with ho
          subst ho
          exact .inl ⟨ho2, hno⟩
      · cases ho
  · rcases Nat.lt_or_ge b w.heap.size with hb' | hb'
    · rcases Classical.em (∃ o, own b = some o ∧ (hget (maskH H l) o.1).isSome = true) with h | h
      · exact .inr (.inl h)
      · exact .inl (hr.zin b hb hb' (hk b hb' fun o ho hh => h ⟨o, ho, hh⟩))
    · exact .inr (.inr hb')
  · rw [hget_applyW] at hg
    by_cases hin : x ∈ ws.map (·.1) ∨ hget H x = hget (maskH H l) x
    · rw [upW_in hin, ← hget_applyW] at hg
      by_cases hch : (hget (maskH H l) x).isSome = true ∨ x ∈ ws.map (·.1)
      · obtain ⟨k1, k2, k3⟩ := hr.keys x R hg
        refine .inr ⟨RootR.frame (used := used') (Stay.refl w' Z') (Gst.Le.refl γ') (Gst.Ext.refl used' γ') ⟨k2, k3⟩ (fun b q ho => ⟨?_, rfl⟩) (hr.root x R hg), k1, k2, k3⟩
        simp only [own2, ho]
      · simp only [not_or] at hch
        rw [hget_applyW, upW_not hch.2] at hg
        rw [hg] at hch
        exact absurd rfl hch.1
    · simp only [not_or] at hin
      rw [upW_not hin.1] at hg
      refine .inl ⟨hg, fun hh => hin.2 ?_⟩
      rw [hget_maskH]
      rw [hget_maskH] at hh
      split
      · rfl
      · rename_i hx
        rw [if_neg hx] at hh
        cases hh
end
end Go.BE
namespace Go.BE
open Go.RowKit
section
variable {P : Program} {E : Ctx} {w w' w0 : World} {Z Z' : Nat → Prop} {K : Kp} {own own' : Own} {γ γ' : Gst} {h h' H : Heap} {used used' : Nat → Prop} {s d id nx : Nat} {A B : AV} {v V U : Value} {cs ds : List AV} {vs us : List Value} {F fr fm : List AV} {a : Act} {fn : FuncId} {ops : Array Oper} {r : Rc} {rs : List Rc} {AA : List (List Nat)} {listed : Array Bool}
structure Did (E : Ctx) (w0 : World) (K : Kp) (w : World) (Z : Nat → Prop) (γ : Gst) (H : Heap) (used used' : Nat → Prop) (r : Rc) (v : Value) (w' : World) (Z' : Nat → Prop) (own' : Own) (γ' : Gst) : Prop where
  val : VR w' Z' γ' r.val v
  stay : Stay w Z w' Z'
  ext : Gst.Ext used γ γ'
  mem : MemR w0 K w' Z' own' γ' (applyW H r.ws) used'
theorem dval_run (hE : EOK E) {b : Frame} {k : List Item} {fs : List Frame} {i : Nat} {rest : List Nat} {o : Oper} {ro : Nat} {ns rd : List Nat} (hm : MemR w0 K w Z own γ H used) (hg : GlR E w Z)
    (hf : VRs w Z γ fm a.tmps.toList) (hd : (dval E ro id o ns fm rd (maskH H rd)).wp fun r' => r' = r) (ho : ops[i]? = some o) (hw : Region.wanted o (yielded ops a.tmps) = true)
    (hid : ∀ j, j < 16 → ¬ used (id + j)) (hu : ∀ s, used s → used' s) (hid' : ∀ j, j < 16 → used' (id + j)) :
    ∃ v w' Z' own' γ', Did E w0 K w Z γ H used used' r v w' Z' own' γ' ∧ Steps E.P (lone (b.at a (.inRegion ops (i :: rest) :: k)) fs w) (lone (b.at (a.put r.dst v) (.inRegion ops rest :: k)) fs w') := by
  have hev : ∀ x, VR w Z γ (ev E fm x) (a.eval x) := fun x => ev_rel' hg hf x
  unfold dval at hd
  split at hd
  · rename_i x y z hop
    split at hd
    · rename_i b' hb
      have hv := asB_inv (hev x) hb
      have hrun : (execOp a.eval o).run E.P w = .ok (.value (a.eval (if b' then y else z))) w := by
        simp only [execOp, hop, hv, asBool, Sem.run_bind, Sem.run_pure, Result.andThen_ok]
        cases b' <;> rfl
      cases hbb : b' with
      | true =>
        have := hd.1 hbb
        subst this
        rw [hbb] at hrun
        exact ⟨_, w, Z, own, γ, ⟨hev _, Stay.refl _ _, Gst.Ext.refl _ _, hm.used_mono hu⟩, .one (op_value ho hw hrun)⟩
      | false =>
        have := hd.2 hbb
        subst this
        rw [hbb] at hrun
        exact ⟨_, w, Z, own, γ, ⟨hev _, Stay.refl _ _, Gst.Ext.refl _ _, hm.used_mono hu⟩, .one (op_value ho hw hrun)⟩
    · exact hd.elim
  · rename_i hnp
    have hmm := hm.masked rd
    have hop := aop_sound (used' := used') hE.ty hmm (id := id) (hid 0 (by omega)) hu (hid' 0 (by omega)) (ro := ro) hev o
    split at hd
    · rename_i C' A' hv
      rw [hv] at hop
      obtain ⟨hC, hd⟩ := chks_wp hd
      obtain ⟨v, e1, e2⟩ := hop hC
      subst hd
      exact ⟨v, w, Z, own, γ, ⟨e2, Stay.refl _ _, Gst.Ext.refl _ _, hm.used_mono hu⟩, .one (op_value ho hw e1)⟩
    · rename_i C' A' ws sk hv
      rw [hv] at hop
      obtain ⟨hC, hd⟩ := chks_wp hd
      obtain ⟨n, v, w', Z', own', γ', e1, e2, e3, e4, e5, e6⟩ := hop hC
      subst hd
      obtain ⟨own2, hm2⟩ := hm.framed e3 e4 hu e5
      refine ⟨v, w', Z', own2, γ', ⟨e6, e3, e4, hm2⟩, ?_⟩
      split at e2
      · obtain ⟨rfl, rfl⟩ := e2
        exact .one (op_skipv ho hw e1)
      · subst e2
        exact .one (op_value ho hw e1)
    · exact hd.elim
    · rename_i f args hv
      rw [hv] at hop
      obtain ⟨vs, e1, e2⟩ := hop
      split at hd
      · rename_i hfn
        rw [hE.fns f hfn] at e1
        split at hd
        · rename_i C' Kn A' ws hcall
          obtain ⟨hC, hd⟩ := chks_wp hd
          subst hd
          have hcl := acall_sound (used' := used') hE.env hmm hg hcall hC e2 hid hu hid'
          obtain ⟨e, w', fr, ⟨v, Z', own', γ', rfl, k1, k2, k3, k4, k5⟩, q1, q2, q3⟩ := hcl (b.at a (.inRegion ops (i :: rest) :: k) :: fs)
          obtain ⟨own2, hm2⟩ := hm.framed k2 k3 hu k4
          exact ⟨v, w', Z', own2, γ', ⟨k5, k2, k3, hm2⟩, .head (op_enter ho hw e1) (Steps.trans q1 (.one (op_back ho q3)))⟩
        · exact hd.elim
      · exact hd.elim
    · exact hd.elim
theorem dok_run (hE : EOK E) {b : Frame} {k : List Item} {fs : List Frame} {i : Nat} {rest : List Nat} {o : Oper} (hm : MemR w0 K w Z own γ H used) (hg : GlR E w Z)
    (hf : VRs w Z γ F a.tmps.toList) (hd : DOK E fn ops id o F H r) (ho : ops[i]? = some o)
    (hid : ∀ j, j < 16 → ¬ used (id + j)) (hu : ∀ s, used s → used' s) (hid' : ∀ j, j < 16 → used' (id + j)) :
    ∃ v w' Z' own' γ', Did E w0 K w Z γ H used used' r v w' Z' own' γ' ∧ Steps E.P (lone (b.at a (.inRegion ops (i :: rest) :: k)) fs w) (lone (b.at (a.put r.dst v) (.inRegion ops rest :: k)) fs w') := by
  have hfm : VRs w Z γ (maskF (names ops o) F 0) a.tmps.toList := mask_VRs hf
  have hskip : ∀ ns rd, r = ⟨o.dst, und, [], ns, rd, false⟩ → ((ops[i]?).map (Region.wanted · (yielded ops a.tmps))).getD false = false →
      ∃ v w' Z' own' γ', Did E w0 K w Z γ H used used' r v w' Z' own' γ' ∧ Steps E.P (lone (b.at a (.inRegion ops (i :: rest) :: k)) fs w) (lone (b.at (a.put r.dst v) (.inRegion ops rest :: k)) fs w') := by
    rintro ns rd rfl hw
    have := step_op_skip (P := E.P) (b := b) (a := a) (k := k) (cs := fs) (w := w) (ops := ops) (i := i) (rest := rest) hw
    rw [ho] at this
    exact ⟨undef, w, Z, own, γ, ⟨.cr (.val _ trivial), Stay.refl _ _, Gst.Ext.refl _ _, hm.used_mono hu⟩, .one this⟩
  unfold DOK dop at hd
  dsimp only at hd
  split at hd
  · rename_i hgd
    exact dval_run hE hm hg hfm hd ho (by simp [Region.wanted, hgd]) hid hu hid'
  · rename_i j want hgd
    split at hd
    · exact hd.elim
    · rename_i t ht
      split at hd
      · rename_i b' hb'
        have hbt := lget_val hfm hb'
        rw [Array.getElem?_toList] at hbt
        have hyes : b' = want → Region.wanted o (yielded ops a.tmps) = true := fun e => by
          simp only [Region.wanted, hgd, yielded_at ht, hbt, e]
          simp
        have hno : b' ≠ want → ((ops[i]?).map (Region.wanted · (yielded ops a.tmps))).getD false = false := fun e => by
          simp only [ho, Option.map_some, Option.getD_some, Region.wanted, hgd, yielded_at ht, hbt]
          simpa using e
        split at hd
        · rename_i hwant
          cases hbb : b' with
          | true => exact dval_run hE hm hg hfm (hd.1 hbb) ho (hyes (by rw [hbb, hwant])) hid hu hid'
          | false => exact hskip _ _ (hd.2 hbb).symm (hno (by rw [hbb, hwant]; simp))
        · rename_i hwant
          have hwant : want = false := by simpa using hwant
          cases hbb : b' with
          | true => exact hskip _ _ (hd.1 hbb).symm (hno (by rw [hbb, hwant]; simp))
          | false => exact dval_run hE hm hg hfm (hd.2 hbb) ho (hyes (by rw [hbb, hwant])) hid hu hid'
      · rename_i vs hb'
        have hd : _ = r := hd
        have hbt := lget_val hfm hb'
        rw [Array.getElem?_toList] at hbt
        refine hskip _ _ hd.symm ?_
        simp only [ho, Option.map_some, Option.getD_some, Region.wanted, hgd, yielded_at ht, hbt]
        rfl
      · exact hd.elim
structure Plan (E : Ctx) (fn : FuncId) (ops : Array Oper) (nx : Nat) (fr : List AV) (h : Heap) (AA : List (List Nat)) (rs : List Rc) : Prop where
  len : rs.length = ops.size
  recs : ∀ (j : Nat) o, ops[j]? = some o → ∃ r, rs[j]? = some r ∧ DOK E fn ops (nx + j * stepIds) o (foldF (rs.take j) fr) (foldH (rs.take j) h) r
  anc : ∀ (j : Nat) o, ops[j]? = some o → (∀ e ∈ o.after, Region.binds .any e = true → e.on < j) ∧ ∀ i ∈ AA.getD j [], ∃ e ∈ o.after, Region.binds .any e = true ∧ (i = e.on ∨ i ∈ AA.getD e.on [])
  conf : ∀ (i k : Nat) q r, rs[i]? = some q → rs[k]? = some r → i < k → conf q r = true → i ∈ AA.getD k []
def usedL (nx : Nat) (listed : Array Bool) (s : Nat) : Prop := s < nx ∨ ∃ j, Lof listed j = true ∧ nx + j * stepIds ≤ s ∧ s < nx + j * stepIds + stepIds
structure Inv (E : Ctx) (ops : Array Oper) (nx : Nat) (fr : List AV) (h : Heap) (AA : List (List Nat)) (rs : List Rc) (w0 : World) (K : Kp) (listed : Array Bool) (a : Act) (w : World) (Z : Nat → Prop) (own : Own) (γ : Gst) (H : Heap) : Prop where
  size : listed.size = ops.size
  closed : ∀ j, Lof listed j = true → ∀ i ∈ AA.getD j [], Lof listed i = true
  frame : VRs w Z γ (selF (Lof listed) 0 rs fr) a.tmps.toList
  heap : ∀ x, hget H x = selH (Lof listed) 0 rs (hget h) x
  mem : MemR w0 K w Z own γ H (usedL nx listed)
  ok : ∀ j r, Lof listed j = true → rs[j]? = some r → okAV r.val
  gl : GlR E w Z
theorem conf1 {q r : Rc} {t : Nat} (h : q.dst = some t) (k : r.nm.contains t = true) : conf q r = true := by
  have : meets q.dst.toList r.nm = true := meets_of (x := t) (by simp [h]) k
  simp [conf, this]
theorem conf2 {q r : Rc} {t : Nat} (h : r.dst = some t) (k : q.nm.contains t = true) : conf q r = true := by
  have : meets r.dst.toList q.nm = true := meets_of (x := t) (by simp [h]) k
  simp [conf, this]
theorem conf3 {q r : Rc} {x : Nat} (h : x ∈ wrs q) (k : x ∈ wrs r ∨ x ∈ r.rd) : conf q r = true := by
  have : meets (wrs q) (wrs r ++ r.rd) = true := meets_of (x := x) h (by simpa using k)
  simp [conf, this]
theorem conf4 {q r : Rc} {x : Nat} (h : x ∈ wrs r) (k : x ∈ wrs q ∨ x ∈ q.rd) : conf q r = true := by
  have : meets (wrs r) (wrs q ++ q.rd) = true := meets_of (x := x) h (by simpa using k)
  simp [conf, this]
theorem names_dst {o : Oper} {t : Nat} (h : o.dst = some t) : (names ops o).contains t = true := by
  simp [names, h]
theorem usedL_new {i : Nat} (hs : listed.size = ops.size) (hL : Lof listed i = false) (j : Nat) (hj : j < 16) : ¬ usedL nx listed (nx + i * stepIds + j) := by
  rintro (h | ⟨m, h1, h2, h3⟩)
  · omega
  · simp only [stepIds] at *
    have : m = i := by omega
    subst this
    rw [h1] at hL
    cases hL
theorem usedL_add {i : Nat} (hi : i < listed.size) : ∀ s, usedL nx (listed.setIfInBounds i true) s ↔ usedL nx listed s ∨ (nx + i * stepIds ≤ s ∧ s < nx + i * stepIds + stepIds) := by
  intro s
  simp only [usedL, Lof_set hi, addL, Bool.or_eq_true, beq_iff_eq]
  constructor
  · rintro (h | ⟨j, h1 | rfl, h2⟩)
    · exact .inl (.inl h)
    · exact .inl (.inr ⟨j, h1, h2⟩)
    · exact .inr h2
  · rintro ((h | ⟨j, h1, h2⟩) | h)
    · exact .inl h
    · exact .inr ⟨j, .inl h1, h2⟩
    · exact .inr ⟨i, .inr rfl, h⟩
theorem inv_step (hE : EOK E) (hP : Plan E fn ops nx fr h AA rs) (hI : Inv E ops nx fr h AA rs w0 K listed a w Z own γ H) {i : Nat} (hi : i ∈ Region.ready .any ops listed) (b : Frame) (k : List Item) (fs : List Frame) (rest : List Nat) :
    ∃ a' w' Z' own' γ' H', Inv E ops nx fr h AA rs w0 K (listed.setIfInBounds i true) a' w' Z' own' γ' H' ∧ a'.defers = a.defers ∧ Stay w Z w' Z' ∧ γ.Le γ' ∧
      Steps E.P (lone (b.at a (.inRegion ops (i :: rest) :: k)) fs w) (lone (b.at a' (.inRegion ops rest :: k)) fs w') := by
  rw [mem_ready] at hi
  obtain ⟨hun, o, ho, hed⟩ := hi
  have hlt : i < ops.size := (Array.getElem?_eq_some_iff.1 ho).1
  have hlt' : i < listed.size := by rw [hI.size]; exact hlt
  rw [Lof_true hlt'] at hun
  obtain ⟨r, hr, hd⟩ := hP.recs i o ho
  have hanc : ∀ m ∈ AA.getD i [], Lof listed m = true := fun m hm => by
    obtain ⟨e, he, hb, hm | hm⟩ := (hP.anc i o ho).2 m hm
    · subst hm; exact hed e he hb
    · exact hI.closed e.on (hed e he hb) m hm
  have hlater : ∀ m q, i < m → rs[m]? = some q → conf r q = true → Lof listed m = false := fun m q hm hq hc => by
    cases hL : Lof listed m with
    | false => rfl
    | true =>
      have := hI.closed m hL i (hP.conf i m r q hr hq hm hc)
      rw [hun] at this
      cases this
  have hbefore : ∀ m q, m < i → rs[m]? = some q → conf q r = true → Lof listed m = true := fun m q hm hq hc => hanc m (hP.conf m i q r hq hr hm hc)
  obtain ⟨hnm, hdst, hrd⟩ := hd.nm
  have hd' : DOK E fn ops (nx + i * stepIds) o (selF (Lof listed) 0 rs fr) H r := by
    refine hd.congr (fun t ht => ?_) (by rw [foldF_sel rs i 0, selF_length, selF_length]) (fun x hx => ?_)
    · rw [foldF_sel rs i 0]
      refine selF_congr rs 0 fr fr rfl rfl fun m q hm hq => ?_
      simp only [Nat.zero_add]
      rcases Nat.lt_trichotomy m i with hmi | hmi | hmi
      · rw [hbefore m q hmi hm (conf1 hq ht)]; simpa using hmi
      · subst hmi; rw [hun]; simp
      · rw [hlater m q hmi hm (conf2 hq ht)]; simp; omega
    · rw [foldH_sel rs i 0, hI.heap x]
      refine selH_congr rs 0 _ _ rfl fun m q hm hq => ?_
      simp only [Nat.zero_add]
      rcases Nat.lt_trichotomy m i with hmi | hmi | hmi
      · rw [hbefore m q hmi hm (conf3 hq (.inr hx))]; simpa using hmi
      · subst hmi; rw [hun]; simp
      · rw [hlater m q hmi hm (conf4 hq (.inr hx))]; simp; omega
  obtain ⟨v, w', Z', own', γ', D, hs⟩ := dok_run (used' := usedL nx (listed.setIfInBounds i true)) (b := b) (k := k) (fs := fs) (rest := rest) hE hI.mem hI.gl hI.frame hd' ho (fun j hj => usedL_new hI.size hun j hj) (fun s h => (usedL_add hlt' s).2 (.inl h)) (fun j hj => (usedL_add hlt' _).2 (.inr ⟨by omega, by simp only [stepIds]; omega⟩))
  have hle := D.ext.le hI.mem.fresh
  refine ⟨a.put r.dst v, w', Z', own', γ', applyW H r.ws, ⟨by simp [hI.size], ?_, ?_, ?_, D.mem, ?_, hI.gl.mono D.stay⟩, ?_, D.stay, hle, hs⟩
  · rw [Lof_set hlt']
    intro j hj m hm
    simp only [addL, Bool.or_eq_true, beq_iff_eq] at hj ⊢
    rcases hj with hj | rfl
    · exact .inl (hI.closed j hj m hm)
    · exact .inl (hanc m hm)
  · rw [Lof_set hlt', selF_add hr fun m q t hm hq hqt hrt => hlater m q hm hq (conf2 hqt (by rw [hnm]; exact names_dst (hdst ▸ hrt)))]
    exact (hI.frame.mono D.stay hle).putT r.dst D.val
  · intro x
    rw [Lof_set hlt', selH_add hr fun m q y hm hq hqt hrt => hlater m q hm hq (conf4 hqt (.inl hrt)), hget_applyW]
    have : hget H = selH (Lof listed) 0 rs (hget h) := funext hI.heap
    rw [this]
  · rw [Lof_set hlt']
    intro j q hj hq
    simp only [addL, Bool.or_eq_true, beq_iff_eq] at hj
    rcases hj with hj | rfl
    · exact hI.ok j q hj hq
    · rw [hr] at hq
      injection hq with hq
      subst hq
      exact D.val.ok
  · cases r.dst <;> rfl
theorem ready_nil (hP : Plan E fn ops nx fr h AA rs) (hs : listed.size = ops.size) (hn : Region.ready .any ops listed = []) : ∀ j, j < ops.size → Lof listed j = true := by
  intro j
  induction j using Nat.strongRecOn with
  | _ j ih =>
    intro hj
    cases hL : Lof listed j with
    | true => rfl
    | false =>
      have : j ∈ Region.ready .any ops listed := by
        rw [mem_ready, Lof_true (by omega)]
        refine ⟨hL, ops[j], Array.getElem?_eq_getElem hj, fun e he hb => ?_⟩
        have hlt := (hP.anc j ops[j] (Array.getElem?_eq_getElem hj)).1 e he hb
        exact ih e.on hlt (by omega)
      rw [hn] at this
      cases this
def unl (n : Nat) (listed : Array Bool) : Nat := ((List.range n).filter fun i => !Lof listed i).length
theorem unl_lt {n i : Nat} (hs : i < listed.size) (hi : i < n) (hL : Lof listed i = false) : unl n (listed.setIfInBounds i true) < unl n listed := by
  unfold unl
  rw [Lof_set hs]
  have : (List.range n).filter (fun j => !addL (Lof listed) i j) = ((List.range n).filter fun j => !Lof listed j).filter fun j => !(j == i) := by
    rw [List.filter_filter]
    congr 1
    funext j
    simp [addL, Bool.not_or, Bool.and_comm]
  rw [this, List.length_filter_lt_length_iff_exists]
  exact ⟨i, by simp [hi, hL], by simp⟩
theorem go_sound (hE : EOK E) (hP : Plan E fn ops nx fr h AA rs) (b : Frame) (k : List Item) (fs : List Frame) : ∀ (fuel t : Nat) {listed : Array Bool} {a : Act} {w : World} {Z : Nat → Prop} {own : Own} {γ : Gst} {H : Heap}, unl ops.size listed ≤ fuel →
    Inv E ops nx fr h AA rs w0 K listed a w Z own γ H → ∃ listed' a' w' Z' own' γ' H', Inv E ops nx fr h AA rs w0 K listed' a' w' Z' own' γ' H' ∧ (∀ j, j < ops.size → Lof listed' j = true) ∧ a'.defers = a.defers ∧ Stay w Z w' Z' ∧ γ.Le γ' ∧
      Steps E.P (lone (b.at a (.inRegion ops (Region.linearise.go .any ops fuel t listed []) :: k)) fs w) (lone (b.at a' (.inRegion ops [] :: k)) fs w')
  | 0, t, listed, a, w, Z, own, γ, H, hu, hI => by
    refine ⟨listed, a, w, Z, own, γ, H, hI, fun j hj => ?_, rfl, Stay.refl _ _, Gst.Le.refl _, .refl _ _⟩
    cases hL : Lof listed j with
    | true => rfl
    | false =>
      have hm : j ∈ (List.range ops.size).filter fun i => !Lof listed i := by simp [hj, hL]
      have : (List.range ops.size).filter (fun i => !Lof listed i) = [] := List.eq_nil_of_length_eq_zero (by unfold unl at hu; omega)
      rw [this] at hm
      cases hm
  | fuel + 1, t, listed, a, w, Z, own, γ, H, hu, hI => by
    simp only [Region.linearise.go]
    change ∃ listed' a' w' Z' own' γ' H', Inv E ops nx fr h AA rs w0 K listed' a' w' Z' own' γ' H' ∧ (∀ j, j < ops.size → Lof listed' j = true) ∧ a'.defers = a.defers ∧ Stay w Z w' Z' ∧ γ.Le γ' ∧
      Steps E.P (lone (b.at a (.inRegion ops (match (Region.ready .any ops listed)[t % (Region.ready .any ops listed).length]? with
        | some i => Region.linearise.go .any ops fuel (t / (Region.ready .any ops listed).length) (listed.setIfInBounds i true) [i]
        | none => [].reverse) :: k)) fs w) (lone (b.at a' (.inRegion ops [] :: k)) fs w')
    cases hi : (Region.ready .any ops listed)[t % (Region.ready .any ops listed).length]? with
    | none =>
      have hnil : Region.ready .any ops listed = [] := by
        cases hr : Region.ready .any ops listed with
        | nil => rfl
        | cons x xs =>
          rw [hr] at hi
          have hlt : t % (x :: xs).length < (x :: xs).length := Nat.mod_lt _ (by simp)
          simp at hi
          simp at hlt
          omega
      exact ⟨listed, a, w, Z, own, γ, H, hI, ready_nil hP hI.size hnil, rfl, Stay.refl _ _, Gst.Le.refl _, .refl _ _⟩
    | some i =>
      simp only []
      rw [linearise_go_acc, List.reverse_singleton, List.singleton_append]
      have hr := List.mem_of_getElem? hi
      obtain ⟨a1, w1, Z1, own1, γ1, H1, hI1, hd1, hst1, hx1, hs1⟩ := inv_step hE hP hI hr b k fs (Region.linearise.go .any ops fuel (t / (Region.ready .any ops listed).length) (listed.setIfInBounds i true) [])
      have hrdy := mem_ready.1 hr
      obtain ⟨hun, o, ho, _⟩ := hrdy
      have hlt : i < ops.size := (Array.getElem?_eq_some_iff.1 ho).1
      rw [Lof_true (by rw [hI.size]; exact hlt)] at hun
      have hlt2 := unl_lt (n := ops.size) (by rw [hI.size]; exact hlt) hlt hun
      obtain ⟨l2, a2, w2, Z2, own2, γ2, H2, hI2, hall, hd2, hst2, hx2, hs2⟩ := go_sound hE hP b k fs fuel (t / (Region.ready .any ops listed).length) (by omega) hI1
      exact ⟨l2, a2, w2, Z2, own2, γ2, H2, hI2, hall, hd2.trans hd1, hst1.trans hst2, hx1.trans hx2, hs1.trans hs2⟩
theorem tells_ok : ∀ {rs : List Rc}, (∀ (j : Nat) r, rs[j]? = some r → okAV r.val) → AllP (tells rs)
  | [], _ => trivial
  | r :: rs, h => by
    have := tells_ok (rs := rs) fun j q hq => h (j + 1) q (by simpa using hq)
    unfold tells
    split
    · exact ⟨h 0 r rfl, this⟩
    · exact this
theorem knows_wp {α : Type} {Q : α → Prop} {t : Tre α} : ∀ {l : List Prop}, AllP l → (knows l t).wp Q → t.wp Q
  | [], _, h => h
  | _ :: l, hl, h => knows_wp (l := l) hl.2 (h hl.1)
theorem adraw_sound (hE : EOK E) (hm : MemR w0 K w Z own γ h (fun s => s < nx)) (hg : GlR E w Z) (hf : VRs w Z γ fr a.tmps.toList) {Q : List Rc × List AV × Heap → Prop} (he : (adraw E fn ops fr h nx).wp Q)
    (b : Frame) (k : List Item) (fs : List Frame) (t : Nat) : ∃ x, Q x ∧ AllP (tells x.1) ∧ ∃ a' w' Z' own' γ', a'.defers = a.defers ∧ VRs w' Z' γ' x.2.1 a'.tmps.toList ∧ Stay w Z w' Z' ∧ γ.Le γ' ∧ MemR w0 K w' Z' own' γ' x.2.2 (fun s => s < nx + ops.size * stepIds) ∧
      Steps E.P (lone (b.at a (.inRegion ops (Region.linearise .any ops t) :: k)) fs w) (lone (b.at a' k) fs w') := by
  unfold adraw at he
  split at he
  · rename_i AA hanc
    rw [Tre.wp_bind] at he
    obtain ⟨rs, e0, e1, e4⟩ := drun_ok (Q := fun x => Tre.wp Q (if okAll AA 0 [] x.1 = true then .ok x else .bad)) ops.toList 0 fr h he
    split at e0
    · rename_i hok
      obtain ⟨_, a2⟩ := ancs_ok hanc
      have hP : Plan E fn ops nx fr h AA rs := by
        refine ⟨by simpa using e1, fun j o ho => ?_, fun j o ho => ?_, fun i k q r hi hk hik hc => ?_⟩
        · have := e4 j o (by simpa using ho)
          rwa [Nat.zero_add] at this
        · have := a2 j o (by simpa using ho)
          simpa using this
        · exact okAll_ok (done := []) hok i k q r (by simpa using hi) (by simpa using hk) hik (Nat.zero_le _) hc
      have hL0 : Lof (Array.replicate ops.size false) = fun m => decide (m < 0 + 0) := by
        funext j
        simp only [Lof, Array.getD_eq_getD_getElem?, Array.getElem?_replicate]
        split <;> simp
      have hI : Inv E ops nx fr h AA rs w0 K (Array.replicate ops.size false) a w Z own γ h := by
        refine ⟨by simp, fun j hj => ?_, ?_, fun x => ?_, hm.used_mono fun s hs => .inl hs, fun j r hj => ?_, hg⟩
        · rw [hL0] at hj
          simp at hj
        · rw [hL0, ← foldF_sel rs 0 0]
          exact hf
        · rw [hL0, ← foldH_sel rs 0 0]
          rfl
        · rw [hL0] at hj
          simp at hj
      obtain ⟨l2, a2, w2, Z2, own2, γ2, H2, hI2, hall, hd2, hst2, hx2, hs2⟩ := go_sound hE hP b k fs ops.size t (by
        unfold unl
        exact Nat.le_trans (List.length_filter_le _ _) (by simp)) hI
      have hfull : ∀ m (r : Rc), rs[m]? = some r → Lof l2 (0 + m) = decide (0 + m < 0 + rs.length) := fun m r hr => by
        have := (List.getElem?_eq_some_iff.1 hr).1
        rw [Nat.zero_add, hall m (by rw [← hP.len]; exact this)]
        simpa using this
      refine ⟨_, e0, tells_ok fun j r hr => hI2.ok j r ?_ hr, a2, w2, Z2, own2, γ2, hd2, ?_, hst2, hx2, (hI2.mem.congr fun x => ?_).used_mono ?_, hs2.trans (.one step_region_end)⟩
      · exact hall j (by rw [← hP.len]; exact (List.getElem?_eq_some_iff.1 hr).1)
      · have : selF (Lof l2) 0 rs fr = foldF rs fr := by
          have h1 := foldF_sel rs rs.length 0 fr
          rw [List.take_length] at h1
          rw [h1]
          exact List.ext_getElem? fun t => selF_congr rs 0 fr fr rfl rfl fun m r hr _ => hfull m r hr
        have h2 := hI2.frame
        rw [this] at h2
        exact h2
      · have h1 := foldH_sel rs rs.length 0 h x
        rw [List.take_length] at h1
        rw [hI2.heap x, h1]
        exact selH_congr rs 0 _ _ rfl fun m r hr _ => (hfull m r hr).symm
      · rintro s (h | ⟨j, h1, h2, h3⟩)
        · omega
        · have hj : j < ops.size := by
            rcases Nat.lt_or_ge j l2.size with h | h
            · rw [hI2.size] at h; exact h
            · simp [Lof, Array.getD_eq_getD_getElem?, Array.getElem?_eq_none h] at h1
          simp only [stepIds] at *
          omega
    · exact e0.elim
  · exact he.elim
end
end Go.BE
namespace Go.BE
open Go.RowKit
section
variable {E : Ctx} {w w' w0 : World} {Z Z' : Nat → Prop} {K : Kp} {own own' : Own} {γ γ' : Gst} {h h' : Heap} {a : Act} {as : List Act} {c : Cfg}
theorem astep_sound {base : List Frame} (hE : EOK E) (hS : StOK E w0 K c a as w Z own γ) {Q : Fin → Prop} (he : (astep E c).wp Q) : ∃ f, Q f ∧ FinOK E w0 K base c a as w Z f := by
  have hev : ∀ x, VR w Z γ (ev E c.cur.fr x) (a.eval x) := fun x => ev_rel' hS.gl hS.cur.tmps x
  unfold astep at he
  split at he
  · rename_i ht
    exact leave_sound (todo := []) hE hS (fun fs => by simp only [mkF, ht]; exact .one step_end) he
  · rename_i k ht
    exact leave_sound (todo := .code .ret :: k) hE hS (fun fs => by simp only [mkF, ht]; exact .one step_ret) he
  · rename_i k ht
    exact todo_sound hS (fun fs => by simp only [mkF, ht]; exact step_skip) he
  · rename_i l k ht
    exact todo_sound hS (fun fs => by simp only [mkF, ht]; exact step_label) he
  · rename_i l k ht
    exact todo_sound hS (fun fs => by simp only [mkF, ht]; exact step_inBlock) he
  · rename_i x y k ht
    exact todo_sound hS (fun fs => by simp only [mkF, ht]; exact step_seq) he
  · rename_i x y z k ht
    split at he
    · rename_i b hb
      have hv := asB_inv (hev x) hb
      cases hbb : b with
      | true =>
        refine ⟨_, he.1 hbb, a, as, w, Z, own, γ, ⟨⟨hS.cur.defers, ?_⟩, hS.callers, hS.mem, hS.gl⟩, Stay.refl _ _, by cases c.callers <;> rfl, ?_⟩
        · show VRs w Z γ (setB c.cur.fr (opTmp x) true) _
          rw [setB_eq hb hbb]
          exact hS.cur.tmps
        · rw [hbb] at hv
          simp only [mkF, ht]
          exact .one (step_cond hv)
      | false =>
        refine ⟨_, he.2 hbb, a, as, w, Z, own, γ, ⟨⟨hS.cur.defers, ?_⟩, hS.callers, hS.mem, hS.gl⟩, Stay.refl _ _, by cases c.callers <;> rfl, ?_⟩
        · show VRs w Z γ (setB c.cur.fr (opTmp x) false) _
          rw [setB_eq hb hbb]
          exact hS.cur.tmps
        · rw [hbb] at hv
          simp only [mkF, ht]
          exact .one (step_cond hv)
    · exact he.elim
  · rename_i l x k ht
    exact todo_sound hS (fun fs => by simp only [mkF, ht]; exact step_block) he
  · rename_i x k ht
    exact todo_sound hS (fun fs => by simp only [mkF, ht]; exact step_loop) he
  · rename_i x k ht
    exact todo_sound hS (fun fs => by simp only [mkF, ht]; exact step_inLoop) he
  · rename_i l k ht
    split at he
    · rename_i k' hk
      exact todo_sound hS (fun fs => by simp only [mkF, ht]; exact step_exit hk) he
    · exact he.elim
  · rename_i l ops k ht
    exact todo_sound hS (fun fs => by simp only [mkF, ht]; exact step_region) he
  · rename_i l ops k ht
    have hst : Stay w Z { w with drawn := w.drawn + 1 } Z := ⟨fun _ _ => rfl, fun _ h => h⟩
    have hm : MemR w0 K { w with drawn := w.drawn + 1 } Z own γ c.h (fun s => s < c.nx) :=
      hS.mem.step hst (Gst.Ext.refl _ γ) (fun _ h => h) rfl rfl rfl (Nat.le_refl _) (fun _ => False) (fun _ _ _ => rfl) (fun _ _ ho _ => ho) (fun _ _ ho => .inl ⟨ho, fun h => h⟩) (fun b hb => ⟨hS.mem.zlt b hb, .inl hb⟩) (fun x R hg => .inl ⟨hg, fun h => h⟩) hS.mem.fresh
    rw [Tre.wp_bind] at he
    obtain ⟨x, hq, htl, a', w', Z', own', γ', q1, q2, q3, q4, q5, q6⟩ := adraw_sound hE hm (hS.gl.mono hst) (hS.cur.tmps.mono hst (Gst.Le.refl _)) he (fb c.cur.fn) k (frs c.callers as ++ base) (w.tape w.drawn (.order c.cur.fn l))
    refine ⟨_, knows_wp htl hq, a', as, w', Z', own', γ', ⟨⟨q1.trans hS.cur.defers, q2⟩, (hS.callers.mono hst (Gst.Le.refl _)).mono q3 q4, q5, (hS.gl.mono hst).mono q3⟩, hst.trans q3, by cases c.callers <;> rfl, ?_⟩
    refine .head ?_ q6
    have := step_region_draw (P := E.P) (b := fb c.cur.fn) (a := a) (k := k) (cs := frs c.callers as ++ base) (w := w) (ops := ops) (id := l)
    simp only [Region.schedule, hE.mixed, Bool.true_or, if_true] at this
    simp only [mkF, ht]
    exact this
  · rename_i ops k ht
    exact todo_sound hS (fun fs => by simp only [mkF, ht]; exact step_region_end) he
  · rename_i ops i rest k ht
    split at he
    · exact he.elim
    · rename_i o ho
      split at he
      · rename_i hg
        exact runOp_sound hE hS ht ho (by simp [Region.wanted, hg]) he
      · rename_i j want hg
        split at he
        · exact he.elim
        · rename_i t hj
          split at he
          · rename_i b hb
            have hbt := lget_val hS.cur.tmps hb
            rw [Array.getElem?_toList] at hbt
            have hset : ∀ d, b = d → c.cur.fr.set t (abool d) = c.cur.fr := fun d hd => lget_set_self (by rw [hb, hd]; rfl) (by simp [abool])
            have hcfg : ∀ d, b = d → ({ c with cur := { c.cur with fr := c.cur.fr.set t (abool d) } } : Cfg) = c := fun d hd => by rw [hset d hd]
            have hyes : ∀ d, b = d → d = want → (runOp E { c with cur := { c.cur with fr := c.cur.fr.set t (abool d) } } ops o rest k).wp Q → ∃ f, Q f ∧ FinOK E w0 K base c a as w Z f := fun d hd hw hr => by
              rw [hcfg d hd] at hr
              refine runOp_sound hE hS ht ho ?_ hr
              simp only [Region.wanted, hg, yielded_at hj, hbt, hd, hw]
              simp
            have hno : ∀ d, b = d → d ≠ want → Q (.at_ { c with cur := { c.cur with fr := c.cur.fr.set t (abool d) }.fin ops o.dst rest k und }) → ∃ f, Q f ∧ FinOK E w0 K base c a as w Z f := fun d hd hw hr => by
              have hw : ((ops[i]?).map (Region.wanted · (yielded ops a.tmps))).getD false = false := by
                simp only [ho, Option.map_some, Option.getD_some, Region.wanted, hg, yielded_at hj, hbt, hd]
                simpa using hw
              rw [hset d hd] at hr
              refine ⟨_, hr, a.put o.dst undef, as, w, Z, own, γ, ⟨hS.cur.fin (.cr (.val _ trivial)), hS.callers, hS.mem, hS.gl⟩, Stay.refl _ _, by cases c.callers <;> rfl, ?_⟩
              have := step_op_skip (P := E.P) (b := fb c.cur.fn) (a := a) (k := k) (cs := frs c.callers as ++ base) (w := w) (ops := ops) (i := i) (rest := rest) hw
              rw [ho] at this
              simp only [mkF, ht]
              exact .one this
            dsimp only at he
            split at he
            · rename_i hwant
              cases hbb : b with
              | true => exact hyes true hbb hwant.symm (he.1 hbb)
              | false => exact hno false hbb (by rw [hwant]; simp) (he.2 hbb)
            · rename_i hwant
              have hwant : want = false := by simpa using hwant
              cases hbb : b with
              | true => exact hno true hbb (by rw [hwant]; simp) (he.1 hbb)
              | false => exact hyes false hbb hwant.symm (he.2 hbb)
          · rename_i vs hb
            have hbt := lget_val hS.cur.tmps hb
            rw [Array.getElem?_toList] at hbt
            have hw : ((ops[i]?).map (Region.wanted · (yielded ops a.tmps))).getD false = false := by
              simp only [ho, Option.map_some, Option.getD_some, Region.wanted, hg, yielded_at hj, hbt]
              rfl
            refine ⟨_, he, a.put o.dst undef, as, w, Z, own, γ, ⟨hS.cur.fin (.cr (.val _ trivial)), hS.callers, hS.mem, hS.gl⟩, Stay.refl _ _, by cases c.callers <;> rfl, ?_⟩
            have := step_op_skip (P := E.P) (b := fb c.cur.fn) (a := a) (k := k) (cs := frs c.callers as ++ base) (w := w) (ops := ops) (i := i) (rest := rest) hw
            rw [ho] at this
            simp only [mkF, ht]
            exact .one this
          · exact he.elim
  · exact he.elim
end
end Go.BE
namespace Go.BE
open Go.RowKit
mutual
/-- the roots that a value leads to, but those that are read-only -/
def AV.live (h : Heap) : AV → List Nat
  | .agg cs => liveL h cs
  | .tup cs => liveL h cs
  | .fn _ cs => liveL h cs
  | .ref r _ => [r]
  | .tref r .. => [r]
  | .osl r .. => match hget h r with | some R => if R.fz then [] else [r] | none => []
  | .optr r .. => [r]
  | .csl r .. => [r]
  | _ => []
def liveL (h : Heap) : List AV → List Nat
  | [] => []
  | a :: l => a.live h ++ liveL h l
end
def liveF (h : Heap) : List AFr → List Nat
  | [] => []
  | F :: Fs => liveL h F.fr ++ liveF h Fs
def liveC (h : Heap) : Cont → List Nat
  | .cells cs => liveL h cs
  | _ => []
def closeR (h : Heap) : Nat → List Nat → List Nat → List Nat
  | 0, _, done => done
  | _ + 1, [], done => done
  | n + 1, r :: l, done => if done.contains r then closeR h n l done else match hget h r with
    | some R => if R.pend.isSome then closeR h n l done else closeR h n (l ++ liveC h R.cont) (done ++ [r])
    | none => closeR h n l done
def number : List Nat → Nat → List (Nat × Nat)
  | [], _ => []
  | r :: l, i => (r, i) :: number l (i + 1)
def alook : List (Nat × Nat) → Nat → Option Nat
  | [], _ => none
  | (k, r) :: l, t => if k = t then some r else alook l t
def renO (h : Heap) (f : Nat → Option Nat) (r s : Nat) (p : Pth) : Option Nat := match f r, hget h r with
  | some r', some R => if R.valid s p.length then some r' else none
  | _, _ => none
def renH (h : Heap) (f : Nat → Option Nat) : AV → AV
  | .osl r s p w => match renO h f r s p with | some r' => .osl r' r' p w | none => .bad
  | a => a
mutual
def AV.ren (h : Heap) (f : Nat → Option Nat) : AV → AV
  | .agg cs => .agg (renL h f cs)
  | .tup cs => .tup (renL h f cs)
  | .fn g cs => .fn g (renL h f cs)
  | .ref r o => match f r with | some r' => .ref r' o | none => .bad
  | .tref r s p i st => match renO h f r s p with | some r' => .tref r' r' p i st | none => .bad
  | .osl r s p w => renH h f (norm h (.osl r s p w))
  | .optr r s p => match renO h f r s p with | some r' => .optr r' r' p | none => .bad
  | .csl r o n => match f r with | some r' => .csl r' o n | none => .bad
  | a => a
def renL (h : Heap) (f : Nat → Option Nat) : List AV → List AV
  | [] => []
  | a :: l => a.ren h f :: renL h f l
end
def keepT (keep : List Nat) : List AV → Nat → List AV
  | [], _ => []
  | a :: l, i => (if keep.contains i then a else .bad) :: keepT keep l (i + 1)
def Cont.ren (h : Heap) (f : Nat → Option Nat) : Cont → Cont
  | .cells cs => .cells (renL h f cs)
  | c => c
def keepH (h : Heap) (f : Nat → Option Nat) : List (Nat × Nat) → Heap
  | [] => []
  | (r, r') :: l => match hget h r with
    | some R => if R.pend.isSome || R.fz then keepH h f l else (r', { cont := R.cont.ren h f, cur := r', old := [], fz := false, pend := none }) :: keepH h f l
    | none => keepH h f l
def renF (h : Heap) (f : Nat → Option Nat) : List AFr → List AFr
  | [] => []
  | F :: Fs => { F with fr := renL h f F.fr } :: renF h f Fs
def keepF : List (List Nat) → List AFr → List AFr
  | k :: ks, F :: Fs => { F with fr := keepT k F.fr 0 } :: keepF ks Fs
  | _, Fs => Fs
def rootsOK (nx : Nat) : List (Nat × Nat) → Bool
  | [] => true
  | (r, r') :: l => decide (r' < nx) && l.all (fun x => x.1 != r && x.2 != r') && rootsOK nx l
def Cfg.cut (roots : List (Nat × Nat)) (keep : List Nat) (kc : List (List Nat)) (nx : Nat) (c : Cfg) : Cfg :=
  { cur := { c.cur with fr := renL c.h (alook roots) (keepT keep c.cur.fr 0) }, callers := renF c.h (alook roots) (keepF kc c.callers), h := keepH c.h (alook roots) roots, nx := nx }
section
variable {E : Ctx} {w w' w0 : World} {Z Z' : Nat → Prop} {K : Kp} {own own' : Own} {γ γ' : Gst} {h h' : Heap} {used used' : Nat → Prop} {r s d id nx : Nat} {R : Root} {a : AV} {v : Value} {cs ds : List AV} {vs us : List Value} {roots : List (Nat × Nat)}
theorem alook_mem {l : List (Nat × Nat)} {r r' : Nat} (h : alook l r = some r') : (r, r') ∈ l := by
  induction l with
  | nil => simp [alook] at h
  | cons x l ih =>
    obtain ⟨k, q⟩ := x
    simp only [alook] at h
    split at h
    · rename_i hk
      injection h with h
      subst hk; subst h
      exact List.mem_cons_self
    · exact List.mem_cons_of_mem _ (ih h)
theorem rootsOK_inj {nx : Nat} : ∀ {l : List (Nat × Nat)}, rootsOK nx l = true → ∀ r r' s s', (r, r') ∈ l → (s, s') ∈ l → (r = s ∨ r' = s') → r = s ∧ r' = s'
  | [], _, r, r', s, s', h, _, _ => by cases h
  | (p, q) :: l, h, r, r', s, s', h1, h2, hor => by
    simp only [rootsOK, Bool.and_eq_true, decide_eq_true_eq] at h
    obtain ⟨⟨_, hall⟩, hrest⟩ := h
    rw [List.all_eq_true] at hall
    rcases List.mem_cons.1 h1 with e1 | m1
    · rcases List.mem_cons.1 h2 with e2 | m2
      · injection e1 with a1 b1; injection e2 with a2 b2
        subst a1; subst b1; subst a2; subst b2
        exact ⟨rfl, rfl⟩
      · injection e1 with a1 b1
        subst a1; subst b1
        have := hall _ m2
        simp at this
        rcases hor with rfl | rfl
        · exact absurd rfl this.1
        · exact absurd rfl this.2
    · rcases List.mem_cons.1 h2 with e2 | m2
      · injection e2 with a2 b2
        subst a2; subst b2
        have := hall _ m1
        simp at this
        rcases hor with rfl | rfl
        · exact absurd rfl this.1
        · exact absurd rfl this.2
      · exact rootsOK_inj hrest r r' s s' m1 m2 hor
theorem rootsOK_lt {nx : Nat} : ∀ {l : List (Nat × Nat)}, rootsOK nx l = true → ∀ r r', (r, r') ∈ l → r' < nx
  | [], _, r, r', h => by cases h
  | (p, q) :: l, h, r, r', hm => by
    simp only [rootsOK, Bool.and_eq_true, decide_eq_true_eq] at h
    rcases List.mem_cons.1 hm with e | m
    · injection e with a b
      subst b
      exact h.1.1
    · exact rootsOK_lt h.2 r r' m
theorem rootsOK_look {nx : Nat} {l : List (Nat × Nat)} (h : rootsOK nx l = true) {r r' : Nat} (hm : (r, r') ∈ l) : alook l r = some r' := by
  have : ∃ q, alook l r = some q := by
    clear h
    induction l with
    | nil => cases hm
    | cons x l ih =>
      obtain ⟨k, q⟩ := x
      simp only [alook]
      split
      · exact ⟨_, rfl⟩
      · rename_i hk
        rcases List.mem_cons.1 hm with e | m
        · injection e with e1 _; exact absurd e1.symm hk
        · exact ih m
  obtain ⟨q, hq⟩ := this
  rw [hq, (rootsOK_inj h r r' r q hm (alook_mem hq) (.inl rfl)).2]
def γcut (γ : Gst) (h : Heap) (roots : List (Nat × Nat)) : Gst :=
  { β := fun r' => (roots.find? (fun x => x.2 == r')).bind fun x => γ.β x.1,
    G := fun r' => match roots.find? (fun x => x.2 == r') with
      | some x => (match hget h x.1 with | some R => γ.G R.cur | none => fun _ => none)
      | none => fun _ => none }
theorem find_at (hr : rootsOK nx roots = true) {r r' : Nat} (hm : (r, r') ∈ roots) : roots.find? (fun x => x.2 == r') = some (r, r') := by
  cases hf : roots.find? (fun x => x.2 == r') with
  | none => exact absurd (List.find?_eq_none.1 hf _ hm) (by simp)
  | some x =>
    have h1 := List.mem_of_find?_eq_some hf
    have h2 := List.find?_some hf
    simp only [beq_iff_eq] at h2
    obtain ⟨h3, h4⟩ := rootsOK_inj hr x.1 x.2 r r' h1 hm (.inr h2)
    cases x
    simp at h3 h4
    rw [h3, h4]
theorem find_none (hr : rootsOK nx roots = true) {r' : Nat} (h : nx ≤ r') : roots.find? (fun x => x.2 == r') = none := by
  cases hf : roots.find? (fun x => x.2 == r') with
  | none => rfl
  | some x =>
    have h1 := List.mem_of_find?_eq_some hf
    have h2 := List.find?_some hf
    simp only [beq_iff_eq] at h2
    have := rootsOK_lt hr x.1 x.2 h1
    omega
structure Ren (w : World) (Z : Nat → Prop) (own : Own) (γ γ' : Gst) (h : Heap) (f : Nat → Option Nat) : Prop where
  β : ∀ r r' b, f r = some r' → γ.β r = some b → γ'.β r' = some b
  G : ∀ r r' R, f r = some r' → hget h r = some R → ∀ q hd, γ.G R.cur q = some hd → γ'.G r' q = some hd
  root : ∀ r R, hget h r = some R → RootR w Z own γ r R
theorem renL_length (h : Heap) (f : Nat → Option Nat) : ∀ l : List AV, (renL h f l).length = l.length
  | [] => rfl
  | _ :: l => by simp [renL, renL_length h f l]
theorem renL_get (h : Heap) (f : Nat → Option Nat) : ∀ (l : List AV) (j : Nat), (renL h f l)[j]? = (l[j]?).map (AV.ren h f)
  | [], j => by simp [renL]
  | a :: l, 0 => by simp [renL]
  | a :: l, j + 1 => by simpa [renL] using renL_get h f l j
theorem CR.ren {f : Nat → Option Nat} (hc : CR w Z a v) : CR w Z (a.ren h f) v := by
  induction hc with
  | val v h => exact .val v h
  | tva S x vs hS h => exact .tva S x vs hS h
  | tv1 S x v hS h => exact .tv1 S x v hS h
  | rtp S x b o us hz hr h => exact .rtp S x b o us hz hr h
  | rop cs off b o u hz hc hr ih => exact .rop cs off b o u hz hc hr
  | agg cs vs hl hr ih =>
    refine .agg _ vs (by rw [renL_length]; exact hl) fun j x y hx hy => ?_
    rw [renL_get] at hx
    obtain ⟨x', hx', rfl⟩ := Option.map_eq_some_iff.1 hx
    exact ih j x' y hx' hy
  | tup cs vs hl hr ih =>
    refine .tup _ vs (by rw [renL_length]; exact hl) fun j x y hx hy => ?_
    rw [renL_get] at hx
    obtain ⟨x', hx', rfl⟩ := Option.map_eq_some_iff.1 hx
    exact ih j x' y hx' hy
  | fn g cs vs hl hr ih =>
    refine .fn g _ vs (by rw [renL_length]; exact hl) fun j x y hx hy => ?_
    rw [renL_get] at hx
    obtain ⟨x', hx', rfl⟩ := Option.map_eq_some_iff.1 hx
    exact ih j x' y hx' hy
theorem Ren.hd {f : Nat → Option Nat} (hr : Ren w Z own γ γ' h f) {p : Pth} {hd : Hd} {r' : Nat} (he : renO h f r s p = some r') (hg : γ.G s p = some hd) : γ'.G r' p = some hd := by
  unfold renO at he
  split at he
  · rename_i r1 R hf hR
    split at he
    · rename_i hv
      injection he with he
      subst he
      exact hr.G _ _ _ hf hR _ _ ((hr.root _ _ hR).valid_hd hv hg)
    · cases he
  · cases he
theorem renH_osl {f : Nat → Option Nat} (hr : Ren w Z own γ γ' h f) {p : Pth} {win : Option (Nat × Nat)} (hv : VR w Z γ (.osl r s p win) v) : VR w Z γ' (renH h f (.osl r s p win)) v := by
  simp only [renH]
  split
  · rename_i r' hr'
    generalize hA : AV.osl r s p win = A at hv
    cases hv with
    | osl r1 s1 p1 win1 v1 hd hg hs =>
      injection hA with e1 e2 e3 e4
      subst e1; subst e2; subst e3; subst e4
      exact .osl _ _ _ _ _ hd (hr.hd hr' hg) hs
    | cr hc => subst hA; cases hc
    | _ => cases hA
  · exact .bad _
theorem VR.ren {f : Nat → Option Nat} (hr : Ren w Z own γ γ' h f) (hn : ∀ A V, VR w Z γ A V → VR w Z γ (norm h A) V) (hv : VR w Z γ a v) : VR w Z γ' (a.ren h f) v := by
  induction hv with
  | bad v => exact .bad v
  | cr h => exact .cr h.ren
  | ref r off b h =>
    simp only [AV.ren]
    split
    · rename_i r' hr'
      exact .ref _ _ _ (hr.β _ _ _ hr' h)
    · exact .bad _
  | tref r s p i st hd b o so T h hi hb hst =>
    simp only [AV.ren]
    split
    · rename_i r' hr'
      exact .tref _ _ _ _ _ hd b o so T (hr.hd hr' h) hi hb hst
    · exact .bad _
  | osl r s p win v hd hg hs =>
    simp only [AV.ren]
    have h1 := hn _ _ (VR.osl r s p win v hd hg hs)
    have h2 : norm h (.osl r s p win) = .osl r s p win ∨ ∃ S x, norm h (.osl r s p win) = .tv S x := by
      unfold norm
      split
      · rename_i heq
        split
        · split
          · exact .inr ⟨_, _, rfl⟩
          · exact .inl heq.symm
        · exact .inl heq.symm
      · exact .inl rfl
    rcases h2 with h2 | ⟨S, x, h2⟩
    · rw [h2] at h1 ⊢
      exact renH_osl hr h1
    · rw [h2] at h1 ⊢
      exact .cr (h1.toCR rfl)
  | optr r s p v hd h hp hv =>
    simp only [AV.ren]
    split
    · rename_i r' hr'
      exact .optr _ _ _ _ hd (hr.hd hr' h) hp hv
    · exact .bad _
  | csl r off n b c h hc hl =>
    simp only [AV.ren]
    split
    · rename_i r' hr'
      exact .csl _ _ _ b c (hr.β _ _ _ hr' h) hc hl
    · exact .bad _
  | agg cs vs hl hrel ih =>
    refine .agg _ vs (by rw [renL_length]; exact hl) fun j x y hx hy => ?_
    rw [renL_get] at hx
    obtain ⟨x', hx', rfl⟩ := Option.map_eq_some_iff.1 hx
    exact ih j x' y hx' hy
  | tup cs vs hl hrel ih =>
    refine .tup _ vs (by rw [renL_length]; exact hl) fun j x y hx hy => ?_
    rw [renL_get] at hx
    obtain ⟨x', hx', rfl⟩ := Option.map_eq_some_iff.1 hx
    exact ih j x' y hx' hy
  | fn g cs vs hl hrel ih =>
    refine .fn g _ vs (by rw [renL_length]; exact hl) fun j x y hx hy => ?_
    rw [renL_get] at hx
    obtain ⟨x', hx', rfl⟩ := Option.map_eq_some_iff.1 hx
    exact ih j x' y hx' hy
theorem VRs.ren {f : Nat → Option Nat} (hr : Ren w Z own γ γ' h f) (hn : ∀ A V, VR w Z γ A V → VR w Z γ (norm h A) V) (hv : VRs w Z γ cs vs) : VRs w Z γ' (renL h f cs) vs := by
  refine ⟨by rw [renL_length]; exact hv.1, fun j x y hx hy => ?_⟩
  rw [renL_get] at hx
  obtain ⟨x', hx', rfl⟩ := Option.map_eq_some_iff.1 hx
  exact (hv.2 j x' y hx' hy).ren hr hn
theorem keepT_VRs (keep : List Nat) : ∀ {cs : List AV} {vs : List Value} (i : Nat), VRs w Z γ cs vs → VRs w Z γ (keepT keep cs i) vs
  | [], vs, _, h => ⟨by simpa [keepT] using h.1, fun j a v ha => by simp [keepT] at ha⟩
  | _ :: _, [], _, h => by simp [VRs] at h
  | a :: _, _ :: _, i, h => by
    simp only [keepT]
    split
    · exact .cons h.head (keepT_VRs keep (i + 1) h.tail)
    · exact .cons (.bad _) (keepT_VRs keep (i + 1) h.tail)
theorem keepH_get {f : Nat → Option Nat} : ∀ {l : List (Nat × Nat)} {r' : Nat} {R' : Root}, hget (keepH h f l) r' = some R' → ∃ r R, (r, r') ∈ l ∧ hget h r = some R ∧ R.pend = none ∧ R.fz = false ∧ R' = { cont := R.cont.ren h f, cur := r', old := [], fz := false, pend := none }
  | [], r', cs, hg => by simp [keepH, hget] at hg
  | (p, q) :: l, r', R', hg => by
    simp only [keepH] at hg
    have next : hget (keepH h f l) r' = some R' → ∃ r R, (r, r') ∈ (p, q) :: l ∧ hget h r = some R ∧ R.pend = none ∧ R.fz = false ∧ R' = { cont := R.cont.ren h f, cur := r', old := [], fz := false, pend := none } := fun hg => by
      obtain ⟨r, R, h1, h2⟩ := keepH_get hg
      exact ⟨r, R, List.mem_cons_of_mem _ h1, h2⟩
    split at hg
    · rename_i R hR
      split at hg
      · exact next hg
      · rename_i hc
        simp only [Bool.not_eq_true, Bool.or_eq_false_iff, Option.isSome_eq_false_iff, Option.isNone_iff_eq_none] at hc
        simp only [hget] at hg
        split at hg
        · rename_i hq
          injection hg with hg
          subst hq
          exact ⟨p, R, List.mem_cons_self, hR, hc.1, hc.2, hg.symm⟩
        · exact next hg
    · exact next hg
theorem MemR.ren (hr : rootsOK nx roots = true) (hm : MemR w0 K w Z own γ h used) : ∃ own', Ren w Z own γ (γcut γ h roots) h (alook roots) ∧ MemR w0 K w Z own' (γcut γ h roots) (keepH h (alook roots) roots) (fun s => s < nx) := by
  have hR : Ren w Z own γ (γcut γ h roots) h (alook roots) := by
    refine ⟨fun r r' b hf hb => ?_, fun r r' R hf hg q hd hq => ?_, hm.root⟩
    · simp only [γcut, find_at hr (alook_mem hf), Option.bind_some]
      exact hb
    · simp only [γcut, find_at hr (alook_mem hf), hg]
      exact hq
  let own' : Own := fun b => match own b with | some (r, q) => (alook roots r).map fun r' => (r', q) | none => none
  have hown : ∀ b o, own' b = some o → ∃ o', own b = some o' := fun b o ho => by
    simp only [own'] at ho
    split at ho
    · rename_i heq; exact ⟨_, heq⟩
    · cases ho
  have hown' : ∀ b r r' q, alook roots r = some r' → own b = some (r, q) → own' b = some (r', q) := fun b r r' q hf ho => by
    simp only [own', ho, hf, Option.map_some]
  refine ⟨own', hR, hm.os, hm.tape, hm.output, hm.size, hm.kept, hm.zin, hm.zlt, fun b o ho => ?_, fun b o ho => ?_, fun b o ho => ?_, fun r' R' hg => ?_, fun r' R' hg => ?_, fun s hs => ?_⟩
  · obtain ⟨o', ho'⟩ := hown b o ho; exact hm.ownlt b o' ho'
  · obtain ⟨o', ho'⟩ := hown b o ho; exact hm.ownZ b o' ho'
  · obtain ⟨o', ho'⟩ := hown b o ho; exact hm.ownK b o' ho'
  · obtain ⟨r, R, h1, h2, h3, h4, rfl⟩ := keepH_get hg
    have hf := rootsOK_look hr h1
    refine ⟨fun e he => by simp at he, ?_⟩
    have hc := (hm.root r R h2).cont
    unfold ContR at hc ⊢
    split at hc
    · rename_i cs hcs
      simp only [hcs, Cont.ren]
      obtain ⟨e1, e2, b, arr, e, k1, k2, k3, k4⟩ := hc
      exact ⟨trivial, trivial, b, arr, e, hR.β _ _ _ hf k1, hown' _ _ _ _ hf k2, k3, k4.ren hR (fun A V hv => norm_sound hm hv)⟩
    · rename_i m by_ S xs hcs
      simp only [hcs, Cont.ren]
      refine ⟨⟨hc.1.1, by
        have : (γcut γ h roots).G r' = γ.G R.cur := by simp only [γcut, find_at hr h1, h2]
        rw [this]; exact hc.1.2⟩, ?_⟩
      have hc := hc.2
      rw [if_neg (by simp [h4])] at hc
      simp only [h3] at hc
      rw [if_neg (by simp)]
      exact hc.moveR (Stay.refl _ _) (fun q hd hq => hR.G _ _ _ hf h2 _ _ hq) fun b q row hob hM => ⟨hown' _ _ _ _ hf hob, hM⟩
  · obtain ⟨r, R, h1, h2, h3, h4, rfl⟩ := keepH_get hg
    have := rootsOK_lt hr _ _ h1
    exact ⟨this, this, fun e he => by simp at he⟩
  · exact ⟨by simp [γcut, find_none hr (Nat.le_of_not_lt hs)], fun q => by simp [γcut, find_none hr (Nat.le_of_not_lt hs)]⟩
theorem CsR.ren {f : Nat → Option Nat} (hr : Ren w Z own γ γ' h f) (hn : ∀ A V, VR w Z γ A V → VR w Z γ (norm h A) V) : ∀ {Fs : List AFr} {as : List Act}, CsR w Z γ Fs as → CsR w Z γ' (renF h f Fs) as
  | [], [], _ => trivial
  | _ :: _, _ :: _, hc => ⟨⟨hc.1.defers, hc.1.tmps.ren hr hn⟩, CsR.ren hr hn hc.2⟩
theorem frs_renF (h : Heap) (f : Nat → Option Nat) : ∀ (Fs : List AFr) (as : List Act), frs (renF h f Fs) as = frs Fs as
  | [], [] => rfl
  | [], _ :: _ => rfl
  | _ :: _, [] => rfl
  | F :: Fs, a :: as => by simp [renF, frs, mkF, frs_renF h f Fs as]
theorem botFn_renF (h : Heap) (f : Nat → Option Nat) : ∀ (F : AFr) (G : AFr) (Fs : List AFr), F.fn = G.fn → botFn F (renF h f Fs) = botFn G Fs
  | _, _, [], h => h
  | _, _, H :: Hs, _ => botFn_renF h f { H with fr := renL h f H.fr } H Hs rfl
theorem CsR.keepF : ∀ {kc : List (List Nat)} {Fs : List AFr} {as : List Act}, CsR w Z γ Fs as → CsR w Z γ (keepF kc Fs) as
  | [], Fs, _, hc => hc
  | _ :: _, [], _, hc => hc
  | k :: ks, F :: Fs, [], hc => hc.elim
  | k :: ks, F :: Fs, a :: as, hc => ⟨⟨hc.1.defers, keepT_VRs k 0 hc.1.tmps⟩, CsR.keepF hc.2⟩
theorem frs_keepF : ∀ (kc : List (List Nat)) (Fs : List AFr) (as : List Act), frs (keepF kc Fs) as = frs Fs as
  | [], _, _ => rfl
  | _ :: _, [], _ => rfl
  | _ :: _, _ :: _, [] => rfl
  | k :: ks, F :: Fs, a :: as => by simp [Go.BE.keepF, frs, mkF, frs_keepF ks Fs as]
theorem botFn_keepF : ∀ (kc : List (List Nat)) (F : AFr) (G : AFr) (Fs : List AFr), F.fn = G.fn → botFn F (keepF kc Fs) = botFn G Fs
  | [], _, _, [], h => h
  | [], _, _, _ :: _, _ => rfl
  | _ :: _, _, _, [], h => h
  | k :: ks, _, _, H :: Hs, _ => botFn_keepF ks { H with fr := keepT k H.fr 0 } H Hs rfl
theorem cut_ok {c : Cfg} {a : Act} {as : List Act} {keep : List Nat} {kc : List (List Nat)} {nx : Nat} (hr : rootsOK nx roots = true) (hS : StOK E w0 K c a as w Z own γ) : ∃ own' γ', StOK E w0 K (c.cut roots keep kc nx) a as w Z own' γ' := by
  obtain ⟨own', hR, hm⟩ := hS.mem.ren hr
  have hn : ∀ A V, VR w Z γ A V → VR w Z γ (norm c.h A) V := fun A V hv => norm_sound hS.mem hv
  exact ⟨own', _, ⟨hS.cur.defers, (keepT_VRs keep 0 hS.cur.tmps).ren hR hn⟩, (CsR.keepF hS.callers).ren hR hn, hm, hS.gl⟩
end
end Go.BE
namespace Go.BE
open Go.RowKit
inductive Fx where
  | own (b : Nat) (S : Sh) (m : Nat := 0)
  | dat (S : Sh)
inductive Wh where
  | t (t : Nat)
  | c (t off : Nat)
structure Hints where
  cut : List (Nat × Nat) → FuncId → Nat → List Nat × List (Wh × Fx) × List (List Nat)
  ret : FuncId → List (Option Fx)
  unr : FuncId → Nat → Bool := fun _ _ => false   -- loops that are unrolled
def firstDst : List Oper → Nat
  | [] => 0
  | o :: l => match o.dst with | some d => d | none => firstDst l
def sigOf (F : AFr) : Nat × Nat := match F.todo with
  | .inRegion ops (i :: _) :: _ => (F.fn, firstDst ops.toList * 64 + i)
  | _ => (F.fn, 0)
def denV (h : Heap) (S : Sh) : AV → Option (List Prop × Den S × List (Nat × Option Root))
  | .tv T x => (castD T S x).map fun y => ([], y, [])
  | .agg cs => if S.isAgg && cs.all AV.one then (match closeL h cs with
    | some (C, cs, ws) => match toDen S cs with
      | some (y, []) => some (C, y, ws)
      | _ => none
    | none => none) else none
  | a => if !S.isAgg then (match closeC h a with
    | some (C, a, ws) => match toDen S [a] with
      | some (y, []) => some (C, y, ws)
      | _ => none
    | none => none) else none
def isNil : AV → Bool
  | .val (.slice none 0 0) => true
  | _ => false
def fixV (h : Heap) (nx : Nat) (fx : Fx) (a : AV) : Option (List Prop × AV × List (Nat × Option Root)) :=
  match fx with
  | .own b S m => if isNil (norm h a) then some ([], .osl nx nx [] none, [(nx, some (mkRoot nx (.arr m b S [])))]) else (match norm h a with
    | .osl r s [] (some win) => (match rdata h r s 0 with
      | some (R, m', ⟨.sl b' S', xs⟩) => if m' == 0 || S'.flat then some ([], .osl r nx [] none, [(r, some (R.rep 0 nx (.arr m' b' S' (wins xs (some win)))))]) else none
      | _ => none)
    | a => some ([], a, []))
  | .dat S => match denV h S (norm h a) with
    | some (C, y, ws) => some (C, avOf S y, ws)
    | none => none
def fix1 (c : Cfg) : Wh × Fx → Option (List Prop × Cfg)
  | (.t t, fx) => match fixV c.h c.nx fx (lget c.cur.fr t) with
    | some (C, a, ws) => some (C, { c with cur := { c.cur with fr := c.cur.fr.set t a }, h := applyW c.h ws, nx := c.nx + 1 })
    | none => none
  | (.c t off, fx) => match lget c.cur.fr t with
    | .ref r 0 => match hget c.h r with
      | some R => match R.cont with
        | .cells cs => match cs[off]? with
          | some a => match fixV c.h c.nx fx a with
            | some (C, a, ws) => match hget (applyW c.h ws) r with
              | some R' => match R'.cont with
                | .cells cs' => some (C, { c with h := hput (applyW c.h ws) r { R' with cont := .cells (cs'.set off a) }, nx := c.nx + 1 })
                | _ => none
              | none => none
            | none => none
          | none => none
        | _ => none
      | none => none
    | _ => none
def fixes (c : Cfg) : List (Wh × Fx) → Option (List Prop × Cfg)
  | [] => some ([], c)
  | f :: l => match fix1 c f with
    | some (C, c) => match fixes c l with
      | some (C', c) => some (C ++ C', c)
      | none => none
    | none => none
inductive Leaf where
  | head (c : Cfg)
  | ret (v : AV) (h : Heap)
def loopIx : List Item → Nat
  | .code _ :: .inLoop _ :: .inBlock id :: _ => id
  | _ => 0
def cutC (H : Hints) (c : Cfg) : Option (List Prop × Cfg) :=
  let k := H.cut (c.callers.map sigOf) c.cur.fn (loopIx c.cur.todo)
  match fixes c k.2.1 with
  | some (C, c) =>
    let rs := closeR c.h 100 (liveL c.h (keepT k.1 c.cur.fr 0) ++ liveF c.h (keepF k.2.2 c.callers)) []
    if rootsOK rs.length (number rs 0) then some (C, c.cut (number rs 0) k.1 k.2.2 rs.length) else none
  | none => none
def headT (H : Hints) (c : Cfg) : Tre Leaf := match cutC H c with
  | some (C, c) => chks C (.ok (.head c))
  | none => .bad
def fixR (h : Heap) (nx : Nat) : List (Option Fx) → List AV → Option (List Prop × List AV × Heap × Nat)
  | some S :: l, a :: as => match fixV h nx S a with
    | some (C, a, ws) => match fixR (applyW h ws) (nx + 1) l as with
      | some (C', as, h', nx') => some (C ++ C', a :: as, h', nx')
      | none => none
    | none => none
  | none :: l, a :: as => match fixR h nx l as with
    | some (C, as, h', nx') => some (C, a :: as, h', nx')
    | none => none
  | _, as => some ([], as, h, nx)
def retV : AV → List AV → AV
  | .tup _, l => .tup l
  | _, l => lget l 0
theorem retV_of {A : AV} {L : List AV} (h : ∀ l, A ≠ .tup l) : retV A L = lget L 0 := by
  cases A <;> first | rfl | exact absurd rfl (h _)
def retT (H : Hints) (f : FuncId) (v : AV) (h : Heap) (nx : Nat) : Tre Leaf :=
  match fixR h nx (H.ret f) (match v with | .tup l => l | a => [a]) with
  | some (C, vs, h, _) =>
    let rs := closeR h 100 (liveL h vs) []
    if rootsOK 16 (number rs 0) then chks C (.ok (.ret (retV v (renL h (alook (number rs 0)) vs)) (keepH h (alook (number rs 0)) (number rs 0)))) else .bad
  | none => .bad
def iteT {α : Type} (b : Bool) (t e : Tre α) : Tre α := match b with | true => t | false => e
def Tre.go {α β : Type} : Tre α → (α → Tre β) → Tre β
  | .ok a, f => f a
  | .ite b t e, f => iteT b (t.go f) (e.go f)
  | .chk C t, f => .chk C (t.go f)
  | .know K t, f => .know K (t.go f)
  | .any p k, f => .any p fun b => (k b).go f
  | .bad, _ => .bad
def atLoop (c : Cfg) : Bool := match c.cur.todo with | .code (.loop _) :: _ => true | .inLoop _ :: _ => true | _ => false
def run (E : Ctx) (H : Hints) (f : FuncId) : Nat → Cfg → Tre Leaf
  | 0, _ => .bad
  | n + 1, c => (astep E c).go fun x => match x with
    | .at_ c' => match atLoop c && !H.unr c'.cur.fn (loopIx c'.cur.todo) with | true => headT H c' | false => run E H f n c'
    | .ret v h nx => retT H f v h nx
def Runs (E : Ctx) (c : Cfg) (Q : AV → Heap → Prop) : Prop := ∀ w0 K base a as w Z own γ, StOK E w0 K c a as w Z own γ → ∃ v h, Q v h ∧ FinOK E w0 K base c a as w Z (.ret v h 16)
def contL (E : Ctx) (Q : AV → Heap → Prop) : Leaf → Prop
  | .head c => Runs E c Q
  | .ret v h => Q v h
section
variable {E : Ctx} {w w' w0 : World} {Z Z' : Nat → Prop} {K : Kp} {own own' : Own} {γ γ' : Gst} {h h' : Heap} {used used' : Nat → Prop} {r s d id nx : Nat} {R : Root} {a A B : AV} {v V : Value} {cs ds : List AV} {vs us : List Value} {H : Hints} {Q : AV → Heap → Prop} {c : Cfg}
theorem CR.of_tv {S : Sh} {x : Den S} (h : CR w Z (.tv S x) v) : CR w Z (avOf S x) v := by
  generalize hA : AV.tv S x = A at h
  cases h with
  | tva S1 x1 vs hS h =>
    injection hA with e1 e2
    subst e1
    have e2 := eq_of_heq e2
    subst e2
    have := h.avOf
    rw [if_pos hS] at this
    simpa using this
  | tv1 S1 x1 v1 hS h =>
    injection hA with e1 e2
    subst e1
    have e2 := eq_of_heq e2
    subst e2
    have := h.avOf
    rw [if_neg (by simp [hS])] at this
    obtain ⟨u, hu, hc⟩ := this
    injection hu with hu
    subst hu
    exact hc
  | _ => cases hA
theorem denV_sound (hm : MemR w0 K w Z own γ h used) {S : Sh} {C : List Prop} {y : Den S} {ws : List (Nat × Option Root)} (he : denV h S A = some (C, y, ws)) (hC : AllP C) (hA : VR w Z γ A V) :
    ∃ Z' own', Closed w0 K w Z own γ (applyW h ws) used Z' own' ∧ CR w Z' (avOf S y) V := by
  unfold denV at he
  split at he
  · rename_i T x
    obtain ⟨y', hy, he⟩ := Option.map_eq_some_iff.1 he
    injection he with e1 e2
    injection e2 with e2 e3
    subst e2; subst e3
    obtain ⟨e, rfl⟩ := castD_some hy
    subst e
    exact ⟨Z, own, ⟨Stay.refl _ _, hm, fun _ _ h => h⟩, (hA.toCR rfl).of_tv⟩
  · rename_i cs
    split at he
    · rename_i hS
      simp only [Bool.and_eq_true] at hS
      split at he
      · rename_i C1 cs1 ws1 hcl
        split at he
        · rename_i y' hy
          injection he with he
          injection he with e1 e2
          injection e2 with e2 e3
          subst e2; subst e3
          obtain ⟨arr, rfl, hv⟩ := hA.agg_inv'
          obtain ⟨Z', own', k1, k2, k3⟩ := closeL_sound hm hcl (by rw [e1]; exact hC) hv
          obtain ⟨us, ws', f1, f2, f3⟩ := toDen_sound hy (show CRs w Z' cs1 arr.toList from ⟨k2, k3⟩)
          have : ws' = [] := List.eq_nil_of_length_eq_zero (by have := f3.1; simpa using this.symm)
          subst this
          refine ⟨Z', own', k1, ?_⟩
          have := f2.avOf
          rw [if_pos hS.1] at this
          rw [List.append_nil] at f1
          rw [← f1] at this
          simpa using this
        · cases he
      · cases he
    · cases he
  · split at he
    · rename_i hS
      split at he
      · rename_i C1 a1 ws1 hcl
        split at he
        · rename_i y' hy
          injection he with he
          injection he with e1 e2
          injection e2 with e2 e3
          subst e2; subst e3
          obtain ⟨Z', own', k1, k2⟩ := closeC_sound hm hcl (by rw [e1]; exact hC) hA
          obtain ⟨us, ws', f1, f2, f3⟩ := toDen_sound hy (show CRs w Z' [a1] [V] from ⟨rfl, fun j x z hx hz => by
            cases j with
            | zero => simp at hx hz; subst hx; subst hz; exact k2
            | succ j => simp at hx⟩)
          have : ws' = [] := List.eq_nil_of_length_eq_zero (by have := f3.1; simpa using this.symm)
          subst this
          refine ⟨Z', own', k1, ?_⟩
          have := f2.avOf
          rw [if_neg (by simpa using hS)] at this
          rw [List.append_nil] at f1
          obtain ⟨u, hu, hc⟩ := this
          rw [← f1] at hu
          injection hu with hu
          subst hu
          exact hc
        · cases he
      · cases he
    · cases he
theorem MemR.retake (hm : MemR w0 K w Z own γ h used) (hid : ¬ used id) (hu : ∀ s, used s → used' s) (hid' : used' id) (hR : hget h r = some R) {m b : Nat} {S : Sh} {xs : List (Den S)} (hc : R.cont = .arr m b S xs) (hp : R.pend = none) (hf : R.fz = false) (hmf : m = 0 ∨ S.flat = true) (hv : R.valid s 0 = true)
    {lo n : Nat} (hA : VR w Z γ (.osl r s [] (some (lo, n))) V) : ∃ γ', Gst.Ext used γ γ' ∧ MemR w0 K w Z own γ' (hput h r (R.rep 0 id (.arr m b S (wins xs (some (lo, n)))))) used' ∧ VR w Z γ' (.osl r id [] none) V := by
  obtain ⟨hr, hroom, M0, own0, r0, ⟨hd0, n1, n2, n3, n4, n5⟩, hM0, _, ho0⟩ := hm.arr hR hc
  obtain ⟨rfl, rfl⟩ := ho0 hf
  have hM := hM0 hp
  subst hM
  obtain ⟨hd', o1, o2⟩ := hA.osl_inv
  have o1' := hr.valid_hd (q := []) hv o1
  rw [n1] at o1'
  injection o1' with o1'
  subst o1'
  obtain ⟨o3, ad, c, rfl, o4, o5, o6, o7⟩ := o2
  simp only [wlen, wlo] at o4 o5 o6 o7
  have n2 : hd0.S = S := n2
  have n4 : hd0.n = xs.length := n4
  obtain ⟨k1, k2, k3⟩ := hm.keys r0 R hR
  have hwl : (wins xs (some (lo, n))).length = n := by
    have := wins_length (xs := xs) (w := some (lo, n)) (by simp only [wlo, wlen]; omega)
    simpa [wlen] using this
  let blk : Option (Nat × Nat) := hd0.blk.map fun x => (x.1, x.2 + lo * S.size)
  let hd : Hd := { S := S, isPtr := false, n := n, c := c, blk := blk }
  let g : Pth → Option Hd := fun q => if q = [] then some hd else none
  have he := Gst.setG_ext (γ := γ) hid g
  have hG : (γ.setG id g).G id = g := by simp [Gst.setG, upd]
  refine ⟨γ.setG id g, he, ?_, .osl _ _ _ _ _ hd (by rw [hG]; rfl) ⟨rfl, ad, c, rfl, o4, by simp [wlo, wlen], by simp [wlo, hd], fun h => ?_⟩⟩
  · refine hm.step (Stay.refl w Z) he hu rfl rfl rfl (Nat.le_refl _) (fun _ => False) (fun b hb _ => rfl) (fun b o ho _ => ho) (fun b o ho => .inl ⟨ho, fun h => h⟩) (fun b hb => ⟨hm.zlt b hb, .inl hb⟩) (fun r' R' hg => ?_) (fun s hs => ?_)
    · rw [hget_hput] at hg
      split at hg
      · rename_i hrr
        injection hg with hg
        subst hg; subst hrr
        refine .inr ⟨⟨fun e hmem q hd' f1 f2 f3 => ?_, ?_⟩, hu _ k1, hid', fun e hmem => ?_⟩
        · have hmem' : e = (R.cur, [], 0) ∨ e ∈ oldCut 0 R.old := by simpa [Root.rep] using hmem
          rcases hmem' with rfl | hmem'
          · exact absurd f1 (Nat.not_lt_zero _)
          · obtain ⟨e0, g1, rfl⟩ := oldCut_mem hmem'
            have hlt : q.length < min e0.2.2 0 := f1
            omega
        · unfold ContR
          simp only [Root.rep, hf, Bool.false_eq_true, if_false]
          refine ⟨⟨by rw [hwl]; exact room_le hroom (by omega), by rw [hG]; exact Dom.one _⟩, hd, by rw [hG]; rfl, rfl, rfl, hwl.symm, o4, by show n ≤ roomB; have := n5.lim; omega, fun hc' => ?_⟩
          have hc' : 0 < c := hc'
          obtain ⟨bb, o, row, e1, e2, e3, e4, e5⟩ := n5.elems (by omega)
          rw [n2] at e4 e5
          have hcs : (lo + c) * S.size ≤ hd0.c * S.size := Nat.mul_le_mul_right _ o6
          rw [Nat.add_mul] at hcs
          refine ⟨bb, o + lo * S.size, row, by simp [hd, blk, e1], e2, e3, by show o + lo * S.size + c * S.size ≤ row.length; omega, fun j hj => ?_⟩
          have hj : j < n := hj
          obtain ⟨y, hy, hor⟩ := e5 (lo + j) (by omega)
          refine ⟨y, ?_, OR.of_FR hmf ?_⟩
          · show lat ((xs.drop lo).take n) j = some y
            unfold lat at hy ⊢
            rw [List.getElem?_take, if_pos hj, List.getElem?_drop]
            exact hy
          · have := OR.to_FR hmf hor
            rw [Nat.add_mul, ← Nat.add_assoc] at this
            exact this
        · have hmem' : e = (R.cur, [], 0) ∨ e ∈ oldCut 0 R.old := by simpa [Root.rep] using hmem
          rcases hmem' with rfl | hmem'
          · exact hu _ k2
          · obtain ⟨e0, g1, rfl⟩ := oldCut_mem hmem'
            exact hu _ (k3 e0 g1)
      · exact .inl ⟨hg, fun h => h⟩
    · have hns : ¬ used s := fun h => hs (hu s h)
      refine ⟨(hm.fresh s hns).1, fun q => ?_⟩
      simp only [Gst.setG, upd]
      rw [if_neg (by intro e; subst e; exact hs hid')]
      exact (hm.fresh s hns).2 q
  · obtain ⟨bb, o, e1, e2⟩ := o7 h
    exact ⟨bb, o + lo * S.size, by simp [hd, blk, e1], by rw [e2, n2]; simp [wlo]⟩
theorem fixV_sound (hm : MemR w0 K w Z own γ h (fun s => s < nx)) {fx : Fx} {C : List Prop} {ws : List (Nat × Option Root)} (he : fixV h nx fx A = some (C, B, ws)) (hC : AllP C) (hA : VR w Z γ A V) :
    ∃ Z' own' γ', Stay w Z w Z' ∧ γ.Le γ' ∧ MemR w0 K w Z' own' γ' (applyW h ws) (fun s => s < nx + 1) ∧ VR w Z' γ' B V := by
  have hn := norm_sound hm hA
  have hu : ∀ s, s < nx → s < nx + 1 := fun s h => by omega
  unfold fixV at he
  split at he
  · rename_i b S m
    split at he
    · rename_i hnil
      injection he with he
      injection he with e1 e2
      injection e2 with e2 e3
      subst e2; subst e3
      have : norm h A = .val (.slice none 0 0) := by
        unfold isNil at hnil
        split at hnil
        · assumption
        · cases hnil
      rw [this] at hn
      have hV := hn.val_inv
      subst hV
      obtain ⟨γ', k1, k2, k3⟩ := hm.newEmpty (id := nx) (Nat.lt_irrefl _) hu (Nat.lt_succ_self nx) (m := m) (b := b) (S := S)
      exact ⟨Z, own, γ', Stay.refl _ _, k1.le hm.fresh, k2, k3⟩
    · split at he
      · rename_i r s win hnw
        rw [hnw] at hn
        split at he
        · rename_i R m' b' S' xs hrd
          split at he
          · rename_i hmf
            simp only [Bool.or_eq_true, beq_iff_eq] at hmf
            injection he with he
            injection he with e1 e2
            injection e2 with e2 e3
            subst e2; subst e3
            obtain ⟨b0, S0, xs0, h1, h2, h3, h4, h5, h6⟩ := rdata_spec hrd
            cases h3
            obtain ⟨lo, n⟩ := win
            obtain ⟨γ', k1, k2, k3⟩ := hm.retake (id := nx) (Nat.lt_irrefl _) hu (Nat.lt_succ_self nx) h1 h2 h5 h6 hmf h4 hn
            exact ⟨Z, own, γ', Stay.refl _ _, k1.le hm.fresh, k2, k3⟩
          · cases he
        · cases he
      · injection he with he
        injection he with e1 e2
        injection e2 with e2 e3
        subst e2; subst e3
        exact ⟨Z, own, γ, Stay.refl _ _, Gst.Le.refl _, hm.used_mono hu, hn⟩
  · rename_i S
    split at he
    · rename_i C1 y ws1 hd
      injection he with he
      injection he with e1 e2
      injection e2 with e2 e3
      subst e2; subst e3
      obtain ⟨Z', own', k1, k2⟩ := denV_sound hm hd (by rw [e1]; exact hC) hn
      exact ⟨Z', own', γ, k1.stay, Gst.Le.refl _, k1.mem.used_mono hu, .cr k2⟩
    · cases he
theorem MemR.recell (hm : MemR w0 K w Z own γ h used) (hg : hget h r = some R) (hc : R.cont = .cells cs) (hv : ∀ (b : Nat) (arr : Array Value) (e : TypeId), γ.β r = some b → w.heap[b]? = some (.cells arr e (0, 0)) → VRs w Z γ cs arr.toList → VRs w Z γ ds arr.toList) : MemR w0 K w Z own γ (hput h r { R with cont := .cells ds }) used := by
  refine hm.step (Stay.refl w Z) (Gst.Ext.refl used γ) (fun _ h => h) rfl rfl rfl (Nat.le_refl _) (fun _ => False) (fun _ _ _ => rfl) (fun _ _ ho _ => ho) (fun _ _ ho => .inl ⟨ho, fun h => h⟩) (fun b hb => ⟨hm.zlt b hb, .inl hb⟩) (fun x R' hg' => ?_) hm.fresh
  rw [hget_hput] at hg'
  split at hg'
  · rename_i hx
    injection hg' with hg'
    subst hx
    obtain ⟨k1, k2, k3⟩ := hm.keys _ _ hg
    have hr := hm.root _ _ hg
    refine .inr ⟨?_, by subst hg'; exact ⟨k1, k2, k3⟩⟩
    subst hg'
    refine ⟨hr.old, ?_⟩
    have := hr.cont
    unfold ContR at this ⊢
    rw [hc] at this
    simp only
    obtain ⟨e1, e2, b, arr, e, q1, q2, q3, q4⟩ := this
    exact ⟨e1, e2, b, arr, e, q1, q2, q3, hv b arr e q1 q3 q4⟩
  · exact .inl ⟨hg', fun h => h⟩
structure Same (c c' : Cfg) : Prop where
  fn : c'.cur.fn = c.cur.fn
  todo : c'.cur.todo = c.cur.todo
  frs : ∀ as, frs c'.callers as = frs c.callers as
  bot : ∀ F G : AFr, F.fn = G.fn → botFn F c'.callers = botFn G c.callers
theorem botFn_eq : ∀ {Fs : List AFr} {F G : AFr}, F.fn = G.fn → botFn F Fs = botFn G Fs
  | [], _, _, h => h
  | _ :: _, _, _, _ => rfl
theorem fix1_ok {act : Act} {as : List Act} {f : Wh × Fx} {C : List Prop} {c' : Cfg} (hS : StOK E w0 K c act as w Z own γ) (he : fix1 c f = some (C, c')) (hC : AllP C) : ∃ Z' own' γ', Stay w Z w Z' ∧ StOK E w0 K c' act as w Z' own' γ' ∧ Same c c' := by
  unfold fix1 at he
  split at he
  · rename_i t fx
    split at he
    · rename_i C1 b ws hf
      injection he with he
      injection he with e1 e2
      subst e2
      obtain ⟨Z', own', γ', k1, k2, k3, k4⟩ := fixV_sound hS.mem hf (by rw [e1]; exact hC) (lget_rel (t := t) hS.cur.tmps)
      refine ⟨Z', own', γ', k1, ⟨⟨hS.cur.defers, ?_⟩, hS.callers.mono k1 k2, k3, hS.gl.mono k1⟩, rfl, rfl, fun _ => rfl, fun F G h => botFn_eq h⟩
      have h1 := (hS.cur.tmps.mono k1 k2).set t k4
      have : act.tmps.toList.set t (act.tmps.getD t undef) = act.tmps.toList := by
        rcases Nat.lt_or_ge t act.tmps.size with hlt | hge
        · apply List.ext_getElem?
          intro i
          rw [List.getElem?_set]
          by_cases hi : t = i
          · subst hi
            simp [hlt, Array.getD_eq_getD_getElem?]
          · rw [if_neg hi]
        · rw [List.set_eq_of_length_le (by simpa using hge)]
      rw [this] at h1
      exact h1
    · cases he
  · rename_i t off fx
    split at he
    · rename_i r hr
      split at he
      · rename_i R hR
        split at he
        · rename_i cs hcs
          split at he
          · rename_i b hb
            split at he
            · rename_i C1 b' ws hf
              split at he
              · rename_i R' hR'
                split at he
                · rename_i cs' hcs'
                  injection he with he
                  injection he with e1 e2
                  subst e2
                  obtain ⟨blk, q1, q2, q3, q4, arr, e, q5, q6⟩ := hS.mem.cells hR hcs
                  obtain ⟨V, hV, hbV⟩ := q6.get hb
                  obtain ⟨Z', own', γ', k1, k2, k3, k4⟩ := fixV_sound hS.mem hf (by rw [e1]; exact hC) hbV
                  refine ⟨Z', own', γ', k1, ⟨⟨hS.cur.defers, hS.cur.tmps.mono k1 k2⟩, hS.callers.mono k1 k2, ?_, hS.gl.mono k1⟩, rfl, rfl, fun _ => rfl, fun F G h => botFn_eq h⟩
                  refine k3.recell hR' hcs' fun blk2 arr2 e2 f1 f2 f3 => ?_
                  rw [k2.β _ _ q1] at f1
                  injection f1 with f1
                  subst f1
                  rw [q5] at f2
                  injection f2 with f2
                  injection f2 with f2 _
                  subst f2
                  have h1 := f3.set off k4
                  have : arr.toList.set off V = arr.toList := by
                    apply List.ext_getElem?
                    intro i
                    rw [List.getElem?_set]
                    by_cases hi : off = i
                    · subst hi
                      rw [if_pos rfl, hV, if_pos (List.getElem?_eq_some_iff.1 hV).1]
                    · rw [if_neg hi]
                  rw [this] at h1
                  exact h1
                · cases he
              · cases he
            · cases he
          · cases he
        · cases he
      · cases he
    · cases he
theorem Same.trans {c1 c2 c3 : Cfg} (h : Same c1 c2) (k : Same c2 c3) : Same c1 c3 := ⟨k.fn.trans h.fn, k.todo.trans h.todo, fun as => (k.frs as).trans (h.frs as), fun F G e => (k.bot F F rfl).trans (h.bot F G e)⟩
theorem fixes_ok {act : Act} {as : List Act} : ∀ {l : List (Wh × Fx)} {c c' : Cfg} {C : List Prop} {Z : Nat → Prop} {own : Own} {γ : Gst}, StOK E w0 K c act as w Z own γ → fixes c l = some (C, c') → AllP C → ∃ Z' own' γ', Stay w Z w Z' ∧ StOK E w0 K c' act as w Z' own' γ' ∧ Same c c'
  | [], c, c', C, Z, own, γ, hS, he, _ => by
    simp only [fixes, Option.some.injEq, Prod.mk.injEq] at he
    obtain ⟨_, rfl⟩ := he
    exact ⟨Z, own, γ, Stay.refl _ _, hS, rfl, rfl, fun _ => rfl, fun F G h => botFn_eq h⟩
  | f :: l, c, c', C, Z, own, γ, hS, he, hC => by
    simp only [fixes] at he
    split at he
    · rename_i C1 c1 h1
      split at he
      · rename_i C2 c2 h2
        injection he with he
        injection he with e1 e2
        subst e2
        rw [← e1, AllP.append] at hC
        obtain ⟨Z1, own1, γ1, k1, k2, k3⟩ := fix1_ok hS h1 hC.1
        obtain ⟨Z2, own2, γ2, j1, j2, j3⟩ := fixes_ok k2 h2 hC.2
        exact ⟨Z2, own2, γ2, k1.trans j1, j2, k3.trans j3⟩
      · cases he
    · cases he
theorem cutC_ok {act : Act} {as : List Act} {c' : Cfg} {C : List Prop} (hS : StOK E w0 K c act as w Z own γ) (he : cutC H c = some (C, c')) (hC : AllP C) : ∃ Z' own' γ', Stay w Z w Z' ∧ StOK E w0 K c' act as w Z' own' γ' ∧ Same c c' := by
  unfold cutC at he
  dsimp only at he
  split at he
  · rename_i C1 c1 h1
    split at he
    · rename_i hr
      injection he with he
      injection he with e1 e2
      subst e2
      obtain ⟨Z1, own1, γ1, k1, k2, k3⟩ := fixes_ok hS h1 (by rw [e1]; exact hC)
      obtain ⟨own2, γ2, k4⟩ := cut_ok (keep := (H.cut (c.callers.map sigOf) c.cur.fn (loopIx c.cur.todo)).1) (kc := (H.cut (c.callers.map sigOf) c.cur.fn (loopIx c.cur.todo)).2.2) hr k2
      refine ⟨Z1, own2, γ2, k1, k4, k3.trans ⟨rfl, rfl, fun as => (frs_renF _ _ _ _).trans (frs_keepF _ _ _), fun F G h => (botFn_renF _ _ F F _ rfl).trans (botFn_keepF _ _ _ _ h)⟩⟩
    · cases he
  · cases he
theorem FinOK.of_same {base : List Frame} {act : Act} {as : List Act} {c' : Cfg} {f : Fin} (hs : Stay w Z w Z') (h : Same c c') (hf : FinOK E w0 K base c' act as w Z' f) : FinOK E w0 K base c act as w Z f := by
  have hmk : mkF c'.cur act = mkF c.cur act := by unfold mkF; rw [h.fn, h.todo]
  cases f with
  | at_ c2 =>
    obtain ⟨a2, as2, w2, Z2, own2, γ2, k1, k2, k3, k4⟩ := hf
    rw [hmk, h.frs] at k4
    exact ⟨a2, as2, w2, Z2, own2, γ2, k1, hs.trans k2, k3.trans (h.bot _ _ h.fn), k4⟩
  | ret A h2 nx =>
    obtain ⟨V, w2, Z2, own2, γ2, fr, k1, k2, k3, k4, k5, k6⟩ := hf
    rw [hmk, h.frs] at k4
    exact ⟨V, w2, Z2, own2, γ2, fr, k1, hs.trans k2, k3, k4, k5.trans (h.bot _ _ h.fn), k6⟩
theorem FinOK.trans {base : List Frame} {act : Act} {as : List Act} {c1 : Cfg} {f : Fin} (h1 : FinOK E w0 K base c act as w Z (.at_ c1)) (h2 : ∀ act1 as1 w1 Z1 own1 γ1, StOK E w0 K c1 act1 as1 w1 Z1 own1 γ1 → FinOK E w0 K base c1 act1 as1 w1 Z1 f) : FinOK E w0 K base c act as w Z f := by
  obtain ⟨a1, as1, w1, Z1, own1, γ1, k1, k2, k3, k4⟩ := h1
  have := h2 a1 as1 w1 Z1 own1 γ1 k1
  cases f with
  | at_ c2 =>
    obtain ⟨a2, as2, w2, Z2, own2, γ2, j1, j2, j3, j4⟩ := this
    exact ⟨a2, as2, w2, Z2, own2, γ2, j1, k2.trans j2, j3.trans k3, k4.trans j4⟩
  | ret A h nx =>
    obtain ⟨V, w2, Z2, own2, γ2, fr, j1, j2, j3, j4, j5, j6⟩ := this
    exact ⟨V, w2, Z2, own2, γ2, fr, j1, k2.trans j2, j3, k4.trans j4, j5.trans k3, j6⟩
theorem fixR_ok : ∀ {l : List (Option Fx)} {cs : List AV} {vs : List Value} {h h' : Heap} {nx nx' : Nat} {C : List Prop} {ds : List AV} {Z : Nat → Prop} {own : Own} {γ : Gst}, MemR w0 K w Z own γ h (fun s => s < nx) → fixR h nx l cs = some (C, ds, h', nx') → AllP C → VRs w Z γ cs vs →
    ∃ Z' own' γ', Stay w Z w Z' ∧ γ.Le γ' ∧ MemR w0 K w Z' own' γ' h' (fun s => s < nx') ∧ VRs w Z' γ' ds vs
  | some S :: l, a :: as, vs, h, h', nx, nx', C, ds, Z, own, γ, hm, he, hC, hv => by
    simp only [fixR] at he
    split at he
    · rename_i C1 b ws hf
      split at he
      · rename_i C2 bs h2 nx2 hr
        simp only [Option.some.injEq, Prod.mk.injEq] at he
        obtain ⟨rfl, rfl, rfl, rfl⟩ := he
        rw [AllP.append] at hC
        cases vs with
        | nil => simp [VRs] at hv
        | cons v vs =>
          obtain ⟨Z1, own1, γ1, k1, k2, k3, k4⟩ := fixV_sound hm hf hC.1 hv.head
          obtain ⟨Z2, own2, γ2, j1, j2, j3, j4⟩ := fixR_ok k3 hr hC.2 (hv.tail.mono k1 k2)
          exact ⟨Z2, own2, γ2, k1.trans j1, k2.trans j2, j3, .cons (k4.mono j1 j2) j4⟩
      · cases he
    · cases he
  | none :: l, a :: as, vs, h, h', nx, nx', C, ds, Z, own, γ, hm, he, hC, hv => by
    simp only [fixR] at he
    split at he
    · rename_i C2 bs h2 nx2 hr
      simp only [Option.some.injEq, Prod.mk.injEq] at he
      obtain ⟨rfl, rfl, rfl, rfl⟩ := he
      cases vs with
      | nil => simp [VRs] at hv
      | cons v vs =>
        obtain ⟨Z2, own2, γ2, j1, j2, j3, j4⟩ := fixR_ok hm hr hC hv.tail
        exact ⟨Z2, own2, γ2, j1, j2, j3, .cons (hv.head.mono j1 j2) j4⟩
    · cases he
  | [], cs, vs, h, h', nx, nx', C, ds, Z, own, γ, hm, he, _, hv => by
    simp only [fixR, Option.some.injEq, Prod.mk.injEq] at he
    obtain ⟨_, rfl, rfl, rfl⟩ := he
    exact ⟨Z, own, γ, Stay.refl _ _, Gst.Le.refl _, hm, hv⟩
  | o :: l, [], vs, h, h', nx, nx', C, ds, Z, own, γ, hm, he, _, hv => by
    cases o <;>
    · simp only [fixR, Option.some.injEq, Prod.mk.injEq] at he
      obtain ⟨_, rfl, rfl, rfl⟩ := he
      exact ⟨Z, own, γ, Stay.refl _ _, Gst.Le.refl _, hm, hv⟩
theorem retT_ok {base : List Frame} {act : Act} {as : List Act} {f : FuncId} {A : AV} {Ql : Leaf → Prop} (hf : FinOK E w0 K base c act as w Z (.ret A h nx)) (he : (retT H f A h nx).wp Ql) : ∃ v h', Ql (.ret v h') ∧ FinOK E w0 K base c act as w Z (.ret v h' 16) := by
  obtain ⟨V, w2, Z2, own2, γ2, fr, k1, k2, k3, k4, k5, k6⟩ := hf
  unfold retT at he
  split at he
  · rename_i C vs h2 nx2 hr
    dsimp only at he
    split at he
    · rename_i hok
      obtain ⟨hC, he⟩ := chks_wp he
      refine ⟨_, _, he, ?_⟩
      have fin : ∀ {cs us}, VRs w2 Z2 γ2 cs us → fixR h nx (H.ret f) cs = some (C, vs, h2, nx2) → ∃ Z3 own3 γ3, Stay w2 Z2 w2 Z3 ∧ MemR w0 K w2 Z3 own3 γ3 (keepH h2 (alook (number (closeR h2 100 (liveL h2 vs) []) 0)) (number (closeR h2 100 (liveL h2 vs) []) 0)) (fun s => s < 16) ∧ VRs w2 Z3 γ3 (renL h2 (alook (number (closeR h2 100 (liveL h2 vs) []) 0)) vs) us := fun {cs us} hv hr => by
        obtain ⟨Z3, own3, γ3, j1, j2, j3, j4⟩ := fixR_ok k3 hr hC hv
        obtain ⟨own4, hR, hm⟩ := j3.ren hok
        exact ⟨Z3, own4, _, j1, hm, j4.ren hR (fun A V hv => norm_sound j3 hv)⟩
      clear he
      split at hr
      · rename_i l
        obtain ⟨us, rfl, hl, hus⟩ : ∃ us : Array Value, V = .tuple us ∧ l.length = us.size ∧ ∀ (j : Nat) a v, l[j]? = some a → us[j]? = some v → VR w2 Z2 γ2 a v := by
          generalize hA : AV.tup l = A' at k1
          cases k1 with
          | tup cs vs hl hrel => injection hA with hA; subst hA; exact ⟨vs, rfl, hl, hrel⟩
          | cr hc =>
            cases hc with
            | tup cs vs hl hrel => injection hA with hA; subst hA; exact ⟨vs, rfl, hl, fun j a v ha hv => .cr (hrel j a v ha hv)⟩
            | _ => cases hA
          | _ => cases hA
        obtain ⟨Z3, own3, γ3, j1, j2, j3⟩ := fin (us := us.toList) ⟨by simpa using hl, fun j x y hx hy => hus j x y hx (by simpa using hy)⟩ hr
        exact ⟨_, w2, Z3, own3, γ3, fr, .tup _ us (by simpa using j3.1) (fun j x y hx hy => j3.2 j x y hx (by simpa using hy)), k2.trans j1, j2, k4, k5, k6⟩
      · rename_i hnt
        obtain ⟨Z3, own3, γ3, j1, j2, j3⟩ := fin (cs := [A]) (us := [V]) (.cons k1 .nil) hr
        refine ⟨V, w2, Z3, own3, γ3, fr, ?_, k2.trans j1, j2, k4, k5, k6⟩
        have hl := j3.1
        rw [retV_of fun l e => hnt l e]
        generalize renL h2 (alook (number (closeR h2 100 (liveL h2 vs) []) 0)) vs = L at j3 hl
        cases L with
        | nil => simp at hl
        | cons b L => exact j3.head
    · exact he.elim
  · exact he.elim
theorem Tre.go_wp {α β : Type} {f : α → Tre β} {Q : β → Prop} : ∀ {t : Tre α}, (t.go f).wp Q → t.wp fun a => (f a).wp Q
  | .ok a, h => h
  | .ite b t e, h => by
    cases b with
    | true => exact ⟨fun _ => Tre.go_wp h, fun h => (nomatch h)⟩
    | false => exact ⟨fun h => (nomatch h), fun _ => Tre.go_wp h⟩
  | .chk C t, h => ⟨h.1, fun hc => Tre.go_wp (h.2 hc)⟩
  | .know K t, h => fun hk => Tre.go_wp (h hk)
  | .any p k, h => fun b hb => Tre.go_wp (h b hb)
  | .bad, h => h.elim
theorem Runs.of_run (hE : EOK E) {f : FuncId} : ∀ {n : Nat} {c : Cfg}, (run E H f n c).wp (contL E Q) → Runs E c Q
  | 0, c, h => h.elim
  | n + 1, c, h => by
    intro w0 K base a as w Z own γ hS
    obtain ⟨fin, h1, h2⟩ := astep_sound (base := base) hE hS (Tre.go_wp (t := astep E c) h)
    cases fin with
    | at_ c' =>
      simp only at h1
      split at h1
      · unfold headT at h1
        split at h1
        · rename_i C c'' hc
          obtain ⟨hC, h1⟩ := chks_wp h1
          have h1 : Runs E c'' Q := h1
          obtain ⟨a1, as1, w1, Z1, own1, γ1, k1, k2, k3, k4⟩ := h2
          obtain ⟨Z2, own2, γ2, j1, j2, j3⟩ := cutC_ok k1 hc hC
          obtain ⟨v, hh, q1, q2⟩ := h1 w0 K base a1 as1 w1 Z2 own2 γ2 j2
          obtain ⟨V, w3, Z3, own3, γ3, fr, l1, l2, l3, l4, l5, l6⟩ := FinOK.of_same j1 j3 q2
          exact ⟨v, hh, q1, V, w3, Z3, own3, γ3, fr, l1, k2.trans l2, l3, k4.trans l4, l5.trans k3, l6⟩
        · exact h1.elim
      · have h1 : Runs E c' Q := Runs.of_run hE h1
        obtain ⟨a1, as1, w1, Z1, own1, γ1, k1, k2, k3, k4⟩ := h2
        obtain ⟨v, hh, q1, q2⟩ := h1 w0 K base a1 as1 w1 Z1 own1 γ1 k1
        obtain ⟨V, w3, Z3, own3, γ3, fr, l1, l2, l3, l4, l5, l6⟩ := q2
        exact ⟨v, hh, q1, V, w3, Z3, own3, γ3, fr, l1, k2.trans l2, l3, k4.trans l4, l5.trans k3, l6⟩
    | ret A h nx =>
      obtain ⟨v, h', q1, q2⟩ := retT_ok h2 h1
      exact ⟨v, h', q1, q2⟩
def firsts : Heap → List Nat → Heap
  | [], _ => []
  | (r, R) :: h, l => if l.contains r then firsts h l else (r, R) :: firsts h (r :: l)
theorem firsts_get : ∀ {h : Heap} {l : List Nat} {r : Nat} {R : Root}, (r, R) ∈ firsts h l → l.contains r = false ∧ hget h r = some R
  | [], l, r, R, hm => by cases hm
  | (k, R') :: h, l, r, R, hm => by
    simp only [firsts] at hm
    split at hm
    · rename_i hk
      obtain ⟨h1, h2⟩ := firsts_get hm
      refine ⟨h1, ?_⟩
      simp only [hget]
      rw [if_neg (fun e => by rw [e, h1] at hk; cases hk)]
      exact h2
    · rename_i hk
      rcases List.mem_cons.1 hm with e | hm
      · injection e with e1 e2
        subst e1; subst e2
        exact ⟨by simpa using hk, by simp [hget]⟩
      · obtain ⟨h1, h2⟩ := firsts_get hm
        simp only [List.contains_cons, Bool.or_eq_false_iff, beq_eq_false_iff_ne] at h1
        refine ⟨h1.2, ?_⟩
        simp only [hget]
        rw [if_neg (Ne.symm h1.1)]
        exact h2
theorem StOK.ok {act : Act} {as : List Act} (hS : StOK E w0 K c act as w Z own γ) : okAVs c.cur.fr ∧ okHeap (firsts c.h []) :=
  ⟨hS.cur.tmps.ok, okHeap_of fun _ _ hm => (hS.mem.root _ _ (firsts_get hm).2).ok⟩
theorem Runs.imp {Q' : AV → Heap → Prop} (hq : ∀ v h, Q v h → Q' v h) (h : Runs E c Q) : Runs E c Q' := by
  intro w0 K base a as w Z own γ hS
  obtain ⟨v, hh, h1, h2⟩ := h w0 K base a as w Z own γ hS
  exact ⟨v, hh, hq _ _ h1, h2⟩
end
end Go.BE
namespace Go.BE
open Go.RowKit
abbrev FSpec := List AV → Option SRes
def SpecOK (E : Ctx) (f : FuncId) (s : FSpec) : Prop := ∀ args r, closedAll args = true → s args = some r → r.pre → ∀ (w : World) (Z : Nat → Prop) (vs : List Value), GlR E w Z → (∀ b, Z b → b < w.heap.size) → CRs w Z args vs → Promise E.P f vs.toArray w Z r
def start (E : Ctx) (f : FuncId) (args : List AV) : Cfg := { cur := (enter E f args).getD ⟨0, [], []⟩, callers := [], h := [], nx := 0 }
def argD (S : Sh) : AV → Option (Den S)
  | .tv T x => castD T S x
  | .agg cs => if S.isAgg then (match toDen S cs with | some (y, []) => some y | _ => none) else none
  | a => if S.isAgg then none else (match toDen S [a] with | some (y, []) => some y | _ => none)
def DenL : List Sh → Type
  | [] => Unit
  | S :: l => Den S × DenL l
inductive Par where
  | d (S : Sh)
  | fn (g : FuncId) (caps : List Sh)
  | cap (S : Sh)
  | capfn (g : FuncId) (caps : List Sh)
def DenP : Par → Type
  | .d S => Den S
  | .fn _ l => DenL l
  | .cap S => Den S
  | .capfn _ l => DenL l
def Args : List Par → Type
  | [] => Unit
  | p :: l => DenP p × Args l
def capAV : (S : Sh) → Den S → AV
  | .int k, x => .rop [aint k x] 0
  | .bool, x => .rop [abool x] 0
  | .str, x => .rop [.val (.string x)] 0
  | S, x => .rtp S x
def capD (S : Sh) : AV → Option (Den S)
  | .rtp T x => castD T S x
  | .rop cs 0 => match S with
    | .int k => one1 (toDen (.int k) cs)
    | .bool => one1 (toDen .bool cs)
    | .str => one1 (toDen .str cs)
    | S => one1 (toDen S cs)
  | _ => none
where one1 {α : Type} : Option (α × List AV) → Option α
  | some (y, []) => some y
  | _ => none
def capsAV : (l : List Sh) → DenL l → List AV
  | [], _ => []
  | S :: l, x => capAV S x.1 :: capsAV l x.2
def capsD : (l : List Sh) → List AV → Option (DenL l)
  | [], [] => some ()
  | S :: l, a :: as => match capD S a, capsD l as with
    | some x, some y => some (x, y)
    | _, _ => none
  | _, _ => none
def parAV : (p : Par) → DenP p → AV
  | .d S, x => avOf S x
  | .fn g l, x => .fn g (capsAV l x)
  | .cap S, x => capAV S x
  | .capfn g l, x => .rop [.fn g (capsAV l x)] 0
def capfnD : AV → Option (FuncId × List AV)
  | .rop [.fn g cs] 0 => some (g, cs)
  | _ => none
theorem capfnD_eq {a : AV} {x : FuncId × List AV} (h : capfnD a = some x) : a = .rop [.fn x.1 x.2] 0 := by
  unfold capfnD at h
  split at h
  · injection h with h
    subst h
    rfl
  · cases h
def parD : (p : Par) → AV → Option (DenP p)
  | .d S, a => argD S a
  | .fn g l, .fn g' cs => if g = g' then capsD l cs else none
  | .fn _ _, _ => none
  | .cap S, a => capD S a
  | .capfn g l, a => match capfnD a with
    | some x => if g = x.1 then capsD l x.2 else none
    | none => none
def argsAV : (l : List Par) → Args l → List AV
  | [], _ => []
  | p :: l, x => parAV p x.1 :: argsAV l x.2
def argsD : (l : List Par) → List AV → Option (Args l)
  | [], [] => some ()
  | p :: l, a :: as => match parD p a, argsD l as with
    | some x, some y => some (x, y)
    | _, _ => none
  | _, _ => none
def okL : (l : List Sh) → DenL l → Prop
  | [], _ => True
  | S :: l, x => okD S x.1 ∧ okL l x.2
def okP : (p : Par) → DenP p → Prop
  | .d S, x => okD S x
  | .fn _ l, x => okL l x
  | .cap S, x => okD S x
  | .capfn _ l, x => okL l x
def okArgs : (l : List Par) → Args l → Prop
  | [], _ => True
  | p :: l, x => okP p x.1 ∧ okArgs l x.2
structure Con where
  ps : List Par
  pre : Args ps → Prop
  res : Args ps → AV
  roots : Args ps → List (Nat × Root)
def Con.spec (s : Con) : FSpec := fun args => match argsD s.ps args with
  | some x => some ⟨s.pre x, s.res x, s.roots x⟩
  | none => none
def con (ps : List Par) (R : Sh) (pre : Args ps → Prop) (f : Args ps → Den R) : Con := ⟨ps, pre, fun x => avOf R (f x), fun _ => []⟩
section
variable {E : Ctx} {w w' w0 : World} {Z Z' : Nat → Prop} {K : Kp} {own own' : Own} {γ γ' : Gst} {h h' : Heap} {used used' : Nat → Prop} {a A B : AV} {v V : Value} {cs ds : List AV} {vs us : List Value}
theorem CRs.one (h : CR w Z a v) : CRs w Z [a] [v] := ⟨rfl, fun j x z hx hz => by
  cases j with
  | zero => simp at hx hz; subst hx; subst hz; exact h
  | succ j => simp at hx⟩
theorem CRs.cons (h : CR w Z a v) (k : CRs w Z cs vs) : CRs w Z (a :: cs) (v :: vs) := ⟨by simp [k.1], fun j x z hx hz => by
  cases j with
  | zero => simp at hx hz; subst hx; subst hz; exact h
  | succ j => exact k.2 j x z (by simpa using hx) (by simpa using hz)⟩
theorem CR.agg_inv (h : CR w Z (.agg cs) v) : ∃ arr, v = .agg arr ∧ CRs w Z cs arr.toList := by
  cases h with
  | agg _ vs hl hrel => exact ⟨vs, rfl, by simpa using hl, fun j x y hx hy => hrel j x y hx (by simpa using hy)⟩
theorem CR.fn_inv {g : FuncId} (h : CR w Z (.fn g cs) v) : ∃ arr : Array Value, v = .func (.func g) #[] arr ∧ CRs w Z cs arr.toList := by
  cases h with
  | fn _ _ vs hl hrel => exact ⟨vs, rfl, by simpa using hl, fun j x y hx hy => hrel j x y hx (by simpa using hy)⟩
theorem toDen_all {S : Sh} {y : Den S} (h : toDen S cs = some (y, [])) (hc : CRs w Z cs vs) : FR w Z S y vs := by
  obtain ⟨us, ws, f1, f2, f3⟩ := toDen_sound h hc
  have : ws = [] := List.eq_nil_of_length_eq_zero (by have := f3.1; simpa using this.symm)
  subst this
  rw [List.append_nil] at f1
  exact f1 ▸ f2
theorem argD_sound {S : Sh} {y : Den S} (h : argD S A = some y) (hA : CR w Z A v) : CR w Z (avOf S y) v := by
  unfold argD at h
  split at h
  · obtain ⟨e, rfl⟩ := castD_some h
    subst e
    exact hA.of_tv
  · split at h
    · rename_i hS
      split at h
      · rename_i y' hy
        injection h with h
        subst h
        obtain ⟨arr, rfl, hc⟩ := hA.agg_inv
        have := (toDen_all hy hc).avOf
        rw [if_pos hS] at this
        simpa using this
      · cases h
    · cases h
  · split at h
    · cases h
    · rename_i hS
      split at h
      · rename_i y' hy
        injection h with h
        subst h
        have := (toDen_all hy (CRs.one hA)).avOf
        rw [if_neg hS] at this
        obtain ⟨u, hu, hc⟩ := this
        injection hu with hu
        subst hu
        exact hc
      · cases h
theorem capD_one {S : Sh} {y : Den S} {cs : List AV} (hS : ∀ x, capAV S x = .rop (cellsT S x) 0) (h1 : S.size = 1) (h : capD.one1 (toDen S cs) = some y) (hA : CR w Z (.rop cs 0) v) : CR w Z (capAV S y) v := by
  unfold capD.one1 at h
  split at h
  · rename_i y' hy
    injection h with h
    subst h
    cases hA with
    | rop _ _ b o u hz hc hr =>
      have hcs : CRs w Z cs ((List.range cs.length).map u) := ⟨by simp, fun j x z hx hz => by
        rw [List.getElem?_map] at hz
        obtain ⟨i, hi, rfl⟩ := Option.map_eq_some_iff.1 hz
        rw [List.getElem?_range (List.getElem?_eq_some_iff.1 hx).1] at hi
        injection hi with hi
        subst hi
        exact hr _ x hx⟩
      have hF := toDen_all hy hcs
      have hv : VRs w Z ⟨fun _ => none, fun _ _ => none⟩ (cellsT S y') ((List.range cs.length).map u) := hF.cells
      rw [hS]
      refine .rop _ _ _ _ u hz (fun j x hx => ?_) (fun j x hx => ?_)
      · have hl : j < cs.length := by
          have := (List.getElem?_eq_some_iff.1 hx).1
          rw [hv.1] at this
          simpa using this
        exact hc j cs[j] (List.getElem?_eq_getElem hl)
      · have hl : j < cs.length := by
          have := (List.getElem?_eq_some_iff.1 hx).1
          rw [hv.1] at this
          simpa using this
        have := hv.2 j x (u j) hx (by simp [hl])
        refine this.toCR ?_
        clear this hl
        have : ∀ {S : Sh} {x : Den S} (j : Nat) (a : AV), (cellsT S x)[j]? = some a → S.size = 1 → (∀ x, capAV S x = .rop (cellsT S x) 0) → a.closed = true := by
          intro S x j a ha _ hc
          cases S with
          | int k => cases j <;> simp [cellsT] at ha; subst ha; rfl
          | bool => cases j <;> simp [cellsT] at ha; subst ha; rfl
          | str => cases j <;> simp [cellsT] at ha; subst ha; rfl
          | unit => simp [cellsT] at ha
          | pair a b => have := hc (dz _); simp [capAV] at this
          | arr n a => have := hc (dz _); simp [capAV] at this
          | sl b a => have := hc (dz _); simp [capAV] at this
          | ptr a => have := hc (dz _); simp [capAV] at this
        exact this j x hx h1 hS
  · cases h
theorem capD_rop {S : Sh} {y : Den S} {cs : List AV} (hS : ∀ x, capAV S x = .rtp S x) (h : capD.one1 (toDen S cs) = some y) (hA : CR w Z (.rop cs 0) v) : CR w Z (capAV S y) v := by
  unfold capD.one1 at h
  split at h
  · rename_i y' hy
    injection h with h
    subst h
    cases hA with
    | rop _ _ b o u hz hc hr =>
      have hcs : CRs w Z cs ((List.range cs.length).map u) := ⟨by simp, fun j x z hx hz => by
        rw [List.getElem?_map] at hz
        obtain ⟨i, hi, rfl⟩ := Option.map_eq_some_iff.1 hz
        rw [List.getElem?_range (List.getElem?_eq_some_iff.1 hx).1] at hi
        injection hi with hi
        subst hi
        exact hr _ x hx⟩
      have hF := toDen_all hy hcs
      rw [hS]
      refine .rtp S y' b (o + 0) _ hz (fun j v hj => ?_) hF
      rw [List.getElem?_map] at hj
      obtain ⟨i, hi, rfl⟩ := Option.map_eq_some_iff.1 hj
      have hlt : j < cs.length := by
        have := (List.getElem?_eq_some_iff.1 hi).1
        simpa using this
      rw [List.getElem?_range hlt] at hi
      injection hi with hi
      subst hi
      exact hc j cs[j] (List.getElem?_eq_getElem hlt)
  · cases h
theorem capD_sound {S : Sh} {y : Den S} (h : capD S A = some y) (hA : CR w Z A v) : CR w Z (capAV S y) v := by
  unfold capD at h
  split at h
  · rename_i T x
    obtain ⟨e, rfl⟩ := castD_some h
    subst e
    cases hA with
    | rtp _ _ b o us hz hr hf =>
      have key : ∀ x (hx : capAV T x = .rop (cellsT T x) 0) (_ : FR w Z T x us) (_ : ∀ (j : Nat) a, (cellsT T x)[j]? = some a → a.closed = true), CR w Z (capAV T x) (.pointer (some ⟨b, o, none⟩)) := fun x hx hf hcl => by
        have hv : VRs w Z ⟨fun _ => none, fun _ _ => none⟩ (cellsT T x) us := hf.cells
        rw [hx]
        refine .rop _ 0 b o (fun j => us.getD j undef) hz (fun j a ha => ?_) (fun j a ha => ?_)
        · obtain ⟨u, hu, hr'⟩ := hv.get ha
          have := hr j u hu
          simpa [List.getD_eq_getElem?_getD, hu] using this
        · obtain ⟨u, hu, hr'⟩ := hv.get ha
          have := hr'.toCR (hcl j a ha)
          simpa [List.getD_eq_getElem?_getD, hu] using this
      cases T with
      | int k => exact key x rfl hf fun j a ha => by cases j <;> simp [cellsT] at ha; subst ha; rfl
      | bool => exact key x rfl hf fun j a ha => by cases j <;> simp [cellsT] at ha; subst ha; rfl
      | str => exact key x rfl hf fun j a ha => by cases j <;> simp [cellsT] at ha; subst ha; rfl
      | unit => exact .rtp _ _ b o us hz hr hf
      | pair a b' => exact .rtp _ _ b o us hz hr hf
      | arr n a => exact .rtp _ _ b o us hz hr hf
      | sl b' a => exact .rtp _ _ b o us hz hr hf
      | ptr a => exact .rtp _ _ b o us hz hr hf
  · split at h
    · exact capD_one (fun _ => rfl) rfl h hA
    · exact capD_one (fun _ => rfl) rfl h hA
    · exact capD_one (fun _ => rfl) rfl h hA
    · rename_i S' h1 h2 h3
      exact capD_rop (fun x => by
        cases S with
        | int k => exact absurd rfl (h1 k)
        | bool => exact absurd rfl h2
        | str => exact absurd rfl h3
        | _ => rfl) h hA
  · cases h
theorem capsD_sound : ∀ {l : List Sh} {cs : List AV} {vs : List Value} {x : DenL l}, capsD l cs = some x → CRs w Z cs vs → CRs w Z (capsAV l x) vs
  | [], [], vs, x, _, h => h
  | S :: l, a :: as, [], x, _, h => by simp [CRs] at h
  | S :: l, a :: as, v :: vs, x, he, h => by
    simp only [capsD] at he
    split at he
    · rename_i y z hy hz
      injection he with he
      subst he
      exact .cons (capD_sound hy (h.2 0 a v rfl rfl)) (capsD_sound hz h.tail)
    · cases he
  | [], _ :: _, _, _, he, _ => by simp [capsD] at he
  | _ :: _, [], _, _, he, _ => by simp [capsD] at he
theorem parD_sound {p : Par} {x : DenP p} (he : parD p A = some x) (h : CR w Z A v) : CR w Z (parAV p x) v := by
  cases p with
  | d S => exact argD_sound he h
  | fn g l =>
    cases A with
    | fn g' cs =>
      have he' : g = g' ∧ capsD l cs = some x := by
        have he1 : (if g = g' then capsD l cs else none : Option (DenL l)) = some x := he
        by_cases hg : g = g'
        · rw [if_pos hg] at he1
          exact ⟨hg, he1⟩
        · rw [if_neg hg] at he1
          cases he1
      obtain ⟨rfl, he'⟩ := he'
      obtain ⟨arr, rfl, hc⟩ := h.fn_inv
      have := capsD_sound he' hc
      exact .fn _ _ arr (by simpa using this.1) fun j a v ha hv => this.2 j a v ha (by simpa using hv)
    | _ => simp [parD] at he
  | cap S => exact capD_sound he h
  | capfn g l =>
    have key : ∃ g' cs, A = .rop [.fn g' cs] 0 ∧ g = g' ∧ capsD l cs = some x := by
      have he' : (match capfnD A with | some x => if g = x.1 then capsD l x.2 else none | none => none : Option (DenL l)) = some x := he
      cases hq : capfnD A with
      | none => rw [hq] at he'; cases he'
      | some y =>
        rw [hq] at he'
        by_cases hg : g = y.1
        · have he2 : (if g = y.1 then capsD l y.2 else none) = some x := he'
          rw [if_pos hg] at he2
          exact ⟨y.1, y.2, capfnD_eq hq, hg, he2⟩
        · have he2 : (if g = y.1 then capsD l y.2 else none) = some x := he'
          rw [if_neg hg] at he2
          cases he2
    obtain ⟨g', cs, rfl, rfl, hx⟩ := key
    cases h with
    | rop _ _ b o u hz hcell hrel =>
      refine .rop [.fn g (capsAV l x)] 0 b o u hz (fun j a ha => ?_) (fun j a ha => ?_)
      · cases j with
        | zero => exact hcell 0 _ rfl
        | succ j => simp at ha
      · cases j with
        | zero =>
          simp at ha
          subst ha
          have h0 := hrel 0 _ rfl
          obtain ⟨arr, e, hc⟩ := h0.fn_inv
          have := capsD_sound hx hc
          rw [e]
          exact .fn _ _ _ (by simpa using this.1) (fun j a v ha hv => this.2 j a v ha (by simpa using hv))
        | succ j => simp at ha
theorem argsD_sound : ∀ {l : List Par} {cs : List AV} {vs : List Value} {x : Args l}, argsD l cs = some x → CRs w Z cs vs → CRs w Z (argsAV l x) vs
  | [], [], vs, x, _, h => h
  | S :: l, a :: as, [], x, _, h => by simp [CRs] at h
  | S :: l, a :: as, v :: vs, x, he, h => by
    simp only [argsD] at he
    split at he
    · rename_i y z hy hz
      injection he with he
      subst he
      exact .cons (parD_sound hy (h.2 0 a v rfl rfl)) (argsD_sound hz h.tail)
    · cases he
  | [], _ :: _, _, _, he, _ => by simp [argsD] at he
  | _ :: _, [], _, _, he, _ => by simp [argsD] at he
theorem okAV_avOf : ∀ {S : Sh} {x : Den S}, okAV (avOf S x) → okD S x := by
  intro S x h
  cases S <;> first | exact h | trivial
theorem okAV_capAV : ∀ {S : Sh} {x : Den S}, okAV (capAV S x) → okD S x := by
  intro S x h
  cases S <;> first | exact h | exact h.1 | trivial
theorem okAVs_caps : ∀ {l : List Sh} {x : DenL l}, okAVs (capsAV l x) → okL l x
  | [], _, _ => trivial
  | _ :: _, _, h => ⟨okAV_capAV h.1, okAVs_caps h.2⟩
theorem okAV_par {p : Par} {x : DenP p} (h : okAV (parAV p x)) : okP p x := by
  cases p with
  | d S => exact okAV_avOf h
  | fn g l => exact okAVs_caps h
  | cap S => exact okAV_capAV h
  | capfn g l => exact okAVs_caps h.1
theorem okAVs_args : ∀ {l : List Par} {x : Args l}, okAVs (argsAV l x) → okArgs l x
  | [], _, _ => trivial
  | _ :: _, _, h => ⟨okAV_par h.1, okAVs_args h.2⟩
theorem spec_of {f : FuncId} {s : Con} (h : ∀ x, okArgs s.ps x → s.pre x → (enter E f (argsAV s.ps x)).isSome = true ∧ Runs E (start E f (argsAV s.ps x)) fun v h => v = s.res x ∧ h = s.roots x) : SpecOK E f s.spec := by
  intro args r _ hs hp w Z vs hg hz hvs
  unfold Con.spec at hs
  split at hs
  · rename_i x hx
    injection hs with hs
    subst hs
    have hc := argsD_sound hx hvs
    have hv : VRs w Z ⟨fun _ => none, fun _ _ => none⟩ (argsAV s.ps x) vs := ⟨hc.1, fun j a v ha hv => .cr (hc.2 j a v ha hv)⟩
    obtain ⟨h1, h2⟩ := h x (okAVs_args hv.ok) hp
    intro cs
    cases he : enter E f (argsAV s.ps x) with
    | none => rw [he] at h1; cases h1
    | some F =>
      obtain ⟨b, e1, e2, e3⟩ := enter_ok he hv
      have hm : MemR w ⟨fun _ => True, Z⟩ w Z (fun _ => none) ⟨fun _ => none, fun _ _ => none⟩ [] (fun s => s < 0) :=
        ⟨rfl, rfl, rfl, Nat.le_refl _, fun _ _ _ => rfl, fun b hb _ _ => hb, hz, fun b o ho => by simp at ho, fun b o ho => by simp at ho, fun b o ho => by simp at ho, fun r R hg => by simp [hget] at hg, fun r R hg => by simp [hget] at hg, fun _ _ => ⟨rfl, fun _ => rfl⟩⟩
      have hS : StOK E w ⟨fun _ => True, Z⟩ (start E f (argsAV s.ps x)) b [] w Z (fun _ => none) ⟨fun _ => none, fun _ _ => none⟩ := by
        refine ⟨?_, trivial, hm, hg⟩
        simp only [start, he, Option.getD_some]
        exact e2
      obtain ⟨A, hh, ⟨rfl, rfl⟩, V, w', Z', own', γ', fr, k1, k2, k3, k4, k5, k6⟩ := h2 w _ cs b [] w Z _ _ hS
      refine ⟨.returned V, w', fr, ⟨V, Z', own', γ', rfl, k2, k3, k1⟩, ?_, ?_, k6⟩
      · rw [e1]
        have : mkF (start E f (argsAV s.ps x)).cur b = mkF F b := by simp [start, he]
        rw [← this]
        exact k4
      · rw [k5]
        simp [start, he, botFn, e3]
  · cases hs
def envOf : List (FuncId × FSpec) → Env
  | [], _, _ => none
  | (f, s) :: l, g, args => match (if f = g then s args else none) with
    | some r => some r
    | none => envOf l g args
theorem envOK_of {l : List (FuncId × FSpec)} (he : E.env = envOf l) (h : ∀ x ∈ l, SpecOK E x.1 x.2) : EnvOK E := by
  intro f args r hc hr hp
  rw [he] at hr
  clear he
  induction l with
  | nil => simp [envOf] at hr
  | cons x l ih =>
    simp only [envOf] at hr
    split at hr
    · rename_i r' hx
      injection hr with hr
      subst hr
      split at hx
      · rename_i hf
        subst hf
        exact h x List.mem_cons_self args r' hc hx hp
      · cases hx
    · exact ih (fun y hy => h y (List.mem_cons_of_mem _ hy)) hr
end
end Go.BE
namespace Go.BE
open Go.RowKit
def eqV : Value → Value → Bool
  | .bool a, .bool b => a == b
  | .int k a, .int l b => decide (k = l) && decide (a = b)
  | .string a, .string b => decide (a.data.toList = b.data.toList)
  | .pointer none, .pointer none => true
  | .slice none a b, .slice none c d => decide (a = c) && decide (b = d)
  | .map none, .map none => true
  | .chan none, .chan none => true
  | .nilFunc, .nilFunc => true
  | .nilIface, .nilIface => true
  | _, _ => false
theorem eqV_ok {a b : Value} (h : eqV a b = true) : a = b := by
  unfold eqV at h
  split at h
  case h_3 a b =>
    cases a; cases b
    simp only [decide_eq_true_eq] at h
    have := Array.ext' h
    rw [this]
  all_goals simp_all
def eqVs : List Value → List Value → Bool
  | [], [] => true
  | a :: l, b :: m => eqV a b && eqVs l m
  | _, _ => false
theorem eqVs_ok : ∀ {l m : List Value}, eqVs l m = true → l = m
  | [], [], _ => rfl
  | a :: l, b :: m, h => by
    simp only [eqVs, Bool.and_eq_true] at h
    rw [eqV_ok h.1, eqVs_ok h.2]
  | [], _ :: _, h => by simp [eqVs] at h
  | _ :: _, [], h => by simp [eqVs] at h
def chkF (P : Program) (f : FI) (g : Field) : Bool :=
  decide (g.offset = f.off) && (match P.info? g.type with | some ti => decide (ti.size = f.size) | none => false) &&
    (match P.underlying g.type with | some d => isAggD d == f.agg | none => false)
theorem chkF_ok {P : Program} {f : FI} {g : Field} (h : chkF P f g = true) : FIOK P f g := by
  simp only [chkF, Bool.and_eq_true, decide_eq_true_eq] at h
  obtain ⟨⟨h1, h2⟩, h3⟩ := h
  refine ⟨h1, ?_, ?_⟩
  · split at h2
    · rename_i ti hti
      exact ⟨ti, hti, by simpa using h2⟩
    · cases h2
  · split at h3
    · rename_i d hd
      exact ⟨d, hd, by simpa using h3⟩
    · cases h3
def chkFs (P : Program) : List FI → List Field → Bool
  | [], [] => true
  | f :: fs, g :: gs => chkF P f g && chkFs P fs gs
  | _, _ => false
theorem chkFs_ok {P : Program} : ∀ {fs : List FI} {gs : List Field}, chkFs P fs gs = true → fs.length = gs.length ∧ ∀ (j : Nat) f, fs[j]? = some f → ∃ g, gs[j]? = some g ∧ FIOK P f g
  | [], [], _ => ⟨rfl, fun j f h => by simp at h⟩
  | f :: fs, g :: gs, h => by
    simp only [chkFs, Bool.and_eq_true] at h
    obtain ⟨h1, h2⟩ := chkFs_ok h.2
    refine ⟨by simp [h1], fun j f' hj => ?_⟩
    cases j with
    | zero => simp at hj; subst hj; exact ⟨g, rfl, chkF_ok h.1⟩
    | succ j => exact h2 j f' (by simpa using hj)
  | [], _ :: _, h => by simp [chkFs] at h
  | _ :: _, [], h => by simp [chkFs] at h
def chkK (P : Program) : TK → TypeDesc → Bool
  | .int k, .int k' => decide (k = k')
  | .bool, .bool => true
  | .str, .string => true
  | .ptr e, .pointer e' => decide (e = e')
  | .slice e, .slice e' => decide (e = e')
  | .arr n e, .array n' e' => decide (n = n') && decide (e = e')
  | .struct fs, .struct gs => chkFs P fs gs.toList
  | .other, d => !isAggD d
  | _, _ => false
theorem chkK_ok {P : Program} {k : TK} {d : TypeDesc} (h : chkK P k d = true) : TKOK P k d := by
  unfold chkK at h
  split at h
  · simp only [decide_eq_true_eq] at h; subst h; rfl
  · rfl
  · rfl
  · simp only [decide_eq_true_eq] at h; subst h; rfl
  · simp only [decide_eq_true_eq] at h; subst h; rfl
  · simp only [Bool.and_eq_true, decide_eq_true_eq] at h; obtain ⟨rfl, rfl⟩ := h; rfl
  · obtain ⟨h1, h2⟩ := chkFs_ok h
    exact ⟨_, rfl, by simpa using h1, fun j f hj => by simpa using h2 j f hj⟩
  · simpa [TKOK] using h
  · cases h
def chkS (i : TI) : Bool := match i.sh with
  | none => true
  | some S => decide (S.size = i.size) && eqVs (zvals S) i.zero && (S.isAgg == i.isAgg)
theorem chkS_ok {i : TI} (h : chkS i = true) : ∀ S, i.sh = some S → S.size = i.size ∧ zvals S = i.zero ∧ S.isAgg = i.isAgg := by
  intro S hS
  unfold chkS at h
  rw [hS] at h
  simp only [Bool.and_eq_true, decide_eq_true_eq, beq_iff_eq] at h
  exact ⟨h.1.1, eqVs_ok h.1.2, h.2⟩
def chkT (P : Program) (t : TypeId) (i : TI) : Bool :=
  (match P.info? t with
   | some ti => decide (ti.size = i.size) && decide (ti.bytes = i.bytes) && (match ti.zero with | some z => eqVs z.cells.toList i.zero | none => false)
   | none => false) &&
  (match P.underlying t with | some d => chkK P i.tk d | none => false) && chkS i
theorem chkT_ok {P : Program} {t : TypeId} {i : TI} (h : chkT P t i = true) : TIOK P t i := by
  simp only [chkT, Bool.and_eq_true] at h
  obtain ⟨⟨h1, h2⟩, h3⟩ := h
  refine ⟨?_, ?_, chkS_ok h3⟩
  · split at h1
    · rename_i ti hti
      simp only [Bool.and_eq_true, decide_eq_true_eq] at h1
      obtain ⟨⟨a, b⟩, c⟩ := h1
      split at c
      · rename_i z hz
        exact ⟨ti, hti, a, b, z, hz, eqVs_ok c⟩
      · cases c
    · cases h1
  · split at h2
    · rename_i d hd
      exact ⟨d, hd, chkK_ok h2⟩
    · cases h2
def tyOf (n : Nat) (tr : Tr TI) : Ty := fun t => if t < n then tr.get t else none
def chkTy (P : Program) (tr : Tr TI) : Nat → Bool
  | 0 => true
  | n + 1 => chkTy P tr n && (match tr.get n with | some i => chkT P n i | none => true)
theorem chkTy_ok {P : Program} {tr : Tr TI} : ∀ {n : Nat}, chkTy P tr n = true → TyOK P (tyOf n tr)
  | 0, _, t, i, h => by simp [tyOf] at h
  | n + 1, hc, t, i, h => by
    simp only [chkTy, Bool.and_eq_true] at hc
    simp only [tyOf] at h
    split at h
    · rename_i ht
      rcases Nat.lt_or_ge t n with hlt | hge
      · exact chkTy_ok hc.1 t i (by simp only [tyOf]; rw [if_pos hlt]; exact h)
      · obtain rfl : t = n := Nat.le_antisymm (Nat.lt_succ_iff.1 ht) hge
        have h2 := hc.2
        rw [h] at h2
        exact chkT_ok h2
    · cases h
def chkFn (P : Program) (f : Nat) : Bool :=
  match P.funcs[f]? with
  | some fn => fn.body.isSome && !(fn.name == "runtime.NumGoroutine")
  | none => false
theorem chkFn_ok {P : Program} {f : Nat} (h : chkFn P f = true) : ∀ args w, (callFunc f args).run P w = .ok (.enter f args) w := by
  intro args w
  unfold chkFn at h
  split at h
  · rename_i fn hfn
    simp only [Bool.and_eq_true, Bool.not_eq_true'] at h
    obtain ⟨h1, h2⟩ := h
    have h3 : fn.body.isNone = false := by cases hb : fn.body <;> simp_all
    simp only [callFunc, Sem.run_bind, run_program, Result.andThen_ok, hfn, h2, h3, Bool.false_eq_true, if_false, Sem.run_pure]
  · cases h
def fnsOf (l : List Nat) : Nat → Bool := fun f => l.contains f
theorem chkFns_ok {P : Program} {l : List Nat} (h : (l.all fun f => chkFn P f) = true) : ∀ f, fnsOf l f = true → ∀ args w, (callFunc f args).run P w = .ok (.enter f args) w := by
  intro f hf
  rw [List.all_eq_true] at h
  exact chkFn_ok (h f (by simpa [fnsOf] using hf))
end Go.BE
namespace Go.BE
def loopsC : Code → List Item → List (List Item)
  | .seq a b, k => loopsC a (.code b :: k) ++ loopsC b k
  | .cond _ a b, k => loopsC a k ++ loopsC b k
  | .block id a, k => loopsC a (.inBlock id :: k)
  | .loop a, k => (.code a :: .inLoop a :: k) :: loopsC a (.inLoop a :: k)
  | .scope a, k => loopsC a (.inScope a :: k)
  | _, _ => []
def headOf (ix : Nat) : List (List Item) → List Item
  | [] => []
  | t :: l => if loopIx t = ix then t else headOf ix l
def avlook : List (Nat × AV) → Nat → AV
  | [], _ => .bad
  | (k, a) :: l, t => if k = t then a else avlook l t
def mkFr (l : List (Nat × AV)) : Nat → Nat → List AV
  | 0, _ => []
  | n + 1, i => avlook l i :: mkFr l n (i + 1)
def hcfg (E : Ctx) (f : FuncId) (ix : Nat) (fr : List (Nat × AV)) (h : Heap) (nx : Nat) : Cfg :=
  match E.P.funcs[f]? with
  | some fn => { cur := { fn := f, todo := headOf ix ((fn.body.map fun c => loopsC c []).getD []), fr := mkFr fr fn.ntmps 0 }, callers := [], h := h, nx := nx }
  | none => { cur := ⟨f, [], []⟩, callers := [], h := h, nx := nx }
def sigEq : List (Nat × Nat) → List (Nat × Nat) → Bool
  | [], [] => true
  | (a, b) :: l, (c, d) :: m => Nat.beq a c && Nat.beq b d && sigEq l m
  | _, _ => false
abbrev CutL := List (List (Nat × Nat) × Nat × Nat × List Nat × List (Wh × Fx) × List (List Nat))
def cutOf : CutL → List (Nat × Nat) → FuncId → Nat → List Nat × List (Wh × Fx) × List (List Nat)
  | [], _, _, _ => ([], [], [])
  | (s', f', ix', x) :: l, s, f, ix => match Nat.beq f' f && Nat.beq ix' ix && sigEq s' s with
    | true => x
    | false => cutOf l s f ix
def retsO (ops : Array Oper) (k : List Item) : List Nat → List (List Item)
  | [] => []
  | i :: l => match ops[i]? with
    | some { op := .call _, .. } => (.inRegion ops (i :: l) :: k) :: retsO ops k l
    | _ => retsO ops k l
def retsC : Code → List Item → List (List Item)
  | .seq a b, k => retsC a (.code b :: k) ++ retsC b k
  | .cond _ a b, k => retsC a k ++ retsC b k
  | .block id a, k => retsC a (.inBlock id :: k)
  | .loop a, k => retsC a (.inLoop a :: k)
  | .scope a, k => retsC a (.inScope a :: k)
  | .region _ ops false, k => retsO ops k (List.range ops.size)
  | _, _ => []
def cfr (E : Ctx) (f : FuncId) (n : Nat) (fr : List (Nat × AV)) : AFr :=
  match E.P.funcs[f]? with
  | some fn => { fn := f, todo := ((fn.body.map fun c => retsC c []).getD []).getD n [], fr := mkFr fr fn.ntmps 0 }
  | none => ⟨f, [], []⟩
def hcfgx (E : Ctx) (f : FuncId) (ix : Nat) (fr : List (Nat × AV)) (h : Heap) (nx : Nat) (cs : List AFr) : Cfg := { hcfg E f ix fr h nx with callers := cs }
abbrev bOf (x : Den .bool) : Bool := x
abbrev tOf (x : Den .str) : ByteArray := x
theorem wp_cond {α : Type} {Q : α → Prop} {b : Bool} {t e : Tre α} (h1 : b = true → t.wp Q) (h2 : b = false → e.wp Q) : (cond b t e).wp Q := by
  cases b with
  | true => exact h1 rfl
  | false => exact h2 rfl
theorem wp_iff {α : Type} {Q : α → Prop} {b : Bool} {t e : Tre α} : (cond b t e).wp Q ↔ (b = true → t.wp Q) ∧ (b = false → e.wp Q) := by
  cases b <;> simp
theorem chk_iff {α : Type} {Q : α → Prop} {C : Prop} {t : Tre α} : (Tre.chk C t).wp Q ↔ C ∧ (C → t.wp Q) := Iff.rfl
theorem know_iff {α : Type} {Q : α → Prop} {C : Prop} {t : Tre α} : (Tre.know C t).wp Q ↔ (C → t.wp Q) := Iff.rfl
theorem any_iff {α : Type} {Q : α → Prop} {p : Bool → Prop} {k : Bool → Tre α} : (Tre.any p k).wp Q ↔ ∀ b, p b → (k b).wp Q := Iff.rfl
theorem Runs.tree {E : Ctx} {H : Hints} {f : FuncId} {n : Nat} {c : Cfg} {T : Tre Leaf} {Q : AV → Heap → Prop} (hE : EOK E) (h : run E H f n c = T) (hw : T.wp (contL E Q)) : Runs E c Q := Runs.of_run hE (h ▸ hw)
end Go.BE
namespace Go.BE
abbrev I : Sh := .int .i64
abbrev z (x : Den (.int .i64)) : Int := x
def ln (S : Sh) (l : List (Den S)) : Nat := l.length
def gd (S : Sh) (l : List (Den S)) (i : Nat) : Den S := l.getD i (dz S)
def ap (S : Sh) (l m : List (Den S)) : List (Den S) := l ++ m
def st (S : Sh) (l : List (Den S)) (i : Nat) (x : Den S) : List (Den S) := l.set i x
abbrev vi (n : Int) : AV := .val (.int .i64 n)
abbrev vb (b : Bool) : AV := .val (.bool b)
abbrev vs (s : ByteArray) : AV := .val (.string s)
abbrev hd (c : Cfg) : Tre Leaf := .ok (.head c)
abbrev rt (v : AV) (h : Heap) : Tre Leaf := .ok (.ret v h)
abbrev bvand (k : IntKind) (a b : Int) : Int := ((BitVec.ofInt k.bits a &&& BitVec.ofInt k.bits b).toNat : Int)
abbrev bvxor (k : IntKind) (a b : Int) : Int := ((BitVec.ofInt k.bits a ^^^ BitVec.ofInt k.bits b).toNat : Int)
theorem rt_iff {E : Ctx} {Q : AV → Heap → Prop} {v : AV} {h : Heap} : (rt v h).wp (contL E Q) ↔ Q v h := Iff.rfl
theorem hd_iff {E : Ctx} {Q : AV → Heap → Prop} {c : Cfg} : (hd c).wp (contL E Q) ↔ Runs E c Q := Iff.rfl
theorem beq_t {a b : Int} (h : (a == b) = true) : a = b := by simpa using h
theorem beq_f {a b : Int} (h : (a == b) = false) : a ≠ b := by simpa using h
theorem bne_t {a b : Int} (h : (a != b) = true) : a ≠ b := by simpa using h
theorem bne_f {a b : Int} (h : (a != b) = false) : a = b := by simpa using h
theorem lt01 : ((0 : Nat) < 1) = True := by simp
theorem up_ind {n : Nat} {P : Nat → Prop} (h0 : P n) (hs : ∀ i, i < n → P (i + 1) → P i) : ∀ i, i ≤ n → P i := fun i hi => by
  obtain ⟨k, rfl⟩ : ∃ k, n = i + k := ⟨n - i, by omega⟩
  clear hi
  induction k generalizing i with
  | zero => exact h0
  | succ k ih => exact hs i (by omega) (ih (i + 1) (by rwa [show i + 1 + k = i + (k + 1) by omega]) (fun j hj => hs j (by omega)))
theorem wrap64 (s : Int) (h1 : -9223372036854775808 ≤ s) (h2 : s ≤ 9223372036854775807) : IntKind.wrap .i64 s = s := by
  simp only [IntKind.wrap, IntKind.bits, IntKind.signed, Bool.true_and]
  split <;> rename_i h <;> simp only [ge_iff_le, decide_eq_true_eq] at h <;> omega
theorem wrapS {i n : Nat} (hi : i < n) (h : n < 9223372036854775807) : IntKind.wrap .i64 ((i : Int) + 1) = ((i + 1 : Nat) : Int) := wrap64 _ (by omega) (by omega)
theorem drop_gd {S : Sh} {l : List (Den S)} {i : Nat} (h : i < ln S l) : l.drop i = gd S l i :: l.drop (i + 1) := by
  rw [List.drop_eq_getElem_cons h]
  congr 1
  unfold gd
  rw [List.getD_eq_getElem?_getD, List.getElem?_eq_getElem h]
  rfl
theorem drop_ln {S : Sh} {l : List (Den S)} : l.drop (ln S l) = [] := List.drop_length
theorem take_ln {S : Sh} {l : List (Den S)} : l.take (ln S l) = l := List.take_length
theorem gd_ap {S : Sh} {l m : List (Den S)} {i : Nat} (h : i < ln S l) : gd S (ap S l m) i = gd S l i := by
  unfold gd ap
  have h : i < l.length := h
  rw [List.getD_eq_getElem?_getD, List.getD_eq_getElem?_getD, List.getElem?_append_left h]
theorem ln_ap {S : Sh} {l m : List (Den S)} : ln S (ap S l m) = ln S l + ln S m := List.length_append
theorem gd_last {S : Sh} {l : List (Den S)} {x : Den S} : gd S (ap S l [x]) (ln S l) = x := by
  unfold gd ap ln
  rw [List.getD_eq_getElem?_getD, List.getElem?_append_right (Nat.le_refl _), Nat.sub_self]
  rfl
theorem nil_ap {S : Sh} {l : List (Den S)} : ap S [] l = l := rfl
theorem ln_map {S T : Sh} {f : Den S → Den T} {l : List (Den S)} : ln T (l.map f) = ln S l := List.length_map ..
theorem st_gd {S : Sh} {l : List (Den S)} {i : Nat} : st S l i (gd S l i) = l := by
  unfold st gd
  refine List.ext_getElem? fun j => ?_
  rw [List.getElem?_set]
  split
  · rename_i h
    subst h
    split
    · rename_i h
      rw [List.getD_eq_getElem?_getD, List.getElem?_eq_getElem h]
      rfl
    · rename_i h
      rw [List.getElem?_eq_none (by omega)]
  · rfl
theorem gd_st {S : Sh} {l : List (Den S)} {i : Nat} {x : Den S} (h : i < ln S l) : gd S (st S l i x) i = x := by
  unfold st gd
  have h : i < l.length := h
  rw [List.getD_eq_getElem?_getD, List.getElem?_set]
  simp only [if_true, h]
  rfl
theorem st_st {S : Sh} {l : List (Den S)} {i : Nat} {x y : Den S} : st S (st S l i x) i y = st S l i y := List.set_set ..
theorem ln_st {S : Sh} {l : List (Den S)} {i : Nat} {x : Den S} : ln S (st S l i x) = ln S l := List.length_set ..
theorem ok_gd {b : Nat} {S : Sh} {l : List (Den S)} {i : Nat} (h : okD (.sl b S) l) (hi : i < ln S l) : okD S (gd S l i) := by
  refine h.2 _ ?_
  unfold gd
  rw [List.getD_eq_getElem?_getD, List.getElem?_eq_getElem hi]
  exact List.getElem_mem hi
theorem room_part {b n k c : Nat} (h : room b n) (hk : k ≤ n) (hc : c ≤ b) : k * c ≤ roomB := Nat.le_trans (Nat.mul_le_mul hk hc) h.1
theorem ln_ap1 {S : Sh} {l : List (Den S)} {x : Den S} : ln S (ap S l [x]) = ln S l + 1 := by
  unfold ln ap
  rw [List.length_append]
  rfl
theorem ln_take {S : Sh} {l : List (Den S)} {i : Nat} (h : i ≤ ln S l) : ln S (l.take i) = i := by
  unfold ln
  rw [List.length_take]
  exact Nat.min_eq_left h
theorem take_gd {S : Sh} {l : List (Den S)} {i : Nat} (h : i < ln S l) : l.take (i + 1) = l.take i ++ [gd S l i] := by
  rw [List.take_succ_eq_append_getElem h]
  congr 2
  unfold gd
  rw [List.getD_eq_getElem?_getD, List.getElem?_eq_getElem h]
  rfl
def mapTo {S T : Sh} (f : Den S → Den T) (g : Den S → Den T) (l : List (Den S)) (i : Nat) : List (Den T) := (l.take i).map f ++ (l.drop i).map g
theorem mapTo_len {S T : Sh} {f g : Den S → Den T} {l : List (Den S)} {i : Nat} : ln T (mapTo f g l i) = ln S l := by
  unfold mapTo ln
  rw [List.length_append, List.length_map, List.length_map, ← List.length_append, List.take_append_drop]
theorem mapTo_0 {S T : Sh} {f g : Den S → Den T} {l : List (Den S)} : mapTo f g l 0 = l.map g := rfl
theorem mapTo_n {S T : Sh} {f g : Den S → Den T} {l : List (Den S)} : mapTo f g l (ln S l) = l.map f := by
  unfold mapTo ln
  rw [List.take_length, List.drop_length, List.map_nil, List.append_nil]
theorem mapTo_gd {S T : Sh} {f g : Den S → Den T} {l : List (Den S)} {i : Nat} (h : i < ln S l) : gd T (mapTo f g l i) i = g (gd S l i) := by
  unfold mapTo
  rw [drop_gd h]
  unfold gd
  have hl : (List.map f (List.take i l)).length = i := by rw [List.length_map]; exact ln_take (Nat.le_of_lt h)
  rw [List.getD_eq_getElem?_getD, List.getElem?_append_right (by omega), hl, Nat.sub_self]
  rfl
theorem mapTo_st {S T : Sh} {f g : Den S → Den T} {l : List (Den S)} {i : Nat} (h : i < ln S l) : st T (mapTo f g l i) i (f (gd S l i)) = mapTo f g l (i + 1) := by
  unfold mapTo
  rw [drop_gd h, take_gd h]
  unfold st
  have hl : (List.map f (List.take i l)).length = i := by rw [List.length_map]; exact ln_take (Nat.le_of_lt h)
  rw [List.set_append_right _ _ (by omega), hl, Nat.sub_self, List.map_append, List.append_assoc]
  rfl
theorem room_lt {b n : Nat} (h : room b n) : n < 9223372036854775807 := by
  have := h.2
  unfold roomB at this
  omega
theorem c_true {b : Bool} {P Q : Prop} (e : b = true) (hp : P) : (b = true → P) ∧ (b = false → Q) := ⟨fun _ => hp, fun h => absurd (e.symm.trans h) (by decide)⟩
theorem c_false {b : Bool} {P Q : Prop} (e : b = false) (hq : Q) : (b = true → P) ∧ (b = false → Q) := ⟨fun h => absurd (e.symm.trans h) (by decide), fun _ => hq⟩
def slook : List (Nat × Nat) → Nat → Nat
  | [], _ => 0
  | (k, v) :: l, t => if k = t then v else slook l t
def siteOf (tr : Tr (List (Nat × Nat))) (f t : Nat) : Nat := match tr.get f with
  | some l => slook l t
  | none => 0
def ownR (d : Nat) : (S : Sh) → Den S → Nat → List AV × List (Nat × Root)
  | .pair a b, x, n => ((ownR d a x.1 n).1 ++ (ownR d b x.2 (n + (ownR d a x.1 n).2.length)).1, (ownR d a x.1 n).2 ++ (ownR d b x.2 (n + (ownR d a x.1 n).2.length)).2)
  | .sl b a, x, n => ([.osl n n [] none], [(n, mkRoot n (.arr (min d a.dep) b a x))])
  | S, x, _ => (cellsT S x, [])
def ownRes (d : Nat) : (S : Sh) → Den S → AV × List (Nat × Root)
  | .pair a b, x => (.agg (ownR d (.pair a b) x 0).1, (ownR d (.pair a b) x 0).2)
  | .sl b a, x => (.osl 0 0 [] none, [(0, mkRoot 0 (.arr (min d a.dep) b a x))])
  | S, x => (avOf S x, [])
def conO (d : Nat) (ps : List Par) (R : Sh) (pre : Args ps → Prop) (f : Args ps → Den R) : Con := ⟨ps, pre, fun x => (ownRes d R (f x)).1, fun x => (ownRes d R (f x)).2⟩
def conT2 (ps : List Par) (R1 R2 : Sh) (pre : Args ps → Prop) (f : Args ps → Den R1 × Den R2) : Con := ⟨ps, pre, fun x => .tup [avOf R1 (f x).1, avOf R2 (f x).2], fun _ => []⟩
def conT3 (ps : List Par) (R1 R2 R3 : Sh) (pre : Args ps → Prop) (f : Args ps → Den R1 × Den R2 × Den R3) : Con := ⟨ps, pre, fun x => .tup [avOf R1 (f x).1, avOf R2 (f x).2.1, avOf R3 (f x).2.2], fun _ => []⟩
end Go.BE

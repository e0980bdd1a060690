/- A part of the proofs over this program: an abstract machine that the kernel evaluates, and its soundness. No conditions. -/
import Derived.Test.YtffikjglpgbnbaaDoorEngineB
import Derived.Test.YtffikjglpgbnbaaDoorEngineA
namespace Go.BE
open Go.RowKit
section
variable {P : Program} {E : Ctx} {w w' w0 : World} {Z Z' : Nat → Prop} {K : Kp} {own own' : Own} {γ γ' : Gst} {h h' : Heap} {used used' : Nat → Prop} {r s d id : Nat} {R : Root} {a A B : AV} {v V U : Value} {cs ds : List AV} {vs us : List Value}
theorem rnode_congr {p : Pth} (hg : hget h' r = hget h r) : rnode h' r s p = rnode h r s p := by unfold rnode rdata; rw [hg]
theorem upd_rows {b : Nat} {arr : Array Value} {e : TypeId} (hu : Upd w b arr e w') : rows w' b = some arr.toList := by unfold rows; rw [hu.row]; rfl
theorem MemR.used_mono (hm : MemR w0 K w Z own γ h used) (hu : ∀ s, used s → used' s) : MemR w0 K w Z own γ h used' :=
 hm.step (Stay.refl w Z) (Gst.Ext.refl used γ) hu rfl rfl rfl (Nat.le_refl _) (fun _ => False) (fun _ _ _ => rfl) (fun _ _ ho _ => ho) (fun _ _ ho => .inl ⟨ho, fun h => h⟩) (fun b hb => ⟨hm.zlt b hb, .inl hb⟩) (fun _ _ hg => .inl ⟨hg, fun h => h⟩) (fun s hs => hm.fresh s (fun h => hs (hu s h)))
theorem stEq_ok : ∀ {a b : List St} {C : List Prop}, stEq a b = some C → AllP C → a = b
 | [], [], _, _, _ => rfl
 | .l :: a, .l :: b, C, h, hc => by rw [stEq_ok (a := a) (b := b) h hc]
 | .r :: a, .r :: b, C, h, hc => by rw [stEq_ok (a := a) (b := b) h hc]
 | .a i :: a, .a j :: b, C, h, hc => by
  simp only [stEq] at h
  obtain ⟨D, h1, rfl⟩ := Option.map_eq_some_iff.1 h
  rw [hc.1, stEq_ok h1 hc.2]
 | [], _ :: _, _, h, _ => by simp [stEq] at h
 | _ :: _, [], _, h, _ => by simp [stEq] at h
 | .l :: _, .r :: _, _, h, _ => by simp [stEq] at h
 | .l :: _, .a _ :: _, _, h, _ => by simp [stEq] at h
 | .r :: _, .l :: _, _, h, _ => by simp [stEq] at h
 | .r :: _, .a _ :: _, _, h, _ => by simp [stEq] at h
 | .a _ :: _, .l :: _, _, h, _ => by simp [stEq] at h
 | .a _ :: _, .r :: _, _, h, _ => by simp [stEq] at h
theorem pthEq_ok : ∀ {a b : Pth} {C : List Prop}, pthEq a b = some C → AllP C → a = b
 | [], [], _, _, _ => rfl
 | (i, s) :: p, (j, t) :: q, C, h, hc => by
  simp only [pthEq] at h
  split at h
  ·rename_i D F h1 h2
   injection h with h
   subst h
   obtain ⟨e1, hc⟩ := hc
   rw [AllP.append] at hc
   rw [e1, stEq_ok h1 hc.1, pthEq_ok h2 hc.2]
  ·cases h
 | [], _ :: _, _, h, _ => by simp [pthEq] at h
 | _ :: _, [], _, h, _ => by simp [pthEq] at h
theorem astorePend_sound (hm : MemR w0 K w Z own γ h used) (hu : ∀ s, used s → used' s) {p : Pth} {i : Nat} {st : List St} {C : List Prop} {ws : List (Nat × Option Root)} {sk : Bool} {t : TypeId} {ti : TypeInfo} (h1 : E.P.info? t = some ti) (h2 : ti.size = 1) (he : astorePend h r s p i st A = .w C a ws sk) (hC : AllP C) (hA : VR w Z γ A V) (hB : VR w Z γ (.tref r s p i st) U) :
  sk = true ∧ a = .val undef ∧ ∃ w' Z' own' γ', (Instr.storeAt t U V).run E.P w = .ok () w' ∧ Stay w Z w' Z' ∧ Gst.Ext used γ γ' ∧ MemR w0 K w' Z' own' γ' (qaj h ws) used' := by
 unfold astorePend at he
 split at he
 ·rename_i R hR
  split at he
  ·rename_i P0 r' s' P' hpd
   split at he
   ·rename_i hcond
    obtain ⟨rfl, rfl, hv, hf⟩ := hcond
    split at he
    ·rename_i C1 D1 e1 e2
     injection he with q1 q2 q3 q4
     subst q1; subst q2; subst q3; subst q4
     refine ⟨rfl, rfl, ?_⟩
     rw [AllP.append] at hC
     have eP := pthEq_ok e1 hC.1
     have eP' := pthEq_ok e2 hC.2
     subst eP'
     have hr := hm.root r' R hR
     have hcr := hr.cont
     unfold ContR at hcr
     split at hcr
     ·rename_i cs hcs
      obtain ⟨_, hq, _⟩ := hcr
      rw [hpd] at hq
      cases hq
     ·rename_i x hcs
      obtain ⟨_, hq, _⟩ := hcr
      rw [hpd] at hq
      cases hq
     ·rename_i m b0 S0 xs0 hcs
      simp only [hf, hpd, Bool.false_eq_true, if_false] at hcr
      obtain ⟨hrd, p0, i0, st0, hd0, bb, oo, so, T, hd, v0, row, f1, f2, f3, f4, f5, f6, f7, f8, f9, f10, f11⟩ := hcr
      rw [eP] at f1
      obtain ⟨rfl, f1'⟩ := List.append_inj' f1 rfl
      simp only [List.cons.injEq, Prod.mk.injEq, and_true] at f1'
      obtain ⟨rfl, rfl⟩ := f1'
      obtain ⟨hd', b', o', so', T', g1, g2, g3, g4, rfl⟩ := hB.tref_inv
      have := hr.valid_hd hv g1
      rw [f2] at this
      injection this with this
      subst this
      rw [f3] at g3; injection g3 with g3; injection g3 with g3 g3'; subst g3; subst g3'
      rw [f4] at g4; injection g4 with g4; injection g4 with _ g4; subst g4
      obtain ⟨hd2, k1, k2⟩ := hA.osl_inv
      rw [f5] at k1
      injection k1 with k1
      subst k1
      obtain ⟨_, ad, c, rfl, k3, k4, k5, k6⟩ := k2
      simp only [wlen, wlo, Nat.zero_mul, Nat.add_zero, Nat.zero_add] at k3 k5 k6
      have hHV : HVal hd (.slice ad hd.n c) := by
       unfold HVal
       rw [f6]
       exact ⟨ad, c, rfl, k3, k5, k6⟩
      obtain ⟨arr, et, hrow, hrl⟩ := rows_heap f9
      obtain ⟨w', arr', e1, e2, e3⟩ := qcm (P := E.P) bb (oo + i * hd0.S.size + so) et [.slice ad hd.n c] 0 w arr hrow (by simp only [List.length_cons, List.length_nil]; rw [← Array.length_toList, hrl]; omega) (fun u hu => by simp at hu; subst hu; rfl)
      rw [Nat.add_zero, hrl, qcw _ _ _ (by simp; omega), splice_one f10] at e2
      have hst : Stay w Z w' Z := ⟨fun k hk => e3.other k (fun hkb => hm.ownZ bb _ f8 (hkb ▸ hk)), fun _ h => h⟩
      obtain ⟨k7, k8, k9⟩ := hm.keys r' R hR
      have hwang : (wlen hd.n none : Nat) = hd.n := rfl
      refine ⟨w', Z, own, γ, ?_, hst, Gst.Ext.refl _ _, ?_⟩
      ·simp only [Instr.storeAt, Instr.sureAddr, Sem.run_bind, Sem.run_pure, Result.andThen_ok, storeVar, qak h1 h2]
       rw [if_neg (by simp [Value.cells])]
       exact e1
      ·show MemR w0 K w' Z own γ (hput h r' { R with pend := none }) used'
       refine hm.step hst (Gst.Ext.refl used γ) hu e3.os e3.tape e3.output (by rw [e3.size]; exact Nat.le_refl _) (fun x => x = r') (fun k hk hno => e3.other k (fun hkb => by subst hkb; exact hno _ f8 rfl)) (fun k o ho' _ => ho') (fun k o ho' => ?_) (fun k hk => ⟨by rw [e3.size]; exact hm.zlt k hk, .inl hk⟩) (fun r2 R2 hg => ?_) (fun s hs => hm.fresh s (fun h => hs (hu s h)))
       ·by_cases hq : o.1 = r'
        ·exact .inr ⟨by rw [e3.size]; exact hm.ownlt _ _ ho', hm.ownZ _ _ ho', .inl ⟨_, ho', hq⟩⟩
        ·exact .inl ⟨ho', hq⟩
       ·rw [qbl] at hg
        split at hg
        ·rename_i hrr
         injection hg with hg
         subst hg; subst hrr
         refine .inr ⟨⟨hr.old, ?_⟩, hu _ k7, hu _ k8, fun e he => hu _ (k9 e he)⟩
         unfold ContR
         simp only [hcs, hf, Bool.false_eq_true, if_false]
         refine ⟨hrd, (f11 _ hHV).frame hst (fun _ _ h => h) fun k q row' ho hM => ⟨ho, ?_⟩⟩
         unfold rowsPut at hM
         split at hM
         ·rename_i hk
          subst hk
          rw [f9] at hM
          injection hM with hM
          rw [upd_rows e3, e2]
          exact congrArg some hM
         ·rename_i hk
          rw [qdv (e3.other k hk)]
          exact hM
        ·rename_i hne
         exact .inl ⟨hg, hne⟩
     ·rename_i l hcs
      rw [hpd] at hcr
      cases hcr.2.1
    ·cases he
   ·cases he
  ·cases he
 ·cases he
theorem oldCut_mem {d : Nat} : ∀ {l : List (Nat × List Nat × Nat)} {e : Nat × List Nat × Nat}, e ∈ oldCut d l → ∃ e0 ∈ l, e = (e0.1, e0.2.1, min e0.2.2 d)
 | [], e, he => by cases he
 | (k, bad, cut) :: l, e, he => by
  simp only [oldCut, List.mem_cons] at he
  rcases he with rfl | he
  ·exact ⟨_, List.mem_cons_self, rfl⟩
  ·obtain ⟨e0, q1, q2⟩ := oldCut_mem he
   exact ⟨e0, List.mem_cons_of_mem _ q1, q2⟩
theorem astore_sound (hT : TyOK E.P E.ty) (hm : MemR w0 K w Z own γ h used) (hid : ¬ used id) (hu : ∀ s, used s → used' s) (hid' : used' id) {t : TypeId} {C : List Prop} {ws : List (Nat × Option Root)} {sk : Bool} (he : astore E h id t A B = .w C a ws sk) (hC : AllP C) (hA : VR w Z γ A V) (hB : VR w Z γ B U) :
  sk = true ∧ a = .val undef ∧ ∃ w' Z' own' γ', (Instr.storeAt t U V).run E.P w = .ok () w' ∧ Stay w Z w' Z' ∧ Gst.Ext used γ γ' ∧ MemR w0 K w' Z' own' γ' (qaj h ws) used' := by
 unfold astore at he
 split at he
 ·rename_i r off
  split at he
  ·rename_i i R hi hR
   split at he
   ·rename_i cs hc
    split at he
    ·rename_i hcond
     obtain ⟨c1, c2, c3⟩ := hcond
     injection he with e1 e2 e3 e4
     subst e1; subst e2; subst e3; subst e4
     refine ⟨rfl, rfl, ?_⟩
     obtain ⟨b, hb, ho, hf, hpn, arr, e, hrow, hrel⟩ := hm.cells hR hc
     obtain ⟨b', hb', rfl⟩ := hB.ref_inv
     rw [hb] at hb'
     injection hb' with hb'
     subst hb'
     obtain ⟨ti, h1, h2, _⟩ := (hT t i hi).info
     have hcells := AV.one_cells hA c3
     have hsz : V.cells.size = i.size := by rw [← Array.length_toList, ← hcells.1]; exact c1
     have hasz : cs.length = arr.size := by rw [hrel.1]; simp
     obtain ⟨w', arr', e1, e2, e3⟩ := qcm (P := E.P) b off e V.cells.toList 0 w arr hrow (by rw [← hcells.1, c1]; omega) (hcells.ones c3)
     have hst : Stay w Z w' Z := ⟨fun k hk => e3.other k (fun hkb => hm.ownZ b _ ho (hkb ▸ hk)), fun _ h => h⟩
     obtain ⟨q1, q2, q3⟩ := hm.keys r R hR
     refine ⟨w', Z, own, γ, ?_, hst, Gst.Ext.refl _ _, ?_⟩
     ·simp only [Instr.storeAt, Instr.sureAddr, Sem.run_bind, Sem.run_pure, Result.andThen_ok, storeVar, qak h1 h2]
      rw [if_neg (by simp [hsz])]
      exact e1
     ·refine hm.step hst (Gst.Ext.refl used γ) hu e3.os e3.tape e3.output (by rw [e3.size]; exact Nat.le_refl _) (fun x => x = r) (fun k hk hno => e3.other k (fun hkb => by subst hkb; exact hno _ ho rfl)) (fun k o ho' _ => ho') (fun k o ho' => ?_) (fun k hk => ⟨by rw [e3.size]; exact hm.zlt k hk, .inl hk⟩) (fun r' R' hg => ?_) (fun s hs => hm.fresh s (fun h => hs (hu s h)))
      ·by_cases hq : o.1 = r
       ·exact .inr ⟨by rw [e3.size]; exact hm.ownlt _ _ ho', hm.ownZ _ _ ho', .inl ⟨_, ho', hq⟩⟩
       ·exact .inl ⟨ho', hq⟩
      ·simp only [qaj, qbl] at hg
       split at hg
       ·rename_i hrr
        injection hg with hg
        subst hg; subst hrr
        refine .inr ⟨⟨(hm.root _ R hR).old, ?_⟩, hu _ q1, hu _ q2, fun e he => hu _ (q3 e he)⟩
        unfold ContR
        simp only
        refine ⟨hf, hpn, b, arr', e, hb, ho, e3.row, ?_⟩
        rw [e2, Nat.add_zero]
        exact (hcells.setCells hrel).mono hst (Gst.Le.refl γ)
       ·rename_i hne
        exact .inl ⟨hg, hne⟩
    ·cases he
   ·cases he
  ·cases he
 ·rename_i r s p i st
  split at he
  ·split at he
   ·rename_i hty
    obtain ⟨ti, h1, h2, _⟩ := (hT t _ hty).info
    exact astorePend_sound hm hu h1 h2 he hC hA hB
   ·cases he
  ·split at he
   ·rename_i ti N hi hN
    split at he
    ·rename_i u hu'
     split at he
     ·rename_i hcond
      simp only [Bool.and_eq_true] at hcond
      obtain ⟨hfit, hone⟩ := hcond
      have hcells := AV.one_cells hA hone
      split at he
      ·rename_i hflat
       simp only [Bool.or_eq_true, beq_iff_eq] at hflat
       split at he
       ·rename_i C0 cs' ws0 hcl
        split at he
        ·rename_i hall
         split at he
         ·rename_i y hy
          split at he
          ·rename_i x hx
           split at he
           ·rename_i c hc
            injection he with e1 e2 e3 e4
            subst e1; subst e2; subst e3; subst e4
            refine ⟨rfl, rfl, ?_⟩
            rw [AllP.append] at hC
            have hC0 := hC.1
            have hC := hC.2
            obtain ⟨Z1, own1, k1, k2, k3⟩ := qdr hm hcl hC0 hcells
            obtain ⟨us, rest, hus, hfr, hrest⟩ := toDen_sound hy ⟨k2, k3⟩
            have hr0 : rest = [] := List.eq_nil_of_length_eq_zero (by simpa using hrest.1.symm)
            subst hr0
            rw [List.append_nil] at hus
            subst hus
            have hmm := k1.mem
            have hgr : hget (qaj h ws0) r = hget h r := hget_other_ws hall
            have hN1 : rnode (qaj h ws0) r s p = some N := by rw [rnode_congr hgr]; exact hN
            have hB1 := hB.mono k1.stay (Gst.Le.refl γ)
            obtain ⟨hd, b, o, row, so, p1, p2, p3, p4, p5, p6, p7, p8, hU, p10⟩ := hmm.place hN1 hu' hC hB1
            subst hU
            rw [AllP.append] at hC
            obtain ⟨hC1, hi', hC2⟩ := hC
            obtain ⟨⟨n1, n2, n3, n4, n5, n6⟩, ⟨b0, S0, xs0, m1, m2, m3, m4, m5, m6⟩, _⟩ := hmm.node hN1 hC1
            obtain ⟨tti, h1, h2, _⟩ := (hT t ti hi).info
            simp only [fits, Bool.and_eq_true, beq_iff_eq] at hfit
            have hvl := hfr.len
            have hsz : V.cells.size = ti.size := by rw [← Array.length_toList, hvl, hfit.1]
            obtain ⟨arr, et, hrow, hrl⟩ := rows_heap p6
            obtain ⟨w', arr', e1, e2, e3⟩ := qcm (P := E.P) b (o + i * N.n.S.size + so) et V.cells.toList 0 w arr hrow (by rw [hvl, ← Array.length_toList, hrl]; omega) hfr.ones
            rw [Nat.add_zero, hrl, qcw _ _ _ (by rw [hvl]; exact p8)] at e2
            have hst : Stay w Z1 w' Z1 := ⟨fun k hk => e3.other k (fun hkb => hmm.ownZ b _ p5 (hkb ▸ hk)), fun _ h => h⟩
            obtain ⟨q1, q2, q3⟩ := hmm.keys r N.R n1
            refine ⟨w', Z1, own1, γ, ?_, k1.stay.trans hst, Gst.Ext.refl _ _, ?_⟩
            ·simp only [Instr.storeAt, Instr.sureAddr, Sem.run_bind, Sem.run_pure, Result.andThen_ok, storeVar, qak h1 h2]
             rw [if_neg (by simp [hsz])]
             exact e1
            ·rw [qcq]
             refine hmm.step hst (Gst.Ext.refl used γ) hu e3.os e3.tape e3.output (by rw [e3.size]; exact Nat.le_refl _) (fun x => x = r) (fun k hk hno => e3.other k (fun hkb => by subst hkb; exact hno _ p5 rfl)) (fun k o ho' _ => ho') (fun k o ho' => ?_) (fun k hk => ⟨by rw [e3.size]; exact hmm.zlt k hk, .inl hk⟩) (fun r' R' hg => ?_) (fun s hs => hmm.fresh s (fun h => hs (hu s h)))
             ·by_cases hq : o.1 = r
              ·exact .inr ⟨by rw [e3.size]; exact hmm.ownlt _ _ ho', hmm.ownZ _ _ ho', .inl ⟨_, ho', hq⟩⟩
              ·exact .inl ⟨ho', hq⟩
             ·rw [qbl] at hg
              split at hg
              ·rename_i hrr
               injection hg with hg
               subst hg; subst hrr
               refine .inr ⟨⟨(hmm.root _ _ n1).old, ?_⟩, hu _ q1, hu _ q2, fun e he => hu _ (q3 e he)⟩
               obtain ⟨T, yv⟩ := u
               obtain ⟨NC, NR, Nm, Nd, Nn⟩ := N
               simp only at m1 m2 m4 m5 m6 n1 n2 n3 n4 n5 n6 hx hc p1 p2 p3 p5 p8 p10 e2 hi' hC1 hC2 hu' hflat hfr hy hvl e1
               subst m2
               obtain ⟨_, hpl⟩ := qbc.place (w' := w') (Z' := Z1) (M' := rows w') (own' := own1) (g' := γ.G NR.cur) hst p (t := ⟨.sl b0 S0, xs0⟩) (n0 := ⟨S0, xs0, false⟩) (n := Nn) (p0 := []) rfl m6 n4 n6 (by rw [← n5]; exact hC1)
               obtain ⟨hd2, b2, o2, row2, so2, f1, f2, f3, f4, f5, f6, f7, f8, f9, f10⟩ := hpl hi' hu' hC2
               simp only [List.nil_append] at f1 f5 f9 f10
               rw [p1] at f1
               injection f1 with f1
               subst f1
               rw [p4] at f4
               injection f4 with f4
               injection f4 with f4 f4'
               subst f4; subst f4'
               rw [p6] at f6
               injection f6 with f6
               subst f6
               rw [p7] at f7
               injection f7 with f7
               injection f7 with _ f7
               subst f7
               obtain ⟨n', g1, g2, g3, g4⟩ := f10 (y' := y) (us' := V.cells.toList) (x' := x) (fun q hd _ hq => hq) (fun b' q row0 _ ho hM => ⟨ho, by
                by_cases hbb : b' = b
                ·subst hbb
                 rw [if_pos rfl, upd_rows e3, e2]
                ·rw [if_neg hbb, qdv (e3.other b' hbb)]
                 exact hM⟩) (OR.of_FR (by rcases hflat with h | h; exact .inl h; exact .inr h) (hfr.mono hst)) hx
               unfold ContR
               unfold Root.setD at hc
               simp only [m1] at hc
               obtain ⟨x', hx', rfl⟩ := Option.map_eq_some_iff.1 hc
               have hxe : x' = x := by
                have := castD_self (.sl b0 S0) x
                rw [this] at hx'
                exact (Option.some.inj hx').symm
               subst hxe
               have hn' : n' = ⟨S0, x', false⟩ := (Option.some.inj (g1 : qbo ⟨.sl b0 S0, x'⟩ = some n')).symm
               subst hn'
               simp only [m4, m5, Bool.false_eq_true, if_false]
               refine ⟨⟨?_, hmm.dom n1 m1⟩, g4⟩
               have : List.length (α := Den S0) x' = xs0.length := g3
               show room b0 (List.length (α := Den S0) x')
               rw [this]
               exact m3
              ·rename_i hne
               exact .inl ⟨hg, hne⟩
           ·cases he
          ·cases he
         ·cases he
        ·cases he
       ·cases he
      ·rename_i hflat
       simp only [Bool.or_eq_true, beq_iff_eq, not_or] at hflat
       split at he
       ·rename_i y l hml
        split at he
        ·rename_i hnd
         simp only [Bool.and_eq_true] at hnd
         obtain ⟨hnd1, hnd2⟩ := hnd
         obtain ⟨hrl, hnd3⟩ := nodupB_cons hnd1
         split at he
         ·rename_i x hx
          split at he
          ·rename_i c hc
           injection he with q1 q2 q3 q4
           subst q1; subst q2; subst q3; subst q4
           refine ⟨rfl, rfl, ?_⟩
           obtain ⟨us, rest, hus, hrest, hvl, hones, hrd, hor⟩ := moveIn_sound hm hml hcells
           have hr0 : rest = [] := List.eq_nil_of_length_eq_zero (by simpa using hrest.1.symm)
           subst hr0
           rw [List.append_nil] at hus
           subst hus
           obtain ⟨hd, b, o, row, so, p1, p2, p3, p4, p5, p6, p7, p8, hU, p10⟩ := hm.place hN hu' hC hB
           subst hU
           rw [AllP.append] at hC
           obtain ⟨hC1, hi', hC2⟩ := hC
           obtain ⟨⟨n1, n2, n3, n4, n5, n6⟩, ⟨b0, S0, xs0, m1, m2, m3, m4, m5, m6⟩, _⟩ := hm.node hN hC1
           obtain ⟨tti, h1, h2, _⟩ := (hT t ti hi).info
           simp only [fits, Bool.and_eq_true, beq_iff_eq] at hfit
           have hsz : V.cells.size = ti.size := by rw [← Array.length_toList, hvl, hfit.1]
           obtain ⟨arr, et, hrow, hrl'⟩ := rows_heap p6
           obtain ⟨w', arr', e1, e2, e3⟩ := qcm (P := E.P) b (o + i * N.n.S.size + so) et V.cells.toList 0 w arr hrow (by rw [hvl, ← Array.length_toList, hrl']; omega) hones
           rw [Nat.add_zero, hrl', qcw _ _ _ (by rw [hvl]; exact p8)] at e2
           have hst : Stay w Z w' Z := ⟨fun k hk => e3.other k (fun hkb => hm.ownZ b _ p5 (hkb ▸ hk)), fun _ h => h⟩
           obtain ⟨k1, k2, k3⟩ := hm.keys r N.R n1
           let l2 : List (Nat × Mv) := l.map fun e => (i, e)
           have hl2 : l2.map (·.2) = l := by simp [l2, Function.comp_def]
           let cov : Nat → List St → Bool := fun k s' => k == i && st.isPrefixOf s'
           let g : Pth → Option Hd := gMv γ h (γ.G N.R.cur) cov p st l2
           let own2 : Own := oMv own r p st l2
           have he' := Gst.setG_ext (γ := γ) hid g
           have hG : (γ.setG id g).G id = g := by simp [Gst.setG, upd]
           have hcov : ∀ {s2 : List St}, cov i (st ++ s2) = true := by simp [cov]
           have gout : ∀ q, ¬ Under p i st q → g q = γ.G N.R.cur q := fun q hq => gMv_out fun k s' rest e => by
            cases hcv : cov k s' with
            | false => rfl
            | true =>
             simp only [cov, Bool.and_eq_true, beq_iff_eq, List.isPrefixOf_iff_prefix] at hcv
             obtain ⟨rfl, s2, rfl⟩ := hcv
             exact absurd ⟨s2, rest, e⟩ hq
           have hown : ∀ k o', own k = some o' → o'.1 ∉ qca l → own2 k = some o' := fun k o' ho hno => by
            simp only [own2, oMv, ho]
            split
            ·rename_i e' he'
             refine absurd (qcc.2 ⟨e'.2, ?_, by simpa using List.find?_some he'⟩) hno
             obtain ⟨e'', h1, rfl⟩ := List.mem_map.1 (List.mem_of_find?_eq_some he')
             exact h1
            ·rfl
           have hdom : Dom g := by
            intro q j s' hd' hq
            by_cases hun : Under p i st (q ++ [(j, s')])
            ·obtain ⟨s2, rest, e⟩ := hun
             rcases List.eq_nil_or_concat rest with rfl | ⟨rest1, x1, rfl⟩
             ·obtain ⟨rfl, e5⟩ := List.append_inj' e rfl
              simp only [List.cons.injEq, Prod.mk.injEq, and_true] at e5
              obtain ⟨rfl, _⟩ := e5
              refine ⟨hd, ?_, by rw [p3]; exact hi'⟩
              rw [gout _ (fun hx => qea hx)]
              exact p1
             ·rw [List.concat_eq_append] at e
              have e' : q ++ [(j, s')] = (p ++ (i, st ++ s2) :: rest1) ++ [x1] := by rw [e]; simp
              obtain ⟨rfl, e5⟩ := List.append_inj' e' rfl
              injection e5 with e5
              subst e5
              have hq : gMv γ h (γ.G N.R.cur) cov p st l2 (p ++ (i, st ++ s2) :: (rest1 ++ [(j, s')])) = some hd' := by simpa using hq
              rw [gMv_in hcov] at hq
              show ∃ hd0, gMv γ h (γ.G N.R.cur) cov p st l2 (p ++ (i, st ++ s2) :: rest1) = some hd0 ∧ j < hd0.n
              rw [gMv_in hcov]
              split at hq
              ·rename_i e2 he2
               split at hq
               ·simp at hq
               ·rename_i r2 hr2
                split at hq
                ·rename_i R2 hR2
                 obtain ⟨e3, h3, rfl⟩ := List.mem_map.1 (List.mem_of_find?_eq_some he2)
                 obtain ⟨s3, R2', m2', t2, hrd2⟩ := hrd e3 h3 r2 hr2
                 obtain ⟨y1, _, _, b2, S2, xs2, y2, _⟩ := hm.data hrd2
                 rw [hR2] at y1
                 injection y1 with y1
                 subst y1
                 obtain ⟨hdq, hq, _⟩ := Option.map_eq_some_iff.1 hq
                 obtain ⟨hd0, f1, f2⟩ := hm.dom hR2 y2 _ _ _ _ hq
                 refine ⟨e3.hd rest1 hd0, ?_, by rw [Mv.hd_n]; exact f2⟩
                 first | simp only [he2, hr2, hR2, f1, Option.map_some] | simp only [hr2, hR2, f1, Option.map_some]
                ·cases hq
              ·cases hq
            ·rw [gout _ hun] at hq
             obtain ⟨hd0, f1, f2⟩ := hm.dom n1 m1 _ _ _ _ hq
             refine ⟨hd0, ?_, f2⟩
             rw [gout _ (fun ⟨s2, rest, e⟩ => hun ⟨s2, rest ++ [(j, s')], by rw [e]; simp⟩)]
             exact f1
           refine ⟨w', Z, own2, γ.setG id g, ?_, hst, he', ?_⟩
           ·simp only [Instr.storeAt, Instr.sureAddr, Sem.run_bind, Sem.run_pure, Result.andThen_ok, storeVar, qak h1 h2]
            rw [if_neg (by simp [hsz])]
            exact e1
           ·rw [qcq]
            refine (hm.dels (l := qca l)).step hst he' hu e3.os e3.tape e3.output (by rw [e3.size]; exact Nat.le_refl _) (fun x => x = r ∨ x ∈ qca l) (fun k hk hno => e3.other k (fun hkb => by subst hkb; exact hno _ p5 (.inl rfl))) (fun k o' ho hne => hown k o' ho (fun hx => hne (.inr hx))) (fun k o' ho' => ?_) (fun k hk => ⟨by rw [e3.size]; exact hm.zlt k hk, .inl hk⟩) (fun r' R' hg => ?_) (fun s hs => ?_)
            ·cases hko : own k with
             | none => simp [own2, oMv, hko] at ho'
             | some ko =>
              by_cases hkr : ko.1 = r ∨ ko.1 ∈ qca l
              ·exact .inr ⟨by rw [e3.size]; exact hm.ownlt _ _ hko, hm.ownZ _ _ hko, .inl ⟨ko, rfl, hkr⟩⟩
              ·have := hown k ko hko (fun hx => hkr (.inr hx))
               rw [this] at ho'
               injection ho' with ho'
               subst ho'
               exact .inl ⟨rfl, hkr⟩
            ·rw [qbl] at hg
             split at hg
             ·rename_i hrr
              injection hg with hg
              subst hg; subst hrr
              refine .inr ⟨⟨fun e hmem q hd' f1 f2 f3 => ?_, ?_⟩, hu _ k1, hid', fun e hmem => ?_⟩
              ·show (γ.setG id g).G id q = some hd'
               rw [hG]
               have hmem' : e = (N.R.cur, [], p.length + 1) ∨ e ∈ oldCut (p.length + 1) N.R.old := by simpa [Root.rep] using hmem
               have hnu : q.length < p.length + 1 → ¬ Under p i st q := fun hl ⟨s2, rest, e⟩ => by
                have := congrArg List.length e
                simp at this
                omega
               rcases hmem' with rfl | hmem'
               ·rw [gout q (hnu f1)]
                rw [(he' _ k2).2] at f3
                exact f3
               ·obtain ⟨e0, g1, rfl⟩ := oldCut_mem hmem'
                have hlt : q.length < min e0.2.2 (p.length + 1) := f1
                rw [gout q (hnu (by omega))]
                rw [(he' _ (k3 e0 g1)).2] at f3
                exact n2.old e0 g1 q hd' (by omega) f2 f3
              ·obtain ⟨T, yv⟩ := u
               obtain ⟨NC, NR, Nm, Nd, Nn⟩ := N
               simp only at m1 m2 m4 m5 m6 n1 n2 n3 n4 n5 n6 hx hc p1 p2 p3 p5 p8 p10 e2 hi' hC1 hC2 hu' hflat hvl e1 hor hml
               subst m2
               obtain ⟨_, hpl⟩ := qbc.place (w' := w') (Z' := Z) (M' := rows w') (own' := own2) (g' := g) hst p (t := ⟨.sl b0 S0, xs0⟩) (n0 := ⟨S0, xs0, false⟩) (n := Nn) (p0 := []) rfl m6 n4 n6 (by rw [← n5]; exact hC1)
               obtain ⟨hd2, b2, o2, row2, so2, f1, f2, f3, f4, f5, f6, f7, f8, f9, f10⟩ := hpl hi' hu' hC2
               simp only [List.nil_append] at f1 f5 f9 f10
               rw [p1] at f1
               injection f1 with f1
               subst f1
               rw [p4] at f4
               injection f4 with f4
               injection f4 with f4 f4'
               subst f4; subst f4'
               rw [p6] at f6
               injection f6 with f6
               subst f6
               rw [p7] at f7
               injection f7 with f7
               injection f7 with _ f7
               subst f7
               have hlev : Nm - p.length - 1 + 1 = Nm - p.length := by have := hflat.1; omega
               have hOR := hor w' Z (rows w') own2 r' g p i st hst (MvL_ok hm (l := l2) (base := γ.G NR.cur) (cov := cov) (by rw [hl2]; exact hnd3) (by
                 have : l2.map (fun e => (e.1, e.2.st)) = (l.map (·.st)).map fun s => (i, s) := by simp [l2, Function.comp_def]
                 rw [this]
                 clear this hor hml hrd hdom hown
                 revert hnd2
                 generalize l.map (·.st) = ls
                 induction ls with
                 | nil => intro _; rfl
                 | cons x ls ih =>
                  intro hn
                  obtain ⟨a1, a2⟩ := nodupB_cons hn
                  simp only [List.map_cons, nodupB, Bool.and_eq_true, Bool.not_eq_true']
                  refine ⟨?_, ih a2⟩
                  cases hcc : (ls.map fun s => (i, s)).contains (i, x) with
                  | false => rfl
                  | true =>
                   rw [List.contains_iff_mem] at hcc
                   obtain ⟨s, hs, he⟩ := List.mem_map.1 hcc
                   injection he with _ he
                   subst he
                   exact absurd hs a1) (fun e hem => by obtain ⟨e', _, rfl⟩ := List.mem_map.1 hem; exact hcov) (fun k s' rest => rfl) (fun b' o' ho hex => rfl) (fun b' k q row' ho hex hrow' => by
                 rw [qdv (e3.other b' (fun e => ?_))]
                 ·exact hrow'
                 ·subst e
                  rw [p5] at ho
                  injection ho with ho
                  injection ho with ho _
                  subst ho
                  obtain ⟨e', he1, he2⟩ := hex
                  obtain ⟨e'', he3, rfl⟩ := List.mem_map.1 he1
                  exact hrl (qcc.2 ⟨e'', he3, he2⟩)) (fun e hem => List.mem_map.2 ⟨e, hem, rfl⟩))
               rw [hlev, List.append_nil] at hOR
               obtain ⟨n', g1, g2, g3, g4⟩ := f10 (y' := y) (us' := V.cells.toList) (x' := x) (fun q hd' hun hq => by rw [gout q hun]; exact hq) (fun b' q row0 hun ho hM => ⟨hown b' _ ho hrl, by
                by_cases hbb : b' = b
                ·subst hbb
                 rw [if_pos rfl, upd_rows e3, e2]
                ·rw [if_neg hbb, qdv (e3.other b' hbb)]
                 exact hM⟩) hOR hx
               unfold ContR
               unfold Root.setD at hc
               simp only [m1] at hc
               obtain ⟨x', hx', rfl⟩ := Option.map_eq_some_iff.1 hc
               have hxe : x' = x := by
                have := castD_self (.sl b0 S0) x
                rw [this] at hx'
                exact (Option.some.inj hx').symm
               subst hxe
               have hn' : n' = ⟨S0, x', false⟩ := (Option.some.inj (g1 : qbo ⟨.sl b0 S0, x'⟩ = some n')).symm
               subst hn'
               simp only [Root.rep, m5, Bool.false_eq_true, if_false]
               rw [hG]
               refine ⟨⟨?_, hdom⟩, g4⟩
               have : List.length (α := Den S0) x' = xs0.length := g3
               show room b0 (List.length (α := Den S0) x')
               rw [this]
               exact m3
              ·have hmem' : e = (N.R.cur, [], p.length + 1) ∨ e ∈ oldCut (p.length + 1) N.R.old := by simpa [Root.rep] using hmem
               rcases hmem' with rfl | hmem'
               ·exact hu _ k2
               ·obtain ⟨e0, g1, rfl⟩ := oldCut_mem hmem'
                exact hu _ (k3 e0 g1)
             ·rename_i hne
              refine .inl ⟨hg, ?_⟩
              rintro (hx1 | hx1)
              ·exact hne hx1
              ·rw [hget_mvDel, if_pos hx1] at hg
               cases hg
            ·have hns : ¬ used s := fun h => hs (hu s h)
             refine ⟨(hm.fresh s hns).1, fun q => ?_⟩
             simp only [Gst.setG, upd]
             rw [if_neg (by intro e; subst e; exact hs hid')]
             exact (hm.fresh s hns).2 q
          ·cases he
         ·cases he
        ·cases he
       ·cases he
     ·cases he
    ·cases he
   ·cases he
 ·cases he
end
end Go.BE
namespace Go.BE
open Go.RowKit
section
variable {P : Program} {E : Ctx} {w w' w0 : World} {Z Z' : Nat → Prop} {K : Kp} {own own' : Own} {γ γ' : Gst} {h h' : Heap} {used used' : Nat → Prop} {r s d id : Nat} {R : Root} {a A B : AV} {v V U : Value} {cs ds : List AV} {vs us : List Value}
theorem asI_inv {n : Int} (hA : VR w Z γ A V) (h : asI A = some n) : ∃ k, V = .int k n := by
 unfold asI at h
 split at h
 ·obtain rfl := hA.val_inv
  injection h with h
  subst h
  exact ⟨_, rfl⟩
 ·cases h
theorem asB_inv {b : Bool} (hA : VR w Z γ A V) (h : asB A = some b) : V = .bool b := by
 unfold asB at h
 split at h
 ·obtain rfl := hA.val_inv
  injection h with h
  subst h
  rfl
 ·cases h
theorem maps {ρa : Operand → AV} {ρ : Operand → Value} (hρ : ∀ x, VR w Z γ (ρa x) (ρ x)) (l : List Operand) : VRs w Z γ (l.map ρa) (l.map ρ) := by
 induction l with
 | nil => exact .nil
 | cons x l ih => exact .cons (hρ x) ih
theorem parts {ρa : Operand → AV} {ρ : Operand → Value} (hρ : ∀ x, VR w Z γ (ρa x) (ρ x)) (l : Array (Nat × Operand)) :
  Parts w Z γ (l.toList.map fun (i, x) => (i, ρa x)) (l.map fun (i, x) => (i, ρ x)).toList := by
 refine ⟨by simp, fun j x y hx hy => ?_⟩
 simp only [Array.toList_map, List.getElem?_map] at hx hy
 cases hl : l.toList[j]? with
 | none => simp [hl] at hx
 | some p =>
  simp only [hl, Option.map_some, Option.some.injEq] at hx hy
  subst hx
  subst hy
  exact ⟨rfl, hρ _⟩
theorem amax_sound : ∀ {as : List AV} {A a : AV} {V : Value} {Vs : List Value}, amax A as = some a → VR w Z γ A V → VRs w Z γ as Vs → ∃ v, (Vs.foldlM Builtin.max2 V).run P w = .ok v w ∧ VR w Z γ a v
 | [], A, a, V, Vs, he, hA, hs => by
  have : Vs = [] := List.eq_nil_of_length_eq_zero (by simpa using hs.1.symm)
  subst this
  simp only [amax, Option.some.injEq] at he
  subst he
  exact ⟨V, rfl, hA⟩
 | x :: as, A, a, V, Vs, he, hA, hs => by
  cases Vs with
  | nil => simp [VRs] at hs
  | cons y Vs =>
   unfold amax at he
   split at he
   ·rename_i heq; cases heq
   ·rename_i k n k' m as' heq
    injection heq with h1 h2
    subst h1
    subst h2
    split at he
    ·rename_i hk
     subst hk
     have ha1 : k.has n := hA.val_ok
     have ha2 : k.has m := hs.head.val_ok
     obtain rfl := hA.val_inv
     obtain rfl := hs.head.val_inv
     obtain ⟨v, e1, e2⟩ := amax_sound (V := .int k (if m > n then m else n)) he (.cr (.val _ (show k.has (if m > n then m else n) by split <;> assumption))) hs.tail
     exact ⟨v, by simp only [List.foldlM_cons, Sem.run_bind, Builtin.max2, Sem.run_pure, Result.andThen_ok, e1], e2⟩
    ·cases he
   ·cases he
theorem amin_sound : ∀ {as : List AV} {A a : AV} {V : Value} {Vs : List Value}, amin A as = some a → VR w Z γ A V → VRs w Z γ as Vs → ∃ v, (Vs.foldlM Builtin.min2 V).run P w = .ok v w ∧ VR w Z γ a v
 | [], A, a, V, Vs, he, hA, hs => by
  have : Vs = [] := List.eq_nil_of_length_eq_zero (by simpa using hs.1.symm)
  subst this
  simp only [amin, Option.some.injEq] at he
  subst he
  exact ⟨V, rfl, hA⟩
 | x :: as, A, a, V, Vs, he, hA, hs => by
  cases Vs with
  | nil => simp [VRs] at hs
  | cons y Vs =>
   unfold amin at he
   split at he
   ·rename_i heq; cases heq
   ·rename_i k n k' m as' heq
    injection heq with h1 h2
    subst h1
    subst h2
    split at he
    ·rename_i hk
     subst hk
     have ha1 : k.has n := hA.val_ok
     have ha2 : k.has m := hs.head.val_ok
     obtain rfl := hA.val_inv
     obtain rfl := hs.head.val_inv
     obtain ⟨v, e1, e2⟩ := amin_sound (V := .int k (if m < n then m else n)) he (.cr (.val _ (show k.has (if m < n then m else n) by split <;> assumption))) hs.tail
     exact ⟨v, by simp only [List.foldlM_cons, Sem.run_bind, Builtin.min2, Sem.run_pure, Result.andThen_ok, e1], e2⟩
    ·cases he
   ·cases he
theorem VR.fn_inv {f : FuncId} {caps : List AV} (h : VR w Z γ (.fn f caps) v) : ∃ vs : Array Value, v = .func (.func f) #[] vs ∧ VRs w Z γ caps vs.toList := by
 cases h with
 | cr h =>
  cases h with
  | fn _ _ vs hl hr => exact ⟨vs, rfl, by simpa using hl, fun j x y hx hy => .cr (hr j x y hx (by simpa using hy))⟩
 | fn _ _ vs hl hr => exact ⟨vs, rfl, by simpa using hl, fun j x y hx hy => hr j x y hx (by simpa using hy)⟩

def OutOK (E : Ctx) (w0 : World) (K : Kp) (w : World) (Z : Nat → Prop) (γ : Gst) (h : Heap) (used used' : Nat → Prop) (ρ : Operand → Value) (o : Oper) : Out → Prop
 | .v C a => AllP C → ∃ v, (execOp ρ o).run E.P w = .ok (.value v) w ∧ VR w Z γ a v
 | .w C a ws sk => AllP C → ∃ n v w' Z' own' γ', (execOp ρ o).run E.P w = .ok n w' ∧ (if sk then n = .skip ∧ v = undef else n = .value v) ∧ Stay w Z w' Z' ∧ Gst.Ext used γ γ' ∧ MemR w0 K w' Z' own' γ' (qaj h ws) used' ∧ VR w' Z' γ' a v
 | .call f args => ∃ vs : List Value, (execOp ρ o).run E.P w = (callFunc f vs.toArray).run E.P w ∧ VRs w Z γ args vs
 | .any p => ∃ b, p b ∧ (execOp ρ o).run E.P w = .ok (.value (.bool b)) w
 | .no => True
theorem oV_ok {ρ : Operand → Value} {o : Oper} {x : Option AV} (h : ∀ a, x = some a → ∃ v, (execOp ρ o).run E.P w = .ok (.value v) w ∧ VR w Z γ a v) : OutOK E w0 K w Z γ ‹Heap› used used' ρ o (oV x) := by
 cases x with
 | none => trivial
 | some a => exact fun _ => h a rfl
theorem oC_ok {ρ : Operand → Value} {o : Oper} {x : Option (List Prop × AV)} (h : ∀ C a, x = some (C, a) → AllP C → ∃ v, (execOp ρ o).run E.P w = .ok (.value v) w ∧ VR w Z γ a v) : OutOK E w0 K w Z γ ‹Heap› used used' ρ o (oC x) := by
 cases x with
 | none => trivial
 | some a => exact fun hC => h a.1 a.2 rfl hC
theorem WOK.out {ρ : Operand → Value} {o : Oper} {m : Sem Value} {ws : List (Nat × Option Root)} (ho : (execOp ρ o) = (do pure (.value (← m)))) (hw : WOK E.P w0 K w Z γ h used used' m a ws) :
  ∃ n v w' Z' own' γ', (execOp ρ o).run E.P w = .ok n w' ∧ (if false = true then n = .skip ∧ v = undef else n = .value v) ∧ Stay w Z w' Z' ∧ Gst.Ext used γ γ' ∧ MemR w0 K w' Z' own' γ' (qaj h ws) used' ∧ VR w' Z' γ' a v := by
 obtain ⟨v, w', Z', own', γ', e1, e2, e3, e4, e5⟩ := hw
 refine ⟨.value v, v, w', Z', own', γ', ?_, ?_, e2, e3, e4, e5⟩
 ·rw [ho]
  simp only [Sem.run_bind, e1, Result.andThen_ok, Sem.run_pure]
 ·rw [if_neg (by simp)]
theorem WOK.mk_out {ρ : Operand → Value} {o : Oper} {m : Sem Value} {x : Out} (ho : (execOp ρ o) = (do pure (.value (← m)))) (hx : ∀ C a ws sk, x = .w C a ws sk → AllP C → sk = false ∧ WOK E.P w0 K w Z γ h used used' m a ws) (hn : (∃ C a ws sk, x = .w C a ws sk) ∨ x = .no) :
  OutOK E w0 K w Z γ h used used' ρ o x := by
 rcases hn with ⟨C, a, ws, sk, rfl⟩ | rfl
 ·intro hC
  obtain ⟨rfl, hw⟩ := hx C a ws sk rfl hC
  exact WOK.out ho hw
 ·trivial
end
end Go.BE
namespace Go.BE
open Go.RowKit
def IsW (x : Out) : Prop := (∃ C a ws sk, x = .w C a ws sk) ∨ x = .no
theorem IsW.w {C : List Prop} {a : AV} {ws : List (Nat × Option Root)} {sk : Bool} : IsW (.w C a ws sk) := .inl ⟨C, a, ws, sk, rfl⟩
theorem IsW.n : IsW .no := .inr rfl
theorem abuildSlice_form (E : Ctx) (h : Heap) (id lv : Nat) (t : TypeId) (len : Nat) (ps : List (Nat × AV)) : IsW (abuildSlice E h id lv t len ps) := by
 unfold abuildSlice
 repeat' split
 all_goals first | exact IsW.n | exact IsW.w
theorem abuildCells_form (E : Ctx) (id : Nat) (t : TypeId) (len : Nat) (ps : List (Nat × AV)) : IsW (abuildCells E id t len ps) := by
 unfold abuildCells
 repeat' split
 all_goals first | exact IsW.n | exact IsW.w
theorem amakeSlice_form (E : Ctx) (id lv : Nat) (t : TypeId) (n m : Int) : IsW (amakeSlice E id lv t n m) := by
 unfold amakeSlice
 repeat' split
 all_goals first | exact IsW.n | exact IsW.w
theorem aappend_form (E : Ctx) (h : Heap) (id lv : Nat) (t : TypeId) (x y : AV) : IsW (aappend E h id lv t x y) := by
 unfold aappend
 repeat' split
 all_goals first | exact IsW.n | exact IsW.w
theorem astorePend_form (h : Heap) (r s : Nat) (p : Pth) (i : Nat) (st : List St) (v : AV) : IsW (astorePend h r s p i st v) := by
 unfold astorePend
 repeat' split
 all_goals first | exact IsW.n | exact IsW.w
theorem astore_form (E : Ctx) (h : Heap) (id : Nat) (t : TypeId) (x y : AV) : IsW (astore E h id t x y) := by
 unfold astore
 repeat' split
 all_goals first | exact IsW.n | exact IsW.w | exact astorePend_form _ _ _ _ _ _ _
theorem adata_form (h : Heap) (id lv : Nat) (i : TI) (cs : List AV) : IsW (adata h id lv i cs) := by
 unfold adata
 repeat' split
 all_goals first | exact IsW.n | exact IsW.w
theorem abox_form (id : Nat) (ro : Bool) (x : AV) : IsW (abox id ro x) := by
 unfold abox
 repeat' split
 all_goals first | exact IsW.n | exact IsW.w
section
variable {P : Program} {E : Ctx} {w w' w0 : World} {Z Z' : Nat → Prop} {K : Kp} {own own' : Own} {γ γ' : Gst} {h h' : Heap} {used used' : Nat → Prop} {r s d id : Nat} {R : Root} {a A B : AV} {v V U : Value} {cs ds : List AV} {vs us : List Value}
theorem WOK.formed {ρ : Operand → Value} {o : Oper} {m : Sem Value} {x : Out} (hf : IsW x) (ho : (execOp ρ o) = (do pure (.value (← m)))) (hx : ∀ C a ws sk, x = .w C a ws sk → AllP C → sk = false ∧ WOK E.P w0 K w Z γ h used used' m a ws) :
  OutOK E w0 K w Z γ h used used' ρ o x := WOK.mk_out ho hx hf
theorem optI_rel {ρa : Operand → AV} {ρ : Operand → Value} (hρ : ∀ x, VR w Z γ (ρa x) (ρ x)) {x : Option Operand} {i : Option Int} (he : optI ρa x = some i) : OI i (x.map ρ) := by
 cases x with
 | none =>
  simp only [optI, Option.some.injEq] at he
  subst he
  exact .inl ⟨rfl, rfl⟩
 | some y =>
  simp only [optI, Option.map_eq_some_iff] at he
  obtain ⟨n, hn, rfl⟩ := he
  obtain ⟨k, hk⟩ := asI_inv (hρ y) hn
  exact .inr ⟨n, k, rfl, by simp [hk]⟩
theorem append_congr {ats : Array TypeId} {t ty : TypeId} {args : Array Value} (h0 : ats[0]? = some t) (h1 : ats[1]? = some t) : Builtin.append_ ats ty args = Builtin.append_ #[t, t] ty args := by
 unfold Builtin.append_
 simp only [h0, h1]
 rfl
theorem rop_vals {cs : List AV} {v : Value} (hA : CR w Z (.rop cs 0) v) : ∃ b o us, v = .pointer (some ⟨b, o, none⟩) ∧ Z b ∧ Run w b o us ∧ CRs w Z cs us := by
 generalize hB : AV.rop cs 0 = B at hA
 cases hA with
 | rop cs' off b o u hz hc hr =>
  injection hB with h1 h2
  subst h1; subst h2
  refine ⟨b, o + 0, (List.range cs.length).map u, rfl, hz, fun j v hj => ?_, by simp, fun j x z hx hz => ?_⟩
  ·rw [List.getElem?_map] at hj
   obtain ⟨i, hi, rfl⟩ := Option.map_eq_some_iff.1 hj
   have hlt : j < cs.length := by
    have := (List.getElem?_eq_some_iff.1 hi).1
    simpa using this
   rw [List.getElem?_range hlt] at hi
   injection hi with hi
   subst hi
   exact hc j cs[j] (List.getElem?_eq_getElem hlt)
  ·rw [List.getElem?_map] at hz
   obtain ⟨i, hi, rfl⟩ := Option.map_eq_some_iff.1 hz
   rw [List.getElem?_range (List.getElem?_eq_some_iff.1 hx).1] at hi
   injection hi with hi
   subst hi
   exact hr _ x hx
 | _ => cases hB
theorem asliceArr_sound (hT : TyOK E.P E.ty) (hm : MemR w0 K w Z own γ h used) (hu : ∀ s, used s → used' s) {t : TypeId} {C : List Prop} {ws : List (Nat × Option Root)} (he : asliceArr E h t A = some (C, a, ws)) (hC : AllP C) (hA : VR w Z γ A V) :
  WOK E.P w0 K w Z γ h used used' (Instr.sliceAt t V none none none) a ws := by
 unfold asliceArr at he
 split at he
 ·rename_i n e _ _ _ _ hty
  obtain ⟨d, hd, hk⟩ := (hT t _ hty).desc
  simp only [TKOK] at hk
  subst hk
  split at he
  ·rename_i ie hie
   obtain ⟨tie, k1, k2, _⟩ := (hT e _ hie).info
   split at he
   ·rename_i S hS
    split at he
    ·rename_i hcond
     obtain ⟨c1, c2, c3, c4⟩ := hcond
     split at he
     ·rename_i r
      split at he
      ·rename_i C1 cs ws1 hcl
       obtain ⟨xs, hxs, e1⟩ := Option.map_eq_some_iff.1 he
       simp only [Prod.mk.injEq] at e1
       obtain ⟨rfl, rfl, rfl⟩ := e1
       obtain ⟨Z1, own1, q1, q2⟩ := qes hm hcl hC hA
       obtain ⟨b, o, us, rfl, hz, hr, hcs⟩ := rop_vals q2
       obtain ⟨j1, j2, j3⟩ := elemsOf_sound n hxs hcs
       refine ⟨.slice (some ⟨b, o, none⟩) n n, w, Z1, own1, γ, ?_, q1.stay, Gst.Ext.refl _ _, q1.mem.used_mono hu, .cr (.tv1 _ _ _ rfl ⟨_, n, by rw [← j1], Nat.le_of_eq j1, ⟨by show (xs : List (Den S)).length * _ ≤ _; rw [j1]; exact c3, by show (xs : List (Den S)).length ≤ _; rw [j1]; exact c4⟩, fun _ => ⟨b, o, rfl, hz, fun i y hy => ⟨seg us (i * S.size) S.size, ?_, fun j v hj => ?_, j3 i y hy⟩⟩⟩)⟩
       ·simp only [Instr.sliceAt, Instr.sureAddr, asAddr, Instr.sliceBounds, Sem.run_bind, run_underlying hd, Result.andThen_ok, Sem.run_pure, qak k1 k2, Nat.zero_mul, Nat.sub_zero]
        rw [if_neg (by omega)]
        simp [Addr.add]
       ·exact (j3 i y hy).len
       ·have hj' : us[i * S.size + j]? = some v := by
         have hlt := (List.getElem?_eq_some_iff.1 hj).1
         unfold BE.seg at hj hlt
         simp only [List.length_take] at hlt
         rw [List.getElem?_take_of_lt (by omega), List.getElem?_drop] at hj
         exact hj
        have := hr _ v hj'
        rw [← Nat.add_assoc] at this
        exact this
      ·cases he
     ·cases he
    ·cases he
   ·cases he
  ·cases he
 ·cases he
set_option maxHeartbeats 2000000 in
theorem valsOf_rel : ∀ {cs : List AV} {us vs : List Value}, valsOf cs = some us → VRs w Z γ cs vs → us = vs
 | [], us, [], h, _ => by injection h with h; exact h.symm
 | [], us, _ :: _, h, hr => by simp [VRs] at hr
 | a :: l, us, [], h, hr => by simp [VRs] at hr
 | a :: l, us, v :: vs, h, hr => by
  unfold valsOf at h
  split at h
  ·cases ‹_ :: _ = []›
  ·rename_i u l' heq
   injection heq with e1 e2
   subst e1; subst e2
   split at h
   ·rename_i us' hus
    injection h with h
    subst h
    have h1 := hr.head.val_inv
    have h2 := valsOf_rel hus hr.tail
    rw [h1, h2]
   ·cases h
  ·cases h
theorem okV1_of {u : Value} (h : okV u) : okV1 u := by cases u <;> first | exact h | trivial
theorem valsOf_ok : ∀ {cs : List AV} {us vs : List Value}, valsOf cs = some us → VRs w Z γ cs vs → ∀ (j : Nat) u, vs[j]? = some u → okV1 u
 | [], us, [], h, _, j, u, hj => by simp at hj
 | [], us, _ :: _, h, hr, _, _, _ => by simp [VRs] at hr
 | a :: l, us, [], h, hr, _, _, _ => by simp [VRs] at hr
 | a :: l, us, v :: vs, h, hr, j, u, hj => by
  unfold valsOf at h
  split at h
  ·cases ‹_ :: _ = []›
  ·rename_i u' l' heq
   injection heq with e1 e2
   subst e1; subst e2
   split at h
   ·rename_i us' hus
    cases j with
    | zero =>
     simp at hj
     subst hj
     have h0 := hr.head
     have h1 := h0.val_inv
     rw [h1]
     exact okV1_of h0.val_ok
    | succ j => exact valsOf_ok hus hr.tail j u (by simpa using hj)
   ·cases h
  ·cases h
theorem aiface_sound (hT : TyOK P E.ty) {t : TypeId} (he : aiface E t A = some a) (hA : VR w Z γ A V) : ∃ v, (Instr.makeInterface t V).run P w = .ok v w ∧ VR w Z γ a v := by
 unfold aiface at he
 split at he
 ·rename_i fs sz bs zz shp hi
  split at he
  ·rename_i cs hcs
   split at he
   ·rename_i us hus
    injection he with he
    subst he
    have hx := hA.expand
    rw [hcs] at hx
    obtain ⟨arr, rfl, hv⟩ := hx.agg_inv'
    have := valsOf_rel hus hv
    subst this
    obtain ⟨d, hd, hk⟩ := (hT t _ hi).desc
    obtain ⟨gs, hgs, _⟩ : ∃ gs, d = .struct gs ∧ True := by
     obtain ⟨gs, h1, _⟩ := hk
     exact ⟨gs, h1, trivial⟩
    subst hgs
    have hall : okV (.iface t (.agg arr)) := fun u hu => by
     obtain ⟨j, hj⟩ := List.mem_iff_getElem?.1 hu
     exact valsOf_ok hus hv j u hj
    refine ⟨.iface t (.agg arr), ?_, by simpa using VR.cr (.val (.iface t (.agg arr)) hall)⟩
    simp only [Instr.makeInterface, Sem.run_bind, run_underlying hd, Result.andThen_ok, Sem.run_pure]
   ·cases he
  ·cases he
 ·cases he
set_option maxHeartbeats 1600000 in
theorem aop1_sound (hT : TyOK E.P E.ty) (hm : MemR w0 K w Z own γ h used) (hid : ¬ used id) (hu : ∀ s, used s → used' s) (hid' : used' id) {si : Nat} {ρa : Operand → AV} {ρ : Operand → Value} (hρ : ∀ x, VR w Z γ (ρa x) (ρ x)) (o : Oper) : OutOK E w0 K w Z γ h used used' ρ o (aop1 E h id si ρa o.op) := by
 unfold aop1
 split
 ·rename_i x ho
  exact fun _ => ⟨ρ x, by simp only [execOp, ho, Sem.run_pure], hρ x⟩
 ·rename_i x ho
  exact fun _ => ⟨ρ x, by simp only [execOp, ho, Sem.run_pure], hρ x⟩
 ·trivial
 ·rename_i t ho
  split
  ·rename_i i hi
   split
   ·refine WOK.formed (adata_form _ _ _ _ _) (m := Instr.alloc t true (.tuple #[])) (by simp only [execOp, ho]) fun C a ws sk he hC => ?_
    obtain ⟨arr, e1, e2⟩ := alloc_sound (w := w) (Z := Z) (γ := γ) hT hi
    exact adata_sound hT hm hid hu hid' hi he hC e2 e1
   ·exact fun _ => WOK.out (m := Instr.alloc t true (.tuple #[])) (by simp only [execOp, ho]) (alloc_ok hT hm hid hu hid' hi)
  ·trivial
 ·rename_i t x ho
  split
  ·rename_i i hi
   split
   ·refine WOK.formed (adata_form _ _ _ _ _) (m := Instr.box t (ρ x)) (by simp only [execOp, ho]) fun C a ws sk he hC => ?_
    have hall : (ρa x).cells.all AV.one = true := by
     unfold adata at he
     split at he
     ·split at he
      ·rename_i hcond
       exact hcond.2.2.2
      ·cases he
     ·cases he
    obtain ⟨e1, e2⟩ := box_sound (P := E.P) (t := t) (hρ x) hall
    exact adata_sound hT hm hid hu hid' hi he hC e2 e1
   ·exact WOK.formed (abox_form _ _ _) (m := Instr.box t (ρ x)) (by simp only [execOp, ho]) fun C a ws sk he _ => abox_sound hm hid hu hid' he (hρ x)
  ·trivial
 ·rename_i t ps ho
  refine oV_ok fun a he => ?_
  obtain ⟨v, e1, e2⟩ := abuild_sound hT (parts hρ ps) he
  exact ⟨v, by simp only [execOp, ho, Sem.run_bind, e1, Result.andThen_ok, Sem.run_pure], e2⟩
 ·rename_i t len ps ho
  split
  ·exact WOK.formed (abuildCells_form _ _ _ _ _) (m := Instr.buildSlice t len (ps.map fun (i, x) => (i, ρ x))) (by simp only [execOp, ho]) fun C a ws sk he hC => abuildCells_sound (ps := ps.toList.map fun (i, x) => (i, ρa x)) (vps := ps.map fun (i, x) => (i, ρ x)) hT hm hid hu hid' (parts hρ ps) he hC
  exact WOK.formed (abuildSlice_form _ _ _ _ _ _ _) (m := Instr.buildSlice t len (ps.map fun (i, x) => (i, ρ x))) (by simp only [execOp, ho]) fun C a ws sk he hC => abuildSlice_sound (ps := ps.toList.map fun (i, x) => (i, ρa x)) (vps := ps.map fun (i, x) => (i, ρ x)) hT hm hid hu hid' (parts hρ ps) he hC
 ·rename_i t len cap ho
  split
  ·rename_i n m hn hm'
   obtain ⟨k1, e1⟩ := asI_inv (hρ len) hn
   obtain ⟨k2, e2⟩ := asI_inv (hρ cap) hm'
   exact WOK.formed (amakeSlice_form _ _ _ _ _ _) (m := Instr.makeSlice t (.int k1 n) (.int k2 m)) (by simp only [execOp, ho, e1, e2]) fun C a ws sk he hC => amakeSlice_sound hT hm hid hu hid' he hC
  ·trivial
 ·rename_i t x ho
  refine oC_ok fun C a he hC => ?_
  obtain ⟨v, e1, e2⟩ := aload_sound hT hm he hC (hρ x)
  exact ⟨v, by simp only [execOp, ho, Sem.run_bind, e1, Result.andThen_ok, Sem.run_pure], e2⟩
 ·rename_i t x y ho
  rcases astore_form E h id t (ρa y) (ρa x) with ⟨C, a, ws, sk, he⟩ | he
  ·rw [he]
   intro hC
   obtain ⟨rfl, rfl, w', Z', own', γ', e1, e2, e3, e4⟩ := astore_sound hT hm hid hu hid' he hC (hρ y) (hρ x)
   exact ⟨.skip, undef, w', Z', own', γ', by simp only [execOp, ho, Sem.run_bind, e1, Result.andThen_ok, Sem.run_pure], by rw [if_pos rfl]; exact ⟨rfl, rfl⟩, e2, e3, e4, .cr (.val _ trivial)⟩
  ·rw [he]
   trivial
 ·rename_i x ho
  have hx := hρ x
  split
  ·rename_i r off hr
   rw [hr] at hx
   intro _
   obtain ⟨b, hb, hv⟩ := hx.ref_inv
   exact ⟨.pointer (some ⟨b, off, none⟩), by simp only [execOp, ho, hv, Sem.run_pure], .ref _ _ _ hb⟩
  ·rename_i cs off hr
   rw [hr] at hx
   intro _
   obtain ⟨b, off', hv, hb⟩ := hx.rop_inv
   exact ⟨.pointer (some ⟨b, off' + off, none⟩), by simp only [execOp, ho, hv, Sem.run_pure], hb off⟩
  ·rename_i S y hr
   rw [hr] at hx
   intro _
   obtain ⟨b, o', us, hv, h1, h2, h3⟩ := hx.rtp_inv
   exact ⟨.pointer (some ⟨b, o', none⟩), by simp only [execOp, ho, hv, Sem.run_pure], .cr (.rtp _ _ _ _ _ h1 h2 h3)⟩
  ·rename_i r s p i st hr
   rw [hr] at hx
   intro _
   obtain ⟨hd, b, o', so, T, h1, h2, h3, h4, hv⟩ := hx.tref_inv
   exact ⟨_, by simp only [execOp, ho, hv, Sem.run_pure], .tref _ _ _ _ _ hd b o' so T h1 h2 h3 h4⟩
  ·rename_i r s p hr
   rw [hr] at hx
   split
   ·rename_i N hN
    intro hC
    obtain ⟨hC1, hC2, _⟩ := AllP.append.1 hC
    cases hx with
    | cr h => cases h
    | optr _ _ _ _ hd0 q1 q2 q3 =>
     obtain ⟨z1, z2, z3, z4, z5, z6⟩ := hm.hdA hN hC1 q1
     unfold HVal at q3
     rw [if_pos q2] at q3
     rcases q3 with ⟨k1, _⟩ | ⟨b, o', k1, k2, hv⟩
     ·omega
     ·refine ⟨.pointer (some ⟨b, o', none⟩), by simp only [execOp, ho, hv, Sem.run_pure], ?_⟩
      have := VR.tref (w := w) (Z := Z) r s p 0 [] hd0 b o' 0 hd0.S q1 (by omega) k1 (by cases hd0.S <;> rfl)
      simpa using this
   ·trivial
  ·rename_i S z hr
   rw [hr] at hx
   intro hC
   obtain ⟨hz, _⟩ := hC
   rcases (hx.toCR rfl).ptr_inv with ⟨rfl, _⟩ | ⟨y, b, o', us, rfl, hv, h1, h2, h3, h4⟩
   ·cases hz
   ·exact ⟨.pointer (some ⟨b, o', none⟩), by simp only [execOp, ho, hv, Sem.run_pure], .cr (.rtp _ _ _ _ us h1 h3 h4)⟩
  ·trivial
 ·rename_i op t x y yt ho
  split
  ·rename_i p hp
   obtain ⟨b, e1, e2⟩ := anil_sound (xo := x) (yo := y) hT hp (hρ x) (hρ y)
   exact ⟨b, e1, by simp only [execOp, ho]; rw [Sem.run_bind, e2]; rfl⟩
  ·split
   ·rename_i C a hp
    intro hC
    obtain ⟨v, e1, e2⟩ := aptr_sound (xo := x) (yo := y) hT hm hp hC (hρ x) (hρ y)
    exact ⟨v, by simp only [execOp, ho]; rw [Sem.run_bind, e1]; rfl, e2⟩
   refine oC_ok fun C a he hC => ?_
   obtain ⟨v, e1, e2⟩ := abin_sound (xo := x) (yo := y) hT he hC (hρ x) (hρ y)
   exact ⟨v, by simp only [execOp, ho]; rw [Sem.run_bind, e1]; rfl, e2⟩
 ·rename_i op t x ho
  refine oC_ok fun C a he hC => ?_
  obtain ⟨v, e1, e2⟩ := aun_sound (P := E.P) he (hρ x)
  exact ⟨v, by simp only [execOp, ho, Sem.run_bind, e1, Result.andThen_ok, Sem.run_pure], e2⟩
 ·rename_i s d x ho
  refine oC_ok fun C a he hC => ?_
  obtain ⟨v, e1, e2⟩ := aconv_sound hT he (hρ x)
  exact ⟨v, by simp only [execOp, ho, Sem.run_bind, e1, Result.andThen_ok, Sem.run_pure], e2⟩
 ·rename_i f first caps ho
  split
  ·rename_i hf
   have hf' : first = #[] := by simpa [Array.isEmpty] using hf
   subst hf'
   intro _
   have hc := maps hρ caps.toList
   refine ⟨.func (.func f) #[] (caps.map ρ), by simp [execOp, ho, Instr.makeFunc], .fn _ _ _ (by simp) (fun j x y hx hy => hc.2 j x y hx ?_)⟩
   rw [← Array.getElem?_toList] at hy
   simpa using hy
  ·trivial
 ·rename_i s x f ho
  refine oC_ok fun C a he hC => ?_
  obtain ⟨v, e1, e2⟩ := afieldAddr_sound hT hm he hC (hρ x)
  exact ⟨v, by simp only [execOp, ho, Sem.run_bind, e1, Result.andThen_ok, Sem.run_pure], e2⟩
 ·rename_i t x f ho
  refine oV_ok fun a he => ?_
  obtain ⟨v, e1, e2⟩ := afield_sound hT he (hρ x)
  exact ⟨v, by simp only [execOp, ho, Sem.run_bind, e1, Result.andThen_ok, Sem.run_pure], e2⟩
 ·rename_i t x i ho
  split
  ·rename_i n hn
   obtain ⟨k, hk⟩ := asI_inv (hρ i) hn
   refine oC_ok fun C a he hC => ?_
   obtain ⟨v, e1, e2⟩ := aindexAddr_sound (k := k) hT hm he hC (hρ x)
   exact ⟨v, by simp only [execOp, ho, hk, Sem.run_bind, e1, Result.andThen_ok, Sem.run_pure], e2⟩
  ·trivial
 ·rename_i t x i ho
  split
  ·rename_i n hn
   obtain ⟨k, hk⟩ := asI_inv (hρ i) hn
   refine oC_ok fun C a he hC => ?_
   obtain ⟨v, e1, e2⟩ := aindex_sound (k := k) hT he hC (hρ x)
   exact ⟨v, by simp only [execOp, ho, hk, Sem.run_bind, e1, Result.andThen_ok, Sem.run_pure], e2⟩
  ·trivial
 ·rename_i t x lo hi mx ho
  split
  ·rename_i lo' hi' mx' h1 h2 h3
   have hnone : ∀ {y : Option Operand} {i : Option Int}, optI ρa y = some i → i.isNone = true → y = none := fun {y i} hy hi => by
    cases y with
    | none => rfl
    | some y =>
     simp only [optI, Option.map_eq_some_iff] at hy
     obtain ⟨_, _, rfl⟩ := hy
     cases hi
   split
   ·rename_i C a ws hb hs
    simp only [Bool.and_eq_true] at hb
    have g1 := hnone h1 hb.1.1
    have g2 := hnone h2 hb.1.2
    have g3 := hnone h3 hb.2
    subst g1; subst g2; subst g3
    refine WOK.formed IsW.w (m := Instr.sliceAt t (ρ x) none none none) (by simp only [execOp, ho, Option.map_none]) fun C' a' ws' sk he hC => ?_
    injection he with q1 q2 q3 q4
    subst q1; subst q2; subst q3; subst q4
    exact ⟨rfl, asliceArr_sound hT hm hu hs hC (hρ x)⟩
   ·refine oC_ok fun C a he hC => ?_
    obtain ⟨v, e1, e2⟩ := aslice_sound hT hm (optI_rel hρ h1) (optI_rel hρ h2) (optI_rel hρ h3) he hC (hρ x)
    exact ⟨v, by simp only [execOp, ho, Sem.run_bind, e1, Result.andThen_ok, Sem.run_pure], e2⟩
  ·trivial
 ·rename_i t i ho
  refine oV_ok fun a he => ?_
  obtain ⟨v, e1, e2⟩ := aextract_sound (P := E.P) he (hρ t)
  exact ⟨v, by simp only [execOp, ho, Sem.run_bind, e1, Result.andThen_ok, Sem.run_pure], e2⟩
 ·rename_i t x ho
  split
  ·rename_i i s hi hs
   have hx := hρ x
   rw [hs] at hx
   have hv := hx.val_inv
   have hok : okV (.string s) := hx.val_ok
   obtain ⟨d, hd, hk⟩ := (hT t _ hi).desc
   have hk : d = .string := hk
   subst hk
   obtain ⟨own', γ', g1, g2, g3, g4⟩ := hm.newObj hid hu hid' (x := .iter s 0) (o := .stringIter s 0) ⟨rfl, hok⟩
   refine fun _ => WOK.out (m := Instr.range t (ρ x)) (by simp only [execOp, ho]) ⟨.pointer (some ⟨w.heap.size, 0, none⟩), w.alloc (.stringIter s 0), Z, own', γ', ?_, g1, g2, g3, .ref _ _ _ g4⟩
   rw [hv]
   simp [Instr.range, run_underlying hd]
  ·trivial
 ·rename_i t x ho
  refine oV_ok fun a he => ?_
  obtain ⟨v, e1, e2⟩ := aiface_sound (P := E.P) hT he (hρ x)
  exact ⟨v, by simp only [execOp, ho, Sem.run_bind, e1, Result.andThen_ok, Sem.run_pure], e2⟩
 ·rename_i f args ats ho
  split
  ·rename_i g caps hg
   have hf := hρ f
   rw [hg] at hf
   obtain ⟨us, hv, hc⟩ := hf.fn_inv
   refine ⟨(args.toList.map ρ) ++ us.toList, ?_, (maps hρ args.toList).append hc⟩
   simp only [execOp, ho, resolve, hv, Deferred.ofValue, Sem.run_bind, Sem.run_pure, Result.andThen_ok, invoke]
   congr 2
   apply Array.ext'
   simp
  ·trivial
 ·rename_i args ats ho
  split
  ·rename_i t x ht hx
   refine oC_ok fun C a he hC => ?_
   obtain ⟨v, e1, e2⟩ := alen_sound (rt := o.type) (ats := ats) (args := args.map ρ) hT hm ht (by rw [Array.getElem?_map, hx]; rfl) he hC (hρ x)
   exact ⟨v, by simp only [execOp, ho, resolve, invoke, builtin, Sem.run_bind, Sem.run_pure, Result.andThen_ok, e1], e2⟩
  ·trivial
 ·rename_i args ats ho
  split
  ·rename_i t u x y ht hu2 hxy
   split
   ·rename_i htu
    subst htu
    have hargs : args = #[x, y] := by apply Array.ext'; simpa using hxy
    refine WOK.formed (aappend_form _ _ _ _ _ _ _) (m := Builtin.append_ #[t, t] o.type #[ρ x, ρ y]) ?_ fun C a ws sk he hC => aappend_sound hT hm hid hu hid' he hC (hρ x) (hρ y)
    rw [← append_congr ht hu2]
    simp only [execOp, ho, resolve, invoke, builtin, hargs, pure_bind, List.map_toArray, List.map_cons, List.map_nil]
   ·trivial
  ·trivial
 ·rename_i args ats ho
  split
  ·rename_i x r hx
   refine oV_ok fun a he => ?_
   obtain ⟨v, e1, e2⟩ := amax_sound (P := E.P) he (hρ x) (maps hρ r)
   exact ⟨v, by simp only [execOp, ho, resolve, invoke, builtin, Builtin.max_, Sem.run_bind, Sem.run_pure, Result.andThen_ok, Array.toList_map, hx, List.map_cons, e1], e2⟩
  ·trivial
 ·rename_i args ats ho
  split
  ·rename_i x r hx
   refine oV_ok fun a he => ?_
   obtain ⟨v, e1, e2⟩ := amin_sound (P := E.P) he (hρ x) (maps hρ r)
   exact ⟨v, by simp only [execOp, ho, resolve, invoke, builtin, Builtin.min_, Sem.run_bind, Sem.run_pure, Result.andThen_ok, Array.toList_map, hx, List.map_cons, e1], e2⟩
  ·trivial
 ·trivial
end
end Go.BE
namespace Go.BE
def Pin.root : Pin → Option Nat
 | .b r _ => some r
 | .g r _ _ => some r
 | .dead => none
mutual
/-- the roots that a value leads to, but those that are read-only -/
def AV.live (h : Heap) : AV → List Nat
 | .agg cs => liveL h cs
 | .tup cs => liveL h cs
 | .fn _ cs => liveL h cs
 | .ref r _ => [r]
 | .tref r .. => [r]
 | .osl r .. => match hget h r with | some R => if R.fz then [] else [r] | none => []
 | .optr r .. => [r]
 | .csl r .. => [r]
 | .yld r => [r]
 | _ => []
def liveL (h : Heap) : List AV → List Nat
 | [] => []
 | a :: l => a.live h ++ liveL h l
end
def AFr.liveX (F : AFr) : List Nat := (match F.rng with | some g => [g.r] | none => []) ++ ((match F.rnd with | some (some r, _) => [r] | _ => []) ++ F.marks.filterMap (·.1))
def liveF (h : Heap) : List AFr → List Nat
 | [] => []
 | F :: Fs => liveL h F.fr ++ (F.liveX ++ liveF h Fs)
def liveC (h : Heap) : Cont → List Nat
 | .cells cs => liveL h cs
 | .pins l => l.filterMap Pin.root
 | _ => []
def pinned : Heap → List Nat
 | [] => []
 | (r, R) :: h => match R.cont with | .pins _ => r :: pinned h | _ => pinned h
def closeR (h : Heap) : Nat → List Nat → List Nat → List Nat
 | 0, _, done => done
 | _ + 1, [], done => done
 | n + 1, r :: l, done => if done.contains r then closeR h n l done else match hget h r with
  | some R => if R.pend.isSome then closeR h n l done else closeR h n (l ++ liveC h R.cont) (done ++ [r])
  | none => closeR h n l done
def pinnedIn : Heap → List Nat
 | [] => []
 | (_, R) :: h => match R.cont with | .pins l => l.filterMap Pin.root ++ pinnedIn h | _ => pinnedIn h
def keepR (h : Heap) (l : List Nat) : List Nat := closeR h 100 (pinned h ++ (pinnedIn h ++ l)) []
def number : List Nat → Nat → List (Nat × Nat)
 | [], _ => []
 | r :: l, i => (r, i) :: number l (i + 1)
def alook : List (Nat × Nat) → Nat → Option Nat
 | [], _ => none
 | (k, r) :: l, t => if k = t then some r else alook l t
def renO (h : Heap) (f : Nat → Option Nat) (r s : Nat) (p : Pth) : Option Nat := match f r, hget h r with
 | some r', some R => if R.valid s p.length then some r' else none
 | _, _ => none
def renH (h : Heap) (f : Nat → Option Nat) : AV → AV
 | .osl r s p w => match renO h f r s p with | some r' => .osl r' r' p w | none => .bad
 | a => a
mutual
def AV.ren (h : Heap) (f : Nat → Option Nat) : AV → AV
 | .agg cs => .agg (renL h f cs)
 | .tup cs => .tup (renL h f cs)
 | .fn g cs => .fn g (renL h f cs)
 | .ref r o => match f r with | some r' => .ref r' o | none => .bad
 | .tref r s p i st => match renO h f r s p with | some r' => .tref r' r' p i st | none => .bad
 | .osl r s p w => renH h f (norm h (.osl r s p w))
 | .optr r s p => match renO h f r s p with | some r' => .optr r' r' p | none => .bad
 | .csl r o n => match f r with | some r' => .csl r' o n | none => .bad
 | .yld r => match f r with | some r' => .yld r' | none => .bad
 | a => a
def renL (h : Heap) (f : Nat → Option Nat) : List AV → List AV
 | [] => []
 | a :: l => a.ren h f :: renL h f l
end
def keepT (keep : List Nat) : List AV → Nat → List AV
 | [], _ => []
 | a :: l, i => (if keep.contains i then a else .bad) :: keepT keep l (i + 1)
def Pin.ren (h : Heap) (f : Nat → Option Nat) : Pin → Pin
 | .b r v => match f r with | some r' => .b r' v | none => .dead
 | .g r s hd => match renO h f r s [] with | some r' => .g r' r' hd | none => .dead
 | .dead => .dead
def Cont.ren (h : Heap) (f : Nat → Option Nat) : Cont → Cont
 | .cells cs => .cells (renL h f cs)
 | .pins l => .pins (l.map (Pin.ren h f))
 | c => c
def keepH (h : Heap) (f : Nat → Option Nat) : List (Nat × Nat) → Heap
 | [] => []
 | (r, r') :: l => match hget h r with
  | some R => if R.pend.isSome || R.fz then keepH h f l else (r', { cont := R.cont.ren h f, cur := r', old := [], fz := false, pend := none }) :: keepH h f l
  | none => keepH h f l
def AFr.renX (f : Nat → Option Nat) (F : AFr) : AFr := { F with
 rng := match F.rng with | some g => (match f g.r with | some r => some { g with r := r } | none => none) | none => none
 rnd := match F.rnd with | some (some r, R) => some (f r, R) | x => x
 marks := F.marks.map fun x => (x.1.bind f, x.2) }
def renF (h : Heap) (f : Nat → Option Nat) : List AFr → List AFr
 | [] => []
 | F :: Fs => { F.renX f with fr := renL h f F.fr } :: renF h f Fs
def keepF : List (List Nat) → List AFr → List AFr
 | k :: ks, F :: Fs => { F with fr := keepT k F.fr 0 } :: keepF ks Fs
 | _, Fs => Fs
def qdc (nx : Nat) : List (Nat × Nat) → Bool
 | [] => true
 | (r, r') :: l => decide (r' < nx) && l.all (fun x => x.1 != r && x.2 != r') && qdc nx l
def Cfg.cut (roots : List (Nat × Nat)) (keep : List Nat) (kc : List (List Nat)) (nx : Nat) (c : Cfg) : Cfg :=
 { cur := { c.cur.renX (alook roots) with fr := renL c.h (alook roots) (keepT keep c.cur.fr 0) }, callers := renF c.h (alook roots) (keepF kc c.callers), h := keepH c.h (alook roots) roots, nx := nx }
def maskH (h : Heap) : List Nat → Heap
 | [] => []
 | r :: rs => match hget h r with | some R => (r, R) :: maskH h rs | none => maskH h rs
mutual
/-- leads to roots alone -/
def AV.thin : AV → Bool
 | .agg cs => thinL cs
 | .tup cs => thinL cs
 | .fn _ cs => thinL cs
 | .tv S _ => S.flat
 | .rtp .. | .rop .. => false
 | _ => true
def thinL : List AV → Bool
 | [] => true
 | a :: l => a.thin && thinL l
end
def Sh.owned : Nat → Sh → Bool
 | m, .pair a b => a.owned m && b.owned m
 | m, .arr _ a => a.owned m
 | m + 1, .sl _ a => a.owned m
 | m + 1, .ptr a => a.owned m
 | 0, .sl .. => false
 | 0, .ptr _ => false
 | _, _ => true
def Cont.thin : Cont → Bool
 | .cells cs => thinL cs
 | .arr m _ S _ => S.owned m
 | .obj _ => true
 | .pins _ => false
def thinW : List (Nat × Option Root) → Bool
 | [] => true
 | (_, some R) :: l => R.cont.thin && !R.fz && R.pend.isNone && thinW l
 | (_, none) :: l => thinW l
end Go.BE
namespace Go.BE
open Go.RowKit
def upW : List (Nat × Option Root) → (Nat → Option Root) → Nat → Option Root
 | [], g => g
 | (k, R) :: ws, g => upW ws fun x => if x = k then R else g x
theorem qbx : ∀ (ws : List (Nat × Option Root)) (h : Heap), hget (qaj h ws) = upW ws (hget h)
 | [], h => rfl
 | (k, some R) :: ws, h => by
  rw [qaj, qbx ws, upW]
  congr 1
  funext x
  exact qbl h k x R
 | (k, none) :: ws, h => by
  rw [qaj, qbx ws, upW]
  congr 1
  funext x
  exact hget_hdel h k x
theorem upW_not {x : Nat} : ∀ {ws : List (Nat × Option Root)} {g : Nat → Option Root}, x ∉ ws.map (·.1) → upW ws g x = g x
 | [], g, _ => rfl
 | (k, R) :: ws, g, h => by
  simp only [List.map_cons, List.mem_cons, not_or] at h
  rw [upW, upW_not h.2, if_neg h.1]
theorem upW_in {x : Nat} : ∀ {ws : List (Nat × Option Root)} {g g' : Nat → Option Root}, (x ∈ ws.map (·.1) ∨ g x = g' x) → upW ws g x = upW ws g' x
 | [], g, g', h => by
  rcases h with h | h
  ·cases h
  ·exact h
 | (k, R) :: ws, g, g', h => by
  rw [upW, upW]
  by_cases hk : x = k
  ·exact upW_in (.inr (by simp [hk]))
  ·refine upW_in ?_
   rcases h with h | h
   ·simp only [List.map_cons, List.mem_cons] at h
    exact .inl (h.resolve_left hk)
   ·exact .inr (by simp [hk, h])
section
variable {w w' w0 : World} {Z Z' Z1 Z2 : Nat → Prop} {K : Kp} {own own' own1 own5 : Own} {γ γ' : Gst} {h h1 : Heap} {used used' : Nat → Prop} {r : Nat} {R : Root} {a : AV} {v : Value} {cs : List AV} {vs : List Value}
theorem FR.plain : ∀ {S : Sh} {x : Den S} {us : List Value}, S.flat = true → FR w Z S x us → FR w' Z' S x us := by
 intro S
 induction S with
 | int k => intro x us _ h; exact h
 | bool => intro x us _ h; exact h
 | str => intro x us _ h; exact h
 | unit => intro x us _ h; exact h
 | pair a b iha ihb =>
  intro x us hf ⟨u1, u2, h1, h2, h3⟩
  simp only [Sh.flat, Bool.and_eq_true] at hf
  exact ⟨u1, u2, h1, iha hf.1 h2, ihb hf.2 h3⟩
 | arr n a ih => intro x us hf h; exact FRV.imp (f := FR w Z a) (fun _ _ h => ih hf h) h
 | sl => intro x us hf; cases hf
 | ptr => intro x us hf; cases hf
theorem thinL_at : ∀ {l : List AV}, thinL l = true → ∀ (j : Nat) (a : AV), l[j]? = some a → a.thin = true
 | [], _, j, a, ha => by simp at ha
 | x :: l, h, j, a, ha => by
  simp only [thinL, Bool.and_eq_true] at h
  cases j with
  | zero => simp at ha; subst ha; exact h.1
  | succ j => exact thinL_at h.2 j a (by simpa using ha)
theorem CR.thin (h : CR w Z a v) : a.thin = true → CR w' Z' a v := by
 induction h with
 | val v h => exact fun _ => .val v h
 | tva S x vs hS h => exact fun ht => .tva S x vs hS (FR.plain (by simpa [AV.thin] using ht) h)
 | tv1 S x v hS h => exact fun ht => .tv1 S x v hS (FR.plain (by simpa [AV.thin] using ht) h)
 | rtp S x b o us hz hr h => intro ht; simp [AV.thin] at ht
 | rop cs off b o u hz hc hr ih => intro ht; simp [AV.thin] at ht
 | agg cs vs hl hrel ih => exact fun ht => .agg cs vs hl fun j a v ha hv => ih j a v ha hv (thinL_at (by simpa [AV.thin] using ht) j a ha)
 | tup cs vs hl hrel ih => exact fun ht => .tup cs vs hl fun j a v ha hv => ih j a v ha hv (thinL_at (by simpa [AV.thin] using ht) j a ha)
 | fn f cs vs hl hrel ih => exact fun ht => .fn f cs vs hl fun j a v ha hv => ih j a v ha hv (thinL_at (by simpa [AV.thin] using ht) j a ha)
theorem VR.thin (h : VR w Z γ a v) : a.thin = true → VR w' Z' γ a v := by
 induction h with
 | bad v => exact fun _ => .bad v
 | cr h => exact fun ht => .cr (h.thin ht)
 | ref r off b h => exact fun _ => .ref r off b h
 | tref r s p i st hd b o so T h hi hb hst => exact fun _ => .tref r s p i st hd b o so T h hi hb hst
 | osl r s p win v hd h hv => exact fun _ => .osl r s p win v hd h hv
 | optr r s p v hd h hp hv => exact fun _ => .optr r s p v hd h hp hv
 | csl r off n b c h hc hr => exact fun _ => .csl r off n b c h hc hr
 | yld r l h => exact fun _ => .yld r l h
 | agg cs vs hl hrel ih => exact fun ht => .agg cs vs hl fun j a v ha hv => ih j a v ha hv (thinL_at (by simpa [AV.thin] using ht) j a ha)
 | tup cs vs hl hrel ih => exact fun ht => .tup cs vs hl fun j a v ha hv => ih j a v ha hv (thinL_at (by simpa [AV.thin] using ht) j a ha)
 | fn f cs vs hl hrel ih => exact fun ht => .fn f cs vs hl fun j a v ha hv => ih j a v ha hv (thinL_at (by simpa [AV.thin] using ht) j a ha)
theorem ORV.imp' {α : Type} {f f' : α → List St → List Value → Prop} {st : List St} (h : ∀ x s vs, f x s vs → f' x s vs) : ∀ {n k : Nat} {x : DenV α n} {vs : List Value}, ORV f st n k x vs → ORV f' st n k x vs
 | 0, _, _, _, hv => hv
 | _ + 1, _, _, _, ⟨us, ws, h1, h2, h3⟩ => ⟨us, ws, h1, h _ _ _ h2, ORV.imp' h h3⟩
theorem OR.thin {M : Rows} {g : Pth → Option Hd} (hb : ∀ b q, own b = some (r, q) → own' b = some (r, q)) : ∀ {S : Sh} {m : Nat} {x : Den S} {p : Pth} {i : Nat} {st : List St} {vs : List Value}, S.owned m = true → OR w Z M own r g S m x p i st vs → OR w Z' M own' r g S m x p i st vs := by
 intro S
 induction S with
 | int k => intro m x p i st vs _ h; exact h
 | bool => intro m x p i st vs _ h; exact h
 | str => intro m x p i st vs _ h; exact h
 | unit => intro m x p i st vs _ h; exact h
 | pair a b iha ihb =>
  intro m x p i st vs hm ⟨us, ws, h1, h2, h3⟩
  have hm : (a.owned m && b.owned m) = true := by cases m <;> exact hm
  simp only [Bool.and_eq_true] at hm
  exact ⟨us, ws, h1, iha hm.1 h2, ihb hm.2 h3⟩
 | arr n a ih =>
  intro m x p i st vs hm h
  have hm : a.owned m = true := by cases m <;> exact hm
  exact ORV.imp' (f' := fun y st us => OR w Z' M own' r g a m y p i st us) (fun _ _ _ h => ih hm h) h
 | sl by_ a ih =>
  intro m x p i st vs hm h
  cases m with
  | zero => cases hm
  | succ m =>
   obtain ⟨v, hd, h1, h2, h3, h4, h5, h6, h7, h8, h9, h10⟩ := h
   refine ⟨v, hd, h1, h2, h3, h4, h5, h6, h7, h8, h9, fun hc => ?_⟩
   obtain ⟨b, o, row, e1, e2, e3, e4, e5⟩ := h10 hc
   exact ⟨b, o, row, e1, hb _ _ e2, e3, e4, fun j hj => by
    obtain ⟨y, hy, hor⟩ := e5 j hj
    exact ⟨y, hy, ih hm hor⟩⟩
 | ptr a ih =>
  intro m x p i st vs hm h
  cases m with
  | zero => cases hm
  | succ m =>
   obtain ⟨v, hd, h1, h2, h3, h4, h5, h6, h8, h9, h10⟩ := h
   refine ⟨v, hd, h1, h2, h3, h4, h5, h6, h8, h9, fun hc => ?_⟩
   obtain ⟨b, o, row, e1, e2, e3, e4, e5⟩ := h10 hc
   exact ⟨b, o, row, e1, hb _ _ e2, e3, e4, fun j hj => by
    obtain ⟨y, hy, hor⟩ := e5 j hj
    exact ⟨y, hy, ih hm hor⟩⟩
theorem RootR.thin (hb : ∀ b q, own b = some (r, q) → own' b = some (r, q)) (ht : R.cont.thin = true) (hf : R.fz = false) (hp : R.pend = none) (h : RootR w Z own γ r R) : RootR w Z' own' γ r R := by
 refine ⟨h.old, ?_⟩
 have hc := h.cont
 unfold ContR at hc ⊢
 split
 ·rename_i cs hcs
  simp only [hcs] at hc
  rw [hcs] at ht
  obtain ⟨e1, e2, b, arr, e, k1, k2, k3, k4⟩ := hc
  exact ⟨e1, e2, b, arr, e, k1, hb _ _ k2, k3, k4.1, fun j a v ha hv => (k4.2 j a v ha hv).thin (thinL_at ht j a ha)⟩
 ·rename_i x hcs
  simp only [hcs] at hc
  obtain ⟨e1, e2, b, o, k1, k2, k3, k4⟩ := hc
  exact ⟨e1, e2, b, o, k1, hb _ _ k2, k3, k4⟩
 ·rename_i m by_ S xs hcs
  simp only [hcs] at hc
  rw [hcs] at ht
  simp only [hf, hp, Bool.false_eq_true, if_false] at hc ⊢
  obtain ⟨c1, hd, h2, h3, h4, h5, h8, h9, h10⟩ := hc
  refine ⟨c1, hd, h2, h3, h4, h5, h8, h9, fun hc => ?_⟩
  obtain ⟨b, o, row, e1, e2, e3, e4, e5⟩ := h10 hc
  exact ⟨b, o, row, e1, hb _ _ e2, e3, e4, fun j hj => by
   obtain ⟨y, hy, hor⟩ := e5 j hj
   exact ⟨y, hy, OR.thin hb ht hor⟩⟩
 ·rename_i l hcs
  rw [hcs] at ht
  cases ht
theorem thinW_mem {x : Nat} : ∀ {ws : List (Nat × Option Root)}, thinW ws = true → (x, some R) ∈ ws → R.cont.thin = true ∧ R.fz = false ∧ R.pend = none
 | [], _, hm => by cases hm
 | (k, some Q) :: ws, h, hm => by
  simp only [thinW, Bool.and_eq_true, Bool.not_eq_true', Option.isNone_iff_eq_none] at h
  rcases List.mem_cons.1 hm with e | hm
  ·injection e with _ e
   injection e with e
   subst e
   exact ⟨h.1.1.1, h.1.1.2, h.1.2⟩
  ·exact thinW_mem h.2 hm
 | (k, none) :: ws, h, hm => by
  rcases List.mem_cons.1 hm with e | hm
  ·injection e with _ e
   cases e
  ·exact thinW_mem (ws := ws) (by simpa [thinW] using h) hm
theorem upW_mem {x : Nat} : ∀ {ws : List (Nat × Option Root)} {g : Nat → Option Root}, x ∈ ws.map (·.1) → upW ws g x = some R → (x, some R) ∈ ws
 | [], _, h, _ => by simp at h
 | (k, Q) :: ws, g, h, hu => by
  rw [upW] at hu
  by_cases hin : x ∈ ws.map (·.1)
  ·exact List.mem_cons_of_mem _ (upW_mem hin hu)
  ·rw [upW_not hin] at hu
   simp only [List.map_cons, List.mem_cons, hin, or_false] at h
   rw [if_pos h] at hu
   subst h; subst hu
   exact List.mem_cons_self
theorem MemR.thaw (hm : MemR w0 K w Z own γ h used) (hc : Closed w0 K w Z own γ h1 used Z1 own1) {ws : List (Nat × Option Root)} (hs : Stay w Z1 w' Z2) (he : Gst.Ext used γ γ') (hu : ∀ s, used s → used' s) (hsz : w.heap.size ≤ w'.heap.size)
  (h5 : MemR w0 K w' Z2 own5 γ' (qaj h1 ws) used') (hold : ∀ b o, own1 b = some o → o.1 ∉ ws.map (·.1) → own5 b = some o ∧ w'.heap[b]? = w.heap[b]?) (ht : thinW ws = true) :
  ∃ own6 Z6, Stay w Z w' Z6 ∧ MemR w0 K w' Z6 own6 γ' (qaj h ws) used' := by
 classical
 let B : Nat → Prop := fun b => (own b).isSome = true ∧ Z1 b
 let own6 : Own := fun b => if B b then own b else own5 b
 let Z6 : Nat → Prop := fun b => Z2 b ∧ ¬ B b
 have hs6 : Stay w Z w' Z6 := ⟨fun b hb => hs.heap b (hc.stay.sub b hb), fun b hb => ⟨hs.sub b (hc.stay.sub b hb), fun ⟨h1, _⟩ => by
  cases ho : own b with
  | none => rw [ho] at h1; cases h1
  | some o => exact hm.ownZ b o ho hb⟩⟩
 have hle := he.le hm.fresh
 refine ⟨own6, Z6, hs6, h5.os, h5.tape, h5.output, h5.size, h5.kept, fun b hb => h5.zin b hb.1, fun b hb => h5.zlt b hb.1, fun b o ho => ?_, fun b o ho => ?_, fun b o ho => ?_, fun x R hg => ?_, fun x R hg => ?_, h5.fresh⟩
 ·simp only [own6] at ho
  split at ho
  ·exact Nat.lt_of_lt_of_le (hm.ownlt b o ho) hsz
  ·exact h5.ownlt b o ho
 ·simp only [own6] at ho
  split at ho
  ·rename_i hB
   exact fun hz => hz.2 hB
  ·exact fun hz => h5.ownZ b o ho hz.1
 ·simp only [own6] at ho
  split at ho
  ·exact hm.ownK b o ho
  ·exact h5.ownK b o ho
 ·by_cases hin : x ∈ ws.map (·.1)
  ·have hg' : hget (qaj h1 ws) x = some R := by
    rw [qbx] at hg ⊢
    rw [upW_in (.inl hin)] at hg
    exact hg
   have hmem : (x, some R) ∈ ws := by
    rw [qbx] at hg
    exact upW_mem hin hg
   obtain ⟨t1, t2, t3⟩ := thinW_mem ht hmem
   refine RootR.thin (fun b q ho => ?_) t1 t2 t3 (h5.root x R hg')
   simp only [own6]
   rw [if_neg (fun hB => h5.ownZ b _ ho (hs.sub b hB.2))]
   exact ho
  ·rw [qbx, upW_not hin] at hg
   obtain ⟨k1, k2, k3⟩ := hm.keys x R hg
   refine RootR.frame hs6 hle he ⟨k2, k3⟩ (fun b q ho => ?_) (hm.root x R hg)
   by_cases hz : Z1 b
   ·refine ⟨?_, hs.heap b hz⟩
    simp only [own6]
    rw [if_pos ⟨by rw [ho]; rfl, hz⟩]
    exact ho
   ·have ho1 : own1 b = some (x, q) := (hc.blk b _ ho).resolve_right hz
    obtain ⟨q1, q2⟩ := hold b _ ho1 hin
    refine ⟨?_, q2⟩
    simp only [own6]
    rw [if_neg (fun hB => hz hB.2)]
    exact q1
 ·by_cases hin : x ∈ ws.map (·.1)
  ·have hg' : hget (qaj h1 ws) x = some R := by
    rw [qbx] at hg ⊢
    rw [upW_in (.inl hin)] at hg
    exact hg
   exact h5.keys x R hg'
  ·rw [qbx, upW_not hin] at hg
   obtain ⟨k1, k2, k3⟩ := hm.keys x R hg
   exact ⟨hu _ k1, hu _ k2, fun e he => hu _ (k3 e he)⟩
end
end Go.BE
namespace Go.BE
inductive Tre (α : Type) : Type where
 | ok (a : α)
 | ite (b : Bool) (t e : Tre α)
 | chk (C : Prop) (t : Tre α)
 | know (K : Prop) (t : Tre α)
 | any (p : Bool → Prop) (k : Bool → Tre α)
 | rg (k : RgL → Tre α)
 | bad
def Tre.bind {α β : Type} : Tre α → (α → Tre β) → Tre β
 | .ok a, f => f a
 | .ite b t e, f => .ite b (t.bind f) (e.bind f)
 | .chk C t, f => .chk C (t.bind f)
 | .know K t, f => .know K (t.bind f)
 | .any p k, f => .any p fun b => (k b).bind f
 | .rg k, f => .rg fun R => (k R).bind f
 | .bad, _ => .bad
def chks {α : Type} : List Prop → Tre α → Tre α
 | [], t => t
 | C :: l, t => .chk C (chks l t)
def Tre.wp {α : Type} (Q : α → Prop) : Tre α → Prop
 | .ok a => Q a
 | .ite b t e => (b = true → t.wp Q) ∧ (b = false → e.wp Q)
 | .chk C t => C ∧ (C → t.wp Q)
 | .know K t => K → t.wp Q
 | .any p k => ∀ b, p b → (k b).wp Q
 | .rg k => ∀ R, (k R).wp Q
 | .bad => False
mutual
/-- what is known of a value that occurs -/
def okAV : AV → Prop
 | .val (.int k n) => k.has n
 | .val (.string s) => s.size ≤ roomB
 | .tv S x => okD S x
 | .rtp S x => okD S x
 | .agg cs => okAVs cs
 | .tup cs => okAVs cs
 | .fn _ cs => okAVs cs
 | .rop cs _ => okAVs cs
 | _ => True
def okAVs : List AV → Prop
 | [] => True
 | a :: l => okAV a ∧ okAVs l
end
def okCont : Cont → Prop
 | .obj _ => True
 | .cells cs => okAVs cs
 | .arr _ b S xs => room b xs.length ∧ ∀ y ∈ xs, okD S y
 | .pins _ => True
def okHeap : Heap → Prop
 | [] => True
 | (_, R) :: h => okCont R.cont ∧ okHeap h

inductive Fin where
 | at_ (c : Cfg)
 | ret (v : AV) (h : Heap) (nx : Nat)
 | pan (v : AV) (h : Heap) (nx : Nat)   -- all frames are left by a panic with that value
def und : AV := .val undef
def putT (fr : List AV) : Option Tmp → AV → List AV
 | some d, a => fr.set d a
 | none, _ => fr
def opTmp : Operand → Option Nat
 | .tmp t => some t
 | _ => none
def setB (fr : List AV) (x : Option Nat) (b : Bool) : List AV := match x with | some t => fr.set t (abool b) | none => fr
def aresults (E : Ctx) (h : Heap) (fr : List AV) : List ResultVar → Option (List Prop × List AV)
 | [] => some ([], [])
 | .tmp t :: r => match aresults E h fr r with | some (C, l) => some (C, lget fr t :: l) | none => none
 | .cell a t :: r => match aload E h t (lget fr a), aresults E h fr r with
  | some (C, v), some (C', l) => some (C ++ C', v :: l)
  | _, _ => none
def retv : List AV → AV
 | [a] => a
 | l => .tup l
def enter (E : Ctx) (f : FuncId) (args : List AV) : Option AFr :=
 match E.P.funcs[f]? with
 | some fn => match fn.body with
  | some c => if args.length ≤ fn.ntmps then some { fn := f, todo := [.code c], fr := args ++ List.replicate (fn.ntmps - args.length) und } else none
  | none => none
 | none => none
def AFr.fin (F : AFr) (ops : Array Oper) (dst : Option Tmp) (rest : List Nat) (k : List Item) (a : AV) : AFr :=
 { F with todo := .inRegion ops rest :: k, fr := putT F.fr dst a, rng := none }
def AFr.to (F : AFr) (t : List Item) : AFr := { F with todo := t, rng := none }
mutual
def AV.sh (base : Nat) : AV → AV
 | .agg cs => .agg (shL base cs)
 | .tup cs => .tup (shL base cs)
 | .fn g cs => .fn g (shL base cs)
 | .ref r o => .ref (base + r) o
 | .tref r s p i st => .tref (base + r) (base + s) p i st
 | .osl r s p w => .osl (base + r) (base + s) p w
 | .optr r s p => .optr (base + r) (base + s) p
 | .csl r o n => .csl (base + r) o n
 | .yld r => .yld (base + r)
 | a => a
def shL (base : Nat) : List AV → List AV
 | [] => []
 | a :: l => a.sh base :: shL base l
end
def Cont.sh (base : Nat) : Cont → Cont
 | .cells cs => .cells (shL base cs)
 | .pins _ => .pins []
 | c => c
def Root.sh (base : Nat) (R : Root) : Root := { R with cont := R.cont.sh base, cur := base + R.cur, old := [] }
def newRoots (base : Nat) : List (Nat × Root) → List (Nat × Option Root)
 | [] => []
 | (r, R) :: l => newRoots base l ++ [(base + r, some (R.sh base))]
def SRes.fits (r : SRes) : Bool := r.roots.all fun x => decide (x.1 < 16) && decide (x.2.cur < 16) && x.2.pend.isNone
def acall (E : Ctx) (h : Heap) (id : Nat) (f : FuncId) (args : List AV) : Option (List Prop × Prop × AV × List (Nat × Option Root)) :=
 match closeL h args with
 | some (C, args', ws) => match E.env f args' with
  | some r => if r.pan.isNone && r.fits then (if r.res.plain && r.roots.isEmpty then some (C ++ [r.pre], okAV r.res, r.res, []) else if (r.res.sh id).thin && thinW (newRoots id r.roots) then some (C ++ [r.pre], okAV r.res, r.res.sh id, newRoots id r.roots) else some (C ++ [r.pre], okAV r.res, r.res.sh id, ws ++ newRoots id r.roots)) else none
  | none => none
 | none => none
def ioArg (h : Heap) : AV → Option Nat
 | .ref r 0 => match hget h r with
  | some R => match R.cont with | .cells _ => some r | _ => none
  | none => none
 | .tref r s [] 0 [] => match rdata h r s 0 with | some _ => some r | none => none
 | .osl r s [] none => match rdata h r s 0 with | some _ => some r | none => none
 | _ => none
def closeM (h : Heap) : List Bool → List AV → Option (List Prop × List AV × List (Nat × Option Root))
 | [], [] => some ([], [], [])
 | true :: bs, a :: l => match closeM h bs l with
  | some (C, l, ws) => some (C, a :: l, ws)
  | none => none
 | false :: bs, a :: l => match closeC h a with
  | some (C, a, ws) => match closeM (qaj h ws) bs l with
   | some (C', l, ws') => some (C ++ C', a :: l, ws ++ ws')
   | none => none
  | none => none
 | _, _ => none
def ioRoots (h : Heap) : List Bool → List AV → Option (List Nat)
 | [], [] => some []
 | true :: bs, a :: l => match ioArg h a, ioRoots h bs l with
  | some r, some rs => some (r :: rs)
  | _, _ => none
 | false :: bs, a :: l => if a.closed then ioRoots h bs l else none
 | _, _ => none
def shG (m : List (Nat × Nat)) (base : Nat) (j : Nat) : Nat := match m.find? (fun x => x.2 == j) with
 | some x => x.1
 | none => base + j
mutual
def AV.shM (m : List (Nat × Nat)) (base : Nat) : AV → AV
 | .agg cs => .agg (shML m base cs)
 | .tup cs => .tup (shML m base cs)
 | .fn g cs => .fn g (shML m base cs)
 | .ref r o => .ref (shG m base r) o
 | .tref r s p i st => .tref (shG m base r) (base + s) p i st
 | .osl r s p w => .osl (shG m base r) (base + s) p w
 | .optr r s p => .optr (shG m base r) (base + s) p
 | .csl r o n => .csl (shG m base r) o n
 | .yld r => .yld (shG m base r)
 | a => a
def shML (m : List (Nat × Nat)) (base : Nat) : List AV → List AV
 | [] => []
 | a :: l => a.shM m base :: shML m base l
end
def Cont.shM (m : List (Nat × Nat)) (base : Nat) : Cont → Cont
 | .cells cs => .cells (shML m base cs)
 | .pins _ => .pins []
 | c => c
def keptOld (h : Heap) (ps : List Nat) (j r : Nat) : List (Nat × List Nat × Nat) := match ps.contains j, hget h r with
 | true, some R => match R.cont with
  | .arr .. => if R.pend.isNone && !R.fz then (R.cur, [], 1) :: oldCut 1 R.old else []
  | _ => []
 | _, _ => []
def Root.shM (h : Heap) (ps : List Nat) (m : List (Nat × Nat)) (base : Nat) (j : Nat) (R : Root) : Root := { R with cont := R.cont.shM m base, cur := base + R.cur, old := keptOld h ps j (shG m base j) }
def ioPuts (h : Heap) (as : List Nat) (m : List (Nat × Nat)) (base : Nat) : List (Nat × Root) → List (Nat × Option Root)
 | [] => []
 | (j, R) :: l => ioPuts h as m base l ++ [(shG m base j, some (R.shM h as m base j))]
mutual
/-- the roots of cells that are named -/
def AV.refs : AV → List Nat
 | .agg cs => refsL cs
 | .tup cs => refsL cs
 | .fn _ cs => refsL cs
 | .ref r _ => [r]
 | .csl r .. => [r]
 | .yld r => [r]
 | _ => []
def refsL : List AV → List Nat
 | [] => []
 | a :: l => a.refs ++ refsL l
end
def rootRefs (j : Nat) : Cont → List Nat
 | .cells cs => j :: refsL cs
 | .obj _ => [j]
 | _ => []
def isCells (h : Heap) (j : Nat) : Bool := match hget h j with
 | some R => match R.cont with | .cells _ => true | _ => false
 | none => false
def okRefs (h : Heap) (m : List (Nat × Nat)) (l : List Nat) : Bool := l.all fun j => (m.find? fun x => x.2 == j).isNone || isCells h j
def ioFits (h : Heap) (m : List (Nat × Nat)) (r : SRes) : Bool := r.pan.isNone && r.fits && okRefs h m r.res.refs && r.roots.all fun x => decide (0 < x.1) && x.2.cur == x.1 && okRefs h m (rootRefs x.1 x.2.cont)
def acallIO (E : Ctx) (h : Heap) (id : Nat) (bs : List Bool) (f : FuncId) (args : List AV) : Option (List Prop × Prop × AV × List (Nat × Option Root)) :=
 match closeM h bs args with
 | some (C, args, ws) => let h1 := qaj h ws
  match ioRoots h1 bs args with
  | some as => let m := number (closeR h1 100 as []) 1
   let hm := maskH h1 (closeR h1 100 as [])
   if qdc 16 m && (closeR h1 100 as []).all (fun r => (hget h1 r).isSome) then (match E.io f (renL hm (alook m) args) (keepH hm (alook m) m) with
    | some r => if ioFits (keepH hm (alook m) m) m r then (if (r.res.shM m id).thin && thinW (ioPuts h1 (E.iopin f) m id r.roots) then some (C ++ [r.pre], okAV r.res, r.res.shM m id, mvDel (closeR h1 100 as []) ++ ioPuts h1 (E.iopin f) m id r.roots)
     else some (C ++ [r.pre], okAV r.res, r.res.shM m id, ws ++ (mvDel (closeR h1 100 as []) ++ ioPuts h1 (E.iopin f) m id r.roots))) else none
    | none => none) else none
  | none => none
 | none => none
def acallB (E : Ctx) (h : Heap) (id : Nat) (f : FuncId) (args : List AV) : Option (List Prop × Prop × AV × List (Nat × Option Root)) :=
 match E.iok f with
 | some bs => acallIO E h id bs f args
 | none => acall E h id f args
def unpA : AV → List Prop × AV
 | .tv (.ptr S) z => ([Option.isNone (α := Den S) z = false], .rtp S (Option.getD (α := Den S) z (dz S)))
 | a => ([], a)
def unpL : List AV → List Prop × List AV
 | [] => ([], [])
 | a :: l => ((unpA a).1 ++ (unpL l).1, (unpA a).2 :: (unpL l).2)
def acallA (E : Ctx) (h : Heap) (id : Nat) (f : FuncId) (args : List AV) : Option (List Prop × Prop × AV × List (Nat × Option Root)) :=
 match acallB E h id f args with
 | some r => some r
 | none => match acallB E h id f (unpL args).2 with
  | some (C, Kn, a, ws) => some ((unpL args).1 ++ C, Kn, a, ws)
  | none => none
def acallP (E : Ctx) (h : Heap) (f : FuncId) (args : List AV) : Option (List Prop × Bool × AV × AV) :=
 match closeL h args with
 | some (C, args', _) => match E.env f args' with
  | some r => match r.pan with
   | some (b, v) => if r.res.plain && r.roots.isEmpty then some (C ++ [r.pre], b, v, r.res) else none
   | none => none
  | none => none
 | none => none
def okFns (E : Ctx) (c : Cfg) : Bool := c.cur.marks.isEmpty && (E.P.funcs[c.cur.fn]?).isSome && c.callers.all fun F => F.marks.isEmpty && (E.P.funcs[F.fn]?).isSome
def panT (E : Ctx) (c : Cfg) (v : AV) : Tre Fin := match okFns E c with
 | true => .ok (.pan v c.h c.nx)
 | false => .bad
def qao : Nat := 16
def findRng (r : Nat) : List AFr → Option (AFr × Rng)
 | [] => none
 | F :: Fs => match F.rng with
  | some g => if g.r = r then some (F, g) else findRng r Fs
  | none => findRng r Fs
def setPs : List AV → List Tmp → List AV → List AV
 | fr, p :: ps, a :: as => setPs (fr.set p a) ps as
 | fr, _, _ => fr
def yieldT (c : Cfg) (r : Nat) (args : List AV) : Tre Fin := match hget c.h r, findRng r c.callers with
 | some Q, some (F, g) => match Q.cont with
  | .obj (.loop R _ _) => if args.length = g.params.size then .chk (R = g.R) (.ok (.at_ { c with cur := { fn := F.fn, todo := [.code g.assign, .beginRound, .code g.body], fr := setPs F.fr g.params.toList args, rnd := some (some r, g.R) }, callers := c.cur :: c.callers })) else .bad
  | _ => .bad
 | _, _ => .bad
def yldOf (ρ : Operand → AV) : Op → Option (Nat × List AV)
 | .call { callee := .value f, args, .. } => match ρ f with
  | .yld r => some (r, args.toList.map ρ)
  | _ => none
 | _ => none
def runOp0 (E : Ctx) (c : Cfg) (ops : Array Oper) (o : Oper) (rest : List Nat) (k : List Item) : Tre Fin :=
 match o.op with
 | .pick x y z => match asB (ev E c.cur.fr x) with
  | some b => .ite b (.ok (.at_ { c with cur := { c.cur with fr := setB c.cur.fr (opTmp x) true }.fin ops o.dst rest k (ev E c.cur.fr y) }))
    (.ok (.at_ { c with cur := { c.cur with fr := setB c.cur.fr (opTmp x) false }.fin ops o.dst rest k (ev E c.cur.fr z) }))
  | none => .bad
 | .panic x => match ev E c.cur.fr x with
  | .val (.iface t v) => panT E c (.val (.iface t v))
  | _ => .bad
 | .next x true => match ev E c.cur.fr x with
  | .ref r 0 => match hget c.h r with
   | some R => match R.cont with
    | .obj (.iter s pos) => .ite (decide (pos < s.size))
     (.ok (.at_ { c with cur := c.cur.fin ops o.dst rest k (.tup [abool true, aint .i64 (pos : Nat), aint .i32 (runeAt s pos)]), h := hput c.h r { R with cont := .obj (.iter s (pos + runeW s pos)) } }))
     (.ok (.at_ { c with cur := c.cur.fin ops o.dst rest k (.tup [abool false]) }))
    | _ => .bad
   | none => .bad
  | _ => .bad
 | op => match aop E c.h c.nx (siteOp E c.cur.fn o.dst) (ev E c.cur.fr) op with
  | .v C a => chks C (.ok (.at_ { c with cur := c.cur.fin ops o.dst rest k a, nx := c.nx + qao }))
  | .w C a ws _ => chks C (.ok (.at_ { c with cur := c.cur.fin ops o.dst rest k a, h := qaj c.h ws, nx := c.nx + qao }))
  | .any p => .any p fun b => .ok (.at_ { c with cur := c.cur.fin ops o.dst rest k (abool b), nx := c.nx + qao })
  | .call f args => if E.fns f then (match acallA E c.h c.nx f args with
   | some (C, K, a, ws) => chks C (.know K (.ok (.at_ { c with cur := c.cur.fin ops o.dst rest k a, h := qaj c.h ws, nx := c.nx + qao })))
   | none => match acallP E c.h f args with
    | some (C, b, v, a) => chks C (.ite b (panT E c v) (.ok (.at_ { c with cur := c.cur.fin ops o.dst rest k a, nx := c.nx + qao })))
    | none => match enter E f args with
     | some F => .ok (.at_ { c with cur := F, callers := c.cur :: c.callers })
     | none => .bad) else .bad
  | .no => .bad
def runOp (E : Ctx) (c : Cfg) (ops : Array Oper) (o : Oper) (rest : List Nat) (k : List Item) : Tre Fin :=
 match yldOf (ev E c.cur.fr) o.op with
 | some (r, args) => yieldT c r args
 | none => runOp0 E c ops o rest k
def todoC (c : Cfg) (t : List Item) : Tre Fin := .ok (.at_ { c with cur := c.cur.to t })
def dropMarks (h : Heap) : List (Option Nat × RgL) → Option Heap
 | [] => some h
 | (some r, _) :: l => match hget h r with
  | some R => (match R.cont with | .obj .defd => dropMarks (hdel h r) l | _ => none)
  | none => none
 | (none, _) :: _ => none
def leave0 (E : Ctx) (c : Cfg) (h : Heap) : Tre Fin :=
 match E.P.funcs[c.cur.fn]? with
 | none => .bad
 | some fn => match aresults E h c.cur.fr fn.results.toList with
  | none => .bad
  | some (C, vs) => match c.callers with
   | [] => chks C (.ok (.ret (retv vs) h c.nx))
   | F :: Fs => match F.todo with
    | .inRegion ops (i :: rest) :: k => match ops[i]? with
     | some o => chks C (.ok (.at_ { c with cur := F.fin ops o.dst rest k (retv vs), callers := Fs, h := h }))
     | none => .bad
    | .inRangeFunc l :: k => chks C (.ok (.at_ { c with cur := { F with todo := .endRangeFunc l :: k }, callers := Fs, h := h }))
    | _ => .bad
def endRnd (c : Cfg) (jump : Option Code) : Tre Fin := match c.cur.rnd with
 | some (some r, _) => match hget c.h r with
  | some Q => match Q.cont with
   | .obj (.loop R _ _) => match c.callers with
    | F :: Fs => match F.todo with
     | .inRegion ops (i :: rest) :: k => match ops[i]? with
      | some o => .ok (.at_ { c with cur := F.fin ops o.dst rest k (abool jump.isNone), callers := Fs, h := hput c.h r { Q with cont := .obj (.loop R (if jump.isNone then .ready else .done) jump) } })
      | none => .bad
     | _ => .bad
    | [] => .bad
   | _ => .bad
  | none => .bad
 | _ => .bad
def leave (E : Ctx) (c : Cfg) (jump : Option Code) : Tre Fin := match c.cur.rnd with
 | none => (match dropMarks c.h c.cur.marks with
  | some h => leave0 E c h
  | none => .bad)
 | some _ => endRnd c jump
def beginRnd (c : Cfg) (k : List Item) : Tre Fin := match c.cur.rnd with
 | some (some r, _) => match hget c.h r with
  | some Q => match Q.cont with
   | .obj (.loop R .ready pend) => .ok (.at_ { c with cur := c.cur.to k, h := hput c.h r { Q with cont := .obj (.loop R .busy pend) } })
   | _ => .bad
  | none => .bad
 | _ => .bad
def endRng (c : Cfg) (k : List Item) : Tre Fin := match c.cur.rng with
 | some g => match hget c.h g.r with
  | some Q => match Q.cont with
   | .obj (.loop _ st pend) => (match st with
    | .busy => .bad
    | _ => .ok (.at_ { c with cur := c.cur.to ((pend.map Item.code).toList ++ k), h := hdel c.h g.r }))
   | _ => .bad
  | none => .bad
 | none => .bad
def rangeT (E : Ctx) (c : Cfg) (f : Operand) (params : Array Tmp) (assign body : Code) (k : List Item) : Tre Fin := match ev E c.cur.fr f, c.cur.rnd with
 | .fn g caps, none => if E.fns g then .rg fun R => (match enter E g (.yld (c.nx + 1) :: caps) with
   | some F => .ok (.at_ { cur := F, callers := { c.cur with todo := .inRangeFunc R.l :: k, rng := some { r := c.nx + 1, R := R, params := params, assign := assign, body := body }, marks := (some c.nx, R) :: c.cur.marks } :: c.callers, h := hput (hput c.h c.nx (qcr c.nx (.obj .defd))) (c.nx + 1) (qcr (c.nx + 1) (.obj (.loop R .ready none))), nx := c.nx + qao })
   | none => .bad) else .bad
 | _, _ => .bad

def names (ops : Array Oper) (o : Oper) : List Nat :=
 o.dst.toList ++ o.op.operands.toList.filterMap opTmp ++ (match o.guard with | some (j, _) => ((ops[j]?).bind (·.dst)).toList | none => [])
def maskF (ns : List Nat) : List AV → Nat → List AV
 | [], _ => []
 | a :: l, i => (if ns.contains i then a else .bad) :: maskF ns l (i + 1)
mutual
def AV.rts : AV → List Nat
 | .agg cs => rtsL cs
 | .tup cs => rtsL cs
 | .fn _ cs => rtsL cs
 | .ref r _ => [r]
 | .tref r .. => [r]
 | .osl r .. => [r]
 | .optr r .. => [r]
 | .csl r .. => [r]
 | .yld r => [r]
 | _ => []
def rtsL : List AV → List Nat
 | [] => []
 | a :: l => a.rts ++ rtsL l
end
def rdOf (fr : List AV) : List Nat → List Nat
 | [] => []
 | t :: l => (lget fr t).rts ++ rdOf fr l
def rdFor : Op → List Nat → List Nat
 | .move _, _ => []
 | .assign _, _ => []
 | _, l => l
def innerR (h : Heap) : List Nat → List Nat
 | [] => []
 | r :: l => (match hget h r with
  | some R => match R.cont with | .cells cs => rtsL cs | _ => []
  | none => []) ++ innerR h l
def rdDeep (h : Heap) : Op → List Nat → List Nat
 | .call { callee := .value _, .. }, l => l ++ innerR h l
 | _, l => l
structure Rc where
 dst : Option Tmp
 val : AV
 ws : List (Nat × Option Root)
 nm : List Nat
 rd : List Nat
 call : Bool := false
def dval (E : Ctx) (ro : Nat) (id : Nat) (o : Oper) (ns : List Nat) (fm : List AV) (rd : List Nat) (hm : Heap) : Tre Rc :=
 match o.op with
 | .pick x y z => match asB (ev E fm x) with
  | some b => .ite b (.ok ⟨o.dst, ev E fm y, [], ns, rd, false⟩) (.ok ⟨o.dst, ev E fm z, [], ns, rd, false⟩)
  | none => .bad
 | op => match aop E hm id ro (ev E fm) op with
  | .v C a => chks C (.ok ⟨o.dst, a, [], ns, rd, false⟩)
  | .w C a ws _ => chks C (.ok ⟨o.dst, a, ws, ns, rd, false⟩)
  | .any _ => .bad
  | .call f args => if E.fns f then (match acallA E hm id f args with
   | some (C, _, a, ws) => chks C (.ok ⟨o.dst, a, ws, ns, rd, true⟩)
   | none => .bad) else .bad
  | .no => .bad
def dop (E : Ctx) (fn : FuncId) (ops : Array Oper) (id : Nat) (o : Oper) (fr : List AV) (h : Heap) : Tre Rc :=
 let ns := names ops o
 let fm := maskF ns fr 0
 let rd := rdDeep h o.op (rdFor o.op (rdOf fm ns))
 let hm := maskH h rd
 let ro := siteOp E fn o.dst
 match o.guard with
 | none => dval E ro id o ns fm rd hm
 | some (j, want) => match (ops[j]?).bind (·.dst) with
  | none => .bad
  | some t => match lget fm t with
   | .val (.bool b) => if want then .ite b (dval E ro id o ns fm rd hm) (.ok ⟨o.dst, und, [], ns, rd, false⟩) else .ite b (.ok ⟨o.dst, und, [], ns, rd, false⟩) (dval E ro id o ns fm rd hm)
   | .val (.tuple _) => .ok ⟨o.dst, und, [], ns, rd, false⟩
   | _ => .bad
def guardT (ops : Array Oper) (o : Oper) : Option Nat := match o.guard with | some (j, _) => (ops[j]?).bind (·.dst) | none => (match o.op with | .pick x _ _ => opTmp x | _ => none)
def decideT (fr : List AV) : Option Nat → (List AV → Tre (List Rc × List AV × Heap)) → Tre (List Rc × List AV × Heap)
 | some t, k => match lget fr t with
  | .val (.bool b) => .ite b (k (fr.set t (abool true))) (k (fr.set t (abool false)))
  | _ => k fr
 | none, k => k fr
def drun (E : Ctx) (fn : FuncId) (ops : Array Oper) (base : Nat) : Nat → List Oper → List AV → Heap → Tre (List Rc × List AV × Heap)
 | _, [], fr, h => .ok ([], fr, h)
 | i, o :: os, fr, h => decideT fr (guardT ops o) fun fr => (dop E fn ops (base + i * qao) o fr h).bind fun r =>
   (drun E fn ops base (i + 1) os (putT fr r.dst r.val) (qaj h r.ws)).bind fun x => .ok (r :: x.1, x.2.1, x.2.2)
def addN (l : List Nat) (x : Nat) : List Nat := if l.contains x then l else x :: l
def addAll (l : List Nat) : List Nat → List Nat
 | [] => l
 | x :: xs => addAll (addN l x) xs
def ancOf (acc : List (List Nat)) (j : Nat) : List Go.Edge → Option (List Nat)
 | [] => some []
 | e :: es => if Region.binds .any e then (if e.on < j then (match ancOf acc j es with | some l => some (addAll (addN l e.on) (acc.getD e.on [])) | none => none) else none) else ancOf acc j es
def ancs : List (List Nat) → List Oper → Option (List (List Nat))
 | acc, [] => some acc
 | acc, o :: os => match ancOf acc acc.length o.after.toList with
  | some l => ancs (acc ++ [l]) os
  | none => none
def meets (l m : List Nat) : Bool := l.any fun x => m.contains x
def wrs (r : Rc) : List Nat := r.ws.map (·.1)
def conf (a b : Rc) : Bool := meets a.dst.toList b.nm || meets b.dst.toList a.nm || meets (wrs a) (wrs b ++ b.rd) || meets (wrs b) (wrs a ++ a.rd)
def okAgainst (anc : List Nat) (r : Rc) : Nat → List Rc → Bool
 | _, [] => true
 | i, q :: qs => (!conf q r || anc.contains i) && okAgainst anc r (i + 1) qs
def okAll (A : List (List Nat)) : Nat → List Rc → List Rc → Bool
 | _, _, [] => true
 | j, done, r :: rs => okAgainst (A.getD j []) r 0 done && okAll A (j + 1) (done ++ [r]) rs
def tells : List Rc → List Prop
 | [] => []
 | r :: rs => if r.call then okAV r.val :: tells rs else tells rs
def knows {α : Type} : List Prop → Tre α → Tre α
 | [], t => t
 | K :: l, t => .know K (knows l t)
def allIn (l : List Nat) : Nat → Bool
 | 0 => true
 | n + 1 => l.contains n && allIn l n
def chainFrom (A : List (List Nat)) : Nat → Nat → Bool
 | _, 0 => true
 | j, k + 1 => allIn (A.getD j []) j && chainFrom A (j + 1) k
def adraw0 (E : Ctx) (fn : FuncId) (ops : Array Oper) (m : Nat) (fr : List AV) (h : Heap) (nx : Nat) : Tre (List Rc × List AV × Heap) :=
 match ancs [] ops.toList with
 | some A => if decide (m ≤ ops.size) && chainFrom A m (ops.size - m) then (drun E fn ops nx 0 (ops.toList.take m) fr h).bind fun x => if okAll A 0 [] x.1 then .ok x else .bad else .bad
 | none => .bad
def flat : Tre Rc → Option (List Prop × Rc)
 | .ok r => some ([], r)
 | .chk C t => match flat t with | some (l, r) => some (C :: l, r) | none => none
 | .ite b t e => match b with | true => flat t | false => flat e
 | _ => none
def splitPick (l : List Nat) (t : Nat) : List Oper → Option (List Oper × Oper × Nat × List Oper)
 | [] => none
 | o :: os => match o.op, o.dst with
  | .pick (.tmp u) _ _, some d => (match u == t with
   | true => (match l.contains d with | true => some ([], o, d, os) | false => none)
   | false => (match splitPick l t os with | some (p, x, d, r) => some (o :: p, x, d, r) | none => none))
  | _, _ => (match splitPick l t os with | some (p, x, d, r) => some (o :: p, x, d, r) | none => none)
structure Grp where
 t : Nat
 b : Bool
 p : List Oper
 x : Oper
 d : Nat
 r : List Oper
def mgroup (l : List Nat) (ops : Array Oper) (o : Oper) (os : List Oper) (fr : List AV) (ex : List Nat) : Option Grp :=
 match guardT ops o with
 | some t => (match ex.contains t with
  | true => none
  | false => (match lget fr t with
   | .val (.bool b) => (match splitPick l t (o :: os) with
    | some (p, x, d, r) => some ⟨t, b, p, x, d, r⟩
    | none => none)
   | _ => none))
 | none => none
def joinV (b : Bool) : AV → AV → Option AV
 | .val (.bool x), .val (.bool y) => some (abool (cond b x y))
 | _, _ => none
def whenP (b v : Bool) : List Prop → List Prop
 | [] => []
 | C :: l => (b = v → C) :: whenP b v l
def forgetF : List Nat → List AV → List AV
 | [], fr => fr
 | t :: l, fr => forgetF l (fr.set t .bad)
def dsts : List Oper → List Nat
 | [] => []
 | o :: os => o.dst.toList ++ dsts os
def joinRc : List Rc → List Rc → List Rc
 | r :: rs, q :: qs => ⟨r.dst, .bad, [], r.nm, r.rd ++ q.rd, false⟩ :: joinRc rs qs
 | _, _ => []
structure FRes where
 C : List Prop
 rs : List Rc
 fr : List AV
 F : List Nat
def mergeT (g : Grp) (F : List Nat) (fr : List AV) (A B : Option FRes) : Option (List Prop × List Rc × List AV × List Nat) :=
 match A, B with
 | some ⟨C1, r1, f1, _⟩, some ⟨C2, r2, f2, _⟩ => (match joinV g.b (lget f1 g.d) (lget f2 g.d), decide (g.d < fr.length) with
  | some v, true => some (whenP g.b true C1 ++ whenP g.b false C2, joinRc r1 r2, (forgetF (dsts g.p) fr).set g.d v, dsts g.p ++ F)
  | _, _ => none)
 | _, _ => none
def drunF (E : Ctx) (fn : FuncId) (ops : Array Oper) (base : Nat) (l : List Nat) (h : Heap) : Nat → List Nat → List Nat → Nat → List Oper → List AV → Option FRes
 | 0, _, _, _, _, _ => none
 | _ + 1, _, F, _, [], fr => some ⟨[], [], fr, F⟩
 | n + 1, ex, F, i, o :: os, fr => match mgroup l ops o os fr ex with
  | some g => (match mergeT g F fr (drunF E fn ops base l h n (g.t :: ex) F i (g.p ++ [g.x]) (fr.set g.t (abool true))) (drunF E fn ops base l h n (g.t :: ex) F i (g.p ++ [g.x]) (fr.set g.t (abool false))) with
   | some (C, rs, fr, F) => (match drunF E fn ops base l h n ex F (i + g.p.length + 1) g.r fr with
    | some ⟨C', rs', fr', F'⟩ => some ⟨C ++ C', rs ++ rs', fr', F'⟩
    | none => none)
   | none => none)
  | none => (match meets (names ops o) F with
   | true => none
   | false => (match flat (dop E fn ops (base + i * qao) o fr h) with
    | some (C, q) => (match q.ws with
     | [] => (match drunF E fn ops base l h n ex F (i + 1) os (putT fr o.dst q.val) with
      | some ⟨C', rs, fr', F'⟩ => some ⟨C ++ C', ⟨o.dst, q.val, [], names ops o, q.rd, q.call⟩ :: rs, fr', F'⟩
      | none => none)
     | _ => none)
    | none => none))
def drunM (E : Ctx) (fn : FuncId) (ops : Array Oper) (base : Nat) (l : List Nat) : Nat → List Nat → Nat → List Oper → List AV → Heap → Tre (List Rc × List AV × Heap)
 | 0, _, _, _, _, _ => .bad
 | _ + 1, _, _, [], fr, h => .ok ([], fr, h)
 | n + 1, F, i, o :: os, fr, h => match mgroup l ops o os fr [] with
  | some g => (match mergeT g F fr (drunF E fn ops base l h n [g.t] F i (g.p ++ [g.x]) (fr.set g.t (abool true))) (drunF E fn ops base l h n [g.t] F i (g.p ++ [g.x]) (fr.set g.t (abool false))) with
   | some (C, rs, fr, F) => chks C ((drunM E fn ops base l n F (i + g.p.length + 1) g.r fr h).bind fun x => .ok (rs ++ x.1, x.2.1, x.2.2))
   | none => .bad)
  | none => (match meets (names ops o) F with
   | true => .bad
   | false => decideT fr (guardT ops o) fun fr => (dop E fn ops (base + i * qao) o fr h).bind fun r =>
     (drunM E fn ops base l n F (i + 1) os (putT fr r.dst r.val) (qaj h r.ws)).bind fun x => .ok (r :: x.1, x.2.1, x.2.2))

def adrawM (E : Ctx) (fn : FuncId) (ops : Array Oper) (m : Nat) (l : List Nat) (fr : List AV) (h : Heap) (nx : Nat) : Tre (List Rc × List AV × Heap) :=
 match ancs [] ops.toList with
 | some A => if decide (m ≤ ops.size) && chainFrom A m (ops.size - m) then (drunM E fn ops nx l 4000 [] 0 (ops.toList.take m) fr h).bind fun x => if okAll A 0 [] x.1 then .ok x else .bad else .bad
 | none => .bad
def mergeHere : List Nat → Array Oper → Bool
 | [], _ => false
 | d :: l, ops => ops.toList.any fun o => match o.op, o.dst with | .pick .., some t => (d :: l).contains t | _, _ => false
def adraw (E : Ctx) (fn : FuncId) (ops : Array Oper) (m : Nat) (fr : List AV) (h : Heap) (nx : Nat) : Tre (List Rc × List AV × Heap) :=
 match E.mrg fn with
 | [] => adraw0 E fn ops m fr h nx
 | d :: l => adrawM E fn ops m (d :: l) fr h nx
def lastPan (E : Ctx) (ops : Array Oper) : Bool := match ops[ops.size - 1]? with
 | some { op := .call { callee := .value (.func f), .. }, .. } => E.pans f
 | _ => false
def firstTmp : List Oper → Nat → Option Nat
 | [], _ => none
 | o :: os, i => match o.op with
  | .call { callee := .value (.tmp _), .. } => some i
  | _ => firstTmp os (i + 1)
def cutIdx (E : Ctx) (ops : Array Oper) : Nat := match lastPan E ops with
 | true => ops.size - 1
 | false => match firstTmp ops.toList 0 with
  | some i => (match ancs [] ops.toList with
   | some A => (match chainFrom A i (ops.size - i) with | true => i | false => ops.size)
   | none => ops.size)
  | none => ops.size
def restI (ops : Array Oper) (m : Nat) (k : List Item) : List Item := match Nat.beq m ops.size with
 | true => k
 | false => .inRegion ops (List.range' m (ops.size - m)) :: k
def astep (E : Ctx) (c : Cfg) : Tre Fin :=
 match c.cur.todo with
 | [] => leave E c none
 | .code .ret :: _ => leave E c (some .ret)
 | .code .skip :: k | .code (.label _) :: k | .inBlock _ :: k => todoC c k
 | .code (.seq a b) :: k => todoC c (.code a :: .code b :: k)
 | .code (.cond x a b) :: k => match asB (ev E c.cur.fr x) with
  | some t => .ite t (.ok (.at_ { c with cur := { c.cur.to (.code a :: k) with fr := setB c.cur.fr (opTmp x) true } })) (.ok (.at_ { c with cur := { c.cur.to (.code b :: k) with fr := setB c.cur.fr (opTmp x) false } }))
  | none => .bad
 | .code (.block id a) :: k => todoC c (.code a :: .inBlock id :: k)
 | .code (.loop a) :: k | .inLoop a :: k => todoC c (.code a :: .inLoop a :: k)
 | .code (.exit id) :: k => match exitTo id k with | some k' => todoC c k' | none => (match c.cur.rnd with | some _ => endRnd c (some (.exit id)) | none => .bad)
 | .code (.region _ ops false) :: k => match mergeHere (E.mrg c.cur.fn) ops with
  | true => (drunM E c.cur.fn ops c.nx (E.mrg c.cur.fn) 4000 [] 0 ops.toList c.cur.fr c.h).bind fun x => knows (tells x.1) (.ok (.at_ { c with cur := { c.cur.to k with fr := x.2.1 }, h := x.2.2, nx := c.nx + ops.size * qao }))
  | false => todoC c (.inRegion ops (List.range ops.size) :: k)
 | .code (.region _ ops true) :: k => (adraw E c.cur.fn ops (cutIdx E ops) c.cur.fr c.h c.nx).bind fun x => knows (tells x.1) (.ok (.at_ { c with cur := { c.cur.to (restI ops (cutIdx E ops) k) with fr := x.2.1 }, h := x.2.2, nx := c.nx + ops.size * qao }))
 | .code (.rangeFunc f params assign body) :: k => rangeT E c f params assign body k
 | .beginRound :: k => beginRnd c k
 | .endRangeFunc _ :: k => endRng c k
 | .inRegion _ [] :: k => todoC c k
 | .inRegion ops (i :: rest) :: k => match ops[i]? with
  | none => .bad
  | some o => match o.guard with
   | none => runOp E c ops o rest k
   | some (j, want) => match (ops[j]?).bind (·.dst) with
    | none => .bad
    | some t => match lget c.cur.fr t with
     | .val (.bool b) =>
      let yes (d : Bool) : Tre Fin := runOp E { c with cur := { c.cur with fr := c.cur.fr.set t (abool d) } } ops o rest k
      let no (d : Bool) : Tre Fin := .ok (.at_ { c with cur := { c.cur with fr := c.cur.fr.set t (abool d) }.fin ops o.dst rest k und })
      if want then .ite b (yes true) (no false) else .ite b (no true) (yes false)
     | .val (.tuple _) => .ok (.at_ { c with cur := c.cur.fin ops o.dst rest k und })
     | _ => .bad
 | _ => .bad
end Go.BE
namespace Go.BE
open Go.RowKit
theorem Tre.wp_bind {α β : Type} {f : α → Tre β} {Q : β → Prop} : ∀ {t : Tre α}, (t.bind f).wp Q ↔ t.wp fun a => (f a).wp Q
 | .ok a => Iff.rfl
 | .ite b t e => by simp only [Tre.bind, Tre.wp, Tre.wp_bind]
 | .chk C t => by simp only [Tre.bind, Tre.wp, Tre.wp_bind]
 | .know K t => by simp only [Tre.bind, Tre.wp, Tre.wp_bind]
 | .any p k => by simp only [Tre.bind, Tre.wp, Tre.wp_bind]
 | .rg k => by simp only [Tre.bind, Tre.wp, Tre.wp_bind]
 | .bad => Iff.rfl
theorem Tre.wp_mono {α : Type} {Q Q' : α → Prop} (h : ∀ a, Q a → Q' a) : ∀ {t : Tre α}, t.wp Q → t.wp Q'
 | .ok a, ht => h a ht
 | .ite b t e, ht => ⟨fun hb => Tre.wp_mono h (ht.1 hb), fun hb => Tre.wp_mono h (ht.2 hb)⟩
 | .chk C t, ht => ⟨ht.1, fun hc => Tre.wp_mono h (ht.2 hc)⟩
 | .know K t, ht => fun hk => Tre.wp_mono h (ht hk)
 | .any p k, ht => fun b hb => Tre.wp_mono h (ht b hb)
 | .rg k, ht => fun R => Tre.wp_mono h (ht R)
 | .bad, ht => ht.elim
theorem qds {α : Type} {Q : α → Prop} {t : Tre α} : ∀ {C : List Prop}, (chks C t).wp Q → AllP C ∧ t.wp Q
 | [], h => ⟨trivial, h⟩
 | C :: l, h => by
  have := qds (h.2 h.1)
  exact ⟨⟨h.1, this.1⟩, this.2⟩
theorem okAVs_at : ∀ {l : List AV}, (∀ (j : Nat) a, l[j]? = some a → okAV a) → okAVs l
 | [], _ => trivial
 | a :: l, h => ⟨h 0 a rfl, okAVs_at fun j x hx => h (j + 1) x (by simpa using hx)⟩
section
variable {w w' w0 : World} {Z Z' : Nat → Prop} {K : Kp} {own own' : Own} {γ γ' : Gst} {h h' : Heap} {used used' : Nat → Prop} {r s d id : Nat} {R : Root} {a A B : AV} {v V U : Value} {cs ds : List AV} {vs us : List Value}
theorem okAV_val {u : Value} (h : okV u) : okAV (.val u) := by cases u <;> first | trivial | exact h
theorem CR.ok (h : CR w Z a v) : okAV a := by
 induction h with
 | val v h => exact okAV_val h
 | tva S x vs hS h => exact h.ok
 | tv1 S x v hS h => exact h.ok
 | rtp S x b o us hz hr h => exact h.ok
 | rop cs off b o u hz hc hr ih => exact okAVs_at fun j a ha => ih j a ha
 | agg cs vs hl hr ih => exact okAVs_at fun j a ha => ih j a _ ha (Array.getElem?_eq_getElem (by rw [← hl]; exact (List.getElem?_eq_some_iff.1 ha).1))
 | tup cs vs hl hr ih => exact okAVs_at fun j a ha => ih j a _ ha (Array.getElem?_eq_getElem (by rw [← hl]; exact (List.getElem?_eq_some_iff.1 ha).1))
 | fn f cs vs hl hr ih => exact okAVs_at fun j a ha => ih j a _ ha (Array.getElem?_eq_getElem (by rw [← hl]; exact (List.getElem?_eq_some_iff.1 ha).1))
theorem VR.ok (h : VR w Z γ a v) : okAV a := by
 induction h with
 | bad => trivial
 | cr h => exact h.ok
 | ref => trivial
 | tref => trivial
 | osl => trivial
 | optr => trivial
 | csl => trivial
 | yld => trivial
 | agg cs vs hl hr ih => exact okAVs_at fun j a ha => ih j a _ ha (Array.getElem?_eq_getElem (by rw [← hl]; exact (List.getElem?_eq_some_iff.1 ha).1))
 | tup cs vs hl hr ih => exact okAVs_at fun j a ha => ih j a _ ha (Array.getElem?_eq_getElem (by rw [← hl]; exact (List.getElem?_eq_some_iff.1 ha).1))
 | fn f cs vs hl hr ih => exact okAVs_at fun j a ha => ih j a _ ha (Array.getElem?_eq_getElem (by rw [← hl]; exact (List.getElem?_eq_some_iff.1 ha).1))
theorem VRs.ok (h : VRs w Z γ cs vs) : okAVs cs := okAVs_at fun j a ha => by
 obtain ⟨v, _, hr⟩ := h.get ha
 exact hr.ok
theorem RootR.ok (h : RootR w Z own γ r R) : okCont R.cont := by
 have hc := h.cont
 unfold ContR at hc
 unfold okCont
 split at hc
 ·rename_i cs hcs
  simp only [hcs]
  obtain ⟨_, _, b, arr, e, _, _, _, hv⟩ := hc
  exact hv.ok
 ·rename_i x hcs
  simp only [hcs]
 ·rename_i m by_ S xs hcs
  simp only [hcs]
  refine ⟨hc.1.1, ?_⟩
  have hc := hc.2
  split at hc
  ·obtain ⟨_, own0, h1, h2⟩ := hc
   exact h2.ok
  ·split at hc
   ·exact hc.ok
   ·obtain ⟨p0, i, st, hd0, b0, o0, so, T, hd, v, row, e1, e2, e3, e4, e5, e6, e7, e8, e9, e10, e11⟩ := hc
    exact (e11 v e7).ok
 ·rename_i l hcs
  simp only [hcs]
theorem okHeap_of : ∀ {h : Heap}, (∀ r R, (r, R) ∈ h → okCont R.cont) → okHeap h
 | [], _ => trivial
 | (r, R) :: h, hh => ⟨hh r R List.mem_cons_self, okHeap_of fun r R hm => hh r R (List.mem_cons_of_mem _ hm)⟩

theorem plainAll_at : ∀ {l : List AV}, plainAll l = true → ∀ (j : Nat) (a : AV), l[j]? = some a → a.plain = true
 | [], _, j, a, ha => by simp at ha
 | x :: l, h, j, a, ha => by
  simp only [plainAll, Bool.and_eq_true] at h
  cases j with
  | zero => simp at ha; subst ha; exact h.1
  | succ j => exact plainAll_at h.2 j a (by simpa using ha)
theorem CR.plain (h : CR w Z a v) : a.plain = true → CR w' Z' a v := by
 induction h with
 | val v h => exact fun _ => .val v h
 | tva S x vs hS h => exact fun hp => .tva S x vs hS (h.plain hp)
 | tv1 S x v hS h => exact fun hp => .tv1 S x v hS (h.plain hp)
 | rtp => intro hp; simp [AV.plain] at hp
 | rop => intro hp; simp [AV.plain] at hp
 | agg cs vs hl hr ih => exact fun hp => .agg cs vs hl fun j a v ha hv => ih j a v ha hv (plainAll_at (by simpa [AV.plain] using hp) j a ha)
 | tup cs vs hl hr ih => exact fun hp => .tup cs vs hl fun j a v ha hv => ih j a v ha hv (plainAll_at (by simpa [AV.plain] using hp) j a ha)
 | fn => intro hp; simp [AV.plain] at hp
mutual
theorem plain_closed : ∀ {a : AV}, a.plain = true → a.closed = true
 | .bad, h => by simp [AV.plain] at h
 | .val _, _ => rfl
 | .tv _ _, _ => rfl
 | .rtp _ _, _ => rfl
 | .agg cs, h => by simp only [AV.plain] at h; simp only [AV.closed]; exact plainAll_closed h
 | .tup cs, h => by simp only [AV.plain] at h; simp only [AV.closed]; exact plainAll_closed h
 | .fn _ _, h => by simp [AV.plain] at h
 | .rop _ _, _ => rfl
 | .ref _ _, h => by simp [AV.plain] at h
 | .tref .., h => by simp [AV.plain] at h
 | .osl .., h => by simp [AV.plain] at h
 | .optr .., h => by simp [AV.plain] at h
 | .csl .., h => by simp [AV.plain] at h
theorem plainAll_closed : ∀ {l : List AV}, plainAll l = true → qbz l = true
 | [], _ => rfl
 | a :: l, h => by
  simp only [plainAll, Bool.and_eq_true] at h
  simp only [qbz, Bool.and_eq_true]
  exact ⟨plain_closed h.1, plainAll_closed h.2⟩
end
end

def GlR (E : Ctx) (w : World) (Z : Nat → Prop) : Prop := ∀ g a, E.gl g = some a → CR w Z a (.pointer (some ⟨g, 0, none⟩))
theorem GlR.mono {E : Ctx} {w w' : World} {Z Z' : Nat → Prop} (hs : Stay w Z w' Z') (h : GlR E w Z) : GlR E w' Z' := fun g cs hg => (h g cs hg).mono hs
def PromiseR (P : Program) (f : FuncId) (vs : Array Value) (w : World) (Z : Nat → Prop) (r : SRes) : Prop :=
 Calls P f vs w fun e w' => ∃ v Z' own' γ', e = .returned v ∧ Stay w Z w' Z' ∧ MemR w ⟨fun _ => True, Z⟩ w' Z' own' γ' r.roots (fun s => s < 16) ∧ VR w' Z' γ' r.res v
def PromiseP (P : Program) (f : FuncId) (vs : Array Value) (w : World) (Z : Nat → Prop) (r : SRes) (b : Bool) (pv : AV) : Prop :=
 Calls P f vs w fun e w' => ∃ Z' own' γ' h' used', Stay w Z w' Z' ∧ MemR w ⟨fun _ => True, Z⟩ w' Z' own' γ' h' used' ∧
  ((b = true ∧ ∃ V, e = .panicked [{ v := V, recovered := false }] ∧ ∃ Z2, Stay w Z w' Z2 ∧ CR w' Z2 pv V) ∨ (b = false ∧ ∃ V, e = .returned V ∧ VR w' Z' γ' r.res V))
def Promise (P : Program) (f : FuncId) (vs : Array Value) (w : World) (Z : Nat → Prop) (r : SRes) : Prop :=
 match r.pan with
 | none => PromiseR P f vs w Z r
 | some (b, pv) => PromiseP P f vs w Z r b pv
theorem Promise.r {P : Program} {f : FuncId} {vs : Array Value} {w : World} {Z : Nat → Prop} {r : SRes} (h : Promise P f vs w Z r) (hp : r.pan = none) : PromiseR P f vs w Z r := by
 unfold Promise at h
 rw [hp] at h
 exact h
theorem Promise.p {P : Program} {f : FuncId} {vs : Array Value} {w : World} {Z : Nat → Prop} {r : SRes} {b : Bool} {pv : AV} (h : Promise P f vs w Z r) (hp : r.pan = some (b, pv)) : PromiseP P f vs w Z r b pv := by
 unfold Promise at h
 rw [hp] at h
 exact h
theorem Promise.of_r {P : Program} {f : FuncId} {vs : Array Value} {w : World} {Z : Nat → Prop} {r : SRes} (h : PromiseR P f vs w Z r) (hp : r.pan = none) : Promise P f vs w Z r := by
 unfold Promise
 rw [hp]
 exact h
def EnvOK (E : Ctx) : Prop := ∀ f args r, qbz args = true → E.env f args = some r → r.pre → ∀ (w : World) (Z : Nat → Prop) (vs : List Value), GlR E w Z → (∀ b, Z b → b < w.heap.size) → CRs w Z args vs → Promise E.P f vs.toArray w Z r
section
variable {E : Ctx} {w w' w0 : World} {Z Z' : Nat → Prop} {K : Kp} {own own' own2 : Own} {γ γ' γ2 : Gst} {h h' : Heap} {used used' : Nat → Prop} {r s d id : Nat} {R : Root} {a A B : AV} {v V U : Value} {cs ds : List AV} {vs us : List Value}
theorem shL_get (base : Nat) : ∀ (l : List AV) (j : Nat), (shL base l)[j]? = (l[j]?).map (AV.sh base)
 | [], j => by simp [shL]
 | a :: l, 0 => by simp [shL]
 | a :: l, j + 1 => by simpa [shL] using shL_get base l j
theorem qek (base : Nat) : ∀ l : List AV, (shL base l).length = l.length
 | [] => rfl
 | _ :: l => by simp [shL, qek base l]
structure Shift (base : Nat) (γ γ' : Gst) : Prop where
 β : ∀ r b, γ.β r = some b → γ'.β (base + r) = some b
 G : ∀ s p hd, γ.G s p = some hd → γ'.G (base + s) p = some hd
theorem CR.sh {base : Nat} (h : CR w Z a v) : CR w Z (a.sh base) v := by
 induction h with
 | val v h => exact .val v h
 | tva S x vs hS h => exact .tva S x vs hS h
 | tv1 S x v hS h => exact .tv1 S x v hS h
 | rtp S x b o us hz hr h => exact .rtp S x b o us hz hr h
 | rop cs off b o u hz hc hr ih => exact .rop cs off b o u hz hc hr
 | agg cs vs hl hr ih =>
  refine .agg _ vs (by rw [qek]; exact hl) fun j x y hx hy => ?_
  rw [shL_get] at hx
  obtain ⟨x', hx', rfl⟩ := Option.map_eq_some_iff.1 hx
  exact ih j x' y hx' hy
 | tup cs vs hl hr ih =>
  refine .tup _ vs (by rw [qek]; exact hl) fun j x y hx hy => ?_
  rw [shL_get] at hx
  obtain ⟨x', hx', rfl⟩ := Option.map_eq_some_iff.1 hx
  exact ih j x' y hx' hy
 | fn f cs vs hl hr ih =>
  refine .fn f _ vs (by rw [qek]; exact hl) fun j x y hx hy => ?_
  rw [shL_get] at hx
  obtain ⟨x', hx', rfl⟩ := Option.map_eq_some_iff.1 hx
  exact ih j x' y hx' hy
theorem VR.sh {base : Nat} (hs : Shift base γ γ') (h : VR w Z γ a v) : VR w Z γ' (a.sh base) v := by
 induction h with
 | bad v => exact .bad v
 | cr h => exact .cr h.sh
 | ref r off b h => exact .ref _ off b (hs.β _ _ h)
 | tref r s p i st hd b o so T h hi hb hst => exact .tref _ _ p i st hd b o so T (hs.G _ _ _ h) hi hb hst
 | osl r s p win v hd h hv => exact .osl _ _ p win v hd (hs.G _ _ _ h) hv
 | optr r s p v hd h hp hv => exact .optr _ _ p v hd (hs.G _ _ _ h) hp hv
 | csl r off n b c h hc hr => exact .csl _ off n b c (hs.β _ _ h) hc hr
 | yld r l h => exact .yld _ l (hs.β _ _ h)
 | agg cs vs hl hr ih =>
  refine .agg _ vs (by rw [qek]; exact hl) fun j x y hx hy => ?_
  rw [shL_get] at hx
  obtain ⟨x', hx', rfl⟩ := Option.map_eq_some_iff.1 hx
  exact ih j x' y hx' hy
 | tup cs vs hl hr ih =>
  refine .tup _ vs (by rw [qek]; exact hl) fun j x y hx hy => ?_
  rw [shL_get] at hx
  obtain ⟨x', hx', rfl⟩ := Option.map_eq_some_iff.1 hx
  exact ih j x' y hx' hy
 | fn f cs vs hl hr ih =>
  refine .fn f _ vs (by rw [qek]; exact hl) fun j x y hx hy => ?_
  rw [shL_get] at hx
  obtain ⟨x', hx', rfl⟩ := Option.map_eq_some_iff.1 hx
  exact ih j x' y hx' hy
theorem VRs.sh {base : Nat} (hs : Shift base γ γ') (h : VRs w Z γ cs vs) : VRs w Z γ' (shL base cs) vs := by
 refine ⟨by rw [qek]; exact h.1, fun j x y hx hy => ?_⟩
 rw [shL_get] at hx
 obtain ⟨x', hx', rfl⟩ := Option.map_eq_some_iff.1 hx
 exact (h.2 j x' y hx' hy).sh hs
theorem qbc.moveR {M M' : Rows} {r' : Nat} {g g' : Pth → Option Hd} {n : Node} {m : Nat} {p : Pth} (hs : Stay w Z w' Z') (hg : ∀ q hd, g q = some hd → g' q = some hd) (hb : ∀ b q row, own b = some (r, q) → M b = some row → own' b = some (r', q) ∧ M' b = some row)
  (h : qbc w Z M own r g n m p) : qbc w' Z' M' own' r' g' n m p := by
 obtain ⟨hd, h1, h2, h3, h4, hle, hlim, hel⟩ := h
 refine ⟨hd, hg _ _ h1, h2, h3, h4, hle, hlim, fun hc => ?_⟩
 obtain ⟨b, o, row, e1, e2, e3, e4, e5⟩ := hel hc
 obtain ⟨k1, k2⟩ := hb _ _ _ e2 e3
 refine ⟨b, o, row, e1, k1, k2, e4, fun j hj => ?_⟩
 obtain ⟨y, hy, hor⟩ := e5 j hj
 exact ⟨y, hy, OR.move (r' := r') hs [] (fun q hd _ => hg q hd) (fun b q row _ => hb b q row) hor⟩
theorem RootR.sh {base : Nat} (hs : Shift base γ γ') (hGe : γ'.G (base + R.cur) = γ.G R.cur) (ho : ∀ b p, own b = some (r, p) → own' b = some (base + r, p)) (hp : R.pend = none) (h : RootR w Z own γ r R) : RootR w Z own' γ' (base + r) (R.sh base) := by
 refine ⟨fun e he => by simp [Root.sh] at he, ?_⟩
 have hc := h.cont
 unfold ContR at hc ⊢
 split at hc
 ·rename_i cs hcs
  simp only [Root.sh, hcs, Cont.sh]
  obtain ⟨e1, e2, b, arr, e, k1, k2, k3, k4⟩ := hc
  exact ⟨e1, e2, b, arr, e, hs.β _ _ k1, ho _ _ k2, k3, k4.sh hs⟩
 ·rename_i x hcs
  simp only [Root.sh, hcs, Cont.sh]
  obtain ⟨e1, e2, b, o, k1, k2, k3, k4⟩ := hc
  exact ⟨e1, e2, b, o, hs.β _ _ k1, ho _ _ k2, k3, k4⟩
 ·rename_i m by_ S xs hcs
  simp only [Root.sh, hcs, Cont.sh, hp]
  refine ⟨⟨hc.1.1, by rw [hGe]; exact hc.1.2⟩, ?_⟩
  have hc := hc.2
  split at hc
  ·rename_i hf
   rw [if_pos hf]
   obtain ⟨_, own0, h1, h2⟩ := hc
   exact ⟨trivial, own0, h1, h2.moveR (Stay.refl _ _) (fun q hd hq => hs.G _ _ _ hq) fun b q row hob hM => ⟨hob, hM⟩⟩
  ·rename_i hf
   rw [if_neg hf]
   simp only [hp] at hc
   exact hc.moveR (Stay.refl _ _) (fun q hd hq => hs.G _ _ _ hq) fun b q row hob hM => ⟨ho b q hob, hM⟩
 ·rename_i l hcs
  simp only [Root.sh, hcs, Cont.sh]
  exact ⟨hc.1, hc.2.1, fun p hp => by simp at hp⟩
theorem hget_newRoots (base : Nat) : ∀ (l : List (Nat × Root)) (h : Heap) (x : Nat), hget (qaj h (newRoots base l)) x = if base ≤ x ∧ (hget l (x - base)).isSome then (hget l (x - base)).map (Root.sh base) else hget h x
 | [], h, x => by simp [newRoots, qaj, hget]
 | (r, R) :: l, h, x => by
  rw [newRoots, qbk]
  show hget (hput _ _ _) x = _
  rw [qbl, hget_newRoots base l h x]
  by_cases hx : x = base + r
  ·subst hx
   simp [hget]
  ·rw [if_neg hx]
   by_cases hb : base ≤ x
   ·have hr : ¬ r = x - base := by omega
    simp only [hget, hr, if_false]
   ·rw [if_neg (by omega), if_neg (by omega)]
theorem hget_mem {l : List (Nat × Root)} (h : hget l r = some R) : (r, R) ∈ l := by
 induction l with
 | nil => simp [hget] at h
 | cons x l ih =>
  obtain ⟨k, c⟩ := x
  simp only [hget] at h
  split at h
  ·rename_i hk
   injection h with h
   subst hk; subst h
   exact List.mem_cons_self
  ·exact List.mem_cons_of_mem _ (ih h)
theorem closeC0_closed {C : List Prop} {ws : List (Nat × Option Root)} {h : Heap} (he : closeC0 h A = some (C, B, ws)) : B.closed = true := by
 unfold closeC0 at he
 split at he
 ·split at he
  ·split at he
   ·simp only [Option.some.injEq, Prod.mk.injEq] at he
    obtain ⟨_, rfl, _⟩ := he
    rfl
   ·cases he
  ·cases he
 ·split at he
  ·split at he
   ·simp only [Option.some.injEq, Prod.mk.injEq] at he
    obtain ⟨_, rfl, _⟩ := he
    rfl
   ·cases he
  ·cases he
 ·split at he
  ·split at he
   ·rename_i hx
    simp only [Option.some.injEq, Prod.mk.injEq] at he
    obtain ⟨_, rfl, _⟩ := he
    obtain ⟨S, x, ip, _, rfl⟩ := oneV_eq hx
    rfl
   ·cases he
  ·cases he
 ·split at he
  ·rename_i hc
   simp only [Option.some.injEq, Prod.mk.injEq] at he
   obtain ⟨_, rfl, _⟩ := he
   exact hc
  ·cases he
theorem closeC_closed {C : List Prop} {ws : List (Nat × Option Root)} {h : Heap} (he : closeC h A = some (C, B, ws)) : B.closed = true := by
 unfold closeC at he
 split at he
 ·split at he
  ·split at he
   ·split at he
    ·split at he
     ·simp only [Option.some.injEq, Prod.mk.injEq] at he; obtain ⟨_, rfl, _⟩ := he; rfl
     ·cases he
    ·cases he
   ·cases he
  ·cases he
 ·exact closeC0_closed he
theorem closeL_closed : ∀ {cs : List AV} {C : List Prop} {ds : List AV} {ws : List (Nat × Option Root)} {h : Heap}, closeL h cs = some (C, ds, ws) → qbz ds = true := by
 intro cs
 induction cs with
 | nil => intro C ds ws h he; simp only [closeL, Option.some.injEq, Prod.mk.injEq] at he; obtain ⟨_, rfl, _⟩ := he; rfl
 | cons c cs ih =>
  intro C ds ws h he
  simp only [closeL] at he
  split at he
  ·rename_i h1
   split at he
   ·rename_i h2
    simp only [Option.some.injEq, Prod.mk.injEq] at he
    obtain ⟨_, rfl, _⟩ := he
    simp only [qbz, Bool.and_eq_true]
    exact ⟨closeC_closed h1, ih h2⟩
   ·cases he
  ·cases he
theorem acall_sound (hE : EnvOK E) (hm : MemR w0 K w Z own γ h used) (hgl : GlR E w Z) {f : FuncId} {args : List AV} {C : List Prop} {Kn : Prop} {ws : List (Nat × Option Root)} (he : acall E h id f args = some (C, Kn, a, ws)) (hC : AllP C) (hv : VRs w Z γ args vs)
  (hid : ∀ j, j < 16 → ¬ used (id + j)) (hu : ∀ s, used s → used' s) (hid' : ∀ j, j < 16 → used' (id + j)) :
  Calls E.P f vs.toArray w fun e w' => ∃ v Z' own' γ', e = .returned v ∧ Kn ∧ Stay w Z w' Z' ∧ Gst.Ext used γ γ' ∧ MemR w0 K w' Z' own' γ' (qaj h ws) used' ∧ VR w' Z' γ' a v := by
 unfold acall at he
 split at he
 ·rename_i C1 args' ws1 hcl
  split at he
  ·rename_i r hr
   split at he
   ·rename_i hfit0
    simp only [Bool.and_eq_true, Option.isNone_iff_eq_none] at hfit0
    obtain ⟨hpn, hfit⟩ := hfit0
    have hclosed : qbz args' = true := closeL_closed hcl
    have hpre : AllP C1 ∧ r.pre ∧ (C = C1 ++ [r.pre]) ∧ Kn = okAV r.res := by
     have fin : AllP (C1 ++ [r.pre]) → AllP C1 ∧ r.pre := fun h => by rw [AllP.append] at h; exact ⟨h.1, h.2.1⟩
     split at he
     ·simp only [Option.some.injEq, Prod.mk.injEq] at he
      obtain ⟨rfl, rfl, _⟩ := he
      exact ⟨(fin hC).1, (fin hC).2, rfl, rfl⟩
     ·split at he <;>
      ·simp only [Option.some.injEq, Prod.mk.injEq] at he
       obtain ⟨rfl, rfl, _⟩ := he
       exact ⟨(fin hC).1, (fin hC).2, rfl, rfl⟩
    obtain ⟨hC1, hpre, _, rfl⟩ := hpre
    obtain ⟨Z1, own1, k1, k2, k3⟩ := qdr hm hcl hC1 hv
    refine ((hE f args' r hclosed hr hpre w Z1 vs (hgl.mono k1.stay) k1.mem.zlt ⟨k2, k3⟩).r hpn).mono fun e w' ⟨v, Z2, own2, γ2, e1, e2, e3, e4⟩ => ?_
    have hall : ∀ b, b < w.heap.size → w'.heap[b]? = w.heap[b]? := fun b hb => e3.kept b hb trivial
    split at he
    ·rename_i hpl
     simp only [Bool.and_eq_true] at hpl
     simp only [Option.some.injEq, Prod.mk.injEq] at he
     obtain ⟨_, _, rfl, rfl⟩ := he
     have hst : Stay w Z w' Z := ⟨fun b hb => hall b (hm.zlt b hb), fun _ h => h⟩
     refine ⟨v, Z, own, γ, e1, e4.ok, hst, Gst.Ext.refl _ _, ?_, .cr ((e4.toCR (plain_closed hpl.1)).plain hpl.1)⟩
     refine hm.step hst (Gst.Ext.refl used γ) hu e3.os e3.tape e3.output e3.size (fun _ => False) (fun b hb _ => hall b hb) (fun b o ho _ => ho) (fun b o ho => .inl ⟨ho, fun h => h⟩) (fun b hb => ⟨Nat.lt_of_lt_of_le (hm.zlt b hb) e3.size, .inl hb⟩) (fun r R hg => .inl ⟨hg, fun h => h⟩) (fun s hs => hm.fresh s (fun h => hs (hu s h)))
    ·classical
     let γ3 : Gst := { β := fun s => if used s then γ.β s else if id ≤ s then γ2.β (s - id) else none, G := fun s => if used s then γ.G s else if id ≤ s then γ2.G (s - id) else fun _ => none }
     let own3 : Own := fun b => if b < w.heap.size then own1 b else (own2 b).map fun o => (id + o.1, o.2)
     have hext : Gst.Ext used γ γ3 := fun s hs => ⟨by simp only [γ3, if_pos hs], by simp only [γ3, if_pos hs]⟩
     have hsh : Shift id γ2 γ3 := by
      refine ⟨fun r b hb => ?_, fun s p hd hp => ?_⟩
      ·have hr : r < 16 := by
        rcases Nat.lt_or_ge r 16 with h | h
        ·exact h
        ·rw [(e3.fresh r (by omega)).1] at hb; cases hb
       simp only [γ3]
       rw [if_neg (hid r hr), if_pos (by omega), Nat.add_sub_cancel_left]
       exact hb
      ·have hr : s < 16 := by
        rcases Nat.lt_or_ge s 16 with h | h
        ·exact h
        ·rw [(e3.fresh s (by omega)).2] at hp; cases hp
       simp only [γ3]
       rw [if_neg (hid s hr), if_pos (by omega), Nat.add_sub_cancel_left]
       exact hp
     have hge : ∀ b o, own2 b = some o → w.heap.size ≤ b := fun b o ho => by
      rcases Nat.lt_or_ge b w.heap.size with h | h
      ·exact absurd trivial (e3.ownK b o ho h)
      ·exact h
     have h5 : MemR w0 K w' Z2 own3 γ3 (qaj (qaj h ws1) (newRoots id r.roots)) used' := by
      refine k1.mem.step e2 hext hu e3.os e3.tape e3.output e3.size (fun _ => False) (fun b hb _ => hall b hb) (fun b o ho _ => ?_) (fun b o ho => ?_) (fun b hb => ⟨e3.zlt b hb, ?_⟩) (fun r' R' hg => ?_) (fun s hs => ?_)
      ·simp only [own3]
       rw [if_pos (k1.mem.ownlt b o ho)]
       exact ho
      ·simp only [own3] at ho
       split at ho
       ·exact .inl ⟨ho, fun h => h⟩
       ·rename_i hb
        obtain ⟨o', ho', rfl⟩ := Option.map_eq_some_iff.1 ho
        exact .inr ⟨e3.ownlt b _ ho', e3.ownZ b _ ho', .inr (by omega)⟩
      ·rcases Nat.lt_or_ge b w.heap.size with h | h
       ·exact .inl (e3.zin b hb h trivial)
       ·exact .inr (.inr h)
      ·rw [hget_newRoots] at hg
       split at hg
       ·rename_i hcond
        obtain ⟨R0, hR0, rfl⟩ := Option.map_eq_some_iff.1 hg
        have hmem := hget_mem hR0
        have hf := List.all_eq_true.1 hfit _ hmem
        simp only [Bool.and_eq_true, decide_eq_true_eq, Option.isNone_iff_eq_none] at hf
        obtain ⟨⟨f1, f2⟩, f3⟩ := hf
        have hr' : r' = id + (r' - id) := by omega
        refine .inr ⟨?_, by rw [hr']; exact hid' _ f1, hid' _ f2, fun e he => by simp [Root.sh] at he⟩
        rw [hr']
        refine (e3.root _ _ hR0).sh hsh (by
         simp only [γ3]
         rw [if_neg (hid _ f2), if_pos (by omega), Nat.add_sub_cancel_left]) (fun b p ho => ?_) f3
        simp only [own3]
        rw [if_neg (by have := hge b _ ho; omega), ho]
        simp
       ·exact .inl ⟨hg, fun h => h⟩
      ·have hns : ¬ used s := fun h => hs (hu s h)
       have key : ∀ {k}, id ≤ s → s - id = k → ¬ k < 16 := fun h1 h2 h3 => hs (by have := hid' _ h3; rwa [← h2, show id + (s - id) = s from by omega] at this)
       simp only [γ3]
       rw [if_neg hns, if_neg hns]
       by_cases h1 : id ≤ s
       ·rw [if_pos h1, if_pos h1]
        exact e3.fresh _ (key h1 rfl)
       ·rw [if_neg h1, if_neg h1]
        exact ⟨rfl, fun _ => rfl⟩
     split at he
     ·rename_i hthin
      simp only [Bool.and_eq_true] at hthin
      simp only [Option.some.injEq, Prod.mk.injEq] at he
      obtain ⟨_, _, rfl, rfl⟩ := he
      obtain ⟨own6, Z6, t1, t2⟩ := hm.thaw k1 e2 hext hu e3.size h5 (fun b o ho _ => ⟨by simp only [own3]; rw [if_pos (k1.mem.ownlt b o ho)]; exact ho, hall b (k1.mem.ownlt b o ho)⟩) hthin.2
      exact ⟨v, Z6, own6, γ3, e1, e4.ok, t1, hext, t2, (e4.sh hsh).thin hthin.1⟩
     ·simp only [Option.some.injEq, Prod.mk.injEq] at he
      obtain ⟨_, _, rfl, rfl⟩ := he
      exact ⟨v, Z2, own3, γ3, e1, e4.ok, k1.stay.trans e2, hext, by rw [qbk]; exact h5, e4.sh hsh⟩
   ·cases he
  ·cases he
 ·cases he
theorem acallP_sound (hE : EnvOK E) (hm : MemR w0 K w Z own γ h used) (hgl : GlR E w Z) {f : FuncId} {args : List AV} {C : List Prop} {bb : Bool} {pv : AV} (he : acallP E h f args = some (C, bb, pv, a)) (hC : AllP C) (hv : VRs w Z γ args vs) (hu : ∀ s, used s → used' s) :
  Calls E.P f vs.toArray w fun e w' => ∃ Z', Stay w Z w' Z' ∧ MemR w0 K w' Z' own γ h used' ∧
   ((bb = true ∧ ∃ V, e = .panicked [{ v := V, recovered := false }] ∧ ∃ Z2, Stay w Z w' Z2 ∧ CR w' Z2 pv V) ∨ (bb = false ∧ ∃ V, e = .returned V ∧ VR w' Z' γ a V)) := by
 unfold acallP at he
 split at he
 ·rename_i C1 args' ws1 hcl
  split at he
  ·rename_i r hr
   split at he
   ·rename_i b v hpan
    split at he
    ·rename_i hpl
     simp only [Bool.and_eq_true] at hpl
     simp only [Option.some.injEq, Prod.mk.injEq] at he
     obtain ⟨rfl, rfl, rfl, rfl⟩ := he
     rw [AllP.append] at hC
     have hclosed : qbz args' = true := closeL_closed hcl
     obtain ⟨Z1, own1, k1, k2, k3⟩ := qdr hm hcl hC.1 hv
     refine ((hE f args' r hclosed hr hC.2.1 w Z1 vs (hgl.mono k1.stay) k1.mem.zlt ⟨k2, k3⟩).p hpan).mono fun e w' ⟨Z2, own2, γ2, h2, u2, e2, e3, e4⟩ => ?_
     have hall : ∀ b, b < w.heap.size → w'.heap[b]? = w.heap[b]? := fun b hb => e3.kept b hb trivial
     have hst : Stay w Z w' Z := ⟨fun b hb => hall b (hm.zlt b hb), fun _ h => h⟩
     refine ⟨Z, hst, hm.step hst (Gst.Ext.refl used γ) hu e3.os e3.tape e3.output e3.size (fun _ => False) (fun b hb _ => hall b hb) (fun b o ho _ => ho) (fun b o ho => .inl ⟨ho, fun h => h⟩) (fun b hb => ⟨Nat.lt_of_lt_of_le (hm.zlt b hb) e3.size, .inl hb⟩) (fun r R hg => .inl ⟨hg, fun h => h⟩) (fun s hs => hm.fresh s (fun h => hs (hu s h))), ?_⟩
     rcases e4 with ⟨hb, V, q1, Z3, q3, q2⟩ | ⟨hb, V, q1, q2⟩
     ·exact .inl ⟨hb, V, q1, Z3, k1.stay.trans q3, q2⟩
     ·exact .inr ⟨hb, V, q1, .cr ((q2.toCR (plain_closed hpl.1)).plain hpl.1)⟩
    ·cases he
   ·cases he
  ·cases he
 ·cases he
end
end Go.BE
namespace Go.BE
open Go.RowKit
section
variable {E : Ctx} {w w' w0 : World} {Z Z' : Nat → Prop} {K : Kp} {own own' : Own} {γ γ' : Gst} {h h' : Heap} {used used' : Nat → Prop} {r s d id nx : Nat} {R : Root} {a : AV} {v : Value} {cs ds : List AV} {vs us : List Value} {roots : List (Nat × Nat)}
theorem alook_mem {l : List (Nat × Nat)} {r r' : Nat} (h : alook l r = some r') : (r, r') ∈ l := by
 induction l with
 | nil => simp [alook] at h
 | cons x l ih =>
  obtain ⟨k, q⟩ := x
  simp only [alook] at h
  split at h
  ·rename_i hk
   injection h with h
   subst hk; subst h
   exact List.mem_cons_self
  ·exact List.mem_cons_of_mem _ (ih h)
theorem rootsOK_inj {nx : Nat} : ∀ {l : List (Nat × Nat)}, qdc nx l = true → ∀ r r' s s', (r, r') ∈ l → (s, s') ∈ l → (r = s ∨ r' = s') → r = s ∧ r' = s'
 | [], _, r, r', s, s', h, _, _ => by cases h
 | (p, q) :: l, h, r, r', s, s', h1, h2, hor => by
  simp only [qdc, Bool.and_eq_true, decide_eq_true_eq] at h
  obtain ⟨⟨_, hall⟩, hrest⟩ := h
  rw [List.all_eq_true] at hall
  rcases List.mem_cons.1 h1 with e1 | m1
  ·rcases List.mem_cons.1 h2 with e2 | m2
   ·injection e1 with a1 b1; injection e2 with a2 b2
    subst a1; subst b1; subst a2; subst b2
    exact ⟨rfl, rfl⟩
   ·injection e1 with a1 b1
    subst a1; subst b1
    have := hall _ m2
    simp at this
    rcases hor with rfl | rfl
    ·exact absurd rfl this.1
    ·exact absurd rfl this.2
  ·rcases List.mem_cons.1 h2 with e2 | m2
   ·injection e2 with a2 b2
    subst a2; subst b2
    have := hall _ m1
    simp at this
    rcases hor with rfl | rfl
    ·exact absurd rfl this.1
    ·exact absurd rfl this.2
   ·exact rootsOK_inj hrest r r' s s' m1 m2 hor
theorem rootsOK_lt {nx : Nat} : ∀ {l : List (Nat × Nat)}, qdc nx l = true → ∀ r r', (r, r') ∈ l → r' < nx
 | [], _, r, r', h => by cases h
 | (p, q) :: l, h, r, r', hm => by
  simp only [qdc, Bool.and_eq_true, decide_eq_true_eq] at h
  rcases List.mem_cons.1 hm with e | m
  ·injection e with a b
   subst b
   exact h.1.1
  ·exact rootsOK_lt h.2 r r' m
theorem rootsOK_look {nx : Nat} {l : List (Nat × Nat)} (h : qdc nx l = true) {r r' : Nat} (hm : (r, r') ∈ l) : alook l r = some r' := by
 have : ∃ q, alook l r = some q := by
  clear h
  induction l with
  | nil => cases hm
  | cons x l ih =>
   obtain ⟨k, q⟩ := x
   simp only [alook]
   split
   ·exact ⟨_, rfl⟩
   ·rename_i hk
    rcases List.mem_cons.1 hm with e | m
    ·injection e with e1 _; exact absurd e1.symm hk
    ·exact ih m
 obtain ⟨q, hq⟩ := this
 rw [hq, (rootsOK_inj h r r' r q hm (alook_mem hq) (.inl rfl)).2]
def γcut (γ : Gst) (h : Heap) (roots : List (Nat × Nat)) : Gst :=
  { β := fun r' => (roots.find? (fun x => x.2 == r')).bind fun x => γ.β x.1,
    G := fun r' => match roots.find? (fun x => x.2 == r') with
      | some x => (match hget h x.1 with | some R => γ.G R.cur | none => fun _ => none)
      | none => fun _ => none }
theorem find_at (hr : qdc nx roots = true) {r r' : Nat} (hm : (r, r') ∈ roots) : roots.find? (fun x => x.2 == r') = some (r, r') := by
 cases hf : roots.find? (fun x => x.2 == r') with
 | none => exact absurd (List.find?_eq_none.1 hf _ hm) (by simp)
 | some x =>
  have h1 := List.mem_of_find?_eq_some hf
  have h2 := List.find?_some hf
  simp only [beq_iff_eq] at h2
  obtain ⟨h3, h4⟩ := rootsOK_inj hr x.1 x.2 r r' h1 hm (.inr h2)
  cases x
  simp at h3 h4
  rw [h3, h4]
theorem find_none (hr : qdc nx roots = true) {r' : Nat} (h : nx ≤ r') : roots.find? (fun x => x.2 == r') = none := by
 cases hf : roots.find? (fun x => x.2 == r') with
 | none => rfl
 | some x =>
  have h1 := List.mem_of_find?_eq_some hf
  have h2 := List.find?_some hf
  simp only [beq_iff_eq] at h2
  have := rootsOK_lt hr x.1 x.2 h1
  omega
structure Ren (w : World) (Z : Nat → Prop) (own : Own) (γ γ' : Gst) (h : Heap) (f : Nat → Option Nat) : Prop where
 β : ∀ r r' b, f r = some r' → γ.β r = some b → γ'.β r' = some b
 G : ∀ r r' R, f r = some r' → hget h r = some R → ∀ q hd, γ.G R.cur q = some hd → γ'.G r' q = some hd
 root : ∀ r R, hget h r = some R → RootR w Z own γ r R
theorem qdl (h : Heap) (f : Nat → Option Nat) : ∀ l : List AV, (renL h f l).length = l.length
 | [] => rfl
 | _ :: l => by simp [renL, qdl h f l]
theorem renL_get (h : Heap) (f : Nat → Option Nat) : ∀ (l : List AV) (j : Nat), (renL h f l)[j]? = (l[j]?).map (AV.ren h f)
 | [], j => by simp [renL]
 | a :: l, 0 => by simp [renL]
 | a :: l, j + 1 => by simpa [renL] using renL_get h f l j
theorem CR.ren {f : Nat → Option Nat} (hc : CR w Z a v) : CR w Z (a.ren h f) v := by
 induction hc with
 | val v h => exact .val v h
 | tva S x vs hS h => exact .tva S x vs hS h
 | tv1 S x v hS h => exact .tv1 S x v hS h
 | rtp S x b o us hz hr h => exact .rtp S x b o us hz hr h
 | rop cs off b o u hz hc hr ih => exact .rop cs off b o u hz hc hr
 | agg cs vs hl hr ih =>
  refine .agg _ vs (by rw [qdl]; exact hl) fun j x y hx hy => ?_
  rw [renL_get] at hx
  obtain ⟨x', hx', rfl⟩ := Option.map_eq_some_iff.1 hx
  exact ih j x' y hx' hy
 | tup cs vs hl hr ih =>
  refine .tup _ vs (by rw [qdl]; exact hl) fun j x y hx hy => ?_
  rw [renL_get] at hx
  obtain ⟨x', hx', rfl⟩ := Option.map_eq_some_iff.1 hx
  exact ih j x' y hx' hy
 | fn g cs vs hl hr ih =>
  refine .fn g _ vs (by rw [qdl]; exact hl) fun j x y hx hy => ?_
  rw [renL_get] at hx
  obtain ⟨x', hx', rfl⟩ := Option.map_eq_some_iff.1 hx
  exact ih j x' y hx' hy
theorem Ren.hd {f : Nat → Option Nat} (hr : Ren w Z own γ γ' h f) {p : Pth} {hd : Hd} {r' : Nat} (he : renO h f r s p = some r') (hg : γ.G s p = some hd) : γ'.G r' p = some hd := by
 unfold renO at he
 split at he
 ·rename_i r1 R hf hR
  split at he
  ·rename_i hv
   injection he with he
   subst he
   exact hr.G _ _ _ hf hR _ _ ((hr.root _ _ hR).valid_hd hv hg)
  ·cases he
 ·cases he
theorem PinR.ren {f : Nat → Option Nat} (hr : Ren w Z own γ γ' h f) {p : Pin} (hp : PinR γ p) : PinR γ' (p.ren h f) := by
 cases p with
 | b r v =>
  simp only [Pin.ren]
  split
  ·rename_i r' hr'
   exact hr.β _ _ _ hr' hp
  ·trivial
 | g r s hd =>
  simp only [Pin.ren]
  split
  ·rename_i r' hr'
   exact hr.hd hr' hp
  ·trivial
 | dead => trivial
theorem renH_osl {f : Nat → Option Nat} (hr : Ren w Z own γ γ' h f) {p : Pth} {win : Option (Nat × Nat)} (hv : VR w Z γ (.osl r s p win) v) : VR w Z γ' (renH h f (.osl r s p win)) v := by
 simp only [renH]
 split
 ·rename_i r' hr'
  generalize hA : AV.osl r s p win = A at hv
  cases hv with
  | osl r1 s1 p1 win1 v1 hd hg hs =>
   injection hA with e1 e2 e3 e4
   subst e1; subst e2; subst e3; subst e4
   exact .osl _ _ _ _ _ hd (hr.hd hr' hg) hs
  | cr hc => subst hA; cases hc
  | _ => cases hA
 ·exact .bad _
theorem VR.ren {f : Nat → Option Nat} (hr : Ren w Z own γ γ' h f) (hn : ∀ A V, VR w Z γ A V → VR w Z γ (norm h A) V) (hv : VR w Z γ a v) : VR w Z γ' (a.ren h f) v := by
 induction hv with
 | bad v => exact .bad v
 | cr h => exact .cr h.ren
 | ref r off b h =>
  simp only [AV.ren]
  split
  ·rename_i r' hr'
   exact .ref _ _ _ (hr.β _ _ _ hr' h)
  ·exact .bad _
 | tref r s p i st hd b o so T h hi hb hst =>
  simp only [AV.ren]
  split
  ·rename_i r' hr'
   exact .tref _ _ _ _ _ hd b o so T (hr.hd hr' h) hi hb hst
  ·exact .bad _
 | osl r s p win v hd hg hs =>
  simp only [AV.ren]
  have h1 := hn _ _ (VR.osl r s p win v hd hg hs)
  have h2 : norm h (.osl r s p win) = .osl r s p win ∨ ∃ S x, norm h (.osl r s p win) = .tv S x := by
   unfold norm
   split
   ·rename_i heq
    split
    ·split
     ·exact .inr ⟨_, _, rfl⟩
     ·exact .inl heq.symm
    ·exact .inl heq.symm
   ·exact .inl rfl
  rcases h2 with h2 | ⟨S, x, h2⟩
  ·rw [h2] at h1 ⊢
   exact renH_osl hr h1
  ·rw [h2] at h1 ⊢
   exact .cr (h1.toCR rfl)
 | optr r s p v hd h hp hv =>
  simp only [AV.ren]
  split
  ·rename_i r' hr'
   exact .optr _ _ _ _ hd (hr.hd hr' h) hp hv
  ·exact .bad _
 | csl r off n b c h hc hl =>
  simp only [AV.ren]
  split
  ·rename_i r' hr'
   exact .csl _ _ _ b c (hr.β _ _ _ hr' h) hc hl
  ·exact .bad _
 | yld r l h =>
  simp only [AV.ren]
  split
  ·rename_i r' hr'
   exact .yld _ l (hr.β _ _ _ hr' h)
  ·exact .bad _
 | agg cs vs hl hrel ih =>
  refine .agg _ vs (by rw [qdl]; exact hl) fun j x y hx hy => ?_
  rw [renL_get] at hx
  obtain ⟨x', hx', rfl⟩ := Option.map_eq_some_iff.1 hx
  exact ih j x' y hx' hy
 | tup cs vs hl hrel ih =>
  refine .tup _ vs (by rw [qdl]; exact hl) fun j x y hx hy => ?_
  rw [renL_get] at hx
  obtain ⟨x', hx', rfl⟩ := Option.map_eq_some_iff.1 hx
  exact ih j x' y hx' hy
 | fn g cs vs hl hrel ih =>
  refine .fn g _ vs (by rw [qdl]; exact hl) fun j x y hx hy => ?_
  rw [renL_get] at hx
  obtain ⟨x', hx', rfl⟩ := Option.map_eq_some_iff.1 hx
  exact ih j x' y hx' hy
theorem VRs.ren {f : Nat → Option Nat} (hr : Ren w Z own γ γ' h f) (hn : ∀ A V, VR w Z γ A V → VR w Z γ (norm h A) V) (hv : VRs w Z γ cs vs) : VRs w Z γ' (renL h f cs) vs := by
 refine ⟨by rw [qdl]; exact hv.1, fun j x y hx hy => ?_⟩
 rw [renL_get] at hx
 obtain ⟨x', hx', rfl⟩ := Option.map_eq_some_iff.1 hx
 exact (hv.2 j x' y hx' hy).ren hr hn
theorem keepT_VRs (keep : List Nat) : ∀ {cs : List AV} {vs : List Value} (i : Nat), VRs w Z γ cs vs → VRs w Z γ (keepT keep cs i) vs
 | [], vs, _, h => ⟨by simpa [keepT] using h.1, fun j a v ha => by simp [keepT] at ha⟩
 | _ :: _, [], _, h => by simp [VRs] at h
 | a :: _, _ :: _, i, h => by
  simp only [keepT]
  split
  ·exact .cons h.head (keepT_VRs keep (i + 1) h.tail)
  ·exact .cons (.bad _) (keepT_VRs keep (i + 1) h.tail)
theorem keepH_get {f : Nat → Option Nat} : ∀ {l : List (Nat × Nat)} {r' : Nat} {R' : Root}, hget (keepH h f l) r' = some R' → ∃ r R, (r, r') ∈ l ∧ hget h r = some R ∧ R.pend = none ∧ R.fz = false ∧ R' = { cont := R.cont.ren h f, cur := r', old := [], fz := false, pend := none }
 | [], r', cs, hg => by simp [keepH, hget] at hg
 | (p, q) :: l, r', R', hg => by
  simp only [keepH] at hg
  have next : hget (keepH h f l) r' = some R' → ∃ r R, (r, r') ∈ (p, q) :: l ∧ hget h r = some R ∧ R.pend = none ∧ R.fz = false ∧ R' = { cont := R.cont.ren h f, cur := r', old := [], fz := false, pend := none } := fun hg => by
   obtain ⟨r, R, h1, h2⟩ := keepH_get hg
   exact ⟨r, R, List.mem_cons_of_mem _ h1, h2⟩
  split at hg
  ·rename_i R hR
   split at hg
   ·exact next hg
   ·rename_i hc
    simp only [Bool.not_eq_true, Bool.or_eq_false_iff, Option.isSome_eq_false_iff, Option.isNone_iff_eq_none] at hc
    simp only [hget] at hg
    split at hg
    ·rename_i hq
     injection hg with hg
     subst hq
     exact ⟨p, R, List.mem_cons_self, hR, hc.1, hc.2, hg.symm⟩
    ·exact next hg
  ·exact next hg
theorem MemR.ren (hr : qdc nx roots = true) (hm : MemR w0 K w Z own γ h used) : ∃ own', Ren w Z own γ (γcut γ h roots) h (alook roots) ∧ MemR w0 K w Z own' (γcut γ h roots) (keepH h (alook roots) roots) (fun s => s < nx) := by
 have hR : Ren w Z own γ (γcut γ h roots) h (alook roots) := by
  refine ⟨fun r r' b hf hb => ?_, fun r r' R hf hg q hd hq => ?_, hm.root⟩
  ·simp only [γcut, find_at hr (alook_mem hf), Option.bind_some]
   exact hb
  ·simp only [γcut, find_at hr (alook_mem hf), hg]
   exact hq
 let own' : Own := fun b => match own b with | some (r, q) => (alook roots r).map fun r' => (r', q) | none => none
 have hown : ∀ b o, own' b = some o → ∃ o', own b = some o' := fun b o ho => by
  simp only [own'] at ho
  split at ho
  ·rename_i heq; exact ⟨_, heq⟩
  ·cases ho
 have hown' : ∀ b r r' q, alook roots r = some r' → own b = some (r, q) → own' b = some (r', q) := fun b r r' q hf ho => by
  simp only [own', ho, hf, Option.map_some]
 refine ⟨own', hR, hm.os, hm.tape, hm.output, hm.size, hm.kept, hm.zin, hm.zlt, fun b o ho => ?_, fun b o ho => ?_, fun b o ho => ?_, fun r' R' hg => ?_, fun r' R' hg => ?_, fun s hs => ?_⟩
 ·obtain ⟨o', ho'⟩ := hown b o ho; exact hm.ownlt b o' ho'
 ·obtain ⟨o', ho'⟩ := hown b o ho; exact hm.ownZ b o' ho'
 ·obtain ⟨o', ho'⟩ := hown b o ho; exact hm.ownK b o' ho'
 ·obtain ⟨r, R, h1, h2, h3, h4, rfl⟩ := keepH_get hg
  have hf := rootsOK_look hr h1
  refine ⟨fun e he => by simp at he, ?_⟩
  have hc := (hm.root r R h2).cont
  unfold ContR at hc ⊢
  split at hc
  ·rename_i cs hcs
   simp only [hcs, Cont.ren]
   obtain ⟨e1, e2, b, arr, e, k1, k2, k3, k4⟩ := hc
   exact ⟨trivial, trivial, b, arr, e, hR.β _ _ _ hf k1, hown' _ _ _ _ hf k2, k3, k4.ren hR (fun A V hv => norm_sound hm hv)⟩
  ·rename_i x hcs
   simp only [hcs, Cont.ren]
   obtain ⟨e1, e2, b, o, k1, k2, k3, k4⟩ := hc
   exact ⟨trivial, trivial, b, o, hR.β _ _ _ hf k1, hown' _ _ _ _ hf k2, k3, k4⟩
  ·rename_i m by_ S xs hcs
   simp only [hcs, Cont.ren]
   refine ⟨⟨hc.1.1, by
    have : (γcut γ h roots).G r' = γ.G R.cur := by simp only [γcut, find_at hr h1, h2]
    rw [this]; exact hc.1.2⟩, ?_⟩
   have hc := hc.2
   rw [if_neg (by simp [h4])] at hc
   simp only [h3] at hc
   rw [if_neg (by simp)]
   exact hc.moveR (Stay.refl _ _) (fun q hd hq => hR.G _ _ _ hf h2 _ _ hq) fun b q row hob hM => ⟨hown' _ _ _ _ hf hob, hM⟩
  ·rename_i l hcs
   simp only [hcs, Cont.ren]
   exact ⟨trivial, trivial, fun p hp => by
    obtain ⟨q, hq, rfl⟩ := List.mem_map.1 hp
    exact (hc.2.2 q hq).ren hR⟩
 ·obtain ⟨r, R, h1, h2, h3, h4, rfl⟩ := keepH_get hg
  have := rootsOK_lt hr _ _ h1
  exact ⟨this, this, fun e he => by simp at he⟩
 ·exact ⟨by simp [γcut, find_none hr (Nat.le_of_not_lt hs)], fun q => by simp [γcut, find_none hr (Nat.le_of_not_lt hs)]⟩
end
section
variable {E : Ctx} {w w' w0 : World} {Z Z' : Nat → Prop} {K : Kp} {own own' : Own} {γ γ' : Gst} {h h' H : Heap} {used used' : Nat → Prop}
theorem qdt {x : Nat} : ∀ {l : List Nat}, hget (maskH H l) x = if x ∈ l then hget H x else none
 | [] => by simp [maskH, hget]
 | r :: l => by
  simp only [maskH]
  split
  ·rename_i R hR
   simp only [hget]
   by_cases hx : r = x
   ·subst hx; simp [hR]
   ·rw [if_neg hx, qdt]
    simp [Ne.symm hx]
  ·rename_i hR
   rw [qdt]
   by_cases hx : x = r
   ·subst hx; simp [hR]
   ·simp [hx]
theorem MemR.congr (hm : MemR w0 K w Z own γ H used) (hh : ∀ x, hget h' x = hget H x) : MemR w0 K w Z own γ h' used :=
 hm.step (Stay.refl w Z) (Gst.Ext.refl used γ) (fun _ h => h) rfl rfl rfl (Nat.le_refl _) (fun _ => False) (fun _ _ _ => rfl) (fun _ _ ho _ => ho) (fun _ _ ho => .inl ⟨ho, fun h => h⟩) (fun b hb => ⟨hm.zlt b hb, .inl hb⟩) (fun x R hg => .inl ⟨by rw [← hh]; exact hg, fun h => h⟩) hm.fresh
def ownM (own : Own) (hm : Heap) : Own := fun b => match own b with | some o => if (hget hm o.1).isSome then some o else none | none => none
def KM (Z : Nat → Prop) (own : Own) (hm : Heap) : Kp := ⟨fun b => ∀ o, own b = some o → (hget hm o.1).isSome = false, Z⟩
theorem ownM_some {hm : Heap} {b : Nat} {o : Nat × Pth} (h : ownM own hm b = some o) : own b = some o ∧ (hget hm o.1).isSome = true := by
 unfold ownM at h
 split at h
 ·rename_i o' ho
  split at h
  ·rename_i hi
   injection h with h
   subst h
   exact ⟨ho, hi⟩
  ·cases h
 ·cases h
theorem MemR.masked (hm : MemR w0 K w Z own γ H used) (l : List Nat) : MemR w (KM Z own (maskH H l)) w Z (ownM own (maskH H l)) γ (maskH H l) used := by
 refine ⟨rfl, rfl, rfl, Nat.le_refl _, fun _ _ _ => rfl, fun b hb _ _ => hb, hm.zlt, fun b o ho => hm.ownlt b o (ownM_some ho).1, fun b o ho => hm.ownZ b o (ownM_some ho).1, fun b o ho _ hk => ?_, fun x R hg => ?_, fun x R hg => ?_, hm.fresh⟩
 ·obtain ⟨h1, h2⟩ := ownM_some ho
  rw [hk o h1] at h2
  cases h2
 ·have hg' := hg
  rw [qdt] at hg
  split at hg
  ·refine RootR.frame (used := used) (Stay.refl w Z) (Gst.Le.refl γ) (Gst.Ext.refl used γ) (hm.keys x R hg).2 (fun b q ho => ⟨?_, rfl⟩) (hm.root x R hg)
   simp only [ownM, ho]
   rw [if_pos (by rw [hg']; rfl)]
  ·cases hg
 ·rw [qdt] at hg
  split at hg
  ·exact hm.keys x R hg
  ·cases hg
theorem MemR.framed (hm : MemR w0 K w Z own γ H used) {l : List Nat} {ws : List (Nat × Option Root)} (hs : Stay w Z w' Z') (he : Gst.Ext used γ γ') (hu : ∀ s, used s → used' s)
  (hr : MemR w (KM Z own (maskH H l)) w' Z' own' γ' (qaj (maskH H l) ws) used') : (∃ own2, MemR w0 K w' Z' own2 γ' (qaj H ws) used' ∧ ∀ b o, own b = some o → (hget (maskH H l) o.1).isSome = false → own2 b = some o ∧ w'.heap[b]? = w.heap[b]?) := by
 let own2 : Own := fun b => match own' b with | some o => some o | none => match own b with | some o => if (hget (maskH H l) o.1).isSome then none else some o | none => none
 have hk : ∀ b, b < w.heap.size → (∀ o, own b = some o → ¬ (hget (maskH H l) o.1).isSome = true) → (KM Z own (maskH H l)).k b := fun b _ h o ho => by
  have := h o ho
  simpa using this
 have hsome : ∀ b o, own' b = some o → b < w.heap.size → ∃ o', own b = some o' ∧ (hget (maskH H l) o'.1).isSome = true := fun b o ho hb => by
  have := hr.ownK b o ho hb
  simp only [KM] at this
  rcases Classical.em (∃ o', own b = some o' ∧ (hget (maskH H l) o'.1).isSome = true) with h | h
  ·exact h
  ·refine absurd (fun o' ho' => ?_) this
   cases hh : (hget (maskH H l) o'.1).isSome with
   | false => rfl
   | true => exact absurd ⟨o', ho', hh⟩ h
 have hkeep : ∀ b o, own b = some o → (hget (maskH H l) o.1).isSome = false → own2 b = some o ∧ w'.heap[b]? = w.heap[b]? := fun b o ho hno => by
  have hb := hm.ownlt b o ho
  have hnone : own' b = none := by
   cases h : own' b with
   | none => rfl
   | some o2 =>
    obtain ⟨o', h1, h2⟩ := hsome b o2 h hb
    rw [ho] at h1
    injection h1 with h1
    subst h1
    rw [hno] at h2
    cases h2
  refine ⟨?_, hr.kept b hb (hk b hb fun o' ho' => ?_)⟩
  ·simp only [own2, hnone, ho]
   rw [if_neg (by rw [hno]; simp)]
  ·rw [ho] at ho'
   injection ho' with ho'
   subst ho'
   rw [hno]
   simp
 refine ⟨own2, ?_, hkeep⟩
 refine hm.step hs he hu hr.os hr.tape hr.output hr.size (fun x => (hget (maskH H l) x).isSome = true) (fun b hb hno => hr.kept b hb (hk b hb hno)) (fun b o ho hno => ?_) (fun b o ho => ?_) (fun b hb => ⟨hr.zlt b hb, ?_⟩) (fun x R hg => ?_) hr.fresh
 ·have hb := hm.ownlt b o ho
  have hnone : own' b = none := by
   cases h : own' b with
   | none => rfl
   | some o2 =>
    obtain ⟨o', h1, h2⟩ := hsome b o2 h hb
    rw [ho] at h1
    injection h1 with h1
    subst h1
    exact absurd h2 hno
  simp only [own2, hnone, ho]
  rw [if_neg hno]
 ·simp only [own2] at ho
  split at ho
  ·rename_i o2 ho2
   injection ho with ho
   subst ho
   refine .inr ⟨hr.ownlt b _ ho2, hr.ownZ b _ ho2, ?_⟩
   rcases Nat.lt_or_ge b w.heap.size with hb | hb
   ·exact .inl (hsome b _ ho2 hb)
   ·exact .inr hb
  ·split at ho
   ·rename_i o2 ho2
    split at ho
    ·cases ho
    ·rename_i hno
     injection ho with ho
     subst ho
     exact .inl ⟨ho2, hno⟩
   ·cases ho
 ·rcases Nat.lt_or_ge b w.heap.size with hb' | hb'
  ·rcases Classical.em (∃ o, own b = some o ∧ (hget (maskH H l) o.1).isSome = true) with h | h
   ·exact .inr (.inl h)
   ·exact .inl (hr.zin b hb hb' (hk b hb' fun o ho hh => h ⟨o, ho, hh⟩))
  ·exact .inr (.inr hb')
 ·rw [qbx] at hg
  by_cases hin : x ∈ ws.map (·.1) ∨ hget H x = hget (maskH H l) x
  ·rw [upW_in hin, ← qbx] at hg
   by_cases hch : (hget (maskH H l) x).isSome = true ∨ x ∈ ws.map (·.1)
   ·obtain ⟨k1, k2, k3⟩ := hr.keys x R hg
    refine .inr ⟨RootR.frame (used := used') (Stay.refl w' Z') (Gst.Le.refl γ') (Gst.Ext.refl used' γ') ⟨k2, k3⟩ (fun b q ho => ⟨?_, rfl⟩) (hr.root x R hg), k1, k2, k3⟩
    simp only [own2, ho]
   ·simp only [not_or] at hch
    rw [qbx, upW_not hch.2] at hg
    rw [hg] at hch
    exact absurd rfl hch.1
  ·simp only [not_or] at hin
   rw [upW_not hin.1] at hg
   refine .inl ⟨hg, fun hh => hin.2 ?_⟩
   rw [qdt]
   rw [qdt] at hh
   split
   ·rfl
   ·rename_i hx
    rw [if_neg hx] at hh
    cases hh
end
end Go.BE
namespace Go.BE
open Go.RowKit
def qef (l : List Pin) : Root := { cont := .pins l, cur := 0, old := [], fz := false, pend := none }
def PinsOf (as : List Nat) : Heap → List Pin → Prop
 | [], l => l = []
 | (j, R) :: h, l => match R.cont with
  | .cells _ => ∃ v l', l = .b j v :: l' ∧ PinsOf as h l'
  | .arr .. => if as.contains j then ∃ hd l', l = .g j j hd :: l' ∧ PinsOf as h l' else PinsOf as h l
  | _ => PinsOf as h l
def IoOK (E : Ctx) : Prop := ∀ f args h r, E.io f args h = some r → r.pre → ∀ l, PinsOf (E.iopin f) h l → ∀ (w0 : World) (K : Kp) (w : World) (Z : Nat → Prop) (own : Own) (γ : Gst) (vs : List Value), GlR E w Z →
 MemR w0 K w Z own γ ((0, qef l) :: h) (fun s => s < 16) → VRs w Z γ args vs →
 Calls E.P f vs.toArray w fun e w' => ∃ v Z' own' γ', e = .returned v ∧ Stay w Z w' Z' ∧ MemR w0 K w' Z' own' γ' ((0, qef l) :: r.roots) (fun s => s < 16) ∧ VR w' Z' γ' r.res v
section
variable {E : Ctx} {w w' w0 : World} {Z Z' : Nat → Prop} {K : Kp} {own own' own2 : Own} {γ γ' γ2 : Gst} {h h' : Heap} {used used' : Nat → Prop} {r s d id : Nat} {R : Root} {a A B : AV} {v V U : Value} {cs ds : List AV} {vs us : List Value} {m : List (Nat × Nat)}
theorem closeM_sound : ∀ {bs : List Bool} {cs : List AV} {vs : List Value} {C : List Prop} {ds : List AV} {ws : List (Nat × Option Root)} {h : Heap} {Z : Nat → Prop} {own : Own}, MemR w0 K w Z own γ h used → closeM h bs cs = some (C, ds, ws) → AllP C → VRs w Z γ cs vs →
  ∃ Z' own', Closed w0 K w Z own γ (qaj h ws) used Z' own' ∧ VRs w Z' γ ds vs
 | [], [], vs, C, ds, ws, h, Z, own, hm, he, _, hv => by
  simp only [closeM, Option.some.injEq, Prod.mk.injEq] at he
  obtain ⟨rfl, rfl, rfl⟩ := he
  exact ⟨Z, own, ⟨Stay.refl _ _, hm, fun _ _ h => h, fun _ _ h => .inl h⟩, hv⟩
 | [], _ :: _, _, _, _, _, _, _, _, _, he, _, _ => by simp [closeM] at he
 | true :: _, [], _, _, _, _, _, _, _, _, he, _, _ => by simp [closeM] at he
 | false :: _, [], _, _, _, _, _, _, _, _, he, _, _ => by simp [closeM] at he
 | true :: bs, c :: cs, [], _, _, _, _, _, _, _, _, _, hv => by simp [VRs] at hv
 | false :: bs, c :: cs, [], _, _, _, _, _, _, _, _, _, hv => by simp [VRs] at hv
 | true :: bs, c :: cs, v :: vs, C, ds, ws, h, Z, own, hm, he, hC, hv => by
  simp only [closeM] at he
  split at he
  ·rename_i C1 l1 ws1 h1
   simp only [Option.some.injEq, Prod.mk.injEq] at he
   obtain ⟨rfl, rfl, rfl⟩ := he
   obtain ⟨Z2, own2, q1, q2⟩ := closeM_sound hm h1 hC hv.tail
   exact ⟨Z2, own2, q1, .cons (hv.head.mono q1.stay (Gst.Le.refl γ)) q2⟩
  ·cases he
 | false :: bs, c :: cs, v :: vs, C, ds, ws, h, Z, own, hm, he, hC, hv => by
  simp only [closeM] at he
  split at he
  ·rename_i C1 a1 ws1 h1
   split at he
   ·rename_i C2 l2 ws2 h2
    simp only [Option.some.injEq, Prod.mk.injEq] at he
    obtain ⟨rfl, rfl, rfl⟩ := he
    obtain ⟨Z1, own1, k1, k2⟩ := qes hm h1 (AllP.append.1 hC).1 hv.head
    obtain ⟨Z2, own2, q1, q2⟩ := closeM_sound k1.mem h2 (AllP.append.1 hC).2 (hv.tail.mono k1.stay (Gst.Le.refl γ))
    exact ⟨Z2, own2, ⟨k1.stay.trans q1.stay, by rw [qbk]; exact q1.mem, fun b o ho => k1.own b o (q1.own b o ho), k1.blk2 q1⟩, .cons (.cr (k2.mono q1.stay)) q2⟩
   ·cases he
  ·cases he
theorem pinsOf_ex (as : List Nat) : ∀ {h : Heap}, (∀ j R, (j, R) ∈ h → RootR w Z own γ j R ∧ R.cur = j ∧ R.fz = false ∧ R.pend = none) → ∃ l, PinsOf as h l ∧ ∀ p ∈ l, PinR γ p
 | [], _ => ⟨[], rfl, fun p hp => by simp at hp⟩
 | (j, R) :: h, hh => by
  obtain ⟨l, h1, h2⟩ := pinsOf_ex as (h := h) fun j R hm => hh j R (List.mem_cons_of_mem _ hm)
  obtain ⟨hr, hcur, hfz, hpd⟩ := hh j R List.mem_cons_self
  have hc := hr.cont
  unfold ContR at hc
  simp only [PinsOf]
  split at hc
  ·rename_i cs hcs
   obtain ⟨_, _, b, arr, e, k1, k2, k3, k4⟩ := hc
   simp only [hcs]
   exact ⟨.b j b :: l, ⟨b, l, rfl, h1⟩, fun p hp => by
    rcases List.mem_cons.1 hp with rfl | hp
    ·exact k1
    ·exact h2 p hp⟩
  ·rename_i x hcs
   simp only [hcs]
   exact ⟨l, h1, h2⟩
  ·rename_i m by_ S xs hcs
   simp only [hcs]
   have hc := hc.2
   rw [if_neg (by simp [hfz])] at hc
   simp only [hpd] at hc
   obtain ⟨hd, n1, _⟩ := hc
   split
   ·exact ⟨.g j j hd :: l, ⟨hd, l, rfl, h1⟩, fun p hp => by
     rcases List.mem_cons.1 hp with rfl | hp
     ·show γ.G j [] = some hd
      rw [← hcur]
      exact n1
     ·exact h2 p hp⟩
   ·exact ⟨l, h1, h2⟩
  ·rename_i l0 hcs
   simp only [hcs]
   exact ⟨l, h1, h2⟩
theorem pinsOf_b {as : List Nat} {j : Nat} : ∀ {h : Heap} {l : List Pin}, PinsOf as h l → isCells h j = true → ∃ v, .b j v ∈ l
 | [], _, _, hi => by simp [isCells, hget] at hi
 | (k, R) :: h, l, hp, hi => by
  simp only [isCells, hget] at hi
  simp only [PinsOf] at hp
  by_cases hk : k = j
  ·subst hk
   simp only [if_true] at hi
   split at hi
   ·rename_i cs hcs
    simp only [hcs] at hp
    obtain ⟨v, l', rfl, _⟩ := hp
    exact ⟨v, List.mem_cons_self⟩
   ·cases hi
  ·rw [if_neg hk] at hi
   have ih := fun l' (hp : PinsOf as h l') => pinsOf_b (as := as) (j := j) (h := h) (l := l') hp (by simp only [isCells]; exact hi)
   split at hp
   ·obtain ⟨v, l', rfl, h1⟩ := hp
    obtain ⟨u, hu⟩ := ih _ h1
    exact ⟨u, List.mem_cons_of_mem _ hu⟩
   ·split at hp
    ·obtain ⟨hd, l', rfl, h1⟩ := hp
     obtain ⟨u, hu⟩ := ih _ h1
     exact ⟨u, List.mem_cons_of_mem _ hu⟩
    ·exact ih _ hp
   ·exact ih _ hp
theorem pinsOf_g {as : List Nat} {j : Nat} (ha : as.contains j = true) : ∀ {h : Heap} {l : List Pin} {R : Root} {m b : Nat} {S : Sh} {xs : List (Den S)}, PinsOf as h l → hget h j = some R → R.cont = .arr m b S xs → ∃ hd, .g j j hd ∈ l
 | [], _, _, _, _, _, _, _, hi, _ => by simp [hget] at hi
 | (k, R0) :: h, l, R, m, b, S, xs, hp, hi, hc => by
  simp only [hget] at hi
  simp only [PinsOf] at hp
  by_cases hk : k = j
  ·subst hk
   simp only [if_true] at hi
   injection hi with hi
   subst hi
   simp only [hc] at hp
   rw [if_pos ha] at hp
   obtain ⟨hd, l', rfl, _⟩ := hp
   exact ⟨hd, List.mem_cons_self⟩
  ·rw [if_neg hk] at hi
   have ih := fun l' (hp : PinsOf as h l') => pinsOf_g ha (h := h) (l := l') hp hi hc
   split at hp
   ·obtain ⟨v, l', rfl, h1⟩ := hp
    obtain ⟨u, hu⟩ := ih _ h1
    exact ⟨u, List.mem_cons_of_mem _ hu⟩
   ·split at hp
    ·obtain ⟨hd, l', rfl, h1⟩ := hp
     obtain ⟨u, hu⟩ := ih _ h1
     exact ⟨u, List.mem_cons_of_mem _ hu⟩
    ·exact ih _ hp
   ·exact ih _ hp
theorem shML_get (m : List (Nat × Nat)) (base : Nat) : ∀ (l : List AV) (j : Nat), (shML m base l)[j]? = (l[j]?).map (AV.shM m base)
 | [], j => by simp [shML]
 | a :: l, 0 => by simp [shML]
 | a :: l, j + 1 => by simpa [shML] using shML_get m base l j
theorem qdj (m : List (Nat × Nat)) (base : Nat) : ∀ l : List AV, (shML m base l).length = l.length
 | [] => rfl
 | _ :: l => by simp [shML, qdj m base l]
theorem CR.shM {base : Nat} (h : CR w Z a v) : CR w Z (a.shM m base) v := by
 induction h with
 | val v h => exact .val v h
 | tva S x vs hS h => exact .tva S x vs hS h
 | tv1 S x v hS h => exact .tv1 S x v hS h
 | rtp S x b o us hz hr h => exact .rtp S x b o us hz hr h
 | rop cs off b o u hz hc hr ih => exact .rop cs off b o u hz hc hr
 | agg cs vs hl hr ih =>
  refine .agg _ vs (by rw [qdj]; exact hl) fun j x y hx hy => ?_
  rw [shML_get] at hx
  obtain ⟨x', hx', rfl⟩ := Option.map_eq_some_iff.1 hx
  exact ih j x' y hx' hy
 | tup cs vs hl hr ih =>
  refine .tup _ vs (by rw [qdj]; exact hl) fun j x y hx hy => ?_
  rw [shML_get] at hx
  obtain ⟨x', hx', rfl⟩ := Option.map_eq_some_iff.1 hx
  exact ih j x' y hx' hy
 | fn f cs vs hl hr ih =>
  refine .fn f _ vs (by rw [qdj]; exact hl) fun j x y hx hy => ?_
  rw [shML_get] at hx
  obtain ⟨x', hx', rfl⟩ := Option.map_eq_some_iff.1 hx
  exact ih j x' y hx' hy
structure ShiftM (m : List (Nat × Nat)) (base : Nat) (ok : Nat → Prop) (γ γ' : Gst) : Prop where
 β : ∀ j b, ok j → γ.β j = some b → γ'.β (shG m base j) = some b
 G : ∀ s p hd, γ.G s p = some hd → γ'.G (base + s) p = some hd
theorem refsL_at {j k : Nat} : ∀ {l : List AV}, l[j]? = some a → k ∈ a.refs → k ∈ refsL l
 | [], h, _ => by simp at h
 | x :: l, h, hk => by
  simp only [refsL, List.mem_append]
  cases j with
  | zero => simp at h; subst h; exact .inl hk
  | succ j => exact .inr (refsL_at (j := j) (by simpa using h) hk)
theorem VR.shM {base : Nat} {ok : Nat → Prop} (hs : ShiftM m base ok γ γ') (h : VR w Z γ a v) : (∀ j ∈ a.refs, ok j) → VR w Z γ' (a.shM m base) v := by
 induction h with
 | bad v => exact fun _ => .bad v
 | cr h => exact fun _ => .cr h.shM
 | ref r off b h => exact fun hr => .ref _ off b (hs.β _ _ (hr r (by simp [AV.refs])) h)
 | tref r s p i st hd b o so T h hi hb hst => exact fun _ => .tref _ _ p i st hd b o so T (hs.G _ _ _ h) hi hb hst
 | osl r s p win v hd h hv => exact fun _ => .osl _ _ p win v hd (hs.G _ _ _ h) hv
 | optr r s p v hd h hp hv => exact fun _ => .optr _ _ p v hd (hs.G _ _ _ h) hp hv
 | csl r off n b c h hc hr => exact fun hq => .csl _ off n b c (hs.β _ _ (hq r (by simp [AV.refs])) h) hc hr
 | yld r l h => exact fun hq => .yld _ l (hs.β _ _ (hq r (by simp [AV.refs])) h)
 | agg cs vs hl hr ih =>
  intro hq
  refine .agg _ vs (by rw [qdj]; exact hl) fun j x y hx hy => ?_
  rw [shML_get] at hx
  obtain ⟨x', hx', rfl⟩ := Option.map_eq_some_iff.1 hx
  exact ih j x' y hx' hy fun k hk => hq k (by simp only [AV.refs]; exact refsL_at hx' hk)
 | tup cs vs hl hr ih =>
  intro hq
  refine .tup _ vs (by rw [qdj]; exact hl) fun j x y hx hy => ?_
  rw [shML_get] at hx
  obtain ⟨x', hx', rfl⟩ := Option.map_eq_some_iff.1 hx
  exact ih j x' y hx' hy fun k hk => hq k (by simp only [AV.refs]; exact refsL_at hx' hk)
 | fn f cs vs hl hr ih =>
  intro hq
  refine .fn f _ vs (by rw [qdj]; exact hl) fun j x y hx hy => ?_
  rw [shML_get] at hx
  obtain ⟨x', hx', rfl⟩ := Option.map_eq_some_iff.1 hx
  exact ih j x' y hx' hy fun k hk => hq k (by simp only [AV.refs]; exact refsL_at hx' hk)
theorem VRs.shM {base : Nat} {ok : Nat → Prop} (hs : ShiftM m base ok γ γ') (h : VRs w Z γ cs vs) (hq : ∀ j ∈ refsL cs, ok j) : VRs w Z γ' (shML m base cs) vs := by
 refine ⟨by rw [qdj]; exact h.1, fun j x y hx hy => ?_⟩
 rw [shML_get] at hx
 obtain ⟨x', hx', rfl⟩ := Option.map_eq_some_iff.1 hx
 exact (h.2 j x' y hx' hy).shM hs fun k hk => hq k (refsL_at hx' hk)
theorem ContR.shM {base j : Nat} {ok : Nat → Prop} {R' : Root} (hs : ShiftM m base ok γ γ') (hGe : γ'.G (base + R.cur) = γ.G R.cur) (ho : ∀ b p, own b = some (j, p) → own' b = some (shG m base j, p)) (hp : R.pend = none) (hok : ∀ k ∈ rootRefs j R.cont, ok k)
  (e1 : R'.cont = R.cont.shM m base) (e2 : R'.cur = base + R.cur) (e3 : R'.fz = R.fz) (e4 : R'.pend = R.pend) (h : ContR w Z own γ j R) : ContR w Z own' γ' (shG m base j) R' := by
 have hc := h
 unfold ContR at hc ⊢
 split at hc
 ·rename_i cs hcs
  simp only [e1, e3, e4, hcs, Cont.shM]
  rw [hcs] at hok
  obtain ⟨q1, q2, b, arr, e, k1, k2, k3, k4⟩ := hc
  exact ⟨q1, q2, b, arr, e, hs.β _ _ (hok j (by simp [rootRefs])) k1, ho _ _ k2, k3, k4.shM hs fun k hk => hok k (by simp [rootRefs, hk])⟩
 ·rename_i x hcs
  simp only [e1, e3, e4, hcs, Cont.shM]
  rw [hcs] at hok
  obtain ⟨q1, q2, b, o, k1, k2, k3, k4⟩ := hc
  exact ⟨q1, q2, b, o, hs.β _ _ (hok j (by simp [rootRefs])) k1, ho _ _ k2, k3, k4⟩
 ·rename_i m0 by_ S xs hcs
  simp only [e1, e2, e3, e4, hcs, Cont.shM, hp]
  refine ⟨⟨hc.1.1, by rw [hGe]; exact hc.1.2⟩, ?_⟩
  have hc := hc.2
  split at hc
  ·rename_i hf
   rw [if_pos hf]
   obtain ⟨_, own0, h1, h2⟩ := hc
   exact ⟨trivial, own0, h1, h2.moveR (Stay.refl _ _) (fun q hd hq => hs.G _ _ _ hq) fun b q row hob hM => ⟨hob, hM⟩⟩
  ·rename_i hf
   rw [if_neg hf]
   simp only [hp] at hc
   exact hc.moveR (Stay.refl _ _) (fun q hd hq => hs.G _ _ _ hq) fun b q row hob hM => ⟨ho b q hob, hM⟩
 ·rename_i l hcs
  simp only [e1, e3, e4, hcs, Cont.shM]
  exact ⟨hc.1, hc.2.1, fun p hp => by simp at hp⟩
theorem hget_ioPuts {h0 : Heap} {as : List Nat} {base x : Nat} : ∀ {l : List (Nat × Root)} {h : Heap}, hget (qaj h (ioPuts h0 as m base l)) x = some R → (∃ j R0, hget l j = some R0 ∧ x = shG m base j ∧ R = R0.shM h0 as m base j) ∨ hget h x = some R
 | [], h, hg => .inr hg
 | (k, R0) :: l, h, hg => by
  rw [ioPuts, qbk] at hg
  have hg' : hget (hput (qaj h (ioPuts h0 as m base l)) (shG m base k) (R0.shM h0 as m base k)) x = some R := hg
  rw [qbl] at hg'
  split at hg'
  ·rename_i hx
   injection hg' with hg'
   exact .inl ⟨k, R0, by simp [hget], hx, hg'.symm⟩
  ·rename_i hx
   rcases hget_ioPuts (l := l) hg' with ⟨j, R1, h1, h2, h3⟩ | h1
   ·have hkj : ¬ k = j := fun e => hx (by rw [e]; exact h2)
    exact .inl ⟨j, R1, by simp only [hget]; rw [if_neg hkj]; exact h1, h2, h3⟩
   ·exact .inr h1
theorem keepH_num {f : Nat → Option Nat} {j : Nat} : ∀ {l : List (Nat × Nat)}, (j, R) ∈ keepH h f l → ∃ r, (r, j) ∈ l
 | [], hm => by simp [keepH] at hm
 | (r, r') :: l, hm => by
  have next : (j, R) ∈ keepH h f l → ∃ r0, (r0, j) ∈ (r, r') :: l := fun hm => by
   obtain ⟨r0, h0⟩ := keepH_num (l := l) hm
   exact ⟨r0, List.mem_cons_of_mem _ h0⟩
  simp only [keepH] at hm
  split at hm
  ·split at hm
   ·exact next hm
   ·rcases List.mem_cons.1 hm with e | hm
    ·injection e with e1 _
     subst e1
     exact ⟨r, List.mem_cons_self⟩
    ·exact next hm
  ·exact next hm
theorem keepH_in {f : Nat → Option Nat} {nx j : Nat} : ∀ {l : List (Nat × Nat)}, qdc nx l = true → (j, R) ∈ keepH h f l → hget (keepH h f l) j = some R
 | [], _, hm => by simp [keepH] at hm
 | (r, r') :: l, hr, hm => by
  have hr2 : qdc nx l = true := by
   simp only [qdc, Bool.and_eq_true] at hr
   exact hr.2
  simp only [keepH] at hm ⊢
  split at hm
  ·split at hm
   ·rename_i hc
    simp only [hc, if_true]
    exact keepH_in hr2 hm
   ·rename_i hc
    rw [if_neg hc]
    simp only [hget]
    rcases List.mem_cons.1 hm with e | hm
    ·injection e with e1 e2
     subst e1; subst e2
     simp
    ·obtain ⟨r0, h0⟩ := keepH_num hm
     have hne : ¬ r' = j := fun e => by
      simp only [qdc, Bool.and_eq_true, List.all_eq_true] at hr
      have := hr.1.2 _ h0
      simp only [bne_iff_ne, ne_eq] at this
      exact this.2 e.symm
     rw [if_neg hne]
     exact keepH_in hr2 hm
  ·exact keepH_in hr2 hm
theorem keepH_has {f : Nat → Option Nat} {r j : Nat} (hg : hget h r = some R) (hp : R.pend = none) (hf : R.fz = false) : ∀ {l : List (Nat × Nat)}, (r, j) ∈ l → (j, { cont := R.cont.ren h f, cur := j, old := [], fz := false, pend := none }) ∈ keepH h f l
 | [], hm => by cases hm
 | (k, k') :: l, hm => by
  simp only [keepH]
  rcases List.mem_cons.1 hm with e | hm
  ·injection e with e1 e2
   subst e1; subst e2
   simp only [hg, hp, hf]
   exact List.mem_cons_self
  ·have ih := keepH_has hg hp hf (f := f) hm
   split
   ·split
    ·exact ih
    ·exact List.mem_cons_of_mem _ ih
   ·exact ih
theorem number_mem {r j : Nat} : ∀ {l : List Nat} {i : Nat}, (r, j) ∈ number l i → r ∈ l
 | [], _, h => by simp [number] at h
 | x :: l, i, h => by
  simp only [number] at h
  rcases List.mem_cons.1 h with e | h
  ·injection e with e1 _
   subst e1
   exact List.mem_cons_self
  ·exact List.mem_cons_of_mem _ (number_mem h)
theorem oldCut_mem' {d : Nat} : ∀ {l : List (Nat × List Nat × Nat)} {e : Nat × List Nat × Nat}, e ∈ oldCut d l → ∃ e0 ∈ l, e = (e0.1, e0.2.1, min e0.2.2 d)
 | [], e, he => by cases he
 | (k, bad, cut) :: l, e, he => by
  simp only [oldCut, List.mem_cons] at he
  rcases he with rfl | he
  ·exact ⟨_, List.mem_cons_self, rfl⟩
  ·obtain ⟨e0, q1, q2⟩ := oldCut_mem' he
   exact ⟨e0, List.mem_cons_of_mem _ q1, q2⟩
theorem MemR.pin {l : List Pin} (hm : MemR w0 K w Z own γ h (fun s => s < 16)) (hl : ∀ p ∈ l, PinR γ p) : MemR w0 K w Z own γ ((0, qef l) :: h) (fun s => s < 16) := by
 refine ⟨hm.os, hm.tape, hm.output, hm.size, hm.kept, hm.zin, hm.zlt, hm.ownlt, hm.ownZ, hm.ownK, fun x R hg => ?_, fun x R hg => ?_, hm.fresh⟩
 ·simp only [hget] at hg
  split at hg
  ·rename_i hx
   injection hg with hg
   subst hx; subst hg
   refine ⟨fun e he => by simp [qef] at he, ?_⟩
   unfold ContR
   exact ⟨rfl, rfl, hl⟩
  ·exact hm.root x R hg
 ·simp only [hget] at hg
  split at hg
  ·rename_i hx
   injection hg with hg
   subst hx; subst hg
   exact ⟨by omega, by show 0 < 16; omega, fun e he => by simp [qef] at he⟩
  ·exact hm.keys x R hg
theorem shG_old {nx base r j : Nat} (hr : qdc nx m = true) (hm : (r, j) ∈ m) : shG m base j = r := by simp only [shG, find_at hr hm]
theorem thinW_dels {ws : List (Nat × Option Root)} : ∀ rs : List Nat, thinW (mvDel rs ++ ws) = thinW ws
 | [] => rfl
 | _ :: rs => thinW_dels rs
theorem acallIO_sound (hE : IoOK E) (hm : MemR w0 K w Z own γ h used) (hgl : GlR E w Z) {bs : List Bool} {f : FuncId} {args : List AV} {C : List Prop} {Kn : Prop} {ws : List (Nat × Option Root)} (he : acallIO E h id bs f args = some (C, Kn, a, ws)) (hC : AllP C) (hv : VRs w Z γ args vs)
  (hid : ∀ j, j < 16 → ¬ used (id + j)) (hu : ∀ s, used s → used' s) (hid' : ∀ j, j < 16 → used' (id + j)) :
  Calls E.P f vs.toArray w fun e w' => ∃ v Z' own' γ', e = .returned v ∧ Kn ∧ Stay w Z w' Z' ∧ Gst.Ext used γ γ' ∧ MemR w0 K w' Z' own' γ' (qaj h ws) used' ∧ VR w' Z' γ' a v := by
 unfold acallIO at he
 split at he
 ·rename_i C1 args1 ws1 hcl
  dsimp only at he
  split at he
  ·rename_i as has
   split at he
   ·rename_i hcond
    split at he
    ·rename_i r hr
     split at he
     ·rename_i hfit
      have hpre0 : C = C1 ++ [r.pre] ∧ Kn = okAV r.res ∧ a = r.res.shM (number (closeR (qaj h ws1) 100 as []) 1) id := by
       split at he <;> (simp only [Option.some.injEq, Prod.mk.injEq] at he; obtain ⟨rfl, rfl, rfl, _⟩ := he; exact ⟨rfl, rfl, rfl⟩)
      obtain ⟨rfl, rfl, rfl⟩ := hpre0
      simp only [Bool.and_eq_true] at hcond
      obtain ⟨hrok, hall⟩ := hcond
      obtain ⟨hC1, hpre⟩ := AllP.append.1 hC
      obtain ⟨Z1, own1, k1, k2⟩ := closeM_sound hm hcl hC1 hv
      generalize hh1 : qaj h ws1 = h1 at *
      generalize closeR h1 100 as [] = rs at *
      generalize hmd : number rs 1 = m at *
      have hmm := k1.mem.masked rs
      obtain ⟨own2, hR, hm2⟩ := hmm.ren hrok
      have hv2 := k2.ren hR (fun A V hv => norm_sound hmm hv)
      have hroots : ∀ j R, (j, R) ∈ keepH (maskH h1 rs) (alook m) m → RootR w Z1 own2 (γcut γ (maskH h1 rs) m) j R ∧ R.cur = j ∧ R.fz = false ∧ R.pend = none := fun j R hmem => by
       have hg := keepH_in hrok hmem
       refine ⟨hm2.root j R hg, ?_⟩
       obtain ⟨r0, R0, q1, q2, q3, q4, rfl⟩ := keepH_get hg
       exact ⟨rfl, rfl, rfl⟩
      obtain ⟨l, hl1, hl2⟩ := pinsOf_ex (E.iopin f) hroots
      refine (hE f _ _ r hr hpre.1 l hl1 w _ w Z1 own2 _ vs (hgl.mono k1.stay) (hm2.pin hl2) hv2).mono fun e w' ⟨v, Z2, own3, γ2, e1, e2, e3, e4⟩ => ?_
      simp only [ioFits, Bool.and_eq_true, Option.isNone_iff_eq_none] at hfit
      obtain ⟨⟨⟨hpn, hfit⟩, hrefs⟩, hrts⟩ := hfit
      have hpin : ∀ p ∈ l, PinR γ2 p := by
       have := (e3.root 0 (qef l) (by simp [hget])).cont
       unfold ContR at this
       exact this.2.2
      classical
      let γ3 : Gst := { β := fun s => if used s then γ.β s else if id ≤ s then γ2.β (s - id) else none, G := fun s => if used s then γ.G s else if id ≤ s then γ2.G (s - id) else fun _ => none }
      let own4 : Own := fun b => (own3 b).map fun o => (shG m id o.1, o.2)
      have hext : Gst.Ext used γ γ3 := fun s hs => ⟨by simp only [γ3, if_pos hs], by simp only [γ3, if_pos hs]⟩
      have hβ : ∀ j, j < 16 → γ3.β (id + j) = γ2.β j := fun j hj => by
       simp only [γ3]
       rw [if_neg (hid j hj), if_pos (by omega), Nat.add_sub_cancel_left]
      have hG : ∀ j, j < 16 → γ3.G (id + j) = γ2.G j := fun j hj => by
       simp only [γ3]
       rw [if_neg (hid j hj), if_pos (by omega), Nat.add_sub_cancel_left]
      have hlt : ∀ j b, γ2.β j = some b → j < 16 := fun j b hb => by
       rcases Nat.lt_or_ge j 16 with h | h
       ·exact h
       ·rw [(e3.fresh j (by omega)).1] at hb; cases hb
      have hltG : ∀ j p hd, γ2.G j p = some hd → j < 16 := fun j p hd hb => by
       rcases Nat.lt_or_ge j 16 with h | h
       ·exact h
       ·rw [(e3.fresh j (by omega)).2] at hb; cases hb
      have hsh : ShiftM m id (fun j => (m.find? fun x => x.2 == j).isNone = true ∨ isCells (keepH (maskH h1 rs) (alook m) m) j = true) γ2 γ3 := by
       refine ⟨fun j b hj hb => ?_, fun s p hd hp => by rw [hG s (hltG s p hd hp)]; exact hp⟩
       rcases hj with hj | hj
       ·have : shG m id j = id + j := by
         unfold shG
         cases hf : m.find? (fun x => x.2 == j) with
         | none => rfl
         | some x => rw [hf] at hj; cases hj
        rw [this, hβ j (hlt j b hb)]
        exact hb
       ·obtain ⟨v', hv'⟩ := pinsOf_b hl1 hj
        have hb2 : γ2.β j = some v' := hpin _ hv'
        have hb1 : (γcut γ (maskH h1 rs) m).β j = some v' := hl2 _ hv'
        rw [hb] at hb2
        injection hb2 with hb2
        subst hb2
        unfold isCells at hj
        split at hj
        ·rename_i R hR
         obtain ⟨r0, R0, q1, q2, q3, q4, rfl⟩ := keepH_get hR
         rw [shG_old hrok q1]
         have hu0 : used r0 := (hmm.keys r0 R0 q2).1
         simp only [γcut, find_at hrok q1, Option.bind_some] at hb1
         simp only [γ3, if_pos hu0]
         exact hb1
        ·cases hj
      have hcase : ∀ x R, hget (qaj (maskH h1 rs) (mvDel rs ++ ioPuts h1 (E.iopin f) m id r.roots)) x = some R → ∃ j R0, hget r.roots j = some R0 ∧ x = shG m id j ∧ R = R0.shM h1 (E.iopin f) m id j := by
       intro x R hg
       rw [qbk] at hg
       rcases hget_ioPuts hg with h | h
       ·exact h
       ·rw [hget_mvDel, qdt] at h
        split at h
        ·cases h
        ·cases h
      have hfacts : ∀ j R0, hget r.roots j = some R0 → j < 16 ∧ 0 < j ∧ R0.cur = j ∧ R0.pend = none ∧ ∀ k ∈ rootRefs j R0.cont, (m.find? fun x => x.2 == k).isNone = true ∨ isCells (keepH (maskH h1 rs) (alook m) m) k = true := by
       intro j R0 hR0
       have hmem := hget_mem hR0
       have f1 := List.all_eq_true.1 hfit _ hmem
       have f2 := List.all_eq_true.1 hrts _ hmem
       simp only [Bool.and_eq_true, decide_eq_true_eq, Option.isNone_iff_eq_none, beq_iff_eq] at f1 f2
       refine ⟨f1.1.1, f2.1.1, f2.1.2, f1.2, fun k hk => ?_⟩
       have := List.all_eq_true.1 f2.2 _ hk
       simpa using this
      have hkept : ∀ j R0, hget r.roots j = some R0 → ∀ e ∈ keptOld h1 (E.iopin f) j (shG m id j), used e.1 ∧ ∀ q hd', q.length < e.2.2 → e.2.1.contains q.length = false → γ3.G e.1 q = some hd' → γ3.G (id + R0.cur) q = some hd' := by
       intro j R0 hR0 e hmem
       obtain ⟨j1, j2, j3, j4, j5⟩ := hfacts j R0 hR0
       unfold keptOld at hmem
       split at hmem
       ·rename_i Rk hps hRk
        split at hmem
        ·rename_i mk bk Sk xk hck
         split at hmem
         ·rename_i hpf
          simp only [Bool.and_eq_true, Option.isNone_iff_eq_none, Bool.not_eq_true'] at hpf
          obtain ⟨u1, u2, u3⟩ := k1.mem.keys _ _ hRk
          have hjm : (shG m id j, j) ∈ m := by
           cases hf : m.find? (fun x => x.2 == j) with
           | none =>
            have : shG m id j = id + j := by simp only [shG, hf]
            rw [this] at u1
            exact absurd u1 (hid j j1)
           | some x =>
            have q1 := List.mem_of_find?_eq_some hf
            have q2 := List.find?_some hf
            simp only [beq_iff_eq] at q2
            simp only [shG, hf]
            rw [← q2]
            exact q1
          have hin : shG m id j ∈ rs := by
           rw [← hmd] at hjm ⊢
           exact number_mem hjm
          have hmk : hget (maskH h1 rs) (shG m id j) = some Rk := by
           rw [qdt, if_pos hin]
           exact hRk
          have hkh := keepH_in hrok (keepH_has (f := alook m) hmk hpf.1 hpf.2 hjm)
          obtain ⟨hd, hpd⟩ := pinsOf_g (m := mk) (b := bk) (S := Sk) (xs := xk) hps hl1 hkh (show Cont.ren _ _ Rk.cont = _ by rw [hck]; rfl)
          have g1 : (γcut γ (maskH h1 rs) m).G j [] = some hd := hl2 _ hpd
          have g2 : γ2.G j [] = some hd := hpin _ hpd
          simp only [γcut, find_at hrok hjm, hmk] at g1
          have fin : ∀ hd', γ.G Rk.cur [] = some hd' → γ3.G (id + R0.cur) [] = some hd' := fun hd' h => by
           rw [j3, hG j j1, g2, ← g1]
           exact h
          rcases List.mem_cons.1 hmem with rfl | hmem
          ·refine ⟨u2, fun q hd' q1 q2 q3 => ?_⟩
           have hq : q = [] := List.eq_nil_of_length_eq_zero (by have : q.length < 1 := q1; omega)
           subst hq
           simp only [γ3, if_pos u2] at q3
           exact fin _ q3
          ·obtain ⟨e0, h0, rfl⟩ := oldCut_mem' hmem
           have u4 := u3 e0 h0
           refine ⟨u4, fun q hd' q1 q2 q3 => ?_⟩
           have q1 : q.length < min e0.2.2 1 := q1
           have hq : q = [] := List.eq_nil_of_length_eq_zero (by omega)
           subst hq
           simp only [γ3, if_pos u4] at q3
           exact fin _ ((k1.mem.root _ _ hRk).old e0 h0 [] hd' (by simp only [List.length_nil] at q1 ⊢; omega) q2 q3)
         ·cases hmem
        ·cases hmem
       ·cases hmem
      have hm4 : MemR w (KM Z1 own1 (maskH h1 rs)) w' Z2 own4 γ3 (qaj (maskH h1 rs) (mvDel rs ++ ioPuts h1 (E.iopin f) m id r.roots)) used' := by
       refine ⟨e3.os, e3.tape, e3.output, e3.size, e3.kept, e3.zin, e3.zlt, fun b o ho => ?_, fun b o ho => ?_, fun b o ho => ?_, fun x R hg => ?_, fun x R hg => ?_, fun s hs => ?_⟩
       ·obtain ⟨o', ho', rfl⟩ := Option.map_eq_some_iff.1 ho
        exact e3.ownlt b o' ho'
       ·obtain ⟨o', ho', rfl⟩ := Option.map_eq_some_iff.1 ho
        exact e3.ownZ b o' ho'
       ·obtain ⟨o', ho', rfl⟩ := Option.map_eq_some_iff.1 ho
        exact e3.ownK b o' ho'
       ·obtain ⟨j, R0, hR0, rfl, rfl⟩ := hcase x R hg
        obtain ⟨j1, j2, j3, j4, j5⟩ := hfacts j R0 hR0
        have hj0 : hget ((0, qef l) :: r.roots) j = some R0 := by
         simp only [hget]
         rw [if_neg (by omega)]
         exact hR0
        refine ⟨fun e he q hd' => (hkept j R0 hR0 e he).2 q hd', ?_⟩
        exact ContR.shM hsh (hG _ (by omega)) (fun b p ho => by simp only [own4, ho, Option.map_some]) j4 j5 rfl rfl rfl rfl (e3.root j R0 hj0).cont
       ·obtain ⟨j, R0, hR0, rfl, rfl⟩ := hcase x R hg
        obtain ⟨j1, j2, j3, j4, j5⟩ := hfacts j R0 hR0
        refine ⟨?_, hid' _ (by omega), fun e he => hu _ (hkept j R0 hR0 e he).1⟩
        cases hf : m.find? (fun x => x.2 == j) with
        | none =>
         have : shG m id j = id + j := by simp only [shG, hf]
         rw [this]
         exact hid' j j1
        | some x =>
         have q1 := List.mem_of_find?_eq_some hf
         have q2 := List.find?_some hf
         simp only [beq_iff_eq] at q2
         have : shG m id j = x.1 := by simp only [shG, hf]
         rw [this]
         have hxr : x.1 ∈ rs := by
          rw [← hmd] at q1
          exact number_mem q1
         have hsm := List.all_eq_true.1 hall _ hxr
         cases hg1 : hget h1 x.1 with
         | none => rw [hg1] at hsm; cases hsm
         | some Rx => exact hu _ (k1.mem.keys _ _ hg1).1
       ·have hns : ¬ used s := fun h => hs (hu s h)
        simp only [γ3]
        rw [if_neg hns, if_neg hns]
        by_cases h1 : id ≤ s
        ·rw [if_pos h1, if_pos h1]
         exact e3.fresh _ fun h3 => hs (by have := hid' _ h3; rwa [show id + (s - id) = s from by omega] at this)
        ·rw [if_neg h1, if_neg h1]
         exact ⟨rfl, fun _ => rfl⟩
      obtain ⟨own5, hm5, hk5⟩ := k1.mem.framed e2 hext hu hm4
      have hv5 : VR w' Z2 γ3 (r.res.shM m id) v := e4.shM hsh fun k hk => by
       have := List.all_eq_true.1 hrefs _ hk
       simpa using this
      split at he
      ·rename_i hthin
       simp only [Bool.and_eq_true] at hthin
       simp only [Option.some.injEq, Prod.mk.injEq, true_and] at he
       subst he
       obtain ⟨own6, Z6, t1, t2⟩ := hm.thaw k1 e2 hext hu e3.size hm5 (fun b o ho hno => hk5 b o ho (by
        rw [qdt]
        simp only [List.map_append, List.mem_append, not_or] at hno
        have : o.1 ∉ rs := by simpa [mvDel] using hno.1
        rw [if_neg this]
        rfl)) (by
        rw [show thinW (mvDel rs ++ ioPuts h1 (E.iopin f) m id r.roots) = thinW (ioPuts h1 (E.iopin f) m id r.roots) from thinW_dels rs]
        exact hthin.2)
       exact ⟨v, Z6, own6, γ3, e1, e4.ok, t1, hext, t2, hv5.thin hthin.1⟩
      ·simp only [Option.some.injEq, Prod.mk.injEq, true_and] at he
       subst he
       exact ⟨v, Z2, own5, γ3, e1, e4.ok, k1.stay.trans e2, hext, by rw [qbk, hh1]; exact hm5, hv5⟩
     ·cases he
    ·cases he
   ·cases he
  ·cases he
 ·cases he
theorem acallB_sound (hE : EnvOK E) (hI : IoOK E) (hm : MemR w0 K w Z own γ h used) (hgl : GlR E w Z) {f : FuncId} {args : List AV} {C : List Prop} {Kn : Prop} {ws : List (Nat × Option Root)} (he : acallB E h id f args = some (C, Kn, a, ws)) (hC : AllP C) (hv : VRs w Z γ args vs)
  (hid : ∀ j, j < 16 → ¬ used (id + j)) (hu : ∀ s, used s → used' s) (hid' : ∀ j, j < 16 → used' (id + j)) :
  Calls E.P f vs.toArray w fun e w' => ∃ v Z' own' γ', e = .returned v ∧ Kn ∧ Stay w Z w' Z' ∧ Gst.Ext used γ γ' ∧ MemR w0 K w' Z' own' γ' (qaj h ws) used' ∧ VR w' Z' γ' a v := by
 unfold acallB at he
 split at he
 ·exact acallIO_sound hI hm hgl he hC hv hid hu hid'
 ·exact acall_sound hE hm hgl he hC hv hid hu hid'
theorem unpA_sound (hC : AllP (unpA a).1) (h : VR w Z γ a v) : VR w Z γ (unpA a).2 v := by
 unfold unpA at hC ⊢
 split at hC
 ·rename_i S z
  rcases CR.ptr_inv (h.toCR rfl) with ⟨rfl, _⟩ | ⟨y, b, o, us, rfl, rfl, hz, _, hr, hf⟩
  ·have h : true = false := hC.1
   cases h
  ·exact .cr (.rtp S y b o us hz hr hf)
 ·exact h
theorem unpL_sound : ∀ {args : List AV} {vs : List Value}, AllP (unpL args).1 → VRs w Z γ args vs → VRs w Z γ (unpL args).2 vs
 | [], _, _, h => h
 | a :: l, vs, hC, h => by
  obtain ⟨v, vs', rfl, h1, h2⟩ := h.uncons
  have hC' : AllP ((unpA a).1 ++ (unpL l).1) := hC
  rw [AllP.append] at hC'
  exact .cons (unpA_sound hC'.1 h1) (unpL_sound hC'.2 h2)
theorem acallA_sound (hE : EnvOK E) (hI : IoOK E) (hm : MemR w0 K w Z own γ h used) (hgl : GlR E w Z) {f : FuncId} {args : List AV} {C : List Prop} {Kn : Prop} {ws : List (Nat × Option Root)} (he : acallA E h id f args = some (C, Kn, a, ws)) (hC : AllP C) (hv : VRs w Z γ args vs)
  (hid : ∀ j, j < 16 → ¬ used (id + j)) (hu : ∀ s, used s → used' s) (hid' : ∀ j, j < 16 → used' (id + j)) :
  Calls E.P f vs.toArray w fun e w' => ∃ v Z' own' γ', e = .returned v ∧ Kn ∧ Stay w Z w' Z' ∧ Gst.Ext used γ γ' ∧ MemR w0 K w' Z' own' γ' (qaj h ws) used' ∧ VR w' Z' γ' a v := by
 unfold acallA at he
 split at he
 ·rename_i r hr
  injection he with he
  subst he
  exact acallB_sound hE hI hm hgl hr hC hv hid hu hid'
 ·split at he
  ·rename_i hr
   simp only [Option.some.injEq, Prod.mk.injEq] at he
   obtain ⟨rfl, rfl, rfl, rfl⟩ := he
   rw [AllP.append] at hC
   exact acallB_sound hE hI hm hgl hr hC.2 (unpL_sound hC.1 hv) hid hu hid'
  ·cases he
end
end Go.BE

/- A part of the proofs over this program: an abstract machine that the kernel evaluates, and its soundness. No conditions. -/
import Derived.Test.YtfnbbidogehnfaaGreatDoorEngineA
import Derived.Laws.Append
namespace Go.BE
section
variable {P : Program} {E : Ctx} {w w' w0 : World} {Z Z' : Nat → Prop} {K : Kp} {own own' : Own} {γ γ' : Gst} {h h' : Heap} {used used' : Nat → Prop} {r s d : Nat} {R : Root} {a A B : AV} {v V U : Value} {cs ds : List AV} {vs us : List Value}
theorem sOK_field : ∀ (f : Nat) (S : Sh), AllP (sOK S (fieldSt f))
 | 0, S => by cases S <;> simp [fieldSt, sOK, AllP]
 | f + 1, S => by
  cases S with
  | pair a b => exact sOK_field f b
  | _ => simp [fieldSt, sOK, AllP]
theorem FR.get {S T : Sh} {x : Den S} {y : Den T} {st : List St} (h : FR w Z S x us) (hg : sGet S x st = some ⟨T, y⟩) (hok : AllP (sOK S st)) : ∃ so, sAt S st = some (T, so) ∧ so + T.size ≤ S.size ∧ FR w Z T y (seg us so T.size) := by
 obtain ⟨so, h1, h2, h3, _⟩ := OR.static (w' := w) (Z' := Z) (M' := fun _ => none) (own' := fun _ => none) (g' := fun _ => none) (M := fun _ => none) (own := fun _ => none) (r := 0) (g := fun _ => none) (Stay.refl w Z) st (m := 0) (p := []) (i := 0) (st := []) hg hok (OR.of_FR (.inl rfl) h)
 exact ⟨so, h1, h2, OR.to_FR (.inl rfl) h3⟩
theorem Run.seg {b o so n : Nat} (h : Run w b o us) : Run w b (o + so) (BE.seg us so n) := fun j v hj => by
 have := h _ _ (seg_get hj)
 rwa [← Nat.add_assoc] at this
def Cells (w : World) (Z : Nat → Prop) (γ : Gst) (b o : Nat) (cs : List AV) : Prop :=
 ∀ (j : Nat) a, cs[j]? = some a → ∃ v, qfv w b (o + j) v ∧ VR w Z γ a v
theorem Cells.list {b o : Nat} {cs : List AV} (h : Cells w Z γ b o cs) : ∃ vs : List Value, VRs w Z γ cs vs ∧ Run w b o vs := by
 induction cs generalizing o with
 | nil => exact ⟨[], VRs.nil, fun j v hj => by simp at hj⟩
 | cons a cs ih =>
  obtain ⟨v, hv, hr⟩ := h 0 a rfl
  obtain ⟨vs, h1, h2⟩ := ih (o := o + 1) (fun j x hj => by
   obtain ⟨u, hu, hr⟩ := h (j + 1) x (by simpa using hj)
   exact ⟨u, by rwa [show o + 1 + j = o + (j + 1) from by omega], hr⟩)
  refine ⟨v :: vs, VRs.cons hr h1, fun j u hj => ?_⟩
  cases j with
  | zero => simp at hj; subst hj; exact hv
  | succ j => have := h2 j u (by simpa using hj); rwa [show o + 1 + j = o + (j + 1) from by omega] at this
theorem Cells.sub {b o : Nat} {cs : List AV} (h : Cells w Z γ b o cs) (off n : Nat) : Cells w Z γ b (o + off) ((cs.drop off).take n) := by
 intro j a hj
 rw [List.getElem?_take] at hj
 split at hj
 ·rw [List.getElem?_drop] at hj
  obtain ⟨v, hv, hr⟩ := h (off + j) a hj
  exact ⟨v, by rwa [show o + off + j = o + (off + j) from by omega], hr⟩
 ·simp at hj
theorem load_var {t : TypeId} {i : TI} (hi : TIOK P t i) {b o off : Nat} {cs : List AV} (h : Cells w Z γ b o cs) {a : AV} (ht : takeVar i cs off = some a) :
  ∃ v, (loadVar t ⟨b, o + off, none⟩).run P w = .ok v w ∧ VR w Z γ a v := by
 obtain ⟨ti, h1, h2, _, _⟩ := hi.info
 obtain ⟨d, hd, hk⟩ := hi.desc
 have hg := hk.isAgg
 unfold takeVar at ht
 simp only [loadVar, Sem.run_bind, run_isAgg' hd, Result.andThen_ok, hg]
 cases hb : i.isAgg
 ·simp only [hb, Bool.false_eq_true, if_false] at ht ⊢
  obtain ⟨v, hv, hr⟩ := h off a ht
  unfold qfv at hv
  exact ⟨v, by simp [hv], hr⟩
 ·simp only [hb, if_true] at ht ⊢
  split at ht
  ·rename_i hle
   injection ht with ht
   subst ht
   obtain ⟨vs, hr, hc⟩ := (h.sub off i.size).list
   have hl : vs.length = i.size := by rw [← hr.1]; simp; omega
   refine ⟨.agg vs.toArray, ?_, .agg _ _ (by simpa using hr.1) (fun j x y hx hy => hr.2 j x y hx (by simpa using hy))⟩
   simp only [Sem.run_bind, qaw h1 h2, Result.andThen_ok]
   rw [← hl, run_loadCells b (o + off) vs hc]
   simp
  ·cases ht
theorem MemR.cells (hm : MemR w0 K w Z own γ h used) (hR : hget h r = some R) (hc : R.cont = .cells cs) : ∃ b, γ.β r = some b ∧ own b = some (r, []) ∧ R.fz = false ∧ R.pend = none ∧ ∃ arr e, w.heap[b]? = some (.cells arr e (0, 0)) ∧ VRs w Z γ cs arr.toList := by
 have hcr := (hm.root r R hR).cont
 unfold ContR at hcr
 simp only [hc] at hcr
 obtain ⟨e1, e2, b, arr, e, k1, k2, k3, k4⟩ := hcr
 exact ⟨b, k1, k2, e1, e2, arr, e, k3, k4⟩
theorem row_cells {b : Nat} {arr : Array Value} {e : TypeId} (hb : w.heap[b]? = some (.cells arr e (0, 0))) (hv : VRs w Z γ cs arr.toList) : Cells w Z γ b 0 cs := by
 intro j a hj
 obtain ⟨v, h1, h2⟩ := hv.get hj
 refine ⟨v, ?_, h2⟩
 simp only [Nat.zero_add]
 unfold qfv World.cell?
 simp only [hb]
 simpa using h1
theorem VR.ref_inv {off : Nat} (h : VR w Z γ (.ref r off) v) : ∃ b, γ.β r = some b ∧ v = .pointer (some ⟨b, off, none⟩) := by
 cases h with
 | cr h => cases h
 | ref _ _ b hb => exact ⟨b, hb, rfl⟩
theorem VR.tref_inv {p : Pth} {i : Nat} {st : List St} (h : VR w Z γ (.tref r s p i st) v) : ∃ hd b o so T, γ.G s p = some hd ∧ i < hd.n ∧ hd.blk = some (b, o) ∧ sAt hd.S st = some (T, so) ∧ v = .pointer (some ⟨b, o + i * hd.S.size + so, none⟩) := by
 cases h with
 | cr h => cases h
 | tref _ _ _ _ _ hd b o so T h1 h2 h3 h4 => exact ⟨hd, b, o, so, T, h1, h2, h3, h4, rfl⟩
theorem VR.osl_inv {p : Pth} {win : Option (Nat × Nat)} (h : VR w Z γ (.osl r s p win) v) : ∃ hd, γ.G s p = some hd ∧ SVal hd win v := by
 cases h with
 | cr h => cases h
 | osl _ _ _ _ _ hd h1 h2 => exact ⟨hd, h1, h2⟩
theorem VR.rtp_inv {S : Sh} {x : Den S} (h : VR w Z γ (.rtp S x) v) : ∃ b o us, v = .pointer (some ⟨b, o, none⟩) ∧ Z b ∧ Run w b o us ∧ FR w Z S x us := by
 cases h with
 | cr h => cases h with | rtp _ _ b o us h1 h2 h3 => exact ⟨b, o, us, rfl, h1, h2, h3⟩
theorem VR.rop_inv {off : Nat} (h : VR w Z γ (.rop cs off) v) : ∃ b o, v = .pointer (some ⟨b, o + off, none⟩) ∧ ∀ off', VR w Z γ (.rop cs off') (.pointer (some ⟨b, o + off', none⟩)) := by
 cases h with
 | cr h =>
  cases h with
  | rop _ _ b o u hz hc hr => exact ⟨b, o, rfl, fun off' => .cr (.rop cs off' b o u hz hc hr)⟩
theorem VR.slt_inv {b : Nat} {S : Sh} {x : Den (.sl b S)} (h : VR w Z γ (.tv (.sl b S) x) v) : FR w Z (.sl b S) x [v] := by
 cases h with
 | cr h => cases h with
  | tva _ _ _ hS _ => cases hS
  | tv1 _ _ _ _ h => exact h
theorem VR.agg_inv (h : VR w Z γ (.agg cs) v) : ∃ arr, v = .agg arr ∧ VRs w Z γ cs arr.toList := h.agg_inv'
theorem MemR.placeL (hm : MemR w0 K w Z own γ h used) {p : Pth} {N : NodeA} (he : rnodeL h r s p = some N) {i : Nat} {st : List St} {u : TVal} (hu : sGet N.n.S (N.n.xs.getD i (dz N.n.S)) st = some u) (hC : AllP (N.C ++ (i < N.n.xs.length) :: sOK N.n.S st)) {v : Value} (hv : VR w Z γ (.tref r s p i st) v) :
  ∃ hd b o row so own0 r0, γ.G N.R.cur p = some hd ∧ hd.S = N.n.S ∧ hd.n = N.n.xs.length ∧ hd.blk = some (b, o) ∧ own0 b = some (r0, p) ∧ rows w b = some row ∧ sAt N.n.S st = some (u.S, so) ∧ o + i * N.n.S.size + so + u.S.size ≤ row.length ∧
   v = .pointer (some ⟨b, o + i * N.n.S.size + so, none⟩) ∧ OR w Z (rows w) own0 r0 (γ.G N.R.cur) u.S (N.m - p.length) u.x p i st (BE.seg row (o + i * N.n.S.size + so) u.S.size) ∧ (N.R.fz = false → own0 = own ∧ r0 = r) := by
 rw [AllP.append] at hC
 obtain ⟨hC1, hi, hC2⟩ := hC
 obtain ⟨hA, hp⟩ := rnodeL_spec he
 obtain ⟨⟨h1, h2, h3, h4, h5, h6⟩, ⟨b, S, xs, k1, k2, k3, _⟩, _⟩ := hm.nodeA hA hC1
 obtain ⟨_, _, M, own0, r0, k6, q2, _, q4⟩ := hm.arr h1 k1
 have hM := q2 hp
 subst hM
 rw [h5] at hC1
 obtain ⟨T, y⟩ := u
 obtain ⟨hd, bb, o, row, so, e1, e2, e3, e4, e5, e6, e7, e8, e9, _⟩ := (qbv.place (w' := w) (Z' := Z) (M' := rows w) (own' := own0) (g' := γ.G N.R.cur) (Stay.refl w Z) p (t := N.d) (n0 := ⟨S, xs, false⟩) (n := N.n) (p0 := []) (by rw [k2]; rfl) k6 h4 h6 hC1).2 hi hu hC2
 simp only [List.nil_append] at e1 e5 e9
 refine ⟨hd, bb, o, row, so, own0, r0, e1, e2, e3, e4, e5, e6, e7, e8, ?_, e9, q4⟩
 obtain ⟨hd', b', o', so', T', q1, q2, q3, q4, rfl⟩ := hv.tref_inv
 have := h2.valid_hd h3 q1
 rw [e1] at this
 injection this with this
 subst this
 rw [e4] at q3
 injection q3 with q3
 injection q3 with q3 q3'
 subst q3; subst q3'
 rw [e2, e7] at q4
 injection q4 with q4
 injection q4 with _ q4
 subst q4
 rw [e2]
theorem rnode_L {p : Pth} {N : NodeA} (he : rnode h r s p = some N) : rnodeL h r s p = some N := by
 obtain ⟨h1, h2, _⟩ := rnode_spec he
 unfold rnodeL
 simp [h1, h2]
theorem MemR.place (hm : MemR w0 K w Z own γ h used) {p : Pth} {N : NodeA} (he : rnode h r s p = some N) {i : Nat} {st : List St} {u : TVal} (hu : sGet N.n.S (N.n.xs.getD i (dz N.n.S)) st = some u) (hC : AllP (N.C ++ (i < N.n.xs.length) :: sOK N.n.S st)) {v : Value} (hv : VR w Z γ (.tref r s p i st) v) :
  ∃ hd b o row so, γ.G N.R.cur p = some hd ∧ hd.S = N.n.S ∧ hd.n = N.n.xs.length ∧ hd.blk = some (b, o) ∧ own b = some (r, p) ∧ rows w b = some row ∧ sAt N.n.S st = some (u.S, so) ∧ o + i * N.n.S.size + so + u.S.size ≤ row.length ∧
   v = .pointer (some ⟨b, o + i * N.n.S.size + so, none⟩) ∧ OR w Z (rows w) own r (γ.G N.R.cur) u.S (N.m - p.length) u.x p i st (BE.seg row (o + i * N.n.S.size + so) u.S.size) := by
 obtain ⟨hd, b, o, row, so, own0, r0, e1, e2, e3, e4, e5, e6, e7, e8, e9, e10, e11⟩ := hm.placeL (rnode_L he) hu hC hv
 obtain ⟨rfl, rfl⟩ := e11 (rnode_spec he).2.2
 exact ⟨hd, b, o, row, so, e1, e2, e3, e4, e5, e6, e7, e8, e9, e10⟩
theorem aload_sound (hT : TyOK E.P E.ty) (hm : MemR w0 K w Z own γ h used) {t : TypeId} {C : List Prop} (he : aload E h t A = some (C, a)) (hC : AllP C) (hA : VR w Z γ A V) :
  ∃ v, (Instr.loadAt t V).run E.P w = .ok v w ∧ VR w Z γ a v := by
 have key : ∀ {b o : Nat} {v : Value}, (loadVar t ⟨b, o, none⟩).run E.P w = .ok v w → (Instr.loadAt t (.pointer (some ⟨b, o, none⟩))).run E.P w = .ok v w := fun h1 => by
  simp only [Instr.loadAt, Instr.sureAddr, Sem.run_bind, Sem.run_pure, Result.andThen_ok, h1]
 unfold aload at he
 split at he
 ·rename_i cs off
  split at he
  ·rename_i i hi
   obtain ⟨x, hx, e⟩ := Option.map_eq_some_iff.1 he
   injection e with _ e
   subst e
   cases hA with
   | cr hA =>
    cases hA with
    | rop _ _ b o u hz hcell hrel =>
     obtain ⟨v, h1, h2⟩ := load_var (w := w) (Z := Z) (γ := γ) (hT t i hi) (b := b) (o := o) (off := off) (cs := cs) (fun j a hj => ⟨u j, hcell j a hj, .cr (hrel j a hj)⟩) hx
     exact ⟨v, key h1, h2⟩
  ·cases he
 ·rename_i S x
  split at he
  ·rename_i i hi
   split at he
   ·rename_i hf
    injection he with he
    injection he with _ he
    subst he
    obtain ⟨b, o, us, rfl, h1, h2, h3⟩ := hA.rtp_inv
    obtain ⟨v, k1, k2⟩ := load_run (P := E.P) (hT t i hi) hf h3.len h2
    refine ⟨v, key k1, .cr ?_⟩
    have := h3.avOf
    split at this
    ·rename_i hS
     rw [if_pos hS] at k2
     subst k2
     exact this
    ·rename_i hS
     rw [if_neg hS] at k2
     obtain ⟨v', e1, e2⟩ := this
     rw [k2] at e1
     injection e1 with e1
     subst e1
     exact e2
   ·cases he
  ·cases he
 ·rename_i r off
  split at he
  ·rename_i i R hi hR
   split at he
   ·rename_i cs hc
    obtain ⟨x, hx, e⟩ := Option.map_eq_some_iff.1 he
    injection e with _ e
    subst e
    obtain ⟨b, hb, _, _, _, arr, e, k3, k4⟩ := hm.cells hR hc
    obtain ⟨b', hb', rfl⟩ := hA.ref_inv
    rw [hb] at hb'
    injection hb' with hb'
    subst hb'
    obtain ⟨v, h1, h2⟩ := load_var (hT t i hi) (off := off) (row_cells k3 k4) hx
    simp only [Nat.zero_add] at h1
    exact ⟨v, key h1, h2⟩
   ·cases he
  ·cases he
 ·rename_i r s p i st
  split at he
  ·rename_i ti N hi hN
   split at he
   ·rename_i u hu
    split at he
    ·rename_i hf
     injection he with he
     injection he with he1 he
     subst he; subst he1
     obtain ⟨hd, b, o, row, so, own0, r0, e1, e2, e3, e4, e5, e6, e7, e8, rfl, e10, _⟩ := hm.placeL hN hu hC hA
     obtain ⟨v, k1, k2⟩ := load_run (P := E.P) (hT t ti hi) hf e10.len (Run.seg_rows e6)
     exact ⟨v, key k1, placeVal_rel e10 k2⟩
    ·cases he
   ·cases he
  ·cases he
 ·cases he
theorem run_part {t : TypeId} {n : Nat} {g : Bool} (hi : ∃ ti, P.info? t = some ti ∧ ti.size = n) (hd : ∃ d, P.underlying t = some d ∧ isAggD d = g) {arr : Array Value} {off : Nat} (hr : VRs w Z γ cs arr.toList)
  (he : (if g then (if off + n ≤ cs.length then some (AV.agg ((cs.drop off).take n)) else none) else cs[off]?) = some a) : ∃ v, (part t arr off).run P w = .ok v w ∧ VR w Z γ a v := by
 obtain ⟨ti, h1, h2⟩ := hi
 obtain ⟨d, h3, h4⟩ := hd
 simp only [part, Sem.run_bind, run_isAgg' h3, h4, Result.andThen_ok]
 cases g
 ·simp only [Bool.false_eq_true, if_false] at he ⊢
  obtain ⟨v, hv, hr⟩ := hr.get he
  rw [Array.getElem?_toList] at hv
  exact ⟨v, by simp [hv], hr⟩
 ·simp only [if_true] at he ⊢
  split at he
  ·injection he with he
   subst he
   refine ⟨.agg (arr.extract off (off + n)), by simp only [Sem.run_bind, qaw h1 h2, Result.andThen_ok, Sem.run_pure], ?_⟩
   have h5 := (hr.drop off).take n
   have h6 : (arr.extract off (off + n)).toList = (arr.toList.drop off).take n := by simp [List.extract_eq_take_drop]
   exact .agg _ _ (by have := h5.1; rwa [← h6, Array.length_toList] at this) (fun j x y hx hy => h5.2 j x y hx (by rwa [← h6, Array.getElem?_toList]))
  ·cases he
theorem afield_sound (hT : TyOK E.P E.ty) {t : TypeId} {f : Nat} (he : afield E t f A = some a) (hA : VR w Z γ A V) : ∃ v, (Instr.field t V f).run E.P w = .ok v w ∧ VR w Z γ a v := by
 unfold afield at he
 split at he
 ·rename_i fs _ _ _ _ hi
  split at he
  ·rename_i fi hf
   obtain ⟨d, hd, gs, rfl, hl, hg⟩ := (hT t _ hi).desc
   obtain ⟨g, hg1, ho, hs, hk⟩ := hg f _ hf
   split at he
   ·obtain ⟨arr, rfl, hr⟩ := hA.agg_inv
    obtain ⟨v, h1, h2⟩ := run_part (P := E.P) hs hk hr (off := fi.off) he
    refine ⟨v, ?_, h2⟩
    simp only [Instr.field, Sem.run_bind, run_underlying hd, Result.andThen_ok, hg1, asAgg, Sem.run_pure, ho]
    exact h1
   ·rename_i S x
    split at he
    ·rename_i u T o hu hat
     split at he
     ·rename_i hcond
      obtain ⟨c1, c2, c3⟩ := hcond
      injection he with he
      subst he
      have hSa : S.isAgg = true := by cases f <;> cases S <;> first | rfl | simp [fieldSt, sGet] at hu
      cases hA with
      | cr hA =>
       cases hA with
       | tv1 _ _ _ hS _ => rw [hSa] at hS; cases hS
       | tva _ _ arr _ hfr =>
        obtain ⟨T', y⟩ := u
        obtain ⟨so, q1, q2, q3⟩ := hfr.get hu (sOK_field f S)
        rw [hat] at q1
        injection q1 with q1
        injection q1 with q1 q1'
        subst q1; subst q1'
        subst c1
        have hal := hfr.len
        obtain ⟨ti, i1, i2⟩ := hs
        obtain ⟨de, d1, d2⟩ := hk
        have hrun : (Instr.field t (.agg arr) f).run E.P w = (part g.type arr fi.off).run E.P w := by
         simp only [Instr.field, Sem.run_bind, run_underlying hd, Result.andThen_ok, hg1, asAgg, Sem.run_pure, ho]
        rw [hrun]
        simp only [part, Sem.run_bind, run_isAgg' d1, d2, Result.andThen_ok]
        have hav := q3.avOf
        simp only at c2 c3
        cases hfa : fi.agg
        ·rw [hfa] at c3
         rw [c3] at hav
         simp only [Bool.false_eq_true, if_false] at hav ⊢
         obtain ⟨v, e1, e2⟩ := hav
         have : arr[fi.off]? = some v := by
          have := seg_get (row := arr.toList) (o := fi.off) (n := T.size) (j := 0) (v := v) (by rw [e1]; rfl)
          simpa using this
         exact ⟨v, by simp [this], .cr e2⟩
        ·rw [hfa] at c3
         rw [c3] at hav
         simp only [if_true] at hav ⊢
         refine ⟨_, ?_, .cr hav⟩
         simp only [Sem.run_bind, qaw i1 i2, Result.andThen_ok, Sem.run_pure]
         congr 2
         rw [← c2]
         apply Array.ext'
         simp [BE.seg, List.extract_eq_take_drop]
     ·cases he
    ·cases he
   ·cases he
  ·cases he
 ·cases he
theorem fieldAt_run {s : TypeId} {gs : Array Field} {f : Nat} {g : Field} {fi : FI} (hd : P.underlying s = some (.struct gs)) (hg : gs[f]? = some g) (hf : FIOK P fi g) (hz : fi.size ≠ 0) (b o : Nat) :
  (Instr.fieldAt s (.pointer (some ⟨b, o, none⟩)) f).run P w = .ok (.pointer (some ⟨b, o + fi.off, none⟩)) w := by
 obtain ⟨ho, ⟨ti, h1, h2⟩, _⟩ := hf
 simp only [Instr.fieldAt, Sem.run_bind, run_underlying hd, Result.andThen_ok, hg, Instr.sureAddr, Sem.run_pure, fieldPlace, qaw h1 h2]
 rw [if_neg hz]
 simp only [Sem.run_pure, Result.andThen_ok, qee, ho]
end
end Go.BE
namespace Go.BE
section
variable {P : Program} {E : Ctx} {w w' w0 : World} {Z Z' : Nat → Prop} {K : Kp} {own own' : Own} {γ γ' : Gst} {h h' : Heap} {used used' : Nat → Prop} {r s d : Nat} {R : Root} {a A B : AV} {v V U : Value} {cs ds : List AV} {vs us : List Value}
theorem afieldAddr_sound (hT : TyOK E.P E.ty) (hm : MemR w0 K w Z own γ h used) {t : TypeId} {f : Nat} {C : List Prop} (he : afieldAddr E h t f A = some (C, a)) (hC : AllP C) (hA : VR w Z γ A V) : ∃ v, (Instr.fieldAt t V f).run E.P w = .ok v w ∧ VR w Z γ a v := by
 unfold afieldAddr at he
 split at he
 ·rename_i fs _ _ _ _ hi
  split at he
  ·rename_i fi hf
   split at he
   ·cases he
   ·rename_i hz
    obtain ⟨d, hd, gs, rfl, hl, hg⟩ := (hT t _ hi).desc
    obtain ⟨g, hg1, hg2⟩ := hg f _ hf
    split at he
    ·rename_i r off
     injection he with he; injection he with _ he; subst he
     obtain ⟨b, hb, rfl⟩ := hA.ref_inv
     exact ⟨_, fieldAt_run hd hg1 hg2 hz b off, .ref _ _ _ hb⟩
    ·rename_i cs off
     injection he with he; injection he with _ he; subst he
     obtain ⟨b, o, rfl, hr⟩ := hA.rop_inv
     exact ⟨_, fieldAt_run hd hg1 hg2 hz b (o + off), by rw [Nat.add_assoc]; exact hr _⟩
    ·rename_i S x
     split at he
     ·rename_i u T o hu hat
      split at he
      ·rename_i ho
       injection he with he; injection he with _ he; subst he
       obtain ⟨b, o', us, rfl, h1, h2, h3⟩ := hA.rtp_inv
       obtain ⟨T', y⟩ := u
       obtain ⟨so, q1, q2, q3⟩ := h3.get hu (sOK_field f S)
       rw [hat] at q1
       injection q1 with q1
       injection q1 with q1 q1'
       subst q1; subst q1'
       refine ⟨_, fieldAt_run hd hg1 hg2 hz b o', .cr (.rtp _ _ b _ _ h1 ?_ q3)⟩
       rw [← ho]
       exact h2.seg
      ·cases he
     ·cases he
    ·rename_i r s p j st
     split at he
     ·rename_i N hN
      split at he
      ·rename_i T hT1
       split at he
       ·rename_i T2 o hT2
        split at he
        ·rename_i ho
         injection he with he; injection he with hC' he; subst he; subst hC'
         obtain ⟨hd', b', o', so1, T', q1, q2, q3, q4, rfl⟩ := hA.tref_inv
         obtain ⟨_, k2, _⟩ := hm.hdA hN hC q1
         obtain ⟨so, hso⟩ := sAt_of_sSh hT1
         rw [k2, hso] at q4
         injection q4 with q4
         injection q4 with q4' q4
         subst q4; subst q4'
         refine ⟨_, fieldAt_run hd hg1 hg2 hz b' _, ?_⟩
         have := VR.tref (w := w) (Z := Z) (γ := γ) r s p j (st ++ fieldSt f) hd' b' o' (so + o) T2 q1 q2 q3 (by rw [k2]; exact sAt_append hso hT2)
         rw [ho] at this
         rw [Nat.add_assoc (o' + j * hd'.S.size)]
         exact this
        ·cases he
       ·cases he
      ·cases he
     ·cases he
    ·cases he
  ·cases he
 ·cases he
theorem vget_FR {n : Nat} {S : Sh} {x : Den (.arr n S)} (h : FR w Z (.arr n S) x us) {i : Nat} (hi : i < n) : FR w Z S (vget (dz S) n x i) (BE.seg us (i * S.size) S.size) := by
 obtain ⟨so, h1, h2, h3⟩ := FR.get (T := S) (y := vget (dz S) n x i) (st := [.a i]) h (by cases S <;> rfl) (by cases S <;> exact ⟨hi, trivial⟩)
 have : sAt (.arr n S) [.a i] = some (S, i * S.size + 0) := by cases S <;> rfl
 rw [this] at h1
 injection h1 with h1
 injection h1 with _ h1
 subst h1
 exact h3
theorem VR.csl_inv {off n : Nat} (h : VR w Z γ (.csl r off n) v) : ∃ b c, γ.β r = some b ∧ n ≤ c ∧ n ≤ roomB ∧ v = .slice (some ⟨b, off, none⟩) n c := by
 cases h with
 | cr h => cases h
 | csl _ _ _ b c h hc hr => exact ⟨b, c, h, hc, hr, rfl⟩
theorem aindexAddr_sound (hT : TyOK E.P E.ty) (hm : MemR w0 K w Z own γ h used) {t : TypeId} {k : IntKind} {i : Int} {C : List Prop} (he : aindexAddr E h t A i = some (C, a)) (hC : AllP C) (hA : VR w Z γ A V) :
  ∃ v, (Instr.indexAt t V (.int k i)).run E.P w = .ok v w ∧ VR w Z γ a v := by
 unfold aindexAddr at he
 split at he
 ·rename_i n e _ _ _ _ hi
  obtain ⟨d, hd, hk⟩ := (hT t _ hi).desc
  simp only [TKOK] at hk
  subst hk
  split at he
  ·rename_i _ ie r off hie
   obtain ⟨tie, k1, k2, _⟩ := (hT e _ hie).info
   injection he with he; injection he with h1 h2; subst h1; subst h2
   obtain ⟨b, hb, rfl⟩ := hA.ref_inv
   simp only [AllP, and_true] at hC
   refine ⟨.pointer (some ⟨b, off + i.toNat * ie.size, none⟩), ?_, .ref _ _ _ hb⟩
   simp only [Instr.indexAt, asIntOf, Sem.run_bind, Sem.run_pure, Result.andThen_ok, run_underlying hd, Instr.sureAddr, hC, and_self, if_true, qaw k1 k2, qee]
  ·rename_i _ ie cs off hie
   obtain ⟨tie, k1, k2, _⟩ := (hT e _ hie).info
   injection he with he; injection he with h1 h2; subst h1; subst h2
   obtain ⟨b, o, rfl, hr⟩ := hA.rop_inv
   simp only [AllP, and_true] at hC
   refine ⟨.pointer (some ⟨b, o + off + i.toNat * ie.size, none⟩), ?_, by rw [Nat.add_assoc]; exact hr _⟩
   simp only [Instr.indexAt, asIntOf, Sem.run_bind, Sem.run_pure, Result.andThen_ok, run_underlying hd, Instr.sureAddr, hC, and_self, if_true, qaw k1 k2, qee]
  ·rename_i _ ie n' S x hie
   obtain ⟨tie, k1, k2, _⟩ := (hT e _ hie).info
   split at he
   ·rename_i hcond
    obtain ⟨rfl, c2⟩ := hcond
    injection he with he; injection he with h1 h2; subst h1; subst h2
    simp only [AllP, and_true] at hC
    obtain ⟨b, o, us, rfl, z1, z2, z3⟩ := hA.rtp_inv
    have hlt : i.toNat < n' := by omega
    refine ⟨.pointer (some ⟨b, o + i.toNat * ie.size, none⟩), ?_, .cr (.rtp _ _ b _ _ z1 ?_ (vget_FR z3 hlt))⟩
    ·simp only [Instr.indexAt, asIntOf, Sem.run_bind, Sem.run_pure, Result.andThen_ok, run_underlying hd, Instr.sureAddr, hC, and_self, if_true, qaw k1 k2, qee]
    ·rw [← c2]
     exact z2.seg
   ·cases he
  ·rename_i _ ie r s p j st hie
   obtain ⟨tie, k1, k2, _⟩ := (hT e _ hie).info
   split at he
   ·rename_i N hN
    split at he
    ·rename_i n' S hT1
     split at he
     ·rename_i hcond
      obtain ⟨rfl, c2⟩ := hcond
      injection he with he; injection he with h1 h2; subst h1; subst h2
      rw [AllP.append] at hC
      obtain ⟨hC1, hC2⟩ := hC
      simp only [AllP, and_true] at hC2
      obtain ⟨hd', b', o', so1, T', q1, q2, q3, q4, rfl⟩ := hA.tref_inv
      obtain ⟨_, l2, _⟩ := hm.hdA hN hC1 q1
      obtain ⟨so, hso⟩ := sAt_of_sSh hT1
      rw [l2, hso] at q4
      injection q4 with q4
      injection q4 with q4' q4
      subst q4; subst q4'
      refine ⟨.pointer (some ⟨b', o' + j * hd'.S.size + so + i.toNat * ie.size, none⟩), ?_, ?_⟩
      ·simp only [Instr.indexAt, asIntOf, Sem.run_bind, Sem.run_pure, Result.andThen_ok, run_underlying hd, Instr.sureAddr, hC2, and_self, if_true, qaw k1 k2, qee]
      ·have := VR.tref (w := w) (Z := Z) (γ := γ) r s p j (st ++ [.a i.toNat]) hd' b' o' (so + i.toNat * S.size) S q1 q2 q3 (by rw [l2]; exact sAt_append hso (by simp only [sAt]; cases S <;> simp [sAt]))
       rw [c2] at this
       rw [Nat.add_assoc (o' + j * hd'.S.size)]
       exact this
     ·cases he
    ·cases he
   ·cases he
  ·cases he
 ·rename_i e _ _ _ _ hi
  obtain ⟨d, hd, hk⟩ := (hT t _ hi).desc
  simp only [TKOK] at hk
  subst hk
  split at he
  ·rename_i _ ie b0 S x hie
   obtain ⟨tie, k1, k2, _⟩ := (hT e _ hie).info
   split at he
   ·rename_i hsz
    injection he with he; injection he with h1 h2; subst h1; subst h2
    simp only [AllP, and_true] at hC
    obtain ⟨c1, c2⟩ := hC
    obtain ⟨ad, c, hv, hc, hroom, hel⟩ := hA.slt_inv
    injection hv with hv
    subst hv
    have hpos : 0 < List.length (α := Den S) x := by omega
    obtain ⟨b, o, rfl, hz, hel⟩ := hel hpos
    have hlt : i.toNat < List.length (α := Den S) x := by omega
    obtain ⟨us, q1, q2, q3⟩ := hel i.toNat _ (lat_lt hlt (dz S))
    refine ⟨.pointer (some ⟨b, o + i.toNat * ie.size, none⟩), ?_, .cr (.rtp _ _ b _ us hz (by rw [hsz]; exact q2) q3)⟩
    simp only [Instr.indexAt, asIntOf, Sem.run_bind, Sem.run_pure, Result.andThen_ok, run_underlying hd, c1, c2, and_self, if_true, qaw k1 k2, qee]
   ·cases he
  ·rename_i _ ie r s p win hie
   obtain ⟨tie, k1, k2, _⟩ := (hT e _ hie).info
   split at he
   ·rename_i N hN
    split at he
    ·rename_i hsz
     injection he with he; injection he with h1 h2; subst h1; subst h2
     rw [AllP.append] at hC
     obtain ⟨hC1, hC2⟩ := hC
     simp only [AllP, and_true] at hC2
     obtain ⟨c1, c2⟩ := hC2
     obtain ⟨hd0, e1, e2⟩ := hA.osl_inv
     obtain ⟨q1, q2, q3, q4, _⟩ := hm.hdA hN hC1 e1
     obtain ⟨e3, ad, c, rfl, e4, e5, e6, e7⟩ := e2
     rw [q4] at e4 e5
     rw [woff_eq]
     obtain ⟨b, o, f1, rfl⟩ := e7 (by omega)
     refine ⟨.pointer (some ⟨b, o + wlo win * hd0.S.size + i.toNat * ie.size, none⟩), ?_, ?_⟩
     ·rw [q4]
      simp only [Instr.indexAt, asIntOf, Sem.run_bind, Sem.run_pure, Result.andThen_ok, run_underlying hd, c1, c2, and_self, if_true, qaw k1 k2, qee]
     ·have := VR.tref (w := w) (Z := Z) (γ := γ) r s p (wlo win + i.toNat) [] hd0 b o 0 hd0.S e1 (by omega) f1 (by cases hd0.S <;> rfl)
      rw [Nat.add_mul, Nat.add_zero, ← Nat.add_assoc] at this
      rw [hsz, ← q2]
      exact this
    ·cases he
   ·cases he
  ·rename_i _ ie r off n hie
   obtain ⟨tie, k1, k2, _⟩ := (hT e _ hie).info
   injection he with he; injection he with h1 h2; subst h1; subst h2
   obtain ⟨b, c, hb, hc, hr, rfl⟩ := hA.csl_inv
   simp only [AllP, and_true] at hC
   obtain ⟨c1, c2⟩ := hC
   refine ⟨.pointer (some ⟨b, off + i.toNat * ie.size, none⟩), ?_, .ref _ _ _ hb⟩
   simp only [Instr.indexAt, asIntOf, Sem.run_bind, Sem.run_pure, Result.andThen_ok, run_underlying hd, c1, c2, and_self, if_true, qaw k1 k2, qee]
  ·cases he
 ·cases he
theorem aindex_sound (hT : TyOK E.P E.ty) {t : TypeId} {k : IntKind} {i : Int} {C : List Prop} (he : aindex E t A i = some (C, a)) (hC : AllP C) (hA : VR w Z γ A V) :
  ∃ v, (Instr.index t V (.int k i)).run E.P w = .ok v w ∧ VR w Z γ a v := by
 unfold aindex at he
 split at he
 ·rename_i n e _ _ _ _ hi
  obtain ⟨d, hd, hk⟩ := (hT t _ hi).desc
  simp only [TKOK] at hk
  subst hk
  split at he
  ·rename_i _ ie cs hie
   split at he
   ·rename_i x hx
    injection he with he; injection he with h1 h2; subst h1; subst h2
    obtain ⟨tie, k1, k2, _⟩ := (hT e _ hie).info
    obtain ⟨de, hde, hke⟩ := (hT e _ hie).desc
    obtain ⟨arr, rfl, hr⟩ := hA.agg_inv
    simp only [AllP, and_true] at hC
    obtain ⟨v, h1, h2⟩ := run_part (P := E.P) (t := e) ⟨tie, k1, k2⟩ ⟨de, hde, hke.isAgg⟩ hr (off := i.toNat * ie.size) hx
    refine ⟨v, ?_, h2⟩
    simp only [Instr.index, asIntOf, Sem.run_bind, Sem.run_pure, Result.andThen_ok, run_underlying hd, hC, and_self, if_true, qaw k1 k2]
    exact h1
   ·cases he
  ·rename_i _ ie n' S x hie
   split at he
   ·rename_i hcond
    obtain ⟨rfl, hf⟩ := hcond
    injection he with he; injection he with h1 h2; subst h1; subst h2
    obtain ⟨tie, k1, k2, _⟩ := (hT e _ hie).info
    obtain ⟨de, hde, hke⟩ := (hT e _ hie).desc
    simp only [AllP, and_true] at hC
    simp only [fits, Bool.and_eq_true, beq_iff_eq] at hf
    cases hA with
    | cr hA =>
     cases hA with
     | tv1 _ _ _ hS _ => cases hS
     | tva _ _ arr _ hfr =>
      have q3 := vget_FR hfr (i := i.toNat) (by omega)
      have hav := q3.avOf
      have hrun : (Instr.index t (.agg arr) (.int k i)).run E.P w = (part e arr (i.toNat * ie.size)).run E.P w := by
       simp only [Instr.index, asIntOf, Sem.run_bind, Sem.run_pure, Result.andThen_ok, run_underlying hd, hC, and_self, if_true, qaw k1 k2]
      rw [hrun]
      simp only [part, Sem.run_bind, run_isAgg' hde, hke.isAgg, Result.andThen_ok, hf.2]
      cases hS : S.isAgg
      ·rw [hS] at hav
       simp only [Bool.false_eq_true, if_false] at hav ⊢
       obtain ⟨v, e1, e2⟩ := hav
       have : arr[i.toNat * ie.size]? = some v := by
        have := seg_get (row := arr.toList) (o := i.toNat * S.size) (n := S.size) (j := 0) (v := v) (by rw [e1]; rfl)
        rw [hf.1]
        simpa using this
       exact ⟨v, by simp [this], .cr e2⟩
      ·rw [hS] at hav
       simp only [if_true] at hav ⊢
       refine ⟨_, ?_, .cr hav⟩
       simp only [Sem.run_bind, qaw k1 k2, Result.andThen_ok, Sem.run_pure]
       congr 2
       rw [hf.1]
       apply Array.ext'
       simp [BE.seg, List.extract_eq_take_drop]
   ·cases he
  ·cases he
 ·rename_i hi
  obtain ⟨d, hd, hk⟩ := (hT t _ hi).desc
  simp only [TKOK] at hk
  subst hk
  split at he
  ·rename_i s
   injection he with he; injection he with h1 h2; subst h1; subst h2
   simp only [AllP, and_true] at hC
   obtain rfl := hA.val_inv
   have hlt : i.toNat < s.size := by omega
   refine ⟨.int .u8 (((s[i.toNat]?).getD 0).toNat : Int), ?_, .cr (.val _ ?_)⟩
   ·have hg : s[i.toNat]? = some s[i.toNat] := by simp [hlt]
    simp only [Instr.index, asIntOf, Sem.run_bind, Sem.run_pure, Result.andThen_ok, run_underlying hd, hC.1, if_true, hg, Option.getD_some]
   ·show IntKind.has .u8 _
    have := ((s[i.toNat]?).getD 0).toNat_lt
    have h1 : IntKind.u8.min = 0 := by decide
    have h2 : IntKind.u8.max = 255 := by decide
    refine ⟨?_, ?_⟩
    ·rw [h1]; omega
    ·rw [h2]; omega
  ·cases he
 ·cases he
theorem aextract_sound {n : Nat} (he : aextract n A = some a) (hA : VR w Z γ A V) : ∃ v, (Instr.extract V n).run P w = .ok v w ∧ VR w Z γ a v := by
 unfold aextract at he
 split at he
 ·cases hA with
  | cr hA =>
   cases hA with
   | tup _ us hl hr =>
    have hl' := (List.getElem?_eq_some_iff.1 he).1
    rw [hl] at hl'
    exact ⟨us[n], by simp [Instr.extract, hl'], .cr (hr n _ _ he (Array.getElem?_eq_getElem hl'))⟩
  | tup _ us hl hr =>
   have hl' := (List.getElem?_eq_some_iff.1 he).1
   rw [hl] at hl'
   exact ⟨us[n], by simp [Instr.extract, hl'], hr n _ _ he (Array.getElem?_eq_getElem hl')⟩
 ·cases he
theorem has_len {n b : Nat} (h : room b n) : IntKind.i64.has (n : Int) := by
 have := h.2
 unfold roomB at this
 constructor
 ·show (-9223372036854775808 : Int) ≤ _; omega
 ·show _ ≤ (9223372036854775807 : Int); omega
theorem alen_sound (hT : TyOK E.P E.ty) (hm : MemR w0 K w Z own γ h used) {t rt : TypeId} {ats : Array TypeId} {args : Array Value} {C : List Prop} (ht : ats[0]? = some t) (hv : args[0]? = some V) (he : alen E h t A = some (C, a)) (hC : AllP C) (hA : VR w Z γ A V) : ∃ v, (Builtin.len_ ats rt args).run E.P w = .ok v w ∧ VR w Z γ a v := by
 unfold alen at he
 split at he
 ·rename_i b S x
  split at he
  ·rename_i hi
   obtain ⟨d, hd, hk⟩ := (hT t _ hi).desc
   simp only [TKOK] at hk
   subst hk
   injection he with he; injection he with _ he; subst he
   obtain ⟨ad, c, hv', hc, hroom, hel⟩ := hA.slt_inv
   injection hv' with hv'
   subst hv'
   exact ⟨_, by simp only [Builtin.len_, goInt, ht, hv, Sem.run_bind, run_underlying hd, Result.andThen_ok, Sem.run_pure], .cr (.val _ (has_len hroom))⟩
  ·cases he
 ·rename_i r s p win
  split at he
  ·rename_i N hi hN
   obtain ⟨d, hd, hk⟩ := (hT t _ hi).desc
   simp only [TKOK] at hk
   subst hk
   injection he with he; injection he with hC' he; subst he; subst hC'
   obtain ⟨hd0, e1, e2⟩ := hA.osl_inv
   obtain ⟨q1, q2, q3, q4, q5, q6⟩ := hm.hdA hN hC e1
   obtain ⟨e3, ad, c, rfl, e4, e5, e6, e7⟩ := e2
   have hl : IntKind.i64.has ((wlen hd0.n win : Nat) : Int) := has_len (b := 0) ⟨by simp, by have := q6; cases win with | none => exact this | some x => simp only [wlo, wlen] at *; omega⟩
   rw [q4] at hl hv
   exact ⟨_, by simp only [Builtin.len_, goInt, ht, hv, Sem.run_bind, run_underlying hd, Result.andThen_ok, Sem.run_pure], .cr (.val _ hl)⟩
  ·cases he
 ·split at he
  ·rename_i hi
   obtain ⟨d, hd, hk⟩ := (hT t _ hi).desc
   simp only [TKOK] at hk
   subst hk
   injection he with he; injection he with _ he; subst he
   obtain rfl := hA.val_inv
   exact ⟨_, by simp only [Builtin.len_, goInt, ht, hv, Sem.run_bind, run_underlying hd, Result.andThen_ok, Sem.run_pure]; rfl, .cr (.val _ (has_len (b := 0) (n := 0) (by simp [room])))⟩
  ·cases he
 ·split at he
  ·rename_i hi
   obtain ⟨d, hd, hk⟩ := (hT t _ hi).desc
   simp only [TKOK] at hk
   subst hk
   injection he with he; injection he with _ he; subst he
   obtain ⟨b, c, hb, hc, hr, rfl⟩ := hA.csl_inv
   exact ⟨_, by simp only [Builtin.len_, goInt, ht, hv, Sem.run_bind, run_underlying hd, Result.andThen_ok, Sem.run_pure], .cr (.val _ (has_len (b := 0) ⟨by simp, hr⟩))⟩
  ·cases he
 ·split at he
  ·rename_i hi
   obtain ⟨d, hd, hk⟩ := (hT t _ hi).desc
   simp only [TKOK] at hk
   subst hk
   injection he with he; injection he with _ he; subst he
   have hok := hA.val_ok
   obtain rfl := hA.val_inv
   exact ⟨_, by simp only [Builtin.len_, goInt, ht, hv, Sem.run_bind, run_underlying hd, Result.andThen_ok, Sem.run_pure], .cr (.val _ (has_len (b := 0) (by simp only [room, Nat.mul_zero, Nat.zero_le, true_and]; exact hok)))⟩
  ·cases he
 ·cases he
end
end Go.BE
namespace Go.BE
def qey : List Value → Nat → List Value → List Value
 | cs, _, [] => cs
 | cs, off, v :: vs => qey (cs.set off v) (off + 1) vs
theorem setCellsV_length : ∀ (us vs : List Value) (off : Nat), (qey vs off us).length = vs.length
 | [], _, _ => rfl
 | _ :: us, vs, off => by rw [qey, setCellsV_length us]; simp
section
variable {P : Program} {E : Ctx} {w w' w0 : World} {Z Z' : Nat → Prop} {K : Kp} {own own' : Own} {γ γ' : Gst} {h h' : Heap} {used used' : Nat → Prop} {r s d : Nat} {R : Root} {a A B : AV} {v V U : Value} {cs ds : List AV} {vs us : List Value}
theorem VRs.setCells (hu : VRs w Z γ ds us) : ∀ {cs : List AV} {vs : List Value} {off : Nat}, VRs w Z γ cs vs → VRs w Z γ (setCells cs off ds) (qey vs off us) := by
 induction ds generalizing us with
 | nil =>
  intro cs vs off h
  have : us = [] := List.eq_nil_of_length_eq_zero (by simpa using hu.1.symm)
  subst this
  exact h
 | cons d ds ih =>
  intro cs vs off h
  cases us with
  | nil => simp [VRs] at hu
  | cons u us => exact ih hu.tail (h.set off hu.head)
theorem foldl_set (off : Nat) : ∀ (l : List Value) (k : Nat) (arr : Array Value),
  ((l.zipIdx k).foldl (fun (cs : Array Value) (x : Value × Nat) => cs.setIfInBounds (off + x.2) x.1) arr).toList = qey arr.toList (off + k) l
 | [], _, _ => rfl
 | v :: l, k, arr => by
  simp only [List.zipIdx_cons, List.foldl_cons, qey]
  rw [foldl_set off l (k + 1)]
  simp [Nat.add_assoc]
theorem AV.one_cells (hA : VR w Z γ A V) (h1 : A.cells.all AV.one = true) : VRs w Z γ A.cells V.cells.toList :=
 hA.cells (fun u hu => by
  subst hu
  simp only [AV.cells, List.all_cons, List.all_nil, Bool.and_true] at h1
  cases u <;> first | rfl | simp [AV.one] at h1) (fun hb => by subst hb; simp [AV.cells, AV.one] at h1)
theorem VR.one (hA : VR w Z γ A V) (h1 : A.one = true) : V.oneCell' = true := by
 cases hA with
 | bad => simp [AV.one] at h1
 | cr hA =>
  cases hA with
  | val _ h => cases V <;> first | rfl | simp [AV.one] at h1
  | tva S x vs hS h => simp [AV.one, hS] at h1
  | tv1 S x v hS h =>
   cases S with
   | int k => have := h.1; injection this with this; rw [this]; rfl
   | bool => have : [V] = _ := h; injection this with this; rw [this]; rfl
   | str => have := h.1; injection this with this; rw [this]; rfl
   | unit => cases hS
   | pair => cases hS
   | arr => cases hS
   | sl by_ a => obtain ⟨ad, c, h1, _⟩ := h; injection h1 with h1; rw [h1]; rfl
   | ptr a =>
    rcases h with h | ⟨z, b, o, us, h1, h2, h3⟩
    ·have := h.2; injection this with this; rw [this]; rfl
    ·injection h2 with h2; rw [h2]; rfl
  | rtp => rfl
  | rop => rfl
  | agg => simp [AV.one] at h1
  | tup => simp [AV.one] at h1
  | fn f cs vs => obtain ⟨g_, a_, b_, h_⟩ := fnV_is f vs; rw [h_]; rfl
 | ref => rfl
 | csl => rfl
 | yld => rfl
 | mp => rfl
 | refx => rfl
 | tref => rfl
 | osl _ _ _ _ _ hd h hv => obtain ⟨_, ad, c, rfl, _⟩ := hv; rfl
 | optr _ _ _ _ hd h hp hv =>
  unfold HVal at hv
  rw [hp] at hv
  rcases hv with ⟨_, rfl⟩ | ⟨b, o, _, _, rfl⟩ <;> rfl
 | agg => simp [AV.one] at h1
 | tup => simp [AV.one] at h1
 | fn f cs vs => obtain ⟨g_, a_, b_, h_⟩ := fnV_is f vs; rw [h_]; rfl
theorem VRs.ones (h : VRs w Z γ cs vs) (h1 : cs.all AV.one = true) : ∀ u ∈ vs, u.oneCell' = true := by
 intro u hu
 obtain ⟨j, hj⟩ := List.mem_iff_getElem?.1 hu
 have hl : j < cs.length := by rw [h.1]; exact (List.getElem?_eq_some_iff.1 hj).1
 exact (h.2 j _ _ (List.getElem?_eq_getElem hl) hj).one (List.all_eq_true.1 h1 _ (List.getElem_mem hl))

theorem fill_sound {place : Nat → Option (Nat × Nat)} : ∀ {parts : List (Nat × AV)} {vparts : List (Nat × Value)} {cs : List AV} {arr : Array Value} {out : List AV},
  parts.length = vparts.length → (∀ (j : Nat) x y, parts[j]? = some x → vparts[j]? = some y → x.1 = y.1 ∧ VR w Z γ x.2 y.2) →
  VRs w Z γ cs arr.toList → afill place cs parts = some out → ∃ arr', Instr.fill place arr vparts = some arr' ∧ VRs w Z γ out arr'.toList ∧ arr'.size = arr.size := by
 intro parts
 induction parts with
 | nil =>
  intro vparts cs arr out hl _ hc he
  have : vparts = [] := List.eq_nil_of_length_eq_zero (by simpa using hl.symm)
  subst this
  simp only [afill, Option.some.injEq] at he
  subst he
  exact ⟨arr, rfl, hc, rfl⟩
 | cons x parts ih =>
  intro vparts cs arr out hl hr hc he
  cases vparts with
  | nil => simp at hl
  | cons y vparts =>
   obtain ⟨i, a⟩ := x
   obtain ⟨i', v⟩ := y
   obtain ⟨h1, h2⟩ := hr 0 _ _ rfl rfl
   simp only at h1 h2
   subst h1
   simp only [afill] at he
   split at he
   ·cases he
   ·rename_i off size hp
    split at he
    ·rename_i hcond
     obtain ⟨c1, c2, c3⟩ := hcond
     have hcells := AV.one_cells h2 c3
     have hsz : v.cells.size = size := by rw [← Array.length_toList, ← hcells.1]; exact c1
     have harr : cs.length = arr.size := by rw [hc.1]; simp
     obtain ⟨arr', e1, e2, e3⟩ := ih (vparts := vparts) (arr := v.cells.zipIdx.foldl (fun cs (c, j) => cs.setIfInBounds (off + j) c) arr) (by simpa using hl) (fun j x y hx hy => hr (j + 1) x y (by simpa using hx) (by simpa using hy))
      (by
       have := hcells.setCells (off := off) hc
       rw [← Array.foldl_toList, Array.toList_zipIdx]
       have hf := foldl_set off v.cells.toList 0 arr
       simp only [Nat.add_zero] at hf
       rw [hf]
       exact this) he
     refine ⟨arr', ?_, e2, ?_⟩
     ·simp only [Instr.fill, hp]
      rw [if_neg (by simp [hsz]; omega)]
      exact e1
     ·rw [e3, ← Array.foldl_toList, Array.toList_zipIdx, ← Array.length_toList, foldl_set off v.cells.toList 0 arr, setCellsV_length]
      simp
    ·cases he
theorem run_mapM_list {α γ : Type} (f : α → Sem γ) (g : α → γ) : ∀ l : List α, (∀ x ∈ l, (f x).run P w = .ok (g x) w) → (l.mapM f).run P w = .ok (l.map g) w
 | [], _ => by simp [List.mapM_nil]
 | x :: l, h => by
  simp only [List.mapM_cons, Sem.run_bind, h x List.mem_cons_self, Result.andThen_ok, run_mapM_list f g l (fun y hy => h y (List.mem_cons_of_mem _ hy)), Sem.run_pure, List.map_cons]
theorem run_mapM {α γ : Type} (f : α → Sem γ) (g : α → γ) (l : Array α) (h : ∀ x ∈ l.toList, (f x).run P w = .ok (g x) w) : (l.mapM f).run P w = .ok (l.map g) w := by
 rw [Array.mapM_eq_mapM_toList, Sem.run_map, run_mapM_list f g l.toList h, Result.andThen_ok]
 congr 1
 apply Array.ext'
 simp
def Parts (w : World) (Z : Nat → Prop) (γ : Gst) (ps : List (Nat × AV)) (vs : List (Nat × Value)) : Prop :=
 ps.length = vs.length ∧ ∀ (j : Nat) x y, ps[j]? = some x → vs[j]? = some y → x.1 = y.1 ∧ VR w Z γ x.2 y.2
theorem abuild_sound (hT : TyOK E.P E.ty) {t : TypeId} {ps : List (Nat × AV)} {vps : Array (Nat × Value)} (hp : Parts w Z γ ps vps.toList) (he : abuild E t ps = some a) :
  ∃ v, (Instr.build t vps).run E.P w = .ok v w ∧ VR w Z γ a v := by
 unfold abuild at he
 split at he
 ·rename_i fs sz by_ z fl hi
  obtain ⟨ti, h1, h2, h3, zv, h4, h5⟩ := (hT t _ hi).info
  obtain ⟨d, hd, gs, rfl, hl, hg⟩ := (hT t _ hi).desc
  simp only [Option.map_eq_some_iff] at he
  obtain ⟨out, he, rfl⟩ := he
  let g : Field → Nat × Nat := fun f => (f.offset, E.P.cellsOf f.type)
  have hpl : ∀ (W : World), (gs.mapM fun f => do pure (f.offset, ← sizeOf f.type) : Sem (Array (Nat × Nat))).run E.P W = .ok (gs.map g) W := fun W => by
   refine run_mapM _ g gs fun f hf => ?_
   obtain ⟨j, hj⟩ := List.mem_iff_getElem?.1 hf
   have hjl : j < fs.length := by rw [hl, ← Array.length_toList]; exact (List.getElem?_eq_some_iff.1 hj).1
   obtain ⟨f', hf', _, ⟨ti', hti, hts⟩, _⟩ := hg j _ (List.getElem?_eq_getElem hjl)
   have : f' = f := by rw [Array.getElem?_toList] at hj; rw [hf'] at hj; exact Option.some.inj hj
   subst this
   simp only [Sem.run_bind, qaw hti rfl, Result.andThen_ok, Sem.run_pure, g, Program.cellsOf, hti]
   rfl
  have hcong : afill (fun i => (fs[i]?).map fun f => (f.off, f.size)) (cvals z) ps = afill (fun i => (gs.map g)[i]?) (cvals z) ps := by
   congr 1
   funext i
   rcases Nat.lt_or_ge i fs.length with hi' | hi'
   ·obtain ⟨f', hf', ho, ⟨ti', hti, hts⟩, _⟩ := hg i _ (List.getElem?_eq_getElem hi')
    rw [List.getElem?_eq_getElem hi', Array.getElem?_map, hf']
    simp only [Option.map_some, g, Program.cellsOf, hti]
    rw [ho]
    simp [hts]
   ·rw [List.getElem?_eq_none hi', Array.getElem?_eq_none (by simp; omega)]
    rfl
  rw [hcong] at he
  obtain ⟨arr', e1, e2, e3⟩ := fill_sound (w := w) (Z := Z) (γ := γ) (cs := cvals z) (arr := zv.cells) hp.1 hp.2 (by rw [h5]; exact VRs.cvals z) he
  refine ⟨.agg arr', ?_, .agg _ _ (by simpa using e2.1) (fun j x y hx hy => e2.2 j x y hx (by simpa using hy))⟩
  simp only [Instr.build, Sem.run_bind, qep h1 h4, Result.andThen_ok, run_underlying hd]
  rw [hpl w]
  simp only [Result.andThen_ok, e1, Sem.run_pure]
 ·rename_i n e sz by_ z fl hi
  split at he
  ·rename_i ie hie
   obtain ⟨ti, h1, h2, h3, zv, h4, h5⟩ := (hT t _ hi).info
   obtain ⟨d, hd, hk⟩ := (hT t _ hi).desc
   simp only [TKOK] at hk
   subst hk
   obtain ⟨tie, k1, k2, _⟩ := (hT e _ hie).info
   simp only [Option.map_eq_some_iff] at he
   obtain ⟨out, he, rfl⟩ := he
   obtain ⟨arr', e1, e2, e3⟩ := fill_sound (w := w) (Z := Z) (γ := γ) (cs := cvals z) (arr := zv.cells) hp.1 hp.2 (by rw [h5]; exact VRs.cvals z) he
   refine ⟨.agg arr', ?_, .agg _ _ (by simpa using e2.1) (fun j x y hx hy => e2.2 j x y hx (by simpa using hy))⟩
   simp only [Instr.build, Sem.run_bind, qep h1 h4, Result.andThen_ok, run_underlying hd, qaw k1 k2, e1, Sem.run_pure]
  ·cases he
 ·cases he


def OI (x : Option Int) (v : Option Value) : Prop := (x = none ∧ v = none) ∨ ∃ i k, x = some i ∧ v = some (.int k i)
theorem qdv {k : IntKind} {i : Int} {y : Nat} {code : BoundsCode} (h0 : 0 ≤ i) (h1 : i ≤ y) : (Instr.sliceBound (.int k i) y code).run P w = .ok i.toNat w := by
 simp only [Instr.sliceBound, asIntOf, Sem.run_bind, Sem.run_pure, Result.andThen_ok, h0, h1, and_self, if_true]
theorem slice2_run {t e : TypeId} {sz : Nat} (hd : P.underlying t = some (.slice e)) (hti : ∃ ti, P.info? e = some ti ∧ ti.size = sz) {ad : Option Addr} {n c : Nat} (hnc : n ≤ c) {lo hi : Option Int} {lv hv : Option Value} (hlo : OI lo lv) (hhi : OI hi hv)
  (h1 : 0 ≤ lo.getD 0) (h2 : lo.getD 0 ≤ hi.getD n) (h3 : hi.getD n ≤ c) :
  (Instr.sliceAt t (.slice ad n c) lv hv none).run P w = .ok (.slice (if c = (lo.getD 0).toNat then ad else ad.map (·.add ((lo.getD 0).toNat * sz))) ((hi.getD n).toNat - (lo.getD 0).toNat) (c - (lo.getD 0).toNat)) w := by
 obtain ⟨ti, i1, i2⟩ := hti
 rcases hlo with ⟨rfl, rfl⟩ | ⟨l, kl, rfl, rfl⟩ <;> rcases hhi with ⟨rfl, rfl⟩ | ⟨k, kh, rfl, rfl⟩ <;> simp only [Option.getD_none, Option.getD_some] at h1 h2 h3 ⊢
 ·simp only [Instr.sliceAt, Instr.slice, Instr.sliceBounds, Sem.run_bind, run_underlying hd, Result.andThen_ok, Sem.run_pure, qaw i1 i2, Int.toNat_zero, Int.toNat_natCast]
 ·have hb := qdv (P := P) (w := w) (k := kh) (i := k) (y := c) (code := .sliceAcap) (by omega) (by omega)
  simp only [Instr.sliceAt, Instr.slice, Instr.sliceBounds, Sem.run_bind, run_underlying hd, Result.andThen_ok, Sem.run_pure, qaw i1 i2, Int.toNat_zero, if_true, hb]
 ·have hb := qdv (P := P) (w := w) (k := kl) (i := l) (y := n) (code := .sliceB) (by omega) (by omega)
  simp only [Instr.sliceAt, Instr.slice, Instr.sliceBounds, Sem.run_bind, run_underlying hd, Result.andThen_ok, Sem.run_pure, qaw i1 i2, Int.toNat_natCast, if_true, hb, Option.isSome_none, Bool.false_eq_true, if_false]
 ·have hb := qdv (P := P) (w := w) (k := kh) (i := k) (y := c) (code := .sliceAcap) (by omega) (by omega)
  have hb2 := qdv (P := P) (w := w) (k := kl) (i := l) (y := k.toNat) (code := .sliceB) (by omega) (by omega)
  simp only [Instr.sliceAt, Instr.slice, Instr.sliceBounds, Sem.run_bind, run_underlying hd, Result.andThen_ok, Sem.run_pure, qaw i1 i2, if_true, hb, hb2, Option.isSome_none, Bool.false_eq_true, if_false]
theorem slice3_run {t e : TypeId} {sz : Nat} (hd : P.underlying t = some (.slice e)) (hti : ∃ ti, P.info? e = some ti ∧ ti.size = sz) {ad : Option Addr} {n c : Nat} (hnc : n ≤ c) {k m : Int} {kk km : IntKind} (h1 : k = n) (h2 : m = n) :
  (Instr.sliceAt t (.slice ad n c) none (some (.int kk k)) (some (.int km m))).run P w = .ok (.slice (if n = 0 then ad else ad.map (·.add 0)) n n) w := by
 obtain ⟨ti, i1, i2⟩ := hti
 subst h1; subst h2
 have hb := qdv (P := P) (w := w) (k := km) (i := (n : Int)) (y := c) (code := .slice3Acap) (by omega) (by omega)
 have hb2 := qdv (P := P) (w := w) (k := kk) (i := (n : Int)) (y := n) (code := .slice3B) (by omega) (by omega)
 simp only [Instr.sliceAt, Instr.slice, Instr.sliceBounds, Sem.run_bind, run_underlying hd, Result.andThen_ok, Sem.run_pure, qaw i1 i2, if_true, hb, hb2, Int.toNat_natCast, Nat.zero_mul, Nat.sub_zero]
theorem slice3b_run {t e : TypeId} {sz : Nat} (hd : P.underlying t = some (.slice e)) (hti : ∃ ti, P.info? e = some ti ∧ ti.size = sz) {ad : Option Addr} {n c : Nat} (hnc : n ≤ c) {l k m : Int} {kl kk km : IntKind} (h0 : 0 ≤ l) (h1 : l ≤ k) (h2 : k ≤ m) (h3 : m ≤ n) :
  ∃ v, (Instr.sliceAt t (.slice ad n c) (some (.int kl l)) (some (.int kk k)) (some (.int km m))).run P w = .ok v w := by
 obtain ⟨ti, i1, i2⟩ := hti
 have hb := qdv (P := P) (w := w) (k := km) (i := m) (y := c) (code := .slice3Acap) (by omega) (by omega)
 have hb2 := qdv (P := P) (w := w) (k := kk) (i := k) (y := m.toNat) (code := .slice3B) (by omega) (by omega)
 have hb3 := qdv (P := P) (w := w) (k := kl) (i := l) (y := k.toNat) (code := .slice3C) (by omega) (by omega)
 exact ⟨_, by simp only [Instr.sliceAt, Instr.slice, Instr.sliceBounds, Sem.run_bind, run_underlying hd, Result.andThen_ok, Sem.run_pure, qaw i1 i2, if_true, hb, hb2, hb3, Option.isSome_some]; rfl⟩
theorem slice_str_run {t : TypeId} (hd : P.underlying t = some .string) {s : ByteArray} {lo hi : Option Int} {lv hv : Option Value} (hlo : OI lo lv) (hhi : OI hi hv)
  (h1 : 0 ≤ lo.getD 0) (h2 : lo.getD 0 ≤ hi.getD s.size) (h3 : hi.getD s.size ≤ s.size) :
  (Instr.sliceAt t (.string s) lv hv none).run P w = .ok (.string (s.extract (lo.getD 0).toNat (hi.getD s.size).toNat)) w := by
 rcases hlo with ⟨rfl, rfl⟩ | ⟨l, kl, rfl, rfl⟩ <;> rcases hhi with ⟨rfl, rfl⟩ | ⟨k, kh, rfl, rfl⟩ <;> simp only [Option.getD_none, Option.getD_some] at h1 h2 h3 ⊢
 ·simp only [Instr.sliceAt, Instr.slice, Instr.sliceBounds, Sem.run_bind, run_underlying hd, Result.andThen_ok, Sem.run_pure, Int.toNat_zero, Int.toNat_natCast, Option.isSome_none, Bool.false_eq_true, if_false]
 ·have hb := qdv (P := P) (w := w) (k := kh) (i := k) (y := s.size) (code := .sliceAlen) (by omega) (by omega)
  simp only [Instr.sliceAt, Instr.slice, Instr.sliceBounds, Sem.run_bind, run_underlying hd, Result.andThen_ok, Sem.run_pure, Int.toNat_zero, if_true, hb, Option.isSome_none, Bool.false_eq_true, if_false]
 ·have hb := qdv (P := P) (w := w) (k := kl) (i := l) (y := s.size) (code := .sliceB) (by omega) (by omega)
  simp only [Instr.sliceAt, Instr.slice, Instr.sliceBounds, Sem.run_bind, run_underlying hd, Result.andThen_ok, Sem.run_pure, Int.toNat_natCast, if_true, hb, Option.isSome_none, Bool.false_eq_true, if_false]
 ·have hb := qdv (P := P) (w := w) (k := kh) (i := k) (y := s.size) (code := .sliceAlen) (by omega) (by omega)
  have hb2 := qdv (P := P) (w := w) (k := kl) (i := l) (y := k.toNat) (code := .sliceB) (by omega) (by omega)
  simp only [Instr.sliceAt, Instr.slice, Instr.sliceBounds, Sem.run_bind, run_underlying hd, Result.andThen_ok, Sem.run_pure, if_true, hb, hb2, Option.isSome_none, Bool.false_eq_true, if_false]
theorem aslice_sound (hT : TyOK E.P E.ty) (hm : MemR w0 K w Z own γ h used) {t : TypeId} {lo hi mx : Option Int} {lv hv mv : Option Value} (hlo : OI lo lv) (hhi : OI hi hv) (hmx : OI mx mv) {C : List Prop} (he : aslice E h t A lo hi mx = some (C, a)) (hC : AllP C) (hA : VR w Z γ A V) :
  ∃ v, (Instr.sliceAt t V lv hv mv).run E.P w = .ok v w ∧ VR w Z γ a v := by
 unfold aslice at he
 split at he
 ·rename_i hty
  obtain ⟨d, hd, hk⟩ := (hT t _ hty).desc
  simp only [TKOK] at hk
  subst hk
  split at he
  ·rename_i s
   injection he with he; injection he with h1 h2; subst h1; subst h2
   simp only [AllP, and_true] at hC
   have hs := hA.val_ok
   obtain rfl := hA.val_inv
   rcases hmx with ⟨_, rfl⟩ | ⟨_, _, hq, _⟩
   ·refine ⟨_, slice_str_run hd hlo hhi hC.1 hC.2.1 hC.2.2, .cr (.val _ ?_)⟩
    show (s.extract _ _).size ≤ roomB
    have hs' : s.size ≤ roomB := hs
    rw [ByteArray.size_extract]
    omega
   ·cases hq
  ·cases he
 ·rename_i e _ _ _ _ hty
  obtain ⟨d, hd, hk⟩ := (hT t _ hty).desc
  simp only [TKOK] at hk
  subst hk
  split at he
  ·rename_i _ ie b S x hie
   obtain ⟨tie, k1, k2, _⟩ := (hT e _ hie).info
   split at he
   ·rename_i hsz
    split at he
    ·split at he
     ·rename_i m _ _ k
      injection he with he; injection he with h1 h2; subst h1; subst h2
      simp only [AllP, and_true] at hC
      obtain ⟨c1, c2⟩ := hC
      rcases hlo with ⟨_, rfl⟩ | ⟨_, _, hq, _⟩
      ·rcases hhi with ⟨hq, _⟩ | ⟨k', kk, hq, rfl⟩
       ·cases hq
       ·injection hq with hq; subst hq
        rcases hmx with ⟨hq, _⟩ | ⟨m', km, hq, rfl⟩
        ·cases hq
        ·injection hq with hq; subst hq
         obtain ⟨ad, c, hv', hc, hroom, hel⟩ := hA.slt_inv
         injection hv' with hv'
         subst hv'
         refine ⟨_, slice3_run hd ⟨tie, k1, k2⟩ hc c1 c2, .cr (.tv1 _ _ _ rfl ⟨_, _, rfl, Nat.le_refl _, hroom, fun hp => ?_⟩)⟩
         obtain ⟨bb, o, rfl, hz, hel⟩ := hel (by have : 0 < List.length (α := Den S) x := hp; omega)
         refine ⟨bb, o, ?_, hz, hel⟩
         rw [if_neg (by have : 0 < List.length (α := Den S) x := hp; omega)]
         simp [Addr.add]
      ·cases hq
     ·cases he
    ·injection he with he; injection he with h1 h2; subst h1; subst h2
     simp only [AllP, and_true] at hC
     obtain ⟨c1, c2, c3⟩ := hC
     rcases hmx with ⟨_, rfl⟩ | ⟨_, _, hq, _⟩
     ·obtain ⟨ad, c, hv', hc, hroom, hel⟩ := hA.slt_inv
      injection hv' with hv'
      subst hv'
      refine ⟨_, slice2_run hd ⟨tie, k1, k2⟩ hc hlo hhi c1 c2 (by omega), .cr (.tv1 _ _ _ rfl ?_)⟩
      generalize hn : List.length (α := Den S) x = n at *
      generalize hl : (lo.getD 0).toNat = l at *
      generalize hh : (hi.getD n).toNat = hh' at *
      have hlh : l ≤ hh' := by omega
      have hhn : hh' ≤ n := by omega
      have hwl : (wins (α := Den S) x (some (l, hh' - l))).length = hh' - l := by
       have := wins_length (xs := (x : List (Den S))) (w := some (l, hh' - l)) (by simp only [wlo, wlen]; rw [hn]; omega)
       simpa [wlen] using this
      refine ⟨_, c - l, by show [Value.slice _ (hh' - l) (c - l)] = [Value.slice _ (wins (α := Den S) x (some (l, hh' - l))).length (c - l)]; rw [hwl], by show (wins (α := Den S) x (some (l, hh' - l))).length ≤ c - l; omega, by show room b (wins (α := Den S) x (some (l, hh' - l))).length; rw [hwl]; exact room_le hroom (by omega), fun hp => ?_⟩
      have hp' : 0 < (wins (α := Den S) x (some (l, hh' - l))).length := hp
      rw [hwl] at hp'
      obtain ⟨bb, o, rfl, hz, hel⟩ := hel (by omega)
      refine ⟨bb, o + l * S.size, ?_, hz, fun i y hy => ?_⟩
      ·rw [if_neg (by omega)]
       simp only [Option.map_some, qee, hsz]
      ·obtain ⟨us, q1, q2, q3⟩ := hel _ y (wins_lat hy)
       refine ⟨us, q1, ?_, q3⟩
       simp only [wlo] at q2
       rw [Nat.add_mul, ← Nat.add_assoc] at q2
       exact q2
     ·cases hq
   ·cases he
  ·rename_i _ ie r s p win hie
   obtain ⟨tie, k1, k2, _⟩ := (hT e _ hie).info
   split at he
   ·rename_i N hN
    split at he
    ·rename_i hsz
     obtain ⟨hd', e1, e2⟩ := hA.osl_inv
     have hnode : AllP N.C → hd'.S = N.n.S ∧ hd'.n = N.n.xs.length := fun hC => by
      obtain ⟨_, q2, _, q4, _⟩ := hm.hdA hN hC e1
      exact ⟨q2, q4⟩
     obtain ⟨e3, ad, c, rfl, e4, e5, e6, e7⟩ := e2
     split at he
     ·rename_i k m
      simp only [wlen, wlo, Nat.zero_mul, Nat.add_zero, Nat.zero_add] at e4 e5 e6 e7
      injection he with he; injection he with h1 h2; subst h1; subst h2
      rw [AllP.append] at hC
      obtain ⟨hC1, hC2⟩ := hC
      simp only [AllP, and_true] at hC2
      obtain ⟨n1, n2⟩ := hnode hC1
      rcases hlo with ⟨_, rfl⟩ | ⟨_, _, hq, _⟩
      ·rcases hhi with ⟨hq, _⟩ | ⟨k', kk, hq, rfl⟩
       ·cases hq
       ·rcases hmx with ⟨hq2, _⟩ | ⟨m', km, hq2, rfl⟩
        ·cases hq2
        ·injection hq with hq; subst hq
         injection hq2 with hq2; subst hq2
         refine ⟨_, slice3_run hd ⟨tie, k1, k2⟩ e4 (by rw [n2]; exact hC2.1) (by rw [n2]; exact hC2.2), .osl _ _ _ _ _ hd' e1 ⟨e3, _, hd'.n, rfl, Nat.le_refl _, ⟨by simp [wlo, wlen], by simp only [wlo]; omega⟩, by simp only [wlo]; omega, fun hp => ?_⟩⟩
         obtain ⟨b, o, f1, rfl⟩ := e7 (by omega)
         refine ⟨b, o, f1, ?_⟩
         rw [if_neg (by omega)]
         simp [wlo, Addr.add]
      ·cases hq
     ·rename_i l k m
      simp only [wlen, wlo, Nat.zero_mul, Nat.add_zero, Nat.zero_add] at e4 e5 e6 e7
      injection he with he; injection he with h1 h2; subst h1; subst h2
      rw [AllP.append] at hC
      obtain ⟨hC1, hC2⟩ := hC
      simp only [AllP, and_true] at hC2
      obtain ⟨n1, n2⟩ := hnode hC1
      obtain ⟨d1, d2, d3, d4⟩ := hC2
      rcases hlo with ⟨hq, _⟩ | ⟨l', kl, hq, rfl⟩
      ·cases hq
      ·injection hq with hq; subst hq
       rcases hhi with ⟨hq, _⟩ | ⟨k', kk, hq, rfl⟩
       ·cases hq
       ·injection hq with hq; subst hq
        rcases hmx with ⟨hq, _⟩ | ⟨m', km, hq, rfl⟩
        ·cases hq
        ·injection hq with hq; subst hq
         obtain ⟨v, hv⟩ := slice3b_run hd ⟨tie, k1, k2⟩ e4 d1 d2 d3 (by rw [n2]; exact d4)
         exact ⟨v, hv, .bad _⟩
     ·simp only [wlen, wlo, Nat.zero_mul, Nat.add_zero, Nat.zero_add] at e4 e5 e6 e7
      injection he with he; injection he with h1 h2; subst h1; subst h2
      rw [AllP.append] at hC
      obtain ⟨hC1, hC2⟩ := hC
      simp only [AllP, and_true] at hC2
      obtain ⟨c1, c2, c3⟩ := hC2
      obtain ⟨n1, n2⟩ := hnode hC1
      rw [← n2] at c2 c3
      rcases hmx with ⟨_, rfl⟩ | ⟨_, _, hq, _⟩
      ·refine ⟨_, slice2_run hd ⟨tie, k1, k2⟩ e4 hlo hhi c1 c2 (by omega), .osl _ _ _ _ _ hd' e1 ⟨e3, (if c = (lo.getD 0).toNat then ad else ad.map (·.add ((lo.getD 0).toNat * ie.size))), c - (lo.getD 0).toNat, ?_, ?_, ?_, ?_, fun hp => ?_⟩⟩
       ·rw [← n2]; rfl
       ·simp only [wlen]; rw [← n2]; omega
       ·exact ⟨by simp only [wlen, wlo]; rw [← n2]; omega, by simp only [wlo]; omega⟩
       ·simp only [wlo]; omega
       ·obtain ⟨b, o, f1, rfl⟩ := e7 (by omega)
        refine ⟨b, o, f1, ?_⟩
        rw [if_neg (by omega)]
        simp only [Option.map_some, qee, wlo, hsz, n1]
      ·cases hq
     ·rename_i l0 n0
      simp only [wlen, wlo] at e4 e5 e6 e7
      injection he with he; injection he with h1 h2; subst h1; subst h2
      rw [AllP.append] at hC
      obtain ⟨hC1, hC2⟩ := hC
      simp only [AllP, and_true] at hC2
      obtain ⟨c1, c2, c3⟩ := hC2
      obtain ⟨n1, n2⟩ := hnode hC1
      rcases hmx with ⟨_, rfl⟩ | ⟨_, _, hq, _⟩
      ·refine ⟨_, slice2_run hd ⟨tie, k1, k2⟩ e4 hlo hhi c1 c2 (by omega), .osl _ _ _ _ _ hd' e1 ⟨e3, (if c = (lo.getD 0).toNat then ad else ad.map (·.add ((lo.getD 0).toNat * ie.size))), c - (lo.getD 0).toNat, rfl, ?_, ?_, ?_, fun hp => ?_⟩⟩
       ·simp only [wlen]; omega
       ·exact ⟨by simp only [wlen, wlo]; omega, by simp only [wlo]; omega⟩
       ·simp only [wlo]; omega
       ·obtain ⟨b, o, f1, rfl⟩ := e7 (by omega)
        refine ⟨b, o, f1, ?_⟩
        rw [if_neg (by omega)]
        simp only [Option.map_some, qee, wlo, hsz, n1, Nat.add_mul, Nat.add_assoc]
      ·cases hq
     ·cases he
    ·cases he
   ·cases he
  ·cases he
 ·cases he
theorem anil_sound (hT : TyOK E.P E.ty) {op : BinOp} {t : TypeId} {xo yo : Operand} {p : Bool → Prop} (he : anil E op t A B = some p) (hA : VR w Z γ A V) (hB : VR w Z γ B U) :
  ∃ b, p b ∧ (do eqGuard op t xo yo V U; binOp op t V U : Sem Value).run E.P w = .ok (.bool b) w := by
 unfold anil at he
 split at he
 ·rename_i b0 S x
  obtain rfl := hB.val_inv
  obtain ⟨ad, c, hv', hc, hroom, hel⟩ := hA.slt_inv
  injection hv' with hv'
  subst hv'
  have heq : ∀ {e : TypeId}, E.P.underlying t = some (.slice e) → (Op.equal t (.slice ad (List.length (α := Den S) x) c) (.slice none 0 0)).run E.P w = .ok ad.isNone w := fun hd => by
   have : ∀ d : Nat, (Op.equalIn (d + 1) t (.slice ad (List.length (α := Den S) x) c) (.slice none 0 0)).run E.P w = .ok ad.isNone w := fun d => by
    cases ad <;> simp only [Op.equalIn, Sem.run_bind, run_underlying hd, Result.andThen_ok, Sem.run_pure] <;> rfl
   exact this 9999
  have hnil : ad.isNone = true → List.length (α := Den S) x = 0 := fun hn => by
   rcases Nat.eq_zero_or_pos (List.length (α := Den S) x) with h | h
   ·exact h
   ·obtain ⟨b, o, rfl, _⟩ := hel h
    cases hn
  split at he
  ·rename_i hi
   obtain ⟨d, hd, hk⟩ := (hT t _ hi).desc
   simp only [TKOK] at hk
   subst hk
   injection he with he
   subst he
   refine ⟨ad.isNone, hnil, ?_⟩
   have hg : (eqGuard .eql t xo yo (.slice ad (List.length (α := Den S) x) c) (.slice none 0 0)) = pure () := rfl
   rw [hg]
   simp only [pure_bind, binOp, Sem.run_bind, heq hd, Result.andThen_ok, Sem.run_pure]
  ·rename_i hi
   obtain ⟨d, hd, hk⟩ := (hT t _ hi).desc
   simp only [TKOK] at hk
   subst hk
   injection he with he
   subst he
   refine ⟨!ad.isNone, fun hn => hnil (by simpa using hn), ?_⟩
   have hg : (eqGuard .neq t xo yo (.slice ad (List.length (α := Den S) x) c) (.slice none 0 0)) = pure () := rfl
   rw [hg]
   simp only [pure_bind, binOp, Sem.run_bind, heq hd, Result.andThen_ok, Sem.run_pure]
  ·cases he
 ·cases he
theorem CR.ptr_inv {S : Sh} {z : Den (.ptr S)} (h : CR w Z (.tv (.ptr S) z) V) : (z = none ∧ V = .pointer none) ∨ ∃ (y : Den S) (b o : Nat) (us : List Value), z = some y ∧ V = .pointer (some ⟨b, o, none⟩) ∧ Z b ∧ us.length = S.size ∧ Run w b o us ∧ FR w Z S y us := by
 have hfr : FR w Z (.ptr S) z [V] := by
  generalize hX : AV.tv (.ptr S) z = X at h
  cases h with
  | tv1 S1 x1 v1 hS h =>
   injection hX with e1 e2
   subst e1
   have e2 := eq_of_heq e2
   subst e2
   exact h
  | tva S1 x1 vs hS h =>
   injection hX with e1 e2
   subst e1
   cases hS
  | _ => cases hX
 rcases hfr with ⟨h1, hv⟩ | ⟨y, b, o, us, h1, hv, h2, h3, h4, h5⟩
 ·injection hv with hv
  exact .inl ⟨h1, hv⟩
 ·injection hv with hv
  exact .inr ⟨y, b, o, us, h1, hv, h2, h3, h4, h5⟩
theorem aptr_sound (hT : TyOK E.P E.ty) (hm : MemR w0 K w Z own γ h used) {op : BinOp} {t : TypeId} {xo yo : Operand} {C : List Prop} (he : aptr E h op t A B = some (C, a)) (hC : AllP C) (hA : VR w Z γ A V) (hB : VR w Z γ B U) :
  ∃ v, (do eqGuard op t xo yo V U; binOp op t V U : Sem Value).run E.P w = .ok v w ∧ VR w Z γ a v := by
 unfold aptr at he
 split at he
 ·obtain rfl := hB.val_inv
  split at he
  ·rename_i e sz bt zr ss hi
   obtain ⟨d, hd, hk⟩ := (hT t _ hi).desc
   simp only [TKOK] at hk
   subst hk
   have heq : ∀ ad : Option Addr, (Op.equal t (.pointer ad) (.pointer none)).run E.P w = .ok ad.isNone w := fun ad => by
    have : ∀ d : Nat, (Op.equalIn (d + 1) t (.pointer ad) (.pointer none)).run E.P w = .ok ad.isNone w := fun d => by
     cases ad <;> simp only [Op.equalIn, Sem.run_bind, run_underlying hd, Result.andThen_ok, Sem.run_pure] <;> rfl
    exact this 9999
   have fin : ∀ {ad : Option Addr} {b : Bool}, V = .pointer ad → ad.isNone = b → eqB op C b = some (C, a) → ∃ v, (do eqGuard op t xo yo V (.pointer none); binOp op t V (.pointer none) : Sem Value).run E.P w = .ok v w ∧ VR w Z γ a v := fun {ad b} hV hb hh => by
    subst hV
    unfold eqB at hh
    split at hh
    ·injection hh with hh; injection hh with _ hh; subst hh
     refine ⟨.bool b, ?_, .cr (.val _ trivial)⟩
     have hg : (eqGuard .eql t xo yo (.pointer ad) (.pointer none)) = pure () := rfl
     rw [hg]
     simp only [pure_bind, binOp, Sem.run_bind, heq ad, Result.andThen_ok, Sem.run_pure, hb]
    ·injection hh with hh; injection hh with _ hh; subst hh
     refine ⟨.bool (!b), ?_, .cr (.val _ trivial)⟩
     have hg : (eqGuard .neq t xo yo (.pointer ad) (.pointer none)) = pure () := rfl
     rw [hg]
     simp only [pure_bind, binOp, Sem.run_bind, heq ad, Result.andThen_ok, Sem.run_pure, hb]
    ·cases hh
   have eqC : ∀ {D : List Prop} {b : Bool}, eqB op D b = some (C, a) → C = D := fun {D b} hh => by
    unfold eqB at hh
    split at hh
    ·injection hh with hh; injection hh with hh _; exact hh.symm
    ·injection hh with hh; injection hh with hh _; exact hh.symm
    ·cases hh
   split at he
   ·rename_i r s p
    split at he
    ·rename_i N hN
     cases hA with
     | cr h => cases h
     | optr _ _ _ _ hd0 q1 q2 q3 =>
      have := eqC he
      subst this
      obtain ⟨z1, z2, z3, z4, z5, z6⟩ := hm.hdA hN hC q1
      unfold HVal at q3
      rw [if_pos q2] at q3
      rcases q3 with ⟨k1, rfl⟩ | ⟨b, o, k1, k2, rfl⟩
      ·exact fin (b := decide (N.n.xs.length = 0)) rfl (by simp [← z4, k1]) he
      ·exact fin (b := decide (N.n.xs.length = 0)) rfl (by simp [← z4, k2]) he
    ·cases he
   ·obtain ⟨hd0, b, o, so, T, _, _, _, _, rfl⟩ := hA.tref_inv
    have := eqC he
    subst this
    exact fin (b := false) rfl rfl he
   ·obtain ⟨b, _, rfl⟩ := hA.ref_inv
    have := eqC he
    subst this
    exact fin (b := false) rfl rfl he
   ·obtain ⟨b, o', us, rfl, _⟩ := hA.rtp_inv
    have := eqC he
    subst this
    exact fin (b := false) rfl rfl he
   ·obtain ⟨b, off', rfl, _⟩ := hA.rop_inv
    have := eqC he
    subst this
    exact fin (b := false) rfl rfl he
   ·rename_i S z
    have hcr := hA.toCR rfl
    have hfr : FR w Z (.ptr S) z [V] := by
     generalize hX : AV.tv (.ptr S) z = X at hcr
     cases hcr with
     | tv1 S1 x1 v1 hS h =>
      injection hX with e1 e2
      subst e1
      have e2 := eq_of_heq e2
      subst e2
      exact h
     | tva S1 x1 vs hS h =>
      injection hX with e1 e2
      subst e1
      cases hS
     | _ => cases hX
    have := eqC he
    subst this
    rcases hfr with ⟨rfl, hv⟩ | ⟨y, b, o, us, rfl, hv, _⟩
    ·injection hv with hv
     exact fin hv rfl he
    ·injection hv with hv
     exact fin hv rfl he
   ·cases he
  ·cases he
 ·cases he
end
end Go.BE
namespace Go.BE
open Go.RowKit
def CRs (w : World) (Z : Nat → Prop) (cs : List AV) (vs : List Value) : Prop := cs.length = vs.length ∧ ∀ (j : Nat) a v, cs[j]? = some a → vs[j]? = some v → CR w Z a v
section
variable {P : Program} {E : Ctx} {w w' w0 : World} {Z Z' : Nat → Prop} {K : Kp} {own own' : Own} {γ γ' : Gst} {h h' : Heap} {used used' : Nat → Prop} {r s d id : Nat} {R : Root} {a A B : AV} {v V U : Value} {cs ds : List AV} {vs us : List Value}
theorem CRs.tail {c : AV} {v : Value} (h : CRs w Z (c :: cs) (v :: vs)) : CRs w Z cs vs := ⟨by simpa using h.1, fun j x y hx hy => h.2 (j + 1) x y (by simpa using hx) (by simpa using hy)⟩
theorem CRs.head {c : AV} {v : Value} (h : CRs w Z (c :: cs) (v :: vs)) : CR w Z c v := h.2 0 c v rfl rfl
theorem CRs.mono (hs : Stay w Z w' Z') (h : CRs w Z cs vs) : CRs w' Z' cs vs := ⟨h.1, fun j a v ha hv => (h.2 j a v ha hv).mono hs⟩
theorem CRs.uncons {c : AV} (h : CRs w Z (c :: cs) vs) : ∃ v vs', vs = v :: vs' ∧ CR w Z c v ∧ CRs w Z cs vs' := by
 cases vs with
 | nil => simp [CRs] at h
 | cons v vs => exact ⟨v, vs, rfl, h.head, h.tail⟩
theorem qdz {S T : Sh} {x : Den S} {y : Den T} (h : castD S T x = some y) : ∃ e : S = T, y = e ▸ x := by
 unfold castD at h
 split at h
 ·rename_i e
  injection h with h
  exact ⟨e, h.symm⟩
 ·cases h
theorem CR.of_cast {S T : Sh} {x : Den S} {y : Den T} (h : castD S T x = some y) (hT : T.isAgg = false) (hc : CR w Z (.tv S x) v) : FR w Z T y [v] := by
 obtain ⟨e, he⟩ := qdz h
 subst e
 subst he
 cases hc with
 | tva _ _ _ hS _ => rw [hT] at hS; cases hS
 | tv1 _ _ _ _ h => exact h
theorem toDenV_sound {α : Type} {f : List AV → Option (α × List AV)} {g : α → List Value → Prop} (hf : ∀ cs vs x rest, f cs = some (x, rest) → CRs w Z cs vs → ∃ us ws, vs = us ++ ws ∧ g x us ∧ CRs w Z rest ws) :
  ∀ (n : Nat) {cs : List AV} {vs : List Value} {x : DenV α n} {rest : List AV}, toDenV f n cs = some (x, rest) → CRs w Z cs vs → ∃ us ws, vs = us ++ ws ∧ FRV g n x us ∧ CRs w Z rest ws
 | 0, cs, vs, x, rest, h, hc => by
  simp only [toDenV, Option.some.injEq, Prod.mk.injEq] at h
  obtain ⟨_, rfl⟩ := h
  exact ⟨[], vs, rfl, rfl, hc⟩
 | n + 1, cs, vs, x, rest, h, hc => by
  simp only [toDenV] at h
  split at h
  ·rename_i y cs1 h1
   split at h
   ·rename_i z cs2 h2
    simp only [Option.some.injEq, Prod.mk.injEq] at h
    obtain ⟨rfl, rfl⟩ := h
    obtain ⟨us, ws, rfl, k1, k2⟩ := hf _ _ _ _ h1 hc
    obtain ⟨us', ws', rfl, q1, q2⟩ := toDenV_sound hf n h2 k2
    exact ⟨us ++ us', ws', by simp, ⟨us, us', rfl, k1, q1⟩, q2⟩
   ·cases h
  ·cases h
theorem one_sound {α : Type} {f : AV → Option α} {g : α → List Value → Prop} (hf : ∀ c v x, f c = some x → CR w Z c v → g x [v]) {x : α} {rest : List AV} (h : one f cs = some (x, rest)) (hc : CRs w Z cs vs) : ∃ us ws, vs = us ++ ws ∧ g x us ∧ CRs w Z rest ws := by
 cases cs with
 | nil => simp [one] at h
 | cons c cs =>
  obtain ⟨v, vs', rfl, h1, h2⟩ := hc.uncons
  obtain ⟨z, hz, e⟩ := Option.map_eq_some_iff.1 h
  injection e with e1 e2
  subst e1; subst e2
  exact ⟨[v], vs', rfl, hf c v z hz h1, h2⟩
theorem isNilS_eq {u : Value} (h : isNilS u = true) : u = .slice none 0 0 := by
 unfold isNilS at h
 split at h
 ·rfl
 ·cases h
theorem isNilP_eq {u : Value} (h : isNilP u = true) : u = .pointer none := by
 unfold isNilP at h
 split at h
 ·rfl
 ·cases h
theorem CR.val_inv {u : Value} (h : CR w Z (.val u) v) : v = u := by cases h; rfl
theorem FR.nil (b : Nat) (a : Sh) : FR w Z (.sl b a) [] [.slice none 0 0] := ⟨none, 0, rfl, Nat.le_refl _, by simp [room], fun hp => absurd hp (Nat.lt_irrefl _)⟩
theorem cSl_sound {b : Nat} {S : Sh} {x : List (Den S)} (h : cSl b S a = some x) (hc : CR w Z a v) : FR w Z (.sl b S) x [v] := by
 cases a with
 | tv T y => exact CR.of_cast (S := T) (T := .sl b S) (x := y) (y := x) h rfl hc
 | val u =>
  have h' : (if isNilS u = true then some ([] : List (Den S)) else none) = some x := h
  by_cases hu : isNilS u = true
  ·rw [if_pos hu] at h'
   have := isNilS_eq hu
   subst this
   injection h' with h'
   subst h'
   rw [CR.val_inv hc]
   exact FR.nil b S
  ·rw [if_neg hu] at h'
   cases h'
 | _ => cases h
theorem cPtr_sound {S : Sh} {x : Option (Den S)} (h : cPtr S a = some x) (hc : CR w Z a v) : FR w Z (.ptr S) x [v] := by
 cases a with
 | tv T y => exact CR.of_cast (S := T) (T := .ptr S) (x := y) (y := x) h rfl hc
 | rtp T y =>
  obtain ⟨e, he⟩ := qdz (S := .ptr T) (T := .ptr S) (x := some y) (y := x) h
  injection e with e
  subst e
  have he' : x = some y := he
  subst he'
  cases hc with
  | rtp _ _ b o us hz hr hfr => exact .inr ⟨y, b, o, us, rfl, rfl, hz, hfr.len, hr, hfr⟩
 | val u =>
  have h' : (if isNilP u = true then some (none : Option (Den S)) else none) = some x := h
  by_cases hu : isNilP u = true
  ·rw [if_pos hu] at h'
   have := isNilP_eq hu
   subst this
   injection h' with h'
   subst h'
   rw [CR.val_inv hc]
   exact .inl ⟨rfl, rfl⟩
  ·rw [if_neg hu] at h'
   cases h'
 | _ => cases h
theorem qfy : ∀ {S : Sh} {cs : List AV} {vs : List Value} {x : Den S} {rest : List AV}, toDen S cs = some (x, rest) → CRs w Z cs vs → ∃ us ws, vs = us ++ ws ∧ FR w Z S x us ∧ CRs w Z rest ws := by
 intro S
 induction S with
 | int k =>
  intro cs vs x rest h hc
  refine one_sound (f := cInt k) (g := FR w Z (.int k)) (fun c v x hx hcr => ?_) h hc
  unfold cInt at hx
  split at hx
  ·split at hx
   ·rename_i hk
    subst hk
    injection hx with hx
    subst hx
    cases hcr with
    | val _ hok => exact ⟨rfl, hok⟩
   ·cases hx
  ·cases hx
 | bool =>
  intro cs vs x rest h hc
  refine one_sound (f := cBool) (g := FR w Z .bool) (fun c v x hx hcr => ?_) h hc
  unfold cBool at hx
  split at hx
  ·injection hx with hx
   subst hx
   cases hcr
   exact rfl
  ·cases hx
 | str =>
  intro cs vs x rest h hc
  refine one_sound (f := cStr) (g := FR w Z .str) (fun c v x hx hcr => ?_) h hc
  unfold cStr at hx
  split at hx
  ·injection hx with hx
   subst hx
   cases hcr with
   | val _ hok => exact ⟨rfl, hok⟩
  ·cases hx
 | unit =>
  intro cs vs x rest h hc
  simp only [toDen, Option.some.injEq, Prod.mk.injEq] at h
  obtain ⟨_, rfl⟩ := h
  exact ⟨[], vs, rfl, rfl, hc⟩
 | pair a b iha ihb =>
  intro cs vs x rest h hc
  simp only [toDen] at h
  split at h
  ·rename_i y cs1 h1
   split at h
   ·rename_i z cs2 h2
    injection h with h
    injection h with h1' h2'
    subst h1'; subst h2'
    obtain ⟨us, ws, rfl, k1, k2⟩ := iha h1 hc
    obtain ⟨us', ws', rfl, q1, q2⟩ := ihb h2 k2
    exact ⟨us ++ us', ws', by simp, ⟨us, us', rfl, k1, q1⟩, q2⟩
   ·cases h
  ·cases h
 | arr n a ih =>
  intro cs vs x rest h hc
  exact toDenV_sound (g := FR w Z a) (fun _ _ _ _ h hc => ih h hc) n h hc
 | sl b a ih =>
  intro cs vs x rest h hc
  exact one_sound (f := cSl b a) (g := FR w Z (.sl b a)) (fun c v x hx hcr => cSl_sound hx hcr) h hc
 | ptr a ih =>
  intro cs vs x rest h hc
  simp only [toDen] at h
  split at h
  ·rename_i ds rest'
   split at h
   ·rename_i y hy
    simp only [Option.some.injEq, Prod.mk.injEq] at h
    obtain ⟨rfl, rfl⟩ := h
    cases vs with
    | nil => simp [CRs] at hc
    | cons v vs' =>
     have hv : CR w Z (.rop ds 0) v := hc.2 0 _ _ rfl rfl
     have hvs : CRs w Z rest' vs' := ⟨by simpa using hc.1, fun j p q hp hq => hc.2 (j + 1) p q (by simpa using hp) (by simpa using hq)⟩
     cases hv with
     | rop _ _ b o u hz hcell hrel =>
      have hds : CRs w Z ds ((List.range ds.length).map u) := by
       refine ⟨by simp, fun j p q hp hq => ?_⟩
       have hj := (List.getElem?_eq_some_iff.1 hp).1
       rw [List.getElem?_map, List.getElem?_range hj] at hq
       simp at hq
       subst hq
       exact hrel j p hp
      obtain ⟨us, ws, f1, f2, f3⟩ := ih hy hds
      have : ws = [] := List.eq_nil_of_length_eq_zero (by have := f3.1; simpa using this.symm)
      subst this
      rw [List.append_nil] at f1
      refine ⟨[.pointer (some ⟨b, o + 0, none⟩)], vs', rfl, .inr ⟨y, b, o, us, rfl, rfl, hz, f2.len, ?_, f2⟩, hvs⟩
      intro j v hj
      rw [← f1, List.getElem?_map] at hj
      cases hr : (List.range ds.length)[j]? with
      | none => rw [hr] at hj; simp at hj
      | some k =>
       rw [hr] at hj
       simp at hj
       have hk := List.getElem?_eq_some_iff.1 hr
       have hjl : j < ds.length := by simpa using hk.1
       have : k = j := by have := hk.2; simpa using this.symm
       subst this
       subst hj
       exact hcell _ _ (List.getElem?_eq_getElem hjl)
   ·cases h
  ·exact one_sound (f := cPtr a) (g := FR w Z (.ptr a)) (fun c v x hx hcr => cPtr_sound hx hcr) h hc
theorem elemsOf_sound {S : Sh} : ∀ (n : Nat) {cs : List AV} {vs : List Value} {xs : List (Den S)}, elemsOf S n cs = some xs → CRs w Z cs vs → xs.length = n ∧ vs.length = n * S.size ∧ ∀ j y, lat xs j = some y → FR w Z S y (seg vs (j * S.size) S.size)
 | 0, cs, vs, xs, h, hc => by
  simp only [elemsOf] at h
  split at h
  ·rename_i he
   have hcs : cs = [] := by simpa using he
   subst hcs
   injection h with h
   subst h
   have : vs = [] := List.eq_nil_of_length_eq_zero (by simpa using hc.1.symm)
   subst this
   exact ⟨rfl, by simp, fun j y hy => by simp [lat] at hy⟩
  ·cases h
 | n + 1, cs, vs, xs, h, hc => by
  simp only [elemsOf] at h
  split at h
  ·rename_i x cs1 h1
   obtain ⟨l, hl, rfl⟩ := Option.map_eq_some_iff.1 h
   obtain ⟨us, ws, rfl, k1, k2⟩ := qfy h1 hc
   obtain ⟨q1, q2, q3⟩ := elemsOf_sound n hl k2
   have hul := k1.len
   refine ⟨by simp [q1], by rw [List.length_append, hul, q2, Nat.succ_mul]; omega, fun j y hy => ?_⟩
   cases j with
   | zero =>
    simp [lat] at hy
    subst hy
    rw [Nat.zero_mul, seg_left (by omega), seg_all hul]
    exact k1
   | succ j =>
    rw [seg_right (o := j * S.size) (by rw [hul, Nat.succ_mul]; omega)]
    exact q3 j y (by simpa [lat] using hy)
  ·cases h

structure NewBlk (w : World) (arr : Array Value) (e : TypeId) (w' : World) : Prop where
 row : w'.heap[w.heap.size]? = some (.cells arr e (0, 0))
 old : ∀ k, k < w.heap.size → w'.heap[k]? = w.heap[k]?
 size : w'.heap.size = w.heap.size + 1
 os : w'.os = w.os
 tape : w'.tape = w.tape
 output : w'.output = w.output
theorem qcs (arr : Array Value) (e : TypeId) : NewBlk w arr e (w.alloc (.cells arr e)) :=
 ⟨by show (w.heap.push _)[_]? = _; simp, fun k hk => Below.heap_alloc w _ k hk, by show (w.heap.push _).size = _; simp, rfl, rfl, rfl⟩
theorem NewBlk.stay {arr : Array Value} {e : TypeId} (hn : NewBlk w arr e w') (hz : ∀ b, Z b → b < w.heap.size) : Stay w Z w' Z := ⟨fun b hb => hn.old b (hz b hb), fun _ h => h⟩
theorem rows_new {arr : Array Value} {e : TypeId} (hn : NewBlk w arr e w') : rows w' w.heap.size = some arr.toList := by unfold rows; rw [hn.row]; rfl
def upd {α β : Type} [DecidableEq α] (f : α → β) (a : α) (b : β) : α → β := fun x => if x = a then b else f x
def Gst.setB (γ : Gst) (id b : Nat) : Gst := { γ with β := upd γ.β id (some b) }
def Gst.setG (γ : Gst) (id : Nat) (g : Pth → Option Hd) : Gst := { γ with G := upd γ.G id g }
theorem Gst.setB_ext (hid : ¬ used id) (b : Nat) : Gst.Ext used γ (γ.setB id b) := fun s hs => ⟨by simp only [Gst.setB, upd]; rw [if_neg (by intro e; subst e; exact hid hs)], rfl⟩
theorem Gst.setG_ext (hid : ¬ used id) (g : Pth → Option Hd) : Gst.Ext used γ (γ.setG id g) := fun s hs => ⟨rfl, by simp only [Gst.setG, upd]; rw [if_neg (by intro e; subst e; exact hid hs)]⟩
theorem MemR.newCells (hm : MemR w0 K w Z own γ h used) (hid : ¬ used id) (hu : ∀ s, used s → used' s) (hid' : used' id) {arr : Array Value} {e : TypeId} (hn : NewBlk w arr e w') (hv : VRs w Z γ cs arr.toList) :
  ∃ own' γ', Stay w Z w' Z ∧ Gst.Ext used γ γ' ∧ MemR w0 K w' Z own' γ' (hput h id (qcy id (.cells cs))) used' ∧ γ'.β id = some w.heap.size := by
 have hs := hn.stay hm.zlt
 have he := Gst.setB_ext (γ := γ) hid w.heap.size
 have hle := he.le hm.fresh
 refine ⟨upd own w.heap.size (some (id, [])), γ.setB id w.heap.size, hs, he, ?_, by simp [Gst.setB, upd]⟩
 refine hm.step hs he hu hn.os hn.tape hn.output (by rw [hn.size]; omega) (fun _ => False) (fun b hb _ => hn.old b hb) (fun b o ho _ => ?_) (fun b o ho => ?_) (fun b hb => ⟨by rw [hn.size]; have := hm.zlt b hb; omega, .inl hb⟩) (fun r R hg => ?_) (fun s hs => ?_)
 ·have := hm.ownlt b o ho
  simp only [upd]
  rw [if_neg (by omega)]
  exact ho
 ·simp only [upd] at ho
  split at ho
  ·rename_i hb
   exact .inr ⟨by rw [hn.size]; omega, fun hZ => by have := hm.zlt b hZ; omega, .inr (by omega)⟩
  ·exact .inl ⟨ho, fun h => h⟩
 ·rw [qbr] at hg
  split at hg
  ·rename_i hr
   injection hg with hg
   subst hg; subst hr
   refine .inr ⟨⟨fun e he => (List.not_mem_nil he).elim, ?_⟩, hid', hid', fun e he => (List.not_mem_nil he).elim⟩
   unfold ContR
   simp only [qcy]
   exact ⟨trivial, trivial, w.heap.size, arr, e, by simp [Gst.setB, upd], by simp [upd], hn.row, hv.mono hs hle⟩
  ·exact .inl ⟨hg, fun h => h⟩
 ·have hns : ¬ used s := fun h => hs (hu s h)
  refine ⟨?_, (hm.fresh s hns).2⟩
  simp only [Gst.setB, upd]
  rw [if_neg (by intro e; subst e; exact hs hid')]
  exact (hm.fresh s hns).1
theorem MemR.newObj (hm : MemR w0 K w Z own γ h used) (hid : ¬ used id) (hu : ∀ s, used s → used' s) (hid' : used' id) {o : Obj} {x : AObj} (hx : x.rel o) :
  ∃ own' γ', Stay w Z (w.alloc o) Z ∧ Gst.Ext used γ γ' ∧ MemR w0 K (w.alloc o) Z own' γ' (hput h id (qcy id (.obj x))) used' ∧ γ'.β id = some w.heap.size := by
 have hold : ∀ k, k < w.heap.size → (w.alloc o).heap[k]? = w.heap[k]? := fun k hk => Below.heap_alloc w _ k hk
 have hsz : (w.alloc o).heap.size = w.heap.size + 1 := by show (w.heap.push _).size = _; simp
 have hrow : (w.alloc o).heap[w.heap.size]? = some o := by show (w.heap.push _)[_]? = _; simp
 have hs : Stay w Z (w.alloc o) Z := ⟨fun b hb => hold b (hm.zlt b hb), fun _ h => h⟩
 have he := Gst.setB_ext (γ := γ) hid w.heap.size
 refine ⟨upd own w.heap.size (some (id, [])), γ.setB id w.heap.size, hs, he, ?_, by simp [Gst.setB, upd]⟩
 refine hm.step hs he hu rfl rfl rfl (by rw [hsz]; omega) (fun _ => False) (fun b hb _ => hold b hb) (fun b o ho _ => ?_) (fun b o ho => ?_) (fun b hb => ⟨by rw [hsz]; have := hm.zlt b hb; omega, .inl hb⟩) (fun r R hg => ?_) (fun s hs => ?_)
 ·have := hm.ownlt b o ho
  simp only [upd]
  rw [if_neg (by omega)]
  exact ho
 ·simp only [upd] at ho
  split at ho
  ·rename_i hb
   exact .inr ⟨by rw [hsz]; omega, fun hZ => by have := hm.zlt b hZ; omega, .inr (by omega)⟩
  ·exact .inl ⟨ho, fun h => h⟩
 ·rw [qbr] at hg
  split at hg
  ·rename_i hr
   injection hg with hg
   subst hg; subst hr
   refine .inr ⟨⟨fun e he => (List.not_mem_nil he).elim, ?_⟩, hid', hid', fun e he => (List.not_mem_nil he).elim⟩
   unfold ContR
   simp only [qcy]
   exact ⟨trivial, trivial, w.heap.size, o, by simp [Gst.setB, upd], by simp [upd], hrow, hx⟩
  ·exact .inl ⟨hg, fun h => h⟩
 ·have hns : ¬ used s := fun h => hs (hu s h)
  refine ⟨?_, (hm.fresh s hns).2⟩
  simp only [Gst.setB, upd]
  rw [if_neg (by intro e; subst e; exact hs hid')]
  exact (hm.fresh s hns).1
theorem MemR.obj (hm : MemR w0 K w Z own γ h used) {x : AObj} (hg : hget h r = some R) (hc : R.cont = .obj x) : ∃ b o, γ.β r = some b ∧ own b = some (r, []) ∧ w.heap[b]? = some o ∧ x.rel o ∧ R.fz = false ∧ R.pend = none := by
 have := (hm.root r R hg).cont
 unfold ContR at this
 simp only [hc] at this
 obtain ⟨e1, e2, b, o, k1, k2, k3, k4⟩ := this
 exact ⟨b, o, k1, k2, k3, k4, e1, e2⟩
theorem MemR.setObj (hm : MemR w0 K w Z own γ h used) {x x' : AObj} {b : Nat} {o' : Obj} (hg : hget h r = some R) (hc : R.cont = .obj x) (hb : γ.β r = some b) (hx : x'.rel o') :
  Stay w Z { w with heap := w.heap.setIfInBounds b o' } Z ∧ MemR w0 K { w with heap := w.heap.setIfInBounds b o' } Z own γ (hput h r { R with cont := .obj x' }) used := by
 obtain ⟨b0, o0, k1, k2, k3, k4, k5, k6⟩ := hm.obj hg hc
 rw [hb] at k1
 injection k1 with k1
 subst k1
 have hlt := hm.ownlt b _ k2
 have hold : ∀ k, k ≠ b → (w.heap.setIfInBounds b o')[k]? = w.heap[k]? := fun k hk => by rw [Array.getElem?_setIfInBounds, if_neg (fun e => hk e.symm)]
 have hs : Stay w Z { w with heap := w.heap.setIfInBounds b o' } Z := ⟨fun k hk => hold k fun e => hm.ownZ b _ k2 (e ▸ hk), fun _ h => h⟩
 refine ⟨hs, hm.step hs (Gst.Ext.refl used γ) (fun _ h => h) rfl rfl rfl (by simp) (fun r' => r' = r) (fun k hk hno => hold k fun e => hno _ (e ▸ k2) rfl) (fun k o ho _ => ho) (fun k o ho => ?_) (fun k hk => ⟨by simp; exact hm.zlt k hk, .inl hk⟩) (fun r' R' hg' => ?_) hm.fresh⟩
 ·by_cases hr : o.1 = r
  ·exact .inr ⟨by simp; exact hm.ownlt k o ho, hm.ownZ k o ho, .inl ⟨o, ho, hr⟩⟩
  ·exact .inl ⟨ho, hr⟩
 ·rw [qbr] at hg'
  split at hg'
  ·rename_i hr
   injection hg' with hg'
   subst hg'; subst hr
   obtain ⟨q1, q2, q3⟩ := hm.keys _ _ hg
   refine .inr ⟨⟨(hm.root _ _ hg).old, ?_⟩, q1, q2, q3⟩
   unfold ContR
   simp only
   exact ⟨k5, k6, b, o', hb, k2, by show (w.heap.setIfInBounds b o')[b]? = _; rw [Array.getElem?_setIfInBounds, if_pos rfl, if_pos hlt], hx⟩
  ·rename_i hr
   exact .inl ⟨hg', hr⟩
theorem MemR.newRo (hm : MemR w0 K w Z own γ h used) (hu : ∀ s, used s → used' s) {arr : Array Value} {e : TypeId} (hn : NewBlk w arr e w') :
  Stay w Z w' (fun b => Z b ∨ b = w.heap.size) ∧ MemR w0 K w' (fun b => Z b ∨ b = w.heap.size) own γ h used' := by
 have hs : Stay w Z w' (fun b => Z b ∨ b = w.heap.size) := ⟨fun b hb => hn.old b (hm.zlt b hb), fun _ h => .inl h⟩
 refine ⟨hs, hm.step hs (Gst.Ext.refl used γ) hu hn.os hn.tape hn.output (by rw [hn.size]; omega) (fun _ => False) (fun b hb _ => hn.old b hb) (fun b o ho _ => ho) (fun b o ho => .inl ⟨ho, fun h => h⟩) (fun b hb => ?_) (fun r R hg => .inl ⟨hg, fun h => h⟩) (fun s hs => hm.fresh s (fun h => hs (hu s h)))⟩
 rcases hb with hb | hb
 ·exact ⟨by rw [hn.size]; have := hm.zlt b hb; omega, .inl hb⟩
 ·exact ⟨by rw [hn.size]; omega, .inr (.inr (by omega))⟩
theorem Dom.one (hd : Hd) : Dom fun q => if q = [] then some hd else none := by
 intro q j s' hd' h
 simp at h
theorem MemR.newArrG (hm : MemR w0 K w Z own γ h used) (hid : ¬ used id) (hu : ∀ s, used s → used' s) (hid' : used' id) {arr : Array Value} {e : TypeId} (hn : NewBlk w arr e w') {m b : Nat} {S : Sh} {xs : List (Den S)} {c : Nat} (hc : xs.length ≤ c) (hroom : room b xs.length) (ha : c * S.size ≤ arr.size)
  (chm : Nat → Prop) (hchm : ∀ r R, hget h r = some R → ¬ chm r) (gi : Pth → Option Hd) (oi : Own) (ho1 : ∀ b o, own b = some o → ¬ chm o.1 → oi b = some o) (ho2 : ∀ b o, oi b = some o → (own b = some o ∧ ¬ chm o.1) ∨ ∃ o', own b = some o' ∧ chm o'.1)
  (hdom : Dom fun q => if q = [] then some ⟨S, false, xs.length, c, some (w.heap.size, 0)⟩ else gi q) (hel : ∀ j y, lat xs j = some y → OR w' Z (rows w') (fun k => if k = w.heap.size then some (id, []) else oi k) id (fun q => if q = [] then some ⟨S, false, xs.length, c, some (w.heap.size, 0)⟩ else gi q) S m y [] j [] (seg arr.toList (j * S.size) S.size)) :
  ∃ own' γ', Stay w Z w' Z ∧ Gst.Ext used γ γ' ∧ MemR w0 K w' Z own' γ' (hput h id (qcy id (.arr m b S xs))) used' ∧ VR w' Z γ' (.osl id id [] none) (.slice (some ⟨w.heap.size, 0, none⟩) xs.length c) ∧
   γ'.G id [] = some ⟨S, false, xs.length, c, some (w.heap.size, 0)⟩ := by
 have hs := hn.stay hm.zlt
 let hd : Hd := { S := S, isPtr := false, n := xs.length, c := c, blk := some (w.heap.size, 0) }
 let g : Pth → Option Hd := fun q => if q = [] then some hd else gi q
 have he := Gst.setG_ext (γ := γ) hid g
 have hG : (γ.setG id g).G id = g := by simp [Gst.setG, upd]
 refine ⟨fun k => if k = w.heap.size then some (id, []) else oi k, γ.setG id g, hs, he, ?_, .osl _ _ _ _ _ hd (by rw [hG]; rfl) ⟨rfl, _, c, rfl, hc, ⟨by simp [wlo, wlen], by simp only [wlo, hd]; omega⟩, by simp [wlo, hd], fun _ => ⟨w.heap.size, 0, rfl, by simp [wlo]⟩⟩, by rw [hG]; rfl⟩
 refine hm.step hs he hu hn.os hn.tape hn.output (by rw [hn.size]; omega) chm (fun b hb _ => hn.old b hb) (fun b o ho hno => ?_) (fun b o ho => ?_) (fun b hb => ⟨by rw [hn.size]; have := hm.zlt b hb; omega, .inl hb⟩) (fun r R hg => ?_) (fun s hs => ?_)
 ·have := hm.ownlt b o ho
  rw [if_neg (by omega)]
  exact ho1 b o ho hno
 ·split at ho
  ·rename_i hb
   exact .inr ⟨by rw [hn.size]; omega, fun hZ => by have := hm.zlt b hZ; omega, .inr (by omega)⟩
  ·rcases ho2 b o ho with h1 | ⟨o', h1, h2⟩
   ·exact .inl h1
   ·exact .inr ⟨by rw [hn.size]; have := hm.ownlt b o' h1; omega, hm.ownZ b o' h1, .inl ⟨o', h1, h2⟩⟩
 ·rw [qbr] at hg
  split at hg
  ·rename_i hr
   injection hg with hg
   subst hg; subst hr
   refine .inr ⟨⟨fun e he => (List.not_mem_nil he).elim, ?_⟩, hid', hid', fun e he => (List.not_mem_nil he).elim⟩
   unfold ContR
   simp only [qcy, Bool.false_eq_true, if_false]
   refine ⟨⟨hroom, by rw [hG]; exact hdom⟩, hd, by rw [hG]; rfl, rfl, rfl, rfl, hc, hroom.2, fun _ => ⟨w.heap.size, 0, arr.toList, rfl, by simp, rows_new hn, by simpa [hd] using ha, fun j hj => ?_⟩⟩
   refine ⟨xs[j], List.getElem?_eq_getElem hj, ?_⟩
   rw [Nat.zero_add, hG]
   exact hel j _ (List.getElem?_eq_getElem hj)
  ·exact .inl ⟨hg, hchm r R hg⟩
 ·have hns : ¬ used s := fun h => hs (hu s h)
  refine ⟨(hm.fresh s hns).1, fun q => ?_⟩
  simp only [Gst.setG, upd]
  rw [if_neg (by intro e; subst e; exact hs hid')]
  exact (hm.fresh s hns).2 q
theorem MemR.newArr (hm : MemR w0 K w Z own γ h used) (hid : ¬ used id) (hu : ∀ s, used s → used' s) (hid' : used' id) {arr : Array Value} {e : TypeId} (hn : NewBlk w arr e w') {m b : Nat} {S : Sh} {xs : List (Den S)} {c : Nat} (hm0 : m = 0 ∨ S.flat = true) (hc : xs.length ≤ c) (hroom : room b xs.length) (ha : c * S.size ≤ arr.size)
  (hel : ∀ j y, lat xs j = some y → FR w Z S y (seg arr.toList (j * S.size) S.size)) :
  ∃ own' γ', Stay w Z w' Z ∧ Gst.Ext used γ γ' ∧ MemR w0 K w' Z own' γ' (hput h id (qcy id (.arr m b S xs))) used' ∧ VR w' Z γ' (.osl id id [] none) (.slice (some ⟨w.heap.size, 0, none⟩) xs.length c) ∧
   γ'.G id [] = some ⟨S, false, xs.length, c, some (w.heap.size, 0)⟩ :=
 hm.newArrG hid hu hid' hn hc hroom ha (fun _ => False) (fun _ _ _ h => h) (fun _ => none) own (fun _ _ h _ => h) (fun _ _ h => .inl ⟨h, fun h => h⟩) (Dom.one _) (fun j y hy => OR.of_FR hm0 ((hel j y hy).mono (hn.stay hm.zlt)))
end
end Go.BE
namespace Go.BE
open Go.RowKit
structure Upd (w : World) (b : Nat) (arr : Array Value) (e : TypeId) (w' : World) : Prop where
 row : w'.heap[b]? = some (.cells arr e (0, 0))
 other : ∀ k, k ≠ b → w'.heap[k]? = w.heap[k]?
 size : w'.heap.size = w.heap.size
 os : w'.os = w.os
 tape : w'.tape = w.tape
 output : w'.output = w.output
def repV (z : List Value) : Nat → List Value
 | 0 => []
 | n + 1 => z ++ repV z n
theorem cvals_append : ∀ (a b : List Value), cvals (a ++ b) = cvals a ++ cvals b
 | [], _ => rfl
 | v :: a, b => by cases v <;> simp only [List.cons_append, cvals, cvals_append a b]
theorem repCells_eq (z : List Value) : ∀ n, repCells z n = cvals (repV z n)
 | 0 => rfl
 | n + 1 => by simp [repCells, repV, repCells_eq z n, cvals_append]
theorem repV_length (z : List Value) : ∀ n, (repV z n).length = n * z.length
 | 0 => by simp [repV]
 | n + 1 => by simp [repV, repV_length z n, Nat.succ_mul, Nat.add_comm]
theorem repV_get (z : List Value) (hz : 0 < z.length) : ∀ n i, i < n * z.length → (repV z n)[i]? = z[i % z.length]?
 | 0, i, h => by simp at h
 | n + 1, i, h => by
  simp only [repV]
  rcases Nat.lt_or_ge i z.length with hi | hi
  ·rw [List.getElem?_append_left hi, Nat.mod_eq_of_lt hi]
  ·rw [List.getElem?_append_right hi, repV_get z hz n (i - z.length) (by rw [Nat.succ_mul] at h; omega)]
   rw [← Nat.mod_eq_sub_mod hi]
theorem range_rep (z : Array Value) (hz : 0 < z.size) (n : Nat) : ((Array.range (n * z.size)).map (fun i => z[i % z.size]!)).toList = repV z.toList n := by
 apply List.ext_getElem?
 intro i
 simp only [Array.toList_map, Array.toList_range, List.getElem?_map]
 rcases Nat.lt_or_ge i (n * z.size) with hi | hi
 ·rw [List.getElem?_range hi, repV_get z.toList (by simpa using hz) n i (by simpa using hi)]
  have hm : i % z.size < z.size := Nat.mod_lt _ hz
  simp [hm]
 ·rw [List.getElem?_eq_none (by simpa using hi), List.getElem?_eq_none (by rw [repV_length]; simpa using hi)]
  rfl
section
variable {P : Program} {E : Ctx} {w w' w0 : World} {Z Z' : Nat → Prop} {K : Kp} {own own' : Own} {γ γ' : Gst} {h h' : Heap} {used used' : Nat → Prop} {r s d id : Nat} {R : Root} {a A B : AV} {v V U : Value} {cs ds : List AV} {vs us : List Value}
theorem qdf (b off : Nat) (e : TypeId) : ∀ (us : List Value) (i : Nat) (w : World) (arr : Array Value), w.heap[b]? = some (.cells arr e (0, 0)) → off + i + us.length ≤ arr.size → (∀ u ∈ us, u.oneCell' = true) →
  ∃ w' arr', (storeCells ⟨b, off, none⟩ us i).run P w = .ok () w' ∧ arr'.toList = qey arr.toList (off + i) us ∧ Upd w b arr' e w'
 | [], i, w, arr, hb, _, _ => ⟨w, arr, rfl, rfl, hb, fun _ _ => rfl, rfl, rfl, rfl, rfl⟩
 | u :: us, i, w, arr, hb, hl, h1 => by
  have hlt : off + i < arr.size := by simp at hl; omega
  have hc : w.cell? ⟨b, off + i, none⟩ = some arr[off + i] := by simp [World.cell?, hb, hlt]
  have hf : w.frozen? ⟨b, off + i, none⟩ = false := by simp [World.frozen?, hb]
  have hbl : b < w.heap.size := (Array.getElem?_eq_some_iff.1 hb).1
  have hset : (w.setCell ⟨b, off + i, none⟩ u).heap[b]? = some (.cells (arr.setIfInBounds (off + i) u) e (0, 0)) := by
   simp only [World.setCell, Array.getElem?_modify, if_true, hb, Option.map_some]
   simp
  have hoth : ∀ k, k ≠ b → (w.setCell ⟨b, off + i, none⟩ u).heap[k]? = w.heap[k]? := fun k hk => by
   simp only [World.setCell, Array.getElem?_modify]
   rw [if_neg (fun h => hk h.symm)]
  obtain ⟨w', arr', e1, e2, e3⟩ := qdf b off e us (i + 1) (w.setCell ⟨b, off + i, none⟩ u) (arr.setIfInBounds (off + i) u) hset (by simp at hl ⊢; omega) (fun x hx => h1 x (List.mem_cons_of_mem _ hx))
  refine ⟨w', arr', ?_, ?_, e3.row, fun k hk => (e3.other k hk).trans (hoth k hk), ?_, e3.os, e3.tape, e3.output⟩
  ·simp only [storeCells, Sem.run_bind, qee, run_store _ _ _ _ _ (h1 u List.mem_cons_self), hc, hf, Bool.false_eq_true, if_false, Result.andThen_ok, e1]
  ·rw [e2, qey, Array.toList_setIfInBounds, Nat.add_assoc]
  ·rw [e3.size]; simp [World.setCell]

theorem newVar_run (t : TypeId) (V : Value) : (newVar t V).run P w = .ok ⟨w.heap.size, 0, none⟩ (w.alloc (.cells V.cells t)) := by
 simp only [newVar, newRow, Sem.run_bind, run_newObj, Result.andThen_ok, Sem.run_pure]
 rfl
theorem alloc_sound (hT : TyOK E.P E.ty) {t : TypeId} {i : TI} (hi : E.ty t = some i) :
  ∃ arr : Array Value, (Instr.alloc t true (.tuple #[])).run E.P w = .ok (.pointer (some ⟨w.heap.size, 0, none⟩)) (w.alloc (.cells arr t)) ∧ VRs w Z γ (cvals i.zero) arr.toList := by
 obtain ⟨ti, h1, h2, h3, zv, h4, h5⟩ := (hT t i hi).info
 refine ⟨zv.cells, ?_, by rw [← h5]; exact VRs.cvals _⟩
 simp only [Instr.alloc, Sem.run_bind, qep h1 h4, Result.andThen_ok, newVar_run, Sem.run_pure]
theorem box_sound {t : TypeId} (hA : VR w Z γ A V) (h1 : A.cells.all AV.one = true) :
  (Instr.box t V).run P w = .ok (.pointer (some ⟨w.heap.size, 0, none⟩)) (w.alloc (.cells V.cells t)) ∧ VRs w Z γ A.cells V.cells.toList := by
 refine ⟨by simp only [Instr.box, Sem.run_bind, newVar_run, Result.andThen_ok, Sem.run_pure], AV.one_cells hA h1⟩

theorem qdn : ∀ (us row : List Value) (o : Nat), o + us.length ≤ row.length → qey row o us = splice row o us
 | [], row, o, _ => by simp [qey, splice]
 | u :: us, row, o, h => by
  simp only [List.length_cons] at h
  rw [qey, qdn us _ _ (by simp; omega)]
  apply List.ext_getElem?
  intro j
  rw [getElem?_splice (by simp; omega), getElem?_splice (by simp; omega)]
  simp only [List.length_cons]
  by_cases h1 : o + 1 ≤ j ∧ j < o + 1 + us.length
  ·rw [if_pos h1, if_pos (by omega)]
   obtain ⟨k, rfl⟩ : ∃ k, j = o + 1 + k := ⟨j - (o + 1), by omega⟩
   rw [show o + 1 + k - (o + 1) = k from by omega, show o + 1 + k - o = k + 1 from by omega, List.getElem?_cons_succ]
  ·rw [if_neg h1]
   by_cases h2 : j = o
   ·subst h2
    rw [if_pos (by omega), List.getElem?_set_self (by omega), Nat.sub_self]
    rfl
   ·rw [if_neg (by omega), List.getElem?_set_ne (Ne.symm h2)]
def Src (w : World) (sz : Nat) (ad : Option Addr) (n : Nat) (us : List Value) : Prop := us.length = n * sz ∧ (0 < n → ∃ b o, ad = some ⟨b, o, none⟩ ∧ Run w b o us)
theorem first_run {sz : Nat} {ad : Option Addr} {n c : Nat} (h : Src w sz ad n us) : (Builtin.firstCells sz n (.slice ad n c)).run P w = .ok us.toArray w := by
 cases ad with
 | none =>
  have : n = 0 := by
   rcases Nat.eq_zero_or_pos n with h0 | h0
   ·exact h0
   ·obtain ⟨_, _, e, _⟩ := h.2 h0; cases e
  subst this
  have : us = [] := List.eq_nil_of_length_eq_zero (by simpa using h.1)
  subst this
  rfl
 | some a =>
  rcases Nat.eq_zero_or_pos n with h0 | h0
  ·subst h0
   have : us = [] := List.eq_nil_of_length_eq_zero (by simpa using h.1)
   subst this
   simp [Builtin.firstCells, loadCells, loadCellsFrom]
  ·obtain ⟨b, o, e, hr⟩ := h.2 h0
   injection e with e
   subst e
   simp only [Builtin.firstCells, ← h.1]
   exact run_loadCells b o us hr
theorem append_in {t ty e : TypeId} {ti : TypeInfo} (ht : P.underlying t = some (.slice e)) (hi : P.info? e = some ti) {ad ad2 : Option Addr} {n c k c2 : Nat} (hnew : Src w ti.size ad2 k us) (hk : 0 < k) (hc : n + k ≤ c)
  {b o : Nat} (had : ad = some ⟨b, o, none⟩) {arr : Array Value} {et : TypeId} (hb : w.heap[b]? = some (.cells arr et (0, 0))) (hfit : o + (n + k) * ti.size ≤ arr.size) (h1 : ∀ u ∈ us, u.oneCell' = true) :
  ∃ w' arr', (Builtin.append_ #[t, t] ty #[.slice ad n c, .slice ad2 k c2]).run P w = .ok (.slice ad (n + k) c) w' ∧ arr'.toList = splice arr.toList (o + n * ti.size) us ∧ Upd w b arr' et w' := by
 have hul := hnew.1
 have hlen : o + n * ti.size + 0 + us.length ≤ arr.size := by rw [hul]; rw [Nat.add_mul] at hfit; omega
 obtain ⟨w', arr', e1, e2, e3⟩ := qdf (P := P) b (o + n * ti.size) et us 0 w arr hb hlen h1
 refine ⟨w', arr', ?_, ?_, e3⟩
 ·have hf := first_run (P := P) (c := c2) hnew
  subst had
  simp [Builtin.append_, run_underlying ht, sizeOf, typeInfo, hi, Builtin.lenOf, hc, hf, qee, e1]
 ·rw [e2, Nat.add_zero]
  exact qdn _ _ _ (by simp only [Array.length_toList]; omega)
theorem append_none {t ty e : TypeId} {ti : TypeInfo} (ht : P.underlying t = some (.slice e)) (hi : P.info? e = some ti) {ad ad2 : Option Addr} {n c c2 : Nat} (hc : n ≤ c) :
  (Builtin.append_ #[t, t] ty #[.slice ad n c, .slice ad2 0 c2]).run P w = .ok (.slice ad n c) w := by
 have hf := first_run (P := P) (w := w) (c := c2) (us := []) (sz := ti.size) (ad := ad2) (n := 0) ⟨by simp, fun h => absurd h (Nat.lt_irrefl _)⟩
 cases ad <;> simp [Builtin.append_, run_underlying ht, sizeOf, typeInfo, hi, Builtin.lenOf, hc, hf, storeCells]
theorem append_new {t ty e : TypeId} {ti : TypeInfo} (ht : P.underlying t = some (.slice e)) (hi : P.info? e = some ti) {z : Value} (hz : ti.zero = some z) {ad ad2 : Option Addr} {n c k c2 : Nat} {os : List Value} (hold : Src w ti.size ad n os) (hnew : Src w ti.size ad2 k us) (hnc : n ≤ c) (hc : c < n + k)
  (hroom : (n + k) * ti.bytes ≤ roomB) (hlim : n + k ≤ roomB) :
  ∃ w' arr cap, (Builtin.append_ #[t, t] ty #[.slice ad n c, .slice ad2 k c2]).run P w = .ok (.slice (some ⟨w.heap.size, 0, none⟩) (n + k) cap) w' ∧ NewBlk w arr e w' ∧ n + k ≤ cap ∧ arr.size = cap * z.cells.size - (n + k) * z.cells.size + (n + k) * ti.size ∧ arr.toList.take ((n + k) * ti.size) = os ++ us := by
 have hn : ¬ (n + k ≤ c) := by omega
 have h63' : ¬ (9223372036854775807 < ((n : Int) + (k : Int))) := by unfold roomB at hlim; omega
 have h48' : ¬ (281474976710656 < Builtin.nextslicecap (n + k) c * ti.bytes) := by have := growslice_fits hc hroom; omega
 have hf := first_run (P := P) (w := w.drew) (c := c2) (us := us) (sz := ti.size) (ad := ad2) (n := k) ⟨hnew.1, fun h => by obtain ⟨b, o, e1, e2⟩ := hnew.2 h; exact ⟨b, o, e1, fun j v hj => e2 j v hj⟩⟩
 have hfo := first_run (P := P) (w := w.drew) (c := c) (us := os) (sz := ti.size) (ad := ad) (n := n) ⟨hold.1, fun h => by obtain ⟨b, o, e1, e2⟩ := hold.2 h; exact ⟨b, o, e1, fun j v hj => e2 j v hj⟩⟩
 refine ⟨w.drew.alloc (.cells (os.toArray ++ us.toArray ++ Builtin.zeroCells z.cells (grownCap w (n + k) c e - (n + k))) e), os.toArray ++ us.toArray ++ Builtin.zeroCells z.cells (grownCap w (n + k) c e - (n + k)), grownCap w (n + k) c e, ?_, ?_, ?_, ?_, ?_⟩
 ·simp [Builtin.append_, run_underlying ht, sizeOf, typeInfo, zeroValue, hi, hz, Builtin.lenOf, hn, h63', h48', Question.forced, hf, hfo, newRow, grownCap]
  congr 2
  apply Array.ext'
  simp [List.append_assoc]
 ·have := qcs (w := w.drew) (os.toArray ++ us.toArray ++ Builtin.zeroCells z.cells (grownCap w (n + k) c e - (n + k))) e
  exact ⟨this.row, this.old, this.size, this.os, this.tape, this.output⟩
 ·unfold grownCap Question.cut
  simp only
  omega
 ·simp only [Array.size_append, List.size_toArray, Builtin.zeroCells, Array.size_map, Array.size_range, hold.1, hnew.1, Nat.add_mul, Nat.sub_mul]
  omega
 ·simp only [Array.toList_append]
  rw [List.take_append_of_le_length (by simp [hold.1, hnew.1, Nat.add_mul])]
  exact List.take_of_length_le (by simp [hold.1, hnew.1, Nat.add_mul])
end
end Go.BE
namespace Go.BE
open Go.RowKit
section
variable {P : Program} {E : Ctx} {w w' w0 : World} {Z Z' : Nat → Prop} {K : Kp} {own own' : Own} {γ γ' : Gst} {h h' : Heap} {used used' : Nat → Prop} {r s d id : Nat} {R : Root} {a A B : AV} {v V U : Value} {cs ds : List AV} {vs us : List Value}
theorem FRV.ones {α : Type} {f : α → List Value → Prop} (hf : ∀ x vs, f x vs → ∀ u ∈ vs, u.oneCell' = true) : ∀ {n : Nat} {x : DenV α n} {vs : List Value}, FRV f n x vs → ∀ u ∈ vs, u.oneCell' = true
 | 0, _, _, hv => by rw [show _ = [] from hv]; intro u hu; cases hu
 | _ + 1, _, _, ⟨us, ws, h1, h2, h3⟩ => by
  rw [h1]
  intro u hu
  rcases List.mem_append.1 hu with hu | hu
  ·exact hf _ _ h2 u hu
  ·exact FRV.ones hf h3 u hu
theorem FR.ones : ∀ {S : Sh} {x : Den S} {vs : List Value}, FR w Z S x vs → ∀ u ∈ vs, u.oneCell' = true := by
 intro S
 induction S with
 | int k => intro x vs h u hu; rw [h.1] at hu; simp at hu; subst hu; rfl
 | bool => intro x vs h u hu; rw [show vs = _ from h] at hu; simp at hu; subst hu; rfl
 | str => intro x vs h u hu; rw [h.1] at hu; simp at hu; subst hu; rfl
 | unit => intro x vs h u hu; rw [show vs = _ from h] at hu; cases hu
 | pair a b iha ihb =>
  intro x vs ⟨us, ws, h1, h2, h3⟩ u hu
  rw [h1] at hu
  rcases List.mem_append.1 hu with hu | hu
  ·exact iha h2 u hu
  ·exact ihb h3 u hu
 | arr n a ih => intro x vs h; exact FRV.ones (f := FR w Z a) (fun _ _ h => ih h) h
 | sl by_ a ih => intro x vs h u hu; obtain ⟨ad, c, h1, _⟩ := h; rw [h1] at hu; simp at hu; subst hu; rfl
 | ptr a ih =>
  intro x vs h u hu
  rcases h with h | ⟨z, b, o, us, h1, h2, h3⟩
  ·rw [h.2] at hu; simp at hu; subst hu; rfl
  ·rw [h2] at hu; simp at hu; subst hu; rfl
theorem runs_concat {α : Type} {f : α → List Value → Prop} {sz b : Nat} : ∀ (xs : List α) (o : Nat), (∀ i y, lat xs i = some y → ∃ us, us.length = sz ∧ Run w b (o + i * sz) us ∧ f y us) →
  ∃ us, us.length = xs.length * sz ∧ Run w b o us ∧ ∀ i y, lat xs i = some y → f y (seg us (i * sz) sz)
 | [], o, _ => ⟨[], by simp, fun j v hj => by simp at hj, fun i y hy => by simp [lat] at hy⟩
 | x :: xs, o, h => by
  obtain ⟨u0, k1, k2, k3⟩ := h 0 x rfl
  obtain ⟨us, q1, q2, q3⟩ := runs_concat xs (o + sz) fun i y hy => by
   obtain ⟨us, e1, e2, e3⟩ := h (i + 1) y (by simpa [lat] using hy)
   exact ⟨us, e1, by rwa [show o + sz + i * sz = o + (i + 1) * sz from by rw [Nat.succ_mul]; omega], e3⟩
  refine ⟨u0 ++ us, by simp [k1, q1, Nat.succ_mul, Nat.add_comm], fun j v hj => ?_, fun i y hy => ?_⟩
  ·rcases Nat.lt_or_ge j sz with hlt | hge
   ·rw [List.getElem?_append_left (by omega)] at hj
    have := k2 j v hj
    simpa using this
   ·rw [List.getElem?_append_right (by omega), k1] at hj
    have := q2 _ v hj
    rwa [show o + sz + (j - sz) = o + j from by omega] at this
  ·cases i with
   | zero =>
    simp [lat] at hy
    subst hy
    rw [Nat.zero_mul, seg_left (by omega), seg_all k1]
    exact k3
   | succ i =>
    rw [seg_right (o := i * sz) (by rw [k1, Nat.succ_mul]; omega)]
    exact q3 i y (by simpa [lat] using hy)
theorem FR.src {b : Nat} {S : Sh} {x : List (Den S)} (h : FR w Z (.sl b S) x [v]) : ∃ ad c us, v = .slice ad x.length c ∧ x.length ≤ c ∧ room b x.length ∧ Src w S.size ad x.length us ∧ (∀ i y, lat x i = some y → FR w Z S y (seg us (i * S.size) S.size)) := by
 obtain ⟨ad, c, hv, hc, hroom, hel⟩ := h
 injection hv with hv
 subst hv
 rcases Nat.eq_zero_or_pos x.length with h0 | h0
 ·have hx : x = [] := List.eq_nil_of_length_eq_zero h0
  subst hx
  exact ⟨ad, c, [], rfl, hc, hroom, ⟨by simp, fun h => absurd h (Nat.lt_irrefl _)⟩, fun i y hy => by simp [lat] at hy⟩
 ·obtain ⟨bb, o, e1, e2, e3⟩ := hel h0
  obtain ⟨us, q1, q2, q3⟩ := runs_concat (f := FR w Z S) x o e3
  exact ⟨ad, c, us, rfl, hc, hroom, ⟨q1, fun _ => ⟨bb, o, e1, q2⟩⟩, q3⟩
theorem segs_ones {S : Sh} {x : List (Den S)} (hl : us.length = x.length * S.size) (h : ∀ i y, lat x i = some y → FR w Z S y (seg us (i * S.size) S.size)) : ∀ u ∈ us, u.oneCell' = true := by
 intro u hu
 obtain ⟨j, hj⟩ := List.mem_iff_getElem?.1 hu
 have hjl := (List.getElem?_eq_some_iff.1 hj).1
 rw [hl] at hjl
 have hs : 0 < S.size := by
  rcases Nat.eq_zero_or_pos S.size with h0 | h0
  ·rw [h0] at hjl; omega
  ·exact h0
 have hd : j / S.size < x.length := Nat.div_lt_of_lt_mul (by rwa [Nat.mul_comm])
 have hfr := h (j / S.size) _ (lat_lt hd (dz S))
 refine hfr.ones u ?_
 refine List.mem_iff_getElem?.2 ⟨j % S.size, ?_⟩
 rw [getElem?_seg, if_pos (Nat.mod_lt _ hs), Nat.div_add_mod']
 exact hj
theorem ORV.ones {α : Type} {f : α → List St → List Value → Prop} {st : List St} (hf : ∀ x s vs, f x s vs → ∀ u ∈ vs, u.oneCell' = true) : ∀ {n k : Nat} {x : DenV α n} {vs : List Value}, ORV f st n k x vs → ∀ u ∈ vs, u.oneCell' = true
 | 0, _, _, _, hv => by rw [show _ = [] from hv]; intro u hu; cases hu
 | _ + 1, _, _, _, ⟨us, ws, h1, h2, h3⟩ => by
  rw [h1]
  intro u hu
  rcases List.mem_append.1 hu with hu | hu
  ·exact hf _ _ _ h2 u hu
  ·exact ORV.ones hf h3 u hu
theorem HVal.one {hd : Hd} {v : Value} (h : HVal hd v) : v.oneCell' = true := by
 unfold HVal at h
 split at h
 ·rcases h with ⟨_, rfl⟩ | ⟨b, o, _, _, rfl⟩ <;> rfl
 ·obtain ⟨ad, c, rfl, _⟩ := h; rfl
theorem OR.ones {M : Rows} {g : Pth → Option Hd} : ∀ {S : Sh} {m : Nat} {x : Den S} {p : Pth} {i : Nat} {st : List St} {vs : List Value}, OR w Z M own r g S m x p i st vs → ∀ u ∈ vs, u.oneCell' = true := by
 intro S
 induction S with
 | int k => intro m x p i st vs h; exact FR.ones (w := w) (Z := Z) (S := .int k) (x := x) h
 | bool => intro m x p i st vs h; exact FR.ones (w := w) (Z := Z) (S := .bool) (x := x) h
 | str => intro m x p i st vs h; exact FR.ones (w := w) (Z := Z) (S := .str) (x := x) h
 | unit => intro m x p i st vs h; exact FR.ones (w := w) (Z := Z) (S := .unit) (x := x) h
 | pair a b iha ihb =>
  intro m x p i st vs ⟨us, ws, h1, h2, h3⟩ u hu
  rw [h1] at hu
  rcases List.mem_append.1 hu with hu | hu
  ·exact iha h2 u hu
  ·exact ihb h3 u hu
 | arr n a ih => intro m x p i st vs h; exact ORV.ones (f := fun y st us => OR w Z M own r g a m y p i st us) (fun _ _ _ h => ih h) h
 | sl by_ a ih =>
  intro m x p i st vs h
  cases m with
  | zero => exact FR.ones (S := .sl by_ a) h
  | succ m =>
   obtain ⟨v, hd, h1, h2, h3, h4, h5, h6, _⟩ := h
   intro u hu
   rw [h1] at hu
   simp at hu
   subst hu
   exact h6.one
 | ptr a ih =>
  intro m x p i st vs h
  cases m with
  | zero => exact FR.ones (S := .ptr a) h
  | succ m =>
   obtain ⟨v, hd, h1, h2, h3, h4, h5, h6, _⟩ := h
   intro u hu
   rw [h1] at hu
   simp at hu
   subst hu
   exact h6.one
theorem FR.flat_any : ∀ {S : Sh} {x : Den S} {vs : List Value}, S.flat = true → FR w Z S x vs → FR w' Z' S x vs := by
 intro S
 induction S with
 | int k => intro x vs _ h; exact h
 | bool => intro x vs _ h; exact h
 | str => intro x vs _ h; exact h
 | unit => intro x vs _ h; exact h
 | pair a b iha ihb =>
  intro x vs hf ⟨us, ws, h1, h2, h3⟩
  simp only [Sh.flat, Bool.and_eq_true] at hf
  exact ⟨us, ws, h1, iha hf.1 h2, ihb hf.2 h3⟩
 | arr n a ih => intro x vs hf h; exact FRV.imp (fun _ _ => ih hf) h
 | sl by_ a ih => intro x vs hf; cases hf
 | ptr a ih => intro x vs hf; cases hf
theorem sliceData_sound (hm : MemR w0 K w Z own γ h used) {b : Nat} {S : Sh} {C : List Prop} {ys : List (Den S)} {ws : List (Nat × Option Root)} (he : sliceData h b S A = some (C, ys, ws)) (hC : AllP C) (hA : VR w Z γ A V) :
  ∃ Z' own', Closed w0 K w Z own γ (qav h ws) used Z' own' ∧ FR w Z' (.sl b S) ys [V] := by
 unfold sliceData at he
 split at he
 ·injection he with he; injection he with _ he; injection he with he1 he2
  subst he1; subst he2
  obtain rfl := hA.val_inv
  exact ⟨Z, own, ⟨Stay.refl _ _, hm, fun _ _ h => h, fun _ _ h => .inl h⟩, FR.nil b S⟩
 ·split at he
  ·rename_i C' T x ws' hc
   obtain ⟨y, hy, e⟩ := Option.map_eq_some_iff.1 he
   injection e with e0 e
   injection e with e1 e2
   subst e0; subst e1; subst e2
   obtain ⟨Z', own', k1, k2⟩ := qgg hm hc hC hA
   exact ⟨Z', own', k1, CR.of_cast (S := T) (T := .sl b S) (x := x) (y := y) hy rfl k2⟩
  ·cases he
theorem flatData_sound (hm : MemR w0 K w Z own γ h used) {b : Nat} {S : Sh} {C : List Prop} {ys : List (Den S)} {ws : List (Nat × Option Root)} (he : flatData h b S A = some (C, ys, ws)) (hC : AllP C) (hA : VR w Z γ A V) :
  ∃ Z' own' Zf, Closed w0 K w Z own γ (qav h ws) used Z' own' ∧ FR w Zf (.sl b S) ys [V] := by
 unfold flatData at he
 split at he
 ·split at he
  ·rename_i C' T x ws' hc
   obtain ⟨y, hy, e⟩ := Option.map_eq_some_iff.1 he
   injection e with e0 e
   injection e with e1 e2
   subst e0; subst e1; subst e2
   obtain ⟨Z', own', k1, k2⟩ := qgg hm hc hC hA
   exact ⟨Z, own, Z', ⟨Stay.refl _ _, hm, fun _ _ h => h, fun _ _ h => .inl h⟩, CR.of_cast (S := T) (T := .sl b S) (x := x) (y := y) hy rfl k2⟩
  ·cases he
 ·obtain ⟨Z', own', k1, k2⟩ := sliceData_sound hm he hC hA
  exact ⟨Z', own', Z', k1, k2⟩
theorem MemR.newEmpty (hm : MemR w0 K w Z own γ h used) (hid : ¬ used id) (hu : ∀ s, used s → used' s) (hid' : used' id) {m b : Nat} {S : Sh} :
  ∃ γ', Gst.Ext used γ γ' ∧ MemR w0 K w Z own γ' (hput h id (qcy id (.arr m b S []))) used' ∧ VR w Z γ' (.osl id id [] none) (.slice none 0 0) := by
 let hd : Hd := { S := S, isPtr := false, n := 0, c := 0, blk := none }
 let g : Pth → Option Hd := fun q => if q = [] then some hd else none
 have he := Gst.setG_ext (γ := γ) hid g
 have hG : (γ.setG id g).G id = g := by simp [Gst.setG, upd]
 refine ⟨γ.setG id g, he, ?_, .osl _ _ _ _ _ hd (by rw [hG]; rfl) ⟨rfl, none, 0, rfl, Nat.le_refl _, ⟨by simp [wlo, wlen], by simp [wlo, hd]⟩, by simp [wlo, hd], fun h => absurd h (Nat.lt_irrefl _)⟩⟩
 refine hm.step (Stay.refl w Z) he hu rfl rfl rfl (Nat.le_refl _) (fun _ => False) (fun b hb _ => rfl) (fun b o ho _ => ho) (fun b o ho => .inl ⟨ho, fun h => h⟩) (fun b hb => ⟨hm.zlt b hb, .inl hb⟩) (fun r R hg => ?_) (fun s hs => ?_)
 ·rw [qbr] at hg
  split at hg
  ·rename_i hr
   injection hg with hg
   subst hg; subst hr
   refine .inr ⟨⟨fun e he => (List.not_mem_nil he).elim, ?_⟩, hid', hid', fun e he => (List.not_mem_nil he).elim⟩
   unfold ContR
   simp only [qcy, Bool.false_eq_true, if_false]
   exact ⟨⟨by simp [room], by rw [hG]; exact Dom.one _⟩, hd, by rw [hG]; rfl, rfl, rfl, rfl, Nat.le_refl _, by simp [hd], fun h => absurd h (Nat.lt_irrefl _)⟩
  ·exact .inl ⟨hg, fun h => h⟩
 ·have hns : ¬ used s := fun h => hs (hu s h)
  refine ⟨(hm.fresh s hns).1, fun q => ?_⟩
  simp only [Gst.setG, upd]
  rw [if_neg (by intro e; subst e; exact hs hid')]
  exact (hm.fresh s hns).2 q
end
end Go.BE
namespace Go.BE
open Go.RowKit
def WOK (P : Program) (w0 : World) (K : Kp) (w : World) (Z : Nat → Prop) (γ : Gst) (h : Heap) (used used' : Nat → Prop) (m : Sem Value) (a : AV) (ws : List (Nat × Option Root)) : Prop :=
 ∃ v w' Z' own' γ', m.run P w = .ok v w' ∧ Stay w Z w' Z' ∧ Gst.Ext used γ γ' ∧ MemR w0 K w' Z' own' γ' (qav h ws) used' ∧ VR w' Z' γ' a v
section
variable {P : Program} {E : Ctx} {w w' w0 : World} {Z Z' : Nat → Prop} {K : Kp} {own own' : Own} {γ γ' : Gst} {h h' : Heap} {used used' : Nat → Prop} {r s d id : Nat} {R : Root} {a A B : AV} {v V U : Value} {cs ds : List AV} {vs us : List Value}
theorem seg_of_take {row : List Value} {m o n : Nat} (ht : row.take m = us) (h : o + n ≤ m) : seg row o n = seg us o n := by
 apply List.ext_getElem?
 intro j
 rw [getElem?_seg, getElem?_seg, ← ht]
 split
 ·rw [List.getElem?_take, if_pos (by omega)]
 ·rfl
theorem qea (ws : List (Nat × Option Root)) (h : Heap) (r : Nat) (R : Root) : qav h (ws ++ [(r, some R)]) = hput (qav h ws) r R := by rw [qce]; rfl
theorem mul_seg {i n k : Nat} (h : i < n) : i * k + k ≤ n * k := by rw [← Nat.succ_mul]; exact Nat.mul_le_mul_right _ h
theorem rows_heap {b : Nat} {row : List Value} (h : rows w b = some row) : ∃ arr e, w.heap[b]? = some (.cells arr e (0, 0)) ∧ arr.toList = row := by
 unfold rows at h
 split at h
 ·rename_i c e hb
  injection h with h
  exact ⟨c, e, hb, h⟩
 ·cases h
theorem node_src {S : Sh} {xs : List (Den S)} {hd : Hd} {g : Pth → Option Hd} {m : Nat} {p : Pth} (hS : hd.S = S) (hn : hd.n = xs.length) (hb : Body (rows w) own r p hd fun j us => ∃ y : Den S, lat xs j = some y ∧ OR w Z (rows w) own r g S m y p j [] us) {ad : Option Addr} {c : Nat} (hc : c ≤ hd.c) (hnc : hd.n ≤ c)
  (had : 0 < c → ∃ b o, hd.blk = some (b, o) ∧ ad = some ⟨b, o, none⟩) :
  (∃ os, Src w S.size ad xs.length os ∧ ∀ j y, lat xs j = some y → OR w Z (rows w) own r g S m y p j [] (seg os (j * S.size) S.size)) ∧
  (0 < hd.c → ∃ b o row, hd.blk = some (b, o) ∧ own b = some (r, p) ∧ rows w b = some row ∧ o + hd.c * S.size ≤ row.length ∧ ∀ j y, lat xs j = some y → OR w Z (rows w) own r g S m y p j [] (seg row (o + j * S.size) S.size)) := by
 have key : 0 < hd.c → ∃ b o row, hd.blk = some (b, o) ∧ own b = some (r, p) ∧ rows w b = some row ∧ o + hd.c * S.size ≤ row.length ∧ ∀ j y, lat xs j = some y → OR w Z (rows w) own r g S m y p j [] (seg row (o + j * S.size) S.size) := fun hc0 => by
  obtain ⟨b, o, row, e1, e2, e3, e4, e5⟩ := hb.elems hc0
  rw [hS] at e4 e5
  refine ⟨b, o, row, e1, e2, e3, e4, fun j y hy => ?_⟩
  obtain ⟨z, hz, hor⟩ := e5 j (by rw [hn]; exact (List.getElem?_eq_some_iff.1 hy).1)
  have : z = y := Option.some.inj (hz.symm.trans hy)
  subst this
  exact hor
 refine ⟨?_, key⟩
 rcases Nat.eq_zero_or_pos xs.length with h0 | h0
 ·have hx : xs = [] := List.eq_nil_of_length_eq_zero h0
  subst hx
  exact ⟨[], ⟨by simp, fun h => absurd h (Nat.lt_irrefl _)⟩, fun j y hy => by simp [lat] at hy⟩
 ·obtain ⟨b, o, row, e1, e2, e3, e4, e5⟩ := key (by omega)
  have hle : o + xs.length * S.size ≤ row.length := by
   have : xs.length * S.size ≤ hd.c * S.size := Nat.mul_le_mul_right _ (by omega)
   omega
  refine ⟨seg row o (xs.length * S.size), ⟨seg_length hle, fun _ => ?_⟩, fun j y hy => ?_⟩
  ·obtain ⟨b', o', k1, k2⟩ := had (by omega)
   rw [e1] at k1
   injection k1 with k1
   injection k1 with k1 k1'
   subst k1; subst k1'
   exact ⟨b, o, k2, Run.seg_rows e3⟩
  ·rw [seg_seg (mul_seg (List.getElem?_eq_some_iff.1 hy).1)]
   exact e5 j y hy
theorem lat_append {α : Type} {xs ys : List α} {j : Nat} {y : α} (h : lat (xs ++ ys) j = some y) : (j < xs.length ∧ lat xs j = some y) ∨ (xs.length ≤ j ∧ lat ys (j - xs.length) = some y) := by
 unfold lat at *
 rcases Nat.lt_or_ge j xs.length with hj | hj
 ·rw [List.getElem?_append_left hj] at h
  exact .inl ⟨hj, h⟩
 ·rw [List.getElem?_append_right hj] at h
  exact .inr ⟨hj, h⟩
theorem castSl {T : Sh} {b : Nat} {S : Sh} {x : Den T} {y : List (Den S)} (h : castD T (.sl b S) x = some y) : T = .sl b S ∧ HEq x y := by
 obtain ⟨e, he⟩ := qdz (S := T) (T := .sl b S) (x := x) (y := y) h
 subst e
 exact ⟨rfl, heq_of_eq he.symm⟩
theorem segs_ones' {q : Value → Prop} {sz n : Nat} (hl : us.length = n * sz) (h : ∀ j, j < n → ∀ u ∈ seg us (j * sz) sz, q u) : ∀ u ∈ us, q u := by
 intro u hu
 obtain ⟨t, ht⟩ := List.mem_iff_getElem?.1 hu
 have htl := (List.getElem?_eq_some_iff.1 ht).1
 rw [hl] at htl
 have hsz : 0 < sz := by
  rcases Nat.eq_zero_or_pos sz with h0 | h0
  ·rw [h0] at htl; omega
  ·exact h0
 have hj : t / sz < n := (Nat.div_lt_iff_lt_mul hsz).2 htl
 refine h (t / sz) hj u (List.mem_iff_getElem?.2 ⟨t % sz, ?_⟩)
 rw [getElem?_seg, if_pos (Nat.mod_lt _ hsz)]
 rw [Nat.mul_comm, Nat.div_add_mod]
 exact ht
def MvOK (w : World) (own : Own) (γ : Gst) (mv : Option (Nat × Nat)) (j : Nat) (M' : Rows) (own' : Own) (r' : Nat) (g' : Pth → Option Hd) (p : Pth) (i : Nat) : Prop := match mv with
 | none => True
 | some (r2, c2) => (∀ s' rest hd, γ.G c2 ((j, s') :: rest) = some hd → g' (p ++ (i, s') :: rest) = some hd) ∧ ∀ b s' rest row, own b = some (r2, (j, s') :: rest) → rows w b = some row → own' b = some (r', p ++ (i, s') :: rest) ∧ M' b = some row
def SrcOK (w : World) (Z : Nat → Prop) (own : Own) (γ : Gst) (b : Nat) (S : Sh) (m : Nat) (ys : List (Den S)) (V : Value) (mv : Option (Nat × Nat)) : Prop :=
 ∃ ad k us, V = .slice ad ys.length k ∧ ys.length ≤ k ∧ room b ys.length ∧ Src w S.size ad ys.length us ∧ (∀ u ∈ us, u.oneCell' = true) ∧
  ∀ j y, lat ys j = some y → ∀ w' Z' M' own' r' g' p i, Stay w Z w' Z' → MvOK w own γ mv j M' own' r' g' p i → OR w' Z' M' own' r' g' S m y p i [] (seg us (j * S.size) S.size)
theorem FR.srcOK {Zf : Nat → Prop} {b m : Nat} {S : Sh} {ys : List (Den S)} (hm : m = 0 ∨ S.flat = true) (hZ : S.flat = true ∨ Zf = Z) (h : FR w Zf (.sl b S) ys [V]) : SrcOK w Z own γ b S m ys V none := by
 obtain ⟨ad, c, us, h1, h2, h3, h4, h5⟩ := h.src
 refine ⟨ad, c, us, h1, h2, h3, h4, segs_ones h4.1 h5, fun j y hy w' Z' M' own' r' g' p i hs _ => OR.of_FR hm ?_⟩
 rcases hZ with hf | rfl
 ·exact (h5 j y hy).flat_any hf
 ·exact (h5 j y hy).mono hs
theorem MemR.del (hm : MemR w0 K w Z own γ h used) (r : Nat) : MemR w0 K w Z own γ (hdel h r) used := by
 have sub : ∀ r' R, hget (hdel h r) r' = some R → hget h r' = some R := fun r' R hg => by
  rw [hget_hdel] at hg
  split at hg
  ·cases hg
  ·exact hg
 exact ⟨hm.os, hm.tape, hm.output, hm.size, hm.kept, hm.zin, hm.zlt, hm.ownlt, hm.ownZ, hm.ownK, fun r' R hg => hm.root r' R (sub r' R hg), fun r' R hg => hm.keys r' R (sub r' R hg), hm.fresh⟩
theorem srcData_sound (hm : MemR w0 K w Z own γ h used) {b m : Nat} {S : Sh} {C : List Prop} {ys : List (Den S)} {ws : List (Nat × Option Root)} {mr : Option Nat} (he : srcData h m b S A = some (C, ys, ws, mr)) (hC : AllP C) (hA : VR w Z γ A V) :
  ∃ Z1 own1 mv, Stay w Z w Z1 ∧ MemR w0 K w Z1 own1 γ (qav h ws) used ∧ (∀ r2 c2, mv = some (r2, c2) → hget (qav h ws) r2 = none ∧ own1 = own ∧ Dom (γ.G c2) ∧ ∃ hd2, γ.G c2 [] = some hd2 ∧ hd2.n = ys.length) ∧ SrcOK w Z1 own1 γ b S m ys V mv := by
 unfold srcData at he
 split at he
 ·rename_i hf
  obtain ⟨⟨C', ys', ws'⟩, hx, e⟩ := Option.map_eq_some_iff.1 he
  injection e with e0 e
  injection e with e1 e
  injection e with e2 e3
  simp only at e0 e1 e2
  subst e0; subst e1; subst e2
  obtain ⟨Z1, own1, Zf, k1, k2⟩ := flatData_sound hm hx hC hA
  exact ⟨Z1, own1, none, k1.stay, k1.mem, (fun _ _ h => by cases h), k2.srcOK (.inr hf) (.inl hf)⟩
 ·split at he
  ·rename_i hm0
   obtain ⟨⟨C', ys', ws'⟩, hx, e⟩ := Option.map_eq_some_iff.1 he
   injection e with e0 e
   injection e with e1 e
   injection e with e2 e3
   simp only at e0 e1 e2
   subst e0; subst e1; subst e2
   obtain ⟨Z1, own1, k1, k2⟩ := sliceData_sound hm hx hC hA
   exact ⟨Z1, own1, none, k1.stay, k1.mem, (fun _ _ h => by cases h), k2.srcOK (.inl hm0) (.inr rfl)⟩
  ·split at he
   ·rename_i v
    split at he
    ·rename_i hv
     injection he with he; injection he with _ he; injection he with he1 he
     injection he with he2 he3
     subst he1; subst he2
     rw [isNilS_eq hv] at hA
     obtain rfl := hA.val_inv
     exact ⟨Z, own, none, Stay.refl _ _, hm, (fun _ _ h => by cases h), none, 0, [], rfl, Nat.le_refl _, by simp [room], ⟨by simp, fun h => absurd h (Nat.lt_irrefl _)⟩, (fun u hu => by cases hu), fun j y hy => by simp [lat] at hy⟩
    ·cases he
   ·rename_i r2 s2
    split at he
    ·rename_i R2 m2 T x hrd
     split at he
     ·rename_i hm2
      subst hm2
      obtain ⟨y, hy, e⟩ := Option.map_eq_some_iff.1 he
      injection e with e0 e
      injection e with e1 e
      injection e with e2 e3
      subst e0; subst e1; subst e2
      obtain ⟨h1, h2, h3, b0, S0, xs0, h4, h5, h6, h7, h8, h9⟩ := hm.data hrd
      have hTx : (⟨T, x⟩ : TVal) = ⟨.sl b S, y⟩ := by
       obtain ⟨e1, e2⟩ := castSl hy
       subst e1
       rw [eq_of_heq e2]
      rw [hTx] at h5
      injection h5 with hx1 hx2
      injection hx1 with hx1 hx3
      subst hx1; subst hx3
      have hx2' : y = xs0 := eq_of_heq hx2
      subst hx2'
      obtain ⟨hd1, n1, n2, n3, n4, n5⟩ := h9
      obtain ⟨hd', o1, o2⟩ := hA.osl_inv
      have o1' := h2.valid_hd (q := []) h3 o1
      rw [n1] at o1'
      injection o1' with o1'
      subst o1'
      obtain ⟨o3, ad, c, rfl, o4, o5, o6, o7⟩ := o2
      simp only [wlen, wlo, Nat.zero_mul, Nat.add_zero, Nat.zero_add] at o4 o6 o7
      obtain ⟨⟨os, src1, src2⟩, _⟩ := node_src n2 n4 n5 o6 o4 o7
      refine ⟨Z, own, some (r2, R2.cur), Stay.refl _ _, hm.del r2, fun r2' c2' e => ?_, ad, c, os, by rw [show hd1.n = List.length y from n4]; rfl, by rw [← show hd1.n = List.length y from n4]; exact o4, h6, src1, ?_, fun j z hz w' Z' M' own' r' g' p i hs hmv => ?_⟩
      ·injection e with e
       injection e with e1 e2
       subst e1; subst e2
       exact ⟨by simp only [qav]; rw [hget_hdel, if_pos rfl], rfl, hm.dom h1 h4, hd1, n1, n4⟩
      ·exact segs_ones' src1.1 fun j hj u hu => (src2 j _ (List.getElem?_eq_getElem hj)).ones u hu
      ·refine OR.move2 (p := []) hs (fun s' rest hd hg => ?_) (fun b' s' rest row ho hM => ?_) (src2 j z hz)
       ·exact hmv.1 s' rest hd (by simpa using hg)
       ·exact hmv.2 b' s' rest row (by simpa using ho) hM
     ·cases he
    ·cases he
   ·cases he
end
end Go.BE
namespace Go.BE
open Go.RowKit
section
variable {P : Program} {E : Ctx} {w w' w0 : World} {Z Z' : Nat → Prop} {K : Kp} {own own' : Own} {γ γ' : Gst} {h h' : Heap} {used used' : Nat → Prop} {r s d id : Nat} {R : Root} {a A B : AV} {v V U : Value} {cs ds : List AV} {vs us : List Value}
theorem plast_none {p : Pth} (h : plast p = none) : p = [] := by
 cases p with
 | nil => rfl
 | cons x p =>
  exfalso
  induction p generalizing x with
  | nil => obtain ⟨i, st⟩ := x; simp [plast] at h
  | cons y p ih =>
   simp only [plast] at h
   split at h
   ·cases h
   ·rename_i hn
    exact ih y hn
theorem plast_some : ∀ {p p0 : Pth} {i : Nat} {st : List St}, plast p = some (p0, i, st) → p = p0 ++ [(i, st)]
 | [], _, _, _, h => by simp [plast] at h
 | [(j, t)], p0, i, st, h => by
  simp only [plast, Option.some.injEq, Prod.mk.injEq] at h
  obtain ⟨rfl, rfl, rfl⟩ := h
  rfl
 | x :: y :: p, p0, i, st, h => by
  simp only [plast] at h
  split at h
  ·rename_i q j t hq
   simp only [Option.some.injEq, Prod.mk.injEq] at h
   obtain ⟨rfl, rfl, rfl⟩ := h
   rw [plast_some hq]
   rfl
  ·cases h
theorem ngetT_snoc : ∀ {p0 : Pth} {t u : TVal} {i : Nat} {st : List St}, ngetT t (p0 ++ [(i, st)]) = some u → AllP (nOK t (p0 ++ [(i, st)])) →
  ∃ n1, nget t p0 = some n1 ∧ sGet n1.S (n1.xs.getD i (dz n1.S)) st = some u ∧ AllP (nOK t p0) ∧ i < n1.xs.length ∧ AllP (sOK n1.S st)
 | [], t, u, i, st, h, hc => by
  rw [List.nil_append] at h hc
  unfold ngetT at h
  unfold nOK at hc
  split at h
  ·rename_i n hn
   split at h
   ·rename_i v hv
    simp only [ngetT, Option.some.injEq] at h
    subst h
    simp only [hn, hv, AllP, AllP.append] at hc
    exact ⟨n, hn, hv, trivial, hc.1, hc.2.1⟩
   ·cases h
  ·cases h
 | (k, q) :: p0, t, u, i, st, h, hc => by
  rw [List.cons_append] at h hc
  unfold ngetT at h
  unfold nOK at hc
  split at h
  ·rename_i n hn
   split at h
   ·rename_i v hv
    simp only [hn, hv, AllP, AllP.append] at hc
    obtain ⟨n1, h1, h2, h3, h4, h5⟩ := ngetT_snoc h hc.2.2
    refine ⟨n1, ?_, h2, ?_, h4, h5⟩
    ·show (match qco t with | some n => (match sGet n.S (n.xs.getD k (dz n.S)) q with | some u => nget u p0 | none => none) | none => none) = some n1
     rw [hn]
     show (match sGet n.S (n.xs.getD k (dz n.S)) q with | some u => nget u p0 | none => none) = some n1
     rw [hv]
     exact h1
    ·unfold nOK
     simp only [hn, hv, AllP, AllP.append]
     exact ⟨hc.1, hc.2.1, h3⟩
   ·cases h
  ·cases h
theorem splice_one {row : List Value} {o : Nat} {v : Value} (h : o < row.length) : splice row o [v] = row.set o v := by
 apply List.ext_getElem?
 intro j
 rw [getElem?_splice (by simp; omega), List.getElem?_set]
 by_cases e : o = j
 ·subst e
  simp [h]
 ·rw [if_neg (by simp; omega), if_neg e]
def gApp (γ : Gst) (cur : Nat) (mv : Option (Nat × Nat)) (p : Pth) (n : Nat) (q : Pth) : Option Hd := match mv with
 | none => γ.G cur q
 | some (_, c2) => match q.drop p.length with
  | (k, s') :: rest => if q.take p.length = p ∧ n ≤ k then γ.G c2 ((k - n, s') :: rest) else γ.G cur q
  | [] => γ.G cur q
def oApp (own : Own) (mv : Option (Nat × Nat)) (r : Nat) (p : Pth) (n : Nat) : Own := fun b => match mv with
 | none => own b
 | some (r2, _) => match own b with
  | some (r', q) => if r' = r2 then (match q with | (j, s') :: rest => some (r, p ++ (n + j, s') :: rest) | [] => none) else some (r', q)
  | none => none
theorem gApp_in {cur r2 c2 : Nat} {p : Pth} {n k : Nat} {s' : List St} {rest : Pth} (h : n ≤ k) : gApp γ cur (some (r2, c2)) p n (p ++ (k, s') :: rest) = γ.G c2 ((k - n, s') :: rest) := by
 unfold gApp
 simp [h]
theorem gApp_out {cur : Nat} {mv : Option (Nat × Nat)} {p : Pth} {n : Nat} {q : Pth} (h : ∀ k s' rest, q = p ++ (k, s') :: rest → k < n) : gApp γ cur mv p n q = γ.G cur q := by
 unfold gApp
 split
 ·rfl
 ·split
  ·rename_i k s' rest hd
   split
   ·rename_i hc
    have : q = p ++ (k, s') :: rest := by
     rw [← List.take_append_drop p.length q, hd, hc.1]
    have := h k s' rest this
    omega
   ·rfl
  ·rfl
theorem oApp_keep {mv : Option (Nat × Nat)} {p : Pth} {n b : Nat} {o : Nat × Pth} (ho : own b = some o) (h : ∀ r2 c2, mv = some (r2, c2) → o.1 ≠ r2) : oApp own mv r p n b = some o := by
 unfold oApp
 split
 ·exact ho
 ·rename_i r2 c2
  rw [ho]
  simp only
  rw [if_neg (h r2 c2 rfl)]
theorem oApp_some {mv : Option (Nat × Nat)} {p : Pth} {n b : Nat} {o : Nat × Pth} (h : oApp own mv r p n b = some o) : (own b = some o ∧ ∀ r2 c2, mv = some (r2, c2) → o.1 ≠ r2) ∨ ∃ r2 c2 q, mv = some (r2, c2) ∧ own b = some (r2, q) ∧ o.1 = r := by
 unfold oApp at h
 split at h
 ·exact .inl ⟨h, fun r2 c2 e => by cases e⟩
 ·rename_i r2 c2
  split at h
  ·rename_i r' q hq
   split at h
   ·rename_i hr
    subst hr
    split at h
    ·injection h with h
     subst h
     exact .inr ⟨_, _, _, rfl, hq, rfl⟩
    ·cases h
   ·rename_i hr
    injection h with h
    subst h
    exact .inl ⟨hq, fun r2' c2' e => by injection e with e; injection e with e1 e2; subst e1; exact hr⟩
  ·cases h
theorem oldApp_mem {d : Nat} : ∀ {l : List (Nat × List Nat × Nat)} {e : Nat × List Nat × Nat}, e ∈ oldApp d l → ∃ e0 ∈ l, e = (e0.1, d :: e0.2.1, e0.2.2)
 | [], e, he => by cases he
 | (k, bad, cut) :: l, e, he => by
  simp only [oldApp, List.mem_cons] at he
  rcases he with rfl | he
  ·exact ⟨_, List.mem_cons_self, rfl⟩
  ·obtain ⟨e0, q1, q2⟩ := oldApp_mem he
   exact ⟨e0, List.mem_cons_of_mem _ q1, q2⟩
theorem MemR.appNode (hm : MemR w0 K w Z own γ h used) (hid : ¬ used id) (hu : ∀ s, used s → used' s) (hid' : used' id) (hR : hget h r = some R) {m0 b0 : Nat} {S0 : Sh} {xs0 : List (Den S0)} (hc0 : R.cont = .arr m0 b0 S0 xs0) (hp : R.pend = none) (hf : R.fz = false)
  {p : Pth} {b : Nat} {S : Sh} {xs : List (Den S)} (hle : p.length ≤ m0) (hng : ngetT ⟨.sl b0 S0, xs0⟩ p = some ⟨.sl b S, xs⟩) (hok : AllP (nOK ⟨.sl b0 S0, xs0⟩ p))
  (os : w'.os = w.os) (tape : w'.tape = w.tape) (output : w'.output = w.output) (size : w.heap.size ≤ w'.heap.size) (hb : ∀ k, k < w.heap.size → own k ≠ some (r, p) → w'.heap[k]? = w.heap[k]?)
  {mv : Option (Nat × Nat)} {k2 : Nat} (hmv : ∀ r2 c2, mv = some (r2, c2) → hget h r2 = none ∧ Dom (γ.G c2) ∧ ∃ hd2, γ.G c2 [] = some hd2 ∧ hd2.n = k2)
  {zs : List (Den S)} (hzs : zs.length = xs.length + k2) (hroom : room b zs.length) {B o c : Nat} (hc : zs.length ≤ c)
  (hB : 0 < c → (own B = some (r, p) ∨ w.heap.size ≤ B) ∧ B < w'.heap.size ∧ ∃ row, rows w' B = some row ∧ o + c * S.size ≤ row.length ∧ ∀ j y, lat zs j = some y →
   (j < xs.length ∧ OR w Z (rows w) own r (γ.G R.cur) S (m0 - p.length) y p j [] (seg row (o + j * S.size) S.size)) ∨
   (xs.length ≤ j ∧ ∀ w'' Z'' M' own'' r' g'' p' i, Stay w Z w'' Z'' → MvOK w own γ mv (j - xs.length) M' own'' r' g'' p' i → OR w'' Z'' M' own'' r' g'' S (m0 - p.length) y p' i [] (seg row (o + j * S.size) S.size)))
  {ad : Option Addr} (had : 0 < c → ad = some ⟨B, o, none⟩) {c1 : Cont} {pend : Option Pth}
  (hfin : (plast p = none ∧ pend = none ∧ c1 = .arr m0 b S zs) ∨ ∃ p0 i st x', plast p = some (p0, i, st) ∧ pend = some p ∧ pset ⟨.sl b0 S0, xs0⟩ p0 i st ⟨.sl b S, zs⟩ = some x' ∧ c1 = .arr m0 b0 S0 x') :
  ∃ own' γ', Stay w Z w' Z ∧ Gst.Ext used γ γ' ∧ MemR w0 K w' Z own' γ' (hput h r (R.app p.length id c1 pend)) used' ∧ VR w' Z γ' (.osl r id p none) (.slice ad zs.length c) := by
 have hs : Stay w Z w' Z := ⟨fun k hk => hb k (hm.zlt k hk) (fun ho => hm.ownZ k _ ho hk), fun _ h => h⟩
 obtain ⟨k1, k2', k3⟩ := hm.keys r R hR
 have hr := hm.root r R hR
 have hdom := hm.dom hR hc0
 obtain ⟨_, hrm0, M0, own0, r0, hroot, hM0, _, ho0⟩ := hm.arr hR hc0
 obtain ⟨rfl, rfl⟩ := ho0 hf
 have hM := hM0 hp
 subst hM
 have hnode : nget ⟨.sl b0 S0, xs0⟩ p = some ⟨S, xs, false⟩ := nget_ngetT hng
 have hold := (qbv.place (w' := w) (Z' := Z) (M' := rows w) (own' := own0) (g' := γ.G R.cur) (Stay.refl w Z) p (t := ⟨.sl b0 S0, xs0⟩) (n0 := ⟨S0, xs0, false⟩) (n := ⟨S, xs, false⟩) (p0 := []) rfl hroot hle hnode hok).1
 rw [List.nil_append] at hold
 obtain ⟨hdO, n1, n2, n3, n4, n5⟩ := hold
 have hn4 : hdO.n = xs.length := n4
 have hr2 : ∀ r2 c2, mv = some (r2, c2) → r0 ≠ r2 := fun r2 c2 e he => by
  have := (hmv r2 c2 e).1
  rw [← he, hR] at this
  cases this
 let hd : Hd := { S := S, isPtr := false, n := zs.length, c := c, blk := some (B, o) }
 let g : Pth → Option Hd := fun q => if q = p then some hd else gApp γ R.cur mv p xs.length q
 let own2 : Own := fun k => if 0 < c ∧ k = B then some (r0, p) else oApp own0 mv r0 p xs.length k
 have he := Gst.setG_ext (γ := γ) hid g
 have hG : (γ.setG id g).G id = g := by simp [Gst.setG, upd]
 have gp : g p = some hd := by simp [g]
 have gout : ∀ q hd', q ≠ p → (∀ k s' rest, q = p ++ (k, s') :: rest → k < xs.length) → γ.G R.cur q = some hd' → g q = some hd' := fun q hd' hq hk hg => by
  simp only [g]
  rw [if_neg hq, gApp_out hk]
  exact hg
 have gold : ∀ q hd', q ≠ p → γ.G R.cur q = some hd' → g q = some hd' := fun q hd' hq hg => gout q hd' hq (fun k s' rest e => by
  subst e
  obtain ⟨hd0, e1, e2⟩ := hdom.elem hg
  rw [n1] at e1
  injection e1 with e1
  subst e1
  omega) hg
 have plen : ∀ {x : Seg} {rest : Pth}, p ++ x :: rest ≠ p := fun {x rest} e => by
  have := congrArg List.length e
  simp at this
 have own_keep : ∀ k q, own0 k = some (r0, q) → q ≠ p → own2 k = some (r0, q) ∧ w'.heap[k]? = w.heap[k]? := fun k q ho hq => by
  have hlt := hm.ownlt k _ ho
  refine ⟨?_, hb k hlt (fun e => by rw [ho] at e; injection e with e; injection e with _ e; exact hq e)⟩
  simp only [own2]
  rw [if_neg]
  ·exact oApp_keep ho (fun r2 c2 e => hr2 r2 c2 e)
  ·rintro ⟨hc0, rfl⟩
   rcases (hB hc0).1 with h1 | h1
   ·rw [ho] at h1; injection h1 with h1; injection h1 with _ h1; exact hq h1
   ·omega
 have hdomg : Dom g := by
  intro q j s' hd' hq
  by_cases hqp : q ++ [(j, s')] = p
  ·obtain ⟨hd0, e1, e2⟩ := hdom q j s' hdO (by rw [hqp]; exact n1)
   refine ⟨hd0, gold q hd0 (fun e => ?_) e1, e2⟩
   rw [← hqp] at e
   have := congrArg List.length e
   simp at this
  ·simp only [g] at hq
   rw [if_neg hqp] at hq
   by_cases hex : ∃ r2 c2 k t rest, mv = some (r2, c2) ∧ q ++ [(j, s')] = p ++ (k, t) :: rest ∧ xs.length ≤ k
   ·obtain ⟨r2, c2, k, t, rest, e1, e2, e3⟩ := hex
    subst e1
    rw [e2, gApp_in e3] at hq
    obtain ⟨_, hdm2, hd2, g2, g3⟩ := hmv r2 c2 rfl
    rcases List.eq_nil_or_concat rest with rfl | ⟨rest1, x, rfl⟩
    ·have e4 := List.append_inj' e2 rfl
     have e5 := e4.2
     simp only [List.cons.injEq, Prod.mk.injEq, and_true] at e5
     obtain ⟨rfl, rfl⟩ := e5
     have := e4.1
     subst this
     obtain ⟨hd0, f1, f2⟩ := hdm2 [] (j - xs.length) s' hd' (by simpa using hq)
     rw [g2] at f1
     injection f1 with f1
     subst f1
     exact ⟨hd, gp, by show j < zs.length; omega⟩
    ·rw [List.concat_eq_append] at e2 hq
     have e2' : q ++ [(j, s')] = (p ++ (k, t) :: rest1) ++ [x] := by rw [e2]; simp
     have e4 := List.append_inj' e2' rfl
     obtain ⟨rfl, e5⟩ := e4
     injection e5 with e5
     subst e5
     obtain ⟨hd0, f1, f2⟩ := hdm2 ((k - xs.length, t) :: rest1) j s' hd' (by simpa using hq)
     refine ⟨hd0, ?_, f2⟩
     simp only [g]
     rw [if_neg plen, gApp_in e3]
     exact f1
   ·have hq' : γ.G R.cur (q ++ [(j, s')]) = some hd' := by
     cases hmm : mv with
     | none => rw [hmm] at hq; exact hq
     | some x =>
      obtain ⟨r2, c2⟩ := x
      rw [gApp_out (fun k t rest e => Nat.lt_of_not_le fun hk => hex ⟨r2, c2, k, t, rest, hmm, e, hk⟩)] at hq
      exact hq
    obtain ⟨hd0, f1, f2⟩ := hdom q j s' hd' hq'
    by_cases hqe : q = p
    ·subst hqe
     rw [n1] at f1
     injection f1 with f1
     subst f1
     exact ⟨hd, gp, by show j < zs.length; omega⟩
    ·exact ⟨hd0, gold q hd0 hqe f1, f2⟩
 -- the node, over any rows that are as the world says at p and below
 have hnew : ∀ M' : Rows, (∀ k q, own2 k = some (r0, q) → (q = p ∨ ∃ j s' rest, q = p ++ (j, s') :: rest) → M' k = rows w' k) → (0 < c → M' B = rows w' B) → Body M' own2 r0 p hd fun j us => ∃ y : Den S, lat zs j = some y ∧ OR w' Z M' own2 r0 g S (m0 - p.length) y p j [] us := fun M' hM' hMB => by
  refine ⟨hc, hroom.2, fun hc' => ?_⟩
  obtain ⟨b1, b2, row, b3, b4, b5⟩ := hB hc'
  refine ⟨B, o, row, rfl, by show (if 0 < c ∧ B = B then _ else _) = _; rw [if_pos ⟨hc', rfl⟩], by rw [hMB hc']; exact b3, b4, fun j hj => ?_⟩
  refine ⟨zs[j], List.getElem?_eq_getElem hj, ?_⟩
  rcases b5 j _ (List.getElem?_eq_getElem hj) with ⟨hj1, hor⟩ | ⟨hj1, hor⟩
  ·refine OR.frame hs (fun q hd' hun hq => gold q hd' (by obtain ⟨s', rest, rfl⟩ := hun; exact plen) hq) (fun k q row' hun ho hM => ?_) hor
   obtain ⟨s', rest, rfl⟩ := hun
   obtain ⟨o1, o2⟩ := own_keep k _ ho plen
   exact ⟨o1, by rw [hM' k _ o1 (.inr ⟨_, _, _, rfl⟩), qfo o2]; exact hM⟩
  ·refine hor w' Z M' own2 r0 g p j hs ?_
   unfold MvOK
   split
   ·trivial
   ·rename_i r2 c2
    refine ⟨fun s' rest hd' hg => ?_, fun k s' rest row' ho hM => ?_⟩
    ·simp only [g]
     rw [if_neg plen, gApp_in hj1]
     exact hg
    ·have hne : own0 k ≠ some (r0, p) := fun e => by
      rw [ho] at e
      injection e with e
      injection e with e _
      exact hr2 r2 c2 rfl e.symm
     have hk : own2 k = some (r0, p ++ (j, s') :: rest) := by
      simp only [own2]
      rw [if_neg]
      ·simp only [oApp, ho, if_true]
       rw [show xs.length + (j - xs.length) = j by omega]
      ·rintro ⟨hc0, rfl⟩
       rcases b1 with h1 | h1
       ·exact hne h1
       ·have := hm.ownlt _ _ ho; omega
     exact ⟨hk, by rw [hM' k _ hk (.inr ⟨_, _, _, rfl⟩), qfo (hb k (hm.ownlt _ _ ho) hne)]; exact hM⟩
 refine ⟨own2, γ.setG id g, hs, he, ?_, .osl _ _ _ _ _ hd (by rw [hG]; exact gp) ⟨rfl, ad, c, rfl, hc, ⟨by simp [wlo, wlen], by simp only [wlo, hd]; omega⟩, by simp only [wlo, hd]; omega, fun h => ⟨B, o, rfl, by simp [wlo, had h]⟩⟩⟩
 refine hm.step hs he hu os tape output size (fun x => x = r0 ∨ ∃ c2, mv = some (x, c2)) (fun k hk hno => hb k hk (fun ho => hno _ ho (.inl rfl))) (fun k q ho hne => ?_) (fun k q ho => ?_) (fun k hk => ⟨Nat.lt_of_lt_of_le (hm.zlt k hk) size, .inl hk⟩) (fun r' R' hg => ?_) (fun s hs => ?_)
 ·simp only [own2]
  rw [if_neg]
  ·exact oApp_keep ho (fun r2 c2 e e2 => hne (.inr ⟨c2, by rw [e2]; exact e⟩))
  ·rintro ⟨hc', rfl⟩
   rcases (hB hc').1 with h1 | h1
   ·rw [h1] at ho; injection ho with ho; subst ho; exact hne (.inl rfl)
   ·have := hm.ownlt _ _ ho; omega
 ·simp only [own2] at ho
  split at ho
  ·rename_i hcB
   obtain ⟨hc', rfl⟩ := hcB
   refine .inr ⟨(hB hc').2.1, ?_, ?_⟩
   ·rcases (hB hc').1 with h1 | h1
    ·exact hm.ownZ _ _ h1
    ·intro hZ; have := hm.zlt _ hZ; omega
   ·rcases (hB hc').1 with h1 | h1
    ·exact .inl ⟨_, h1, .inl rfl⟩
    ·exact .inr h1
  ·rcases oApp_some ho with ⟨h1, h2⟩ | ⟨r2, c2, q2, h1, h2, h3⟩
   ·by_cases hq : q.1 = r0
    ·exact .inr ⟨Nat.lt_of_lt_of_le (hm.ownlt _ _ h1) size, hm.ownZ _ _ h1, .inl ⟨_, h1, .inl hq⟩⟩
    ·refine .inl ⟨h1, ?_⟩
     rintro (h | ⟨c2, h⟩)
     ·exact hq h
     ·exact h2 _ c2 h rfl
   ·exact .inr ⟨Nat.lt_of_lt_of_le (hm.ownlt _ _ h2) size, hm.ownZ _ _ h2, .inl ⟨_, h2, .inr ⟨c2, h1⟩⟩⟩
 ·rw [qbr] at hg
  split at hg
  ·rename_i hrr
   injection hg with hg
   subst hg; subst hrr
   refine .inr ⟨⟨fun e hmem q hd' h1 h2 h3 => ?_, ?_⟩, hu _ k1, hid', fun e hmem => ?_⟩
   ·have hcur : (R.app p.length id c1 pend).cur = id := rfl
    rw [hcur, hG]
    have hmem' : e = (R.cur, [p.length], 1000000) ∨ e ∈ oldApp p.length R.old := by simpa [Root.app] using hmem
    rcases hmem' with rfl | hmem'
    ·have hq : q ≠ p := by
      intro hq
      subst hq
      simp at h2
     have : (γ.setG id g).G R.cur = γ.G R.cur := (he _ k2').2
     rw [this] at h3
     exact gold q hd' hq h3
    ·obtain ⟨e0, q1, rfl⟩ := oldApp_mem hmem'
     have hq : q ≠ p := by
      intro hq
      subst hq
      simp at h2
     have : (γ.setG id g).G e0.1 = γ.G e0.1 := (he _ (k3 e0 q1)).2
     rw [this] at h3
     refine gold q hd' hq (hr.old e0 q1 q hd' h1 ?_ h3)
     simp only [List.contains_cons, Bool.or_eq_false_iff] at h2
     exact h2.2
   ·rcases hfin with ⟨f1, f2, f3⟩ | ⟨p0, i, st, x', f1, f2, f3, f4⟩
    ·have hp0 := plast_none f1
     subst hp0; subst f2; subst f3
     unfold ContR
     simp only [Root.app, hf, Bool.false_eq_true, if_false]
     refine ⟨⟨hroom, by rw [hG]; exact hdomg⟩, hd, by rw [hG]; exact gp, rfl, rfl, rfl, ?_⟩
     rw [hG]
     exact hnew (rows w') (fun _ _ _ _ => rfl) (fun _ => rfl)
    ·have hpe := plast_some f1
     subst f2; subst f4
     unfold ContR
     simp only [Root.app, hf, Bool.false_eq_true, if_false]
     rw [hpe] at hng hok
     obtain ⟨n1', l1, l2, l3, l4, l5⟩ := ngetT_snoc hng hok
     have hpl : p.length = p0.length + 1 := by rw [hpe]; simp
     obtain ⟨hd0, bb, oo, row, so, e1, e2, e3, e4, e5, e6, e7, e8, e9, e10⟩ := (qbv.place (w' := w') (Z' := Z) (M' := rowsPut (rows w') 0 0 (.slice ad zs.length c)) (own' := own2) (g' := g) hs p0 (t := ⟨.sl b0 S0, xs0⟩) (n0 := ⟨S0, xs0, false⟩) (n := n1') (p0 := []) rfl hroot (by omega) l1 l3).2 l4 l2 l5
     clear e10
     simp only [List.nil_append] at e1 e5 e9
     have hp0p : p0 ≠ p := by rw [hpe]; intro e; have := congrArg List.length e; simp at this
     obtain ⟨q1, q2⟩ := own_keep bb p0 e5 hp0p
     have hbB : 0 < c → bb ≠ B := fun hc' e => by
      subst e
      rcases (hB hc').1 with h1 | h1
      ·rw [e5] at h1; injection h1 with h1; injection h1 with _ h1; exact hp0p h1
      ·have := hm.ownlt _ _ e5; omega
     have hoff : oo + i * n1'.S.size + so < row.length := by
      have : (Sh.sl b S).size = 1 := rfl
      omega
     have hHV : HVal hd (.slice ad zs.length c) := by
      unfold HVal
      exact ⟨ad, c, rfl, hc, Nat.le_refl _, fun h => ⟨B, o, rfl, had h⟩⟩
     have hrowlen : ∃ row2, rows w' bb = some row2 ∧ oo + i * n1'.S.size + so < row2.length := ⟨row, by rw [qfo q2]; exact e6, hoff⟩
     have fin : ∀ v, HVal hd v → qbv w' Z (rowsPut (rows w') bb (oo + i * n1'.S.size + so) v) own2 r' g ⟨S0, x', false⟩ m0 [] ∧ List.length (α := Den S0) x' = xs0.length := fun v hHV => by
      let M' : Rows := rowsPut (rows w') bb (oo + i * n1'.S.size + so) v
      have hM1 : ∀ k, k ≠ bb → M' k = rows w' k := fun k hk => by simp only [M', rowsPut]; rw [if_neg hk]
      obtain ⟨hd0', bb', oo', row', so', e1', e2', e3', e4', e5', e6', e7', e8', e9', e10⟩ := (qbv.place (w' := w') (Z' := Z) (M' := M') (own' := own2) (g' := g) hs p0 (t := ⟨.sl b0 S0, xs0⟩) (n0 := ⟨S0, xs0, false⟩) (n := n1') (p0 := []) rfl hroot (by omega) l1 l3).2 l4 l2 l5
      simp only [List.nil_append] at e1' e5' e9' e10
      rw [e1] at e1'; injection e1' with e1'; subst e1'
      rw [e4] at e4'; injection e4' with e4'; injection e4' with e4' e4''; subst e4'; subst e4''
      rw [e6] at e6'; injection e6' with e6'; subst e6'
      rw [e7] at e7'; injection e7' with e7'; injection e7' with _ e7'; subst e7'
      have hmm : m0 - p0.length = (m0 - p.length) + 1 := by omega
      have hbody := hnew M' (fun k q ho hq => hM1 k (fun e => by
       subst e
       rw [q1] at ho
       injection ho with ho
       injection ho with _ ho
       rcases hq with rfl | ⟨j, s', rest, rfl⟩
       ·exact hp0p ho
       ·have := congrArg List.length ho
        rw [hpe] at this
        simp at this
        try omega)) (fun hc' => hM1 B (Ne.symm (hbB hc')))
      have key := e10 (y' := zs) (us' := [v]) (x' := x') (fun q hd' hun hq => gold q hd' (fun e => hun (by rw [e, hpe]; exact Under.self _ _ _)) hq) (fun k q row0 hun ho hM => by
       have hqp : q ≠ p := fun e => hun (by rw [e, hpe]; exact Under.self _ _ _)
       obtain ⟨o1, o2⟩ := own_keep k q ho hqp
       refine ⟨o1, ?_⟩
       split
       ·rename_i hk
        subst hk
        rw [e6] at hM
        injection hM with hM
        subst hM
        simp only [M', rowsPut, if_true]
        rw [qfo o2, e6, splice_one hoff]
        rfl
       ·rename_i hk
        rw [hM1 k hk, qfo o2]
        exact hM) (by
       rw [hmm]
       exact ⟨v, hd, rfl, by rw [← hpe]; exact gp, rfl, rfl, rfl, hHV, hroom, by rw [← hpe]; exact hbody⟩) f3
      obtain ⟨n', f5, f6, f7, f8⟩ := key
      simp only [qco, Option.some.injEq] at f5
      subst f5
      exact ⟨f8, f7⟩
     have hroomx : room b0 x'.length := by
      have : x'.length = xs0.length := (fin _ hHV).2
      rw [this]; exact hrm0
     obtain ⟨row2, w1, w2⟩ := hrowlen
     refine ⟨⟨hroomx, by rw [hG]; exact hdomg⟩, p0, i, st, hd0, bb, oo, so, .sl b S, hd, _, row2, hpe, ?_, e4, ?_, ?_, rfl, hHV, q1, w1, by rw [e2]; exact w2, fun v' hv' => ?_⟩
     ·rw [hG]; exact gold p0 hd0 hp0p e1
     ·rw [e2]; exact e7
     ·rw [hG]; exact gp
     ·rw [hG, e2]; exact (fin v' hv').1
   ·have hmem' : e = (R.cur, [p.length], 1000000) ∨ e ∈ oldApp p.length R.old := by simpa [Root.app] using hmem
    rcases hmem' with rfl | hmem'
    ·exact hu _ k2'
    ·obtain ⟨e0, q1, rfl⟩ := oldApp_mem hmem'
     exact hu _ (k3 e0 q1)
  ·rename_i hne
   refine .inl ⟨hg, ?_⟩
   rintro (h | ⟨c2, h⟩)
   ·exact hne h
   ·have := (hmv _ _ h).1
    rw [this] at hg
    cases hg
 ·have hns : ¬ used s := fun h => hs (hu s h)
  refine ⟨(hm.fresh s hns).1, fun q => ?_⟩
  simp only [Gst.setG, upd]
  rw [if_neg (by intro e; subst e; exact hs hid')]
  exact (hm.fresh s hns).2 q
end
end Go.BE
namespace Go.BE
open Go.RowKit
section
variable {P : Program} {E : Ctx} {w w' w0 : World} {Z Z' : Nat → Prop} {K : Kp} {own own' : Own} {γ γ' : Gst} {h h' : Heap} {used used' : Nat → Prop} {r s d id : Nat} {R : Root} {a A B : AV} {v V U : Value} {cs ds : List AV} {vs us : List Value}
def gNil (γ : Gst) (mv : Option (Nat × Nat)) (q : Pth) : Option Hd := match mv with
 | none => none
 | some (_, c2) => γ.G c2 q
def oNil (own : Own) (mv : Option (Nat × Nat)) (id : Nat) : Own := fun b => match mv with
 | none => own b
 | some (r2, _) => match own b with
  | some (r', q) => if r' = r2 then some (id, q) else some (r', q)
  | none => none
theorem MemR.newSrc (hm : MemR w0 K w Z own γ h used) (hid : ¬ used id) (hu : ∀ s, used s → used' s) (hid' : used' id) {arr : Array Value} {e : TypeId} (hn : NewBlk w arr e w') {m b : Nat} {S : Sh} {ys : List (Den S)} {c : Nat} (hc : ys.length ≤ c) (hroom : room b ys.length) (ha : c * S.size ≤ arr.size)
  {mv : Option (Nat × Nat)} (hmv : ∀ r2 c2, mv = some (r2, c2) → hget h r2 = none ∧ Dom (γ.G c2) ∧ ∃ hd2, γ.G c2 [] = some hd2 ∧ hd2.n = ys.length)
  (hel : ∀ j y, lat ys j = some y → ∀ w'' Z'' M' own'' r' g'' p' i, Stay w Z w'' Z'' → MvOK w own γ mv j M' own'' r' g'' p' i → OR w'' Z'' M' own'' r' g'' S m y p' i [] (seg arr.toList (j * S.size) S.size)) :
  ∃ own' γ', Stay w Z w' Z ∧ Gst.Ext used γ γ' ∧ MemR w0 K w' Z own' γ' (hput h id (qcy id (.arr m b S ys))) used' ∧ VR w' Z γ' (.osl id id [] none) (.slice (some ⟨w.heap.size, 0, none⟩) ys.length c) := by
 have key := hm.newArrG hid hu hid' hn (m := m) (b := b) (S := S) (xs := ys) hc hroom ha (fun x => ∃ c2, mv = some (x, c2)) (fun r R hg => by rintro ⟨c2, e⟩; have := (hmv _ _ e).1; rw [hg] at this; cases this) (gNil γ mv) (oNil own mv id)
  (fun b o ho hno => by
   unfold oNil
   split
   ·exact ho
   ·rename_i r2 c2
    rw [ho]
    simp only
    rw [if_neg (fun e => hno ⟨c2, by rw [e]⟩)])
  (fun b o ho => by
   unfold oNil at ho
   split at ho
   ·exact .inl ⟨ho, by rintro ⟨c2, e⟩; cases e⟩
   ·rename_i r2 c2
    split at ho
    ·rename_i r' q hq
     split at ho
     ·rename_i hr
      subst hr
      exact .inr ⟨_, hq, c2, rfl⟩
     ·rename_i hr
      injection ho with ho
      subst ho
      exact .inl ⟨hq, by rintro ⟨c2', e⟩; injection e with e; injection e with e _; exact hr e.symm⟩
    ·cases ho)
  (by
   intro q j s' hd hq
   simp only [List.append_eq_nil_iff, List.cons_ne_self, and_false, if_false] at hq
   have hq : gNil γ mv (q ++ [(j, s')]) = some hd := by simpa using hq
   cases hmm : mv with
   | none => rw [hmm] at hq; cases hq
   | some x =>
    obtain ⟨r2, c2⟩ := x
    rw [hmm] at hq
    obtain ⟨_, hdm, hd2, g2, g3⟩ := hmv r2 c2 hmm
    obtain ⟨hd0, f1, f2⟩ := hdm q j s' hd hq
    by_cases hqe : q = []
    ·subst hqe
     rw [g2] at f1
     injection f1 with f1
     subst f1
     exact ⟨_, if_pos rfl, by show j < ys.length; omega⟩
    ·exact ⟨hd0, by show (if q = [] then _ else gNil γ (some (r2, c2)) q) = _; rw [if_neg hqe]; exact f1, f2⟩)
  (fun j y hy => by
   refine hel j y hy w' Z _ _ id _ [] j (hn.stay hm.zlt) ?_
   unfold MvOK
   split
   ·trivial
   ·rename_i r2 c2
    refine ⟨fun s' rest hd hg => ?_, fun k s' rest row ho hM => ?_⟩
    ·show (if ([] ++ (j, s') :: rest : Pth) = [] then _ else gNil γ (some (r2, c2)) ([] ++ (j, s') :: rest)) = some hd
     rw [if_neg (by simp)]
     exact hg
    ·have hk := hm.ownlt k _ ho
     refine ⟨?_, by rw [qfo (hn.old k hk)]; exact hM⟩
     show (if k = w.heap.size then _ else oNil own (some (r2, c2)) id k) = _
     rw [if_neg (by omega)]
     simp [oNil, ho])
 obtain ⟨own', γ', g1, g2, g3, g4, _⟩ := key
 exact ⟨own', γ', g1, g2, g3, g4⟩
theorem zvals_len : ∀ S : Sh, (zvals S).length = S.size := by
 intro S
 induction S with
 | pair a b iha ihb => simp [zvals, Sh.size, iha, ihb]
 | arr n a ih => simp [zvals, Sh.size, ih]
 | _ => rfl
theorem aappend_sound (hT : TyOK E.P E.ty) (hm : MemR w0 K w Z own γ h used) (hid : ¬ used id) (hu : ∀ s, used s → used' s) (hid' : used' id) {lv : Nat} {t ty : TypeId} {C : List Prop} {ws : List (Nat × Option Root)} {sk : Bool} (he : aappend E h id lv t A B = .w C a ws sk) (hC : AllP C)
  (hA : VR w Z γ A V) (hB : VR w Z γ B U) : sk = false ∧ WOK E.P w0 K w Z γ h used used' (Builtin.append_ #[t, t] ty #[V, U]) a ws := by
 unfold aappend at he
 split at he
 ·rename_i e _ _ _ b S hty
  obtain ⟨dsc, hd, hk⟩ := (hT t _ hty).desc
  simp only [TKOK] at hk
  subst hk
  split at he
  ·rename_i i hie
   split at he
   ·rename_i hcond
    obtain ⟨c1, c2, c3, c4⟩ := hcond
    obtain ⟨ti, i1, i2, i3, z, i4, i5⟩ := (hT e _ hie).info
    obtain ⟨s1, s2, s3⟩ := (hT e _ hie).sh S c1
    have hsz : ti.size = S.size := by rw [i2, ← s1]
    have hzs : z.cells.size = S.size := by
     rw [← Array.length_toList, i5, ← s2]
     exact zvals_len S
    have hby : ti.bytes = b := by rw [i3, c3]
    have hrm : ∀ n, n * b ≤ roomB → room b n := fun n hn => ⟨hn, by have : n * 1 ≤ n * b := Nat.mul_le_mul_left _ c4; omega⟩
    split at he
    ·-- onto nil
     split at he
     ·rename_i C0 ys ws0 mr hsd
      injection he with e1 e2 e3 e4
      subst e1; subst e2; subst e3; subst e4
      refine ⟨rfl, ?_⟩
      rw [AllP.append] at hC
      obtain ⟨Z1, own1, mv, hst, hmm, hmv, ad2, k2, us, rfl, q2, q3, q4, q6, q5⟩ := srcData_sound hm hsd hC.1 hB
      have hroom : room b ys.length := hrm _ hC.2.1
      obtain rfl := hA.val_inv
      rcases Nat.eq_zero_or_pos ys.length with h0 | h0
      ·have hy0 : ys = [] := List.eq_nil_of_length_eq_zero h0
       subst hy0
       obtain ⟨γ', g1, g2, g3⟩ := hmm.newEmpty hid hu hid' (m := lv) (b := b) (S := S)
       exact ⟨_, w, Z1, own1, γ', append_none hd i1 (Nat.le_refl 0), hst, g1, by rw [qea]; exact g2, g3⟩
      ·obtain ⟨w', arr, cap, f1, f2, f3, f4, f5⟩ := append_new (P := E.P) (w := w) (ty := ty) hd i1 i4 (ad := none) (n := 0) (c := 0) (os := []) ⟨by simp, fun h => absurd h (Nat.lt_irrefl _)⟩ (by rw [hsz]; exact q4) (Nat.le_refl 0) (by omega) (by rw [hby, Nat.zero_add]; exact hroom.1) (by rw [Nat.zero_add]; exact hroom.2) (c2 := k2)
       rw [Nat.zero_add] at f1 f3 f4 f5
       rw [hzs, hsz] at f4
       rw [hsz, List.nil_append] at f5
       obtain ⟨own', γ', g1, g2, g3, g4⟩ := hmm.newSrc hid hu hid' f2 (m := lv) (b := b) (S := S) (ys := ys) (c := cap) f3 hroom (by have : ys.length * S.size ≤ cap * S.size := Nat.mul_le_mul_right _ f3; omega) (mv := mv) (fun r2 c2 e => by obtain ⟨a1, a2, a3, a4⟩ := hmv r2 c2 e; exact ⟨a1, a3, a4⟩) (fun j y hy w'' Z'' M' own'' r' g'' p' i hs hmo => by rw [seg_of_take f5 (mul_seg (List.getElem?_eq_some_iff.1 hy).1)]; exact q5 j y hy w'' Z'' M' own'' r' g'' p' i hs hmo)
       exact ⟨_, w', Z1, own', γ', f1, hst.trans g1, g2, by rw [qea]; exact g3, g4⟩
     ·cases he
    ·-- onto a node
     rename_i r s p
     split at he
     ·rename_i N hN
      split at he
      ·rename_i xs C0 ys ws0 mr hxs hsd
       split at he
       ·rename_i hall
        obtain ⟨hAn, hpn, hfn⟩ := rnode_spec hN
        -- the shape of the two ways out
        have hway : ∃ c1 pend, C = N.C ++ C0 ++ [(List.length xs + ys.length) * b ≤ roomB] ∧ a = .osl r id p none ∧ ws = ws0 ++ [(r, some (N.R.app p.length id c1 pend))] ∧ sk = false ∧
          ((plast p = none ∧ pend = none ∧ c1 = .arr N.m b S (List.append xs ys)) ∨ ∃ p0 i st x', plast p = some (p0, i, st) ∧ pend = some p ∧ pset N.d p0 i st ⟨.sl b S, List.append xs ys⟩ = some x' ∧ N.R.setD ⟨N.d.S, x'⟩ = some c1) := by
         split at he
         ·rename_i hpl
          injection he with e1 e2 e3 e4
          have hp0 := plast_none hpl
          subst hp0
          exact ⟨_, none, e1.symm, e2.symm, e3.symm, e4.symm, .inl ⟨hpl, rfl, rfl⟩⟩
         ·rename_i p0 i st hpl
          split at he
          ·rename_i x' hx
           split at he
           ·rename_i c1 hc1
            injection he with e1 e2 e3 e4
            exact ⟨c1, some p, e1.symm, e2.symm, e3.symm, e4.symm, .inr ⟨p0, i, st, x', hpl, rfl, hx, hc1⟩⟩
           ·cases he
          ·cases he
        clear he
        obtain ⟨cn, pend, rfl, rfl, rfl, rfl, hfin⟩ := hway
        refine ⟨rfl, ?_⟩
        rw [AllP.append, AllP.append] at hC
        obtain ⟨⟨hC1, hC2⟩, hC3, _⟩ := hC
        obtain ⟨Z1, own1, mv, hst, hmm, hmv, ad2, k2, us, rfl, q2, q3, q4, q6, q5⟩ := srcData_sound hm hsd hC2 hB
        have hmv' : ∀ r2 c2, mv = some (r2, c2) → hget (qav h ws0) r2 = none ∧ Dom (γ.G c2) ∧ ∃ hd2, γ.G c2 [] = some hd2 ∧ hd2.n = ys.length := fun r2 c2 e => by obtain ⟨a1, a2, a3, a4⟩ := hmv r2 c2 e; exact ⟨a1, a3, a4⟩
        obtain ⟨⟨h1, h2, h3, h4, h5, h6⟩, ⟨b0, S0, xs0, m1, m2, m3, _⟩, _⟩ := hm.nodeA hAn hC1
        have hR1 : hget (qav h ws0) r = some N.R := by rw [hget_other_ws hall]; exact h1
        obtain ⟨hr1, hrm1, M0, own0, r0, hroot, hM0, _, ho0⟩ := hmm.arr hR1 m1
        obtain ⟨rfl, rfl⟩ := ho0 hfn
        have hM := hM0 hpn
        subst hM
        have hng : ngetT N.d p = some ⟨.sl b S, xs⟩ := by
         cases hu1 : ngetT N.d p with
         | none => rw [hu1] at hxs; cases hxs
         | some u =>
          rw [hu1] at hxs
          obtain ⟨T, x⟩ := u
          have hxs : castD T (.sl b S) x = some xs := hxs
          obtain ⟨e1, e2⟩ := castSl hxs
          subst e1
          rw [eq_of_heq e2]
        rw [m2] at hng h5
        have hok : AllP (nOK ⟨.sl b0 S0, xs0⟩ p) := by rw [← h5]; exact hC1
        have hold := (qbv.place (w' := w) (Z' := Z1) (M' := rows w) (own' := own0) (g' := γ.G N.R.cur) (Stay.refl w Z1) p (t := ⟨.sl b0 S0, xs0⟩) (n0 := ⟨S0, xs0, false⟩) (n := ⟨S, xs, false⟩) (p0 := []) rfl hroot h4 (nget_ngetT hng) hok).1
        rw [List.nil_append] at hold
        obtain ⟨hd1, n1, n2, n3, n4, n5⟩ := hold
        obtain ⟨hd', o1, o2⟩ := hA.osl_inv
        have o1' := hr1.valid_hd h3 o1
        rw [n1] at o1'
        injection o1' with o1'
        subst o1'
        obtain ⟨o3, ad, c, rfl, o4, o5, o6, o7⟩ := o2
        simp only [wlen, wlo, Nat.zero_mul, Nat.add_zero, Nat.zero_add] at o4 o6 o7
        obtain ⟨⟨os, src1, src2⟩, blk⟩ := node_src n2 n4 n5 o6 o4 o7
        have hn4 : hd1.n = xs.length := n4
        have hlen : (List.append xs ys).length = xs.length + ys.length := List.length_append
        have hroom : room b (List.append xs ys).length := by
         rw [hlen]
         exact hrm _ hC3
        have hfin' : (plast p = none ∧ pend = none ∧ cn = .arr N.m b S (List.append xs ys)) ∨ ∃ p0 i st x', plast p = some (p0, i, st) ∧ pend = some p ∧ pset ⟨.sl b0 S0, xs0⟩ p0 i st ⟨.sl b S, List.append xs ys⟩ = some x' ∧ cn = .arr N.m b0 S0 x' := by
         rcases hfin with hf | ⟨p0, i, st, x', f1, f2, f3, f4⟩
         ·exact .inl hf
         ·obtain ⟨NC, NR, Nm, Nd, Nn⟩ := N
          simp only at m1 m2 f3 f4 x' ⊢
          subst m2
          refine .inr ⟨p0, i, st, x', f1, f2, f3, ?_⟩
          unfold Root.setD at f4
          simp only [m1] at f4
          rw [castD_self] at f4
          injection f4 with f4
          exact f4.symm
        have hmulc : c * S.size ≤ hd1.c * S.size := Nat.mul_le_mul_right _ o6
        show WOK E.P w0 K w Z γ h used used' (Builtin.append_ #[t, t] ty #[.slice ad hd1.n c, .slice ad2 ys.length k2]) _ _
        rcases Nat.eq_zero_or_pos ys.length with h0 | h0
        ·have hy0 : ys = [] := List.eq_nil_of_length_eq_zero h0
         subst hy0
         have hap : List.append xs [] = xs := List.append_nil xs
         rw [hap] at hroom hfin'
         obtain ⟨own', γ', g1, g2, g3, g4⟩ := hmm.appNode (w' := w) hid hu hid' hR1 m1 hpn hfn (p := p) (b := b) (S := S) (xs := xs) h4 hng hok rfl rfl rfl (Nat.le_refl _) (fun _ _ _ => rfl) (mv := mv) (k2 := 0) hmv' (zs := xs) rfl hroom (B := (hd1.blk.getD (0, 0)).1) (o := (hd1.blk.getD (0, 0)).2) (c := c) (by rw [← hn4]; exact o4)
          (fun hc0 => by
           obtain ⟨bb, oo, row, e1, e2, e3, e4, e5⟩ := blk (by omega)
           rw [e1]
           exact ⟨.inl e2, hmm.ownlt _ _ e2, row, e3, by have e4 : oo + hd1.c * S.size ≤ row.length := e4; show oo + c * S.size ≤ row.length; omega, fun j y hy => .inl ⟨(List.getElem?_eq_some_iff.1 hy).1, e5 j y hy⟩⟩) (ad := ad) (fun hc0 => by obtain ⟨bb, oo, e1, e2⟩ := o7 hc0; rw [e1]; exact e2) hfin'
         refine ⟨_, w, Z1, own', γ', append_none hd i1 o4, hst.trans g1, g2, by rw [qea]; exact g3, ?_⟩
         rw [hn4]; exact g4
        ·by_cases hfit : hd1.n + ys.length ≤ c
         ·obtain ⟨bb, oo, hb1, hb2⟩ := o7 (by omega)
          obtain ⟨bb', oo', row, e1, e2, e3, e4, e5⟩ := blk (by omega)
          rw [hb1] at e1
          injection e1 with e1
          injection e1 with e1 e1'
          subst e1; subst e1'
          obtain ⟨arr, et, hrow, hrl⟩ := rows_heap e3
          have e4 : oo + hd1.c * S.size ≤ row.length := e4
          have hcs : (hd1.n + ys.length) * S.size ≤ c * S.size := Nat.mul_le_mul_right _ hfit
          obtain ⟨w', arr', f1, f2, f3⟩ := append_in (P := E.P) (w := w) (ty := ty) hd i1 (ad := ad) (n := hd1.n) (c := c) (by rw [hsz]; exact q4) h0 hfit hb2 hrow (by rw [hsz, ← Array.length_toList, hrl]; omega) q6 (c2 := k2)
          rw [hsz, hrl] at f2
          have hrow' : rows w' bb = some arr'.toList := by unfold rows; rw [f3.row]; rfl
          have hul : us.length = ys.length * S.size := q4.1
          have hll : oo + hd1.n * S.size + us.length ≤ row.length := by rw [hul]; rw [Nat.add_mul] at hcs; omega
          have hal : arr'.toList.length = row.length := by rw [f2, splice_length hll]
          obtain ⟨own', γ', g1, g2, g3, g4⟩ := hmm.appNode (w' := w') hid hu hid' hR1 m1 hpn hfn (p := p) (b := b) (S := S) (xs := xs) h4 hng hok f3.os f3.tape f3.output (by rw [f3.size]; exact Nat.le_refl _) (fun k hk hno => f3.other k (fun e => by subst e; exact hno e2)) (mv := mv) (k2 := ys.length) hmv' (zs := List.append xs ys) hlen hroom (B := bb) (o := oo) (c := c) (by rw [hlen, ← hn4]; exact hfit)
           (fun _ => ⟨.inl e2, by rw [f3.size]; exact hmm.ownlt _ _ e2, arr'.toList, hrow', by rw [hal]; omega, fun j y hy => by
            rw [f2]
            rcases lat_append hy with ⟨k1, k2⟩ | ⟨k1, k2⟩
            ·have := mul_seg (k := S.size) k1
             rw [seg_splice_out (by omega) (by rw [hn4]; omega)]
             exact .inl ⟨k1, e5 j y k2⟩
            ·obtain ⟨j', rfl⟩ : ∃ j', j = xs.length + j' := ⟨j - xs.length, by omega⟩
             rw [Nat.add_sub_cancel_left] at k2
             have hj' := (List.getElem?_eq_some_iff.1 k2).1
             have hmj := mul_seg (k := S.size) hj'
             have : seg (splice row (oo + hd1.n * S.size) us) (oo + (xs.length + j') * S.size) S.size = seg us (j' * S.size) S.size := by
              apply List.ext_getElem?
              intro t
              rw [getElem?_seg, getElem?_seg, getElem?_splice hll, hn4, Nat.add_mul]
              split
              ·rw [if_pos (by omega)]
               congr 1
               omega
              ·rfl
             rw [this]
             refine .inr ⟨k1, fun w'' Z'' M' own'' r' g'' p' i hs hmo => q5 j' y k2 w'' Z'' M' own'' r' g'' p' i hs ?_⟩
             rw [Nat.add_sub_cancel_left] at hmo
             exact hmo⟩) (ad := ad) (fun _ => hb2) hfin'
          refine ⟨_, w', Z1, own', γ', f1, hst.trans g1, g2, by rw [qea]; exact g3, ?_⟩
          rw [hn4, ← hlen]; exact g4
         ·obtain ⟨w', arr, cap, f1, f2, f3, f4, f5⟩ := append_new (P := E.P) (w := w) (ty := ty) hd i1 i4 (ad := ad) (n := hd1.n) (c := c) (os := os) (by rw [hsz, hn4]; exact src1) (by rw [hsz]; exact q4) o4 (by omega) (by rw [hby, hn4]; exact hC3) (by rw [hn4, ← hlen]; exact hroom.2) (c2 := k2)
          rw [hzs, hsz] at f4
          rw [hsz] at f5
          have hol : os.length = xs.length * S.size := src1.1
          have hul : us.length = ys.length * S.size := q4.1
          have hck : (hd1.n + ys.length) * S.size ≤ cap * S.size := Nat.mul_le_mul_right _ f3
          obtain ⟨own', γ', g1, g2, g3, g4⟩ := hmm.appNode (w' := w') hid hu hid' hR1 m1 hpn hfn (p := p) (b := b) (S := S) (xs := xs) h4 hng hok f2.os f2.tape f2.output (by rw [f2.size]; omega) (fun k hk _ => f2.old k hk) (mv := mv) (k2 := ys.length) hmv' (zs := List.append xs ys) hlen hroom (B := w.heap.size) (o := 0) (c := cap) (by rw [hlen, ← hn4]; exact f3)
           (fun _ => ⟨.inr (Nat.le_refl _), by rw [f2.size]; omega, arr.toList, rows_new f2, by rw [Nat.zero_add, Array.length_toList]; omega, fun j y hy => by
            have hjl := (List.getElem?_eq_some_iff.1 hy).1
            rw [hlen] at hjl
            rw [Nat.zero_add, seg_of_take f5 (by rw [hn4]; exact mul_seg hjl)]
            rcases lat_append hy with ⟨k1, k2⟩ | ⟨k1, k2⟩
            ·rw [seg_left (by rw [hol]; exact mul_seg k1)]
             exact .inl ⟨k1, src2 j y k2⟩
            ·obtain ⟨j', rfl⟩ : ∃ j', j = xs.length + j' := ⟨j - xs.length, by omega⟩
             rw [Nat.add_sub_cancel_left] at k2
             rw [seg_right (o := j' * S.size) (by rw [hol, Nat.add_mul])]
             refine .inr ⟨k1, fun w'' Z'' M' own'' r' g'' p' i hs hmo => q5 j' y k2 w'' Z'' M' own'' r' g'' p' i hs ?_⟩
             rw [Nat.add_sub_cancel_left] at hmo
             exact hmo⟩) (ad := some ⟨w.heap.size, 0, none⟩) (fun _ => rfl) hfin'
          refine ⟨_, w', Z1, own', γ', f1, hst.trans g1, g2, by rw [qea]; exact g3, ?_⟩
          rw [hn4, ← hlen]; exact g4
       ·cases he
      ·cases he
     ·cases he
    ·cases he
   ·cases he
  ·cases he
 ·cases he
end
end Go.BE
namespace Go.BE
open Go.RowKit
section
variable {P : Program} {E : Ctx} {w w' w0 : World} {Z Z' : Nat → Prop} {K : Kp} {own own' : Own} {γ γ' : Gst} {h h' : Heap} {used used' : Nat → Prop} {r s d id : Nat} {R : Root} {a A B : AV} {v V U : Value} {cs ds : List AV} {vs us : List Value}
theorem VRs.uncons {c : AV} (h : VRs w Z γ (c :: cs) vs) : ∃ v vs', vs = v :: vs' ∧ VR w Z γ c v ∧ VRs w Z γ cs vs' := by
 cases vs with
 | nil => simp [VRs] at h
 | cons v vs => exact ⟨v, vs, rfl, h.head, h.tail⟩
theorem oneV_flat {α : Type} {f : AV → Option α} {g : α → List Value → Prop} (hf : ∀ c v x, f c = some x → VR w Z γ c v → g x [v]) {x : α} {rest : List AV} (h : one f cs = some (x, rest)) (hc : VRs w Z γ cs vs) : ∃ us ws, vs = us ++ ws ∧ g x us ∧ VRs w Z γ rest ws := by
 cases cs with
 | nil => simp [one] at h
 | cons c cs =>
  obtain ⟨v, vs', rfl, h1, h2⟩ := hc.uncons
  simp only [one] at h
  obtain ⟨y, hy, e⟩ := Option.map_eq_some_iff.1 h
  injection e with e1 e2
  subst e1; subst e2
  exact ⟨[v], vs', rfl, hf c v y hy h1, h2⟩
theorem toDenV_flat {α : Type} {f : List AV → Option (α × List AV)} {g : α → List Value → Prop} (hf : ∀ cs vs x rest, f cs = some (x, rest) → VRs w Z γ cs vs → ∃ us ws, vs = us ++ ws ∧ g x us ∧ VRs w Z γ rest ws) :
  ∀ {n : Nat} {cs : List AV} {vs : List Value} {x : DenV α n} {rest : List AV}, toDenV f n cs = some (x, rest) → VRs w Z γ cs vs → ∃ us ws, vs = us ++ ws ∧ FRV g n x us ∧ VRs w Z γ rest ws
 | 0, cs, vs, x, rest, h, hc => by
  simp only [toDenV, Option.some.injEq, Prod.mk.injEq] at h
  obtain ⟨_, rfl⟩ := h
  exact ⟨[], vs, rfl, rfl, hc⟩
 | n + 1, cs, vs, x, rest, h, hc => by
  simp only [toDenV] at h
  split at h
  ·rename_i y cs1 h1
   split at h
   ·rename_i z cs2 h2
    simp only [Option.some.injEq, Prod.mk.injEq] at h
    obtain ⟨rfl, rfl⟩ := h
    obtain ⟨u1, w1, rfl, g1, c1⟩ := hf _ _ _ _ h1 hc
    obtain ⟨u2, w2, rfl, g2, c2⟩ := toDenV_flat hf h2 c1
    exact ⟨u1 ++ u2, w2, by simp, ⟨u1, u2, rfl, g1, g2⟩, c2⟩
   ·cases h
  ·cases h
theorem toDen_flat : ∀ {S : Sh} {cs : List AV} {vs : List Value} {x : Den S} {rest : List AV}, S.flat = true → toDen S cs = some (x, rest) → VRs w Z γ cs vs → ∃ us ws, vs = us ++ ws ∧ FR w Z S x us ∧ VRs w Z γ rest ws := by
 intro S
 induction S with
 | int k =>
  intro cs vs x rest _ h hc
  refine oneV_flat (g := FR w Z (.int k)) (fun c v x hx hv => ?_) h hc
  unfold cInt at hx
  split at hx
  ·split at hx
   ·rename_i hk
    injection hx with hx
    subst hx; subst hk
    have := hv.val_ok
    obtain rfl := hv.val_inv
    exact ⟨rfl, this⟩
   ·cases hx
  ·cases hx
 | bool =>
  intro cs vs x rest _ h hc
  refine oneV_flat (g := FR w Z .bool) (fun c v x hx hv => ?_) h hc
  unfold cBool at hx
  split at hx
  ·injection hx with hx
   subst hx
   obtain rfl := hv.val_inv
   rfl
  ·cases hx
 | str =>
  intro cs vs x rest _ h hc
  refine oneV_flat (g := FR w Z .str) (fun c v x hx hv => ?_) h hc
  unfold cStr at hx
  split at hx
  ·injection hx with hx
   subst hx
   have := hv.val_ok
   obtain rfl := hv.val_inv
   exact ⟨rfl, this⟩
  ·cases hx
 | unit =>
  intro cs vs x rest _ h hc
  simp only [toDen, Option.some.injEq, Prod.mk.injEq] at h
  obtain ⟨_, rfl⟩ := h
  exact ⟨[], vs, rfl, rfl, hc⟩
 | pair a b iha ihb =>
  intro cs vs x rest hf h hc
  simp only [Sh.flat, Bool.and_eq_true] at hf
  simp only [toDen] at h
  split at h
  ·rename_i y cs1 h1
   split at h
   ·rename_i z cs2 h2
    simp only [Option.some.injEq, Prod.mk.injEq] at h
    obtain ⟨rfl, rfl⟩ := h
    obtain ⟨u1, w1, rfl, g1, c1⟩ := iha hf.1 h1 hc
    obtain ⟨u2, w2, rfl, g2, c2⟩ := ihb hf.2 h2 c1
    exact ⟨u1 ++ u2, w2, by simp, ⟨u1, u2, rfl, g1, g2⟩, c2⟩
   ·cases h
  ·cases h
 | arr n a ih =>
  intro cs vs x rest hf h hc
  exact toDenV_flat (g := FR w Z a) (fun cs vs x rest h hc => ih hf h hc) h hc
 | sl b a ih => intro cs vs x rest hf; cases hf
 | ptr a ih => intro cs vs x rest hf; cases hf
def Mv.hd (e : Mv) (q : Pth) (hd : Hd) : Hd := if e.ptr && q.isEmpty then { hd with isPtr := true } else hd
theorem Mv.hd_n (e : Mv) (q : Pth) (hd : Hd) : (e.hd q hd).n = hd.n := by
 unfold Mv.hd
 split <;> rfl
theorem Mv.hd_cons (e : Mv) (x : Nat × List St) (q : Pth) (hd : Hd) : e.hd (x :: q) hd = hd := by
 simp [Mv.hd]
theorem Mv.hd_sl (e : Mv) (he : e.ptr = false) (q : Pth) (hd : Hd) : e.hd q hd = hd := by
 simp [Mv.hd, he]
def MvL (w : World) (own : Own) (γ : Gst) (h : Heap) (l : List Mv) (M' : Rows) (own' : Own) (r' : Nat) (g' : Pth → Option Hd) (p : Pth) (i : Nat) (st0 : List St) : Prop :=
 ∀ e ∈ l, match e.r with
  | none => ∃ hd, g' (p ++ [(i, st0 ++ e.st)]) = some hd ∧ hd.S = e.S ∧ hd.isPtr = e.ptr ∧ hd.n = 0 ∧ hd.c = 0
  | some k => ∀ R, hget h k = some R → (∀ q hd, γ.G R.cur q = some hd → g' (p ++ (i, st0 ++ e.st) :: q) = some (e.hd q hd)) ∧ ∀ b q row, own b = some (k, q) → rows w b = some row → own' b = some (r', p ++ (i, st0 ++ e.st) :: q) ∧ M' b = some row
theorem one1_eq {a S : Sh} {b : Nat} {xs : List (Den S)} {y : Den a} (h : one1 a ⟨.sl b S, xs⟩ = some y) : ∃ y0, xs = [y0] ∧ castD S a y0 = some y := by
 cases xs with
 | nil => cases h
 | cons x xs =>
  cases xs with
  | nil => exact ⟨x, rfl, h⟩
  | cons => cases h
theorem moveIn_sound (hm : MemR w0 K w Z own γ h used) {m : Nat} : ∀ {S : Sh} {st : List St} {cs : List AV} {vs : List Value} {x : Den S} {rest : List AV} {l : List Mv}, moveIn h m S st cs = some (x, rest, l) → VRs w Z γ cs vs →
  ∃ us ws, vs = us ++ ws ∧ VRs w Z γ rest ws ∧ us.length = S.size ∧ (∀ u ∈ us, u.oneCell' = true) ∧ (∀ e ∈ l, ∀ k, e.r = some k → ∃ s R m2 t, rdata h k s 0 = some (R, m2, t)) ∧
   ∀ w' Z' M' own' r' g' p i st0, Stay w Z w' Z' → MvL w own γ h l M' own' r' g' p i st0 → OR w' Z' M' own' r' g' S (m + 1) x p i (st0 ++ st) us := by
 have flat : ∀ {S : Sh} {cs : List AV} {vs : List Value} {x : Den S} {rest : List AV}, S.flat = true → toDen S cs = some (x, rest) → VRs w Z γ cs vs →
   ∃ us ws, vs = us ++ ws ∧ VRs w Z γ rest ws ∧ us.length = S.size ∧ (∀ u ∈ us, u.oneCell' = true) ∧ ∀ w' Z' M' own' r' g' p i st, Stay w Z w' Z' → OR w' Z' M' own' r' g' S (m + 1) x p i st us := fun {S cs vs x rest} hf h hc => by
  obtain ⟨us, ws, h1, h2, h3⟩ := toDen_flat hf h hc
  exact ⟨us, ws, h1, h3, h2.len, h2.ones, fun w' Z' M' own' r' g' p i st hs => OR.of_FR (.inr hf) (h2.mono hs)⟩
 have flat' : ∀ {S : Sh} {st : List St} {cs : List AV} {vs : List Value} {x : Den S} {rest : List AV} {l : List Mv}, (if S.flat then (toDen S cs).map (fun x => (x.1, x.2, ([] : List Mv))) else none) = some (x, rest, l) → VRs w Z γ cs vs →
   ∃ us ws, vs = us ++ ws ∧ VRs w Z γ rest ws ∧ us.length = S.size ∧ (∀ u ∈ us, u.oneCell' = true) ∧ (∀ e ∈ l, ∀ k, e.r = some k → ∃ s R m2 t, rdata h k s 0 = some (R, m2, t)) ∧
   ∀ w' Z' M' own' r' g' p i st0, Stay w Z w' Z' → MvL w own γ h l M' own' r' g' p i st0 → OR w' Z' M' own' r' g' S (m + 1) x p i (st0 ++ st) us := fun {S st cs vs x rest l} h hc => by
  split at h
  ·rename_i hf
   obtain ⟨y, hy, e⟩ := Option.map_eq_some_iff.1 h
   injection e with e1 e
   injection e with e2 e3
   subst e1; subst e2; subst e3
   obtain ⟨us, ws, h1, h2, h3, h4, h5⟩ := flat hf hy hc
   exact ⟨us, ws, h1, h2, h3, h4, (fun e he => by cases he), fun w' Z' M' own' r' g' p i st0 hs _ => h5 w' Z' M' own' r' g' p i _ hs⟩
  ·cases h
 intro S
 induction S with
 | pair a b iha ihb =>
  intro st cs vs x rest l h hc
  simp only [moveIn] at h
  split at h
  ·rename_i y cs1 l1 h1
   split at h
   ·rename_i z cs2 l2 h2
    simp only [Option.some.injEq, Prod.mk.injEq] at h
    obtain ⟨rfl, rfl, rfl⟩ := h
    obtain ⟨u1, w1, rfl, c1, n1, o1, d1, f1⟩ := iha h1 hc
    obtain ⟨u2, w2, rfl, c2, n2, o2, d2, f2⟩ := ihb h2 c1
    refine ⟨u1 ++ u2, w2, by simp, c2, by simp [n1, n2, Sh.size], fun u hu => ?_, fun e he k hk => ?_, fun w' Z' M' own' r' g' p i st0 hs hmv => ?_⟩
    ·rcases List.mem_append.1 hu with hu | hu
     ·exact o1 u hu
     ·exact o2 u hu
    ·rcases List.mem_append.1 he with he | he
     ·exact d1 e he k hk
     ·exact d2 e he k hk
    ·have g1 := f1 w' Z' M' own' r' g' p i st0 hs (fun e he => hmv e (List.mem_append_left _ he))
     have g2 := f2 w' Z' M' own' r' g' p i st0 hs (fun e he => hmv e (List.mem_append_right _ he))
     rw [← List.append_assoc] at g1 g2
     exact ⟨u1, u2, rfl, g1, g2⟩
   ·cases h
  ·cases h
 | sl b a ih =>
  intro st cs vs x rest l h hc
  cases cs with
  | nil => simp [moveIn, Sh.flat] at h
  | cons c cs =>
   obtain ⟨v, vs', rfl, hv, hvs⟩ := hc.uncons
   simp only [moveIn] at h
   split at h
   ·rename_i u
    split at h
    ·rename_i hn
     simp only [Option.some.injEq, Prod.mk.injEq] at h
     obtain ⟨rfl, rfl, rfl⟩ := h
     rw [isNilS_eq hn] at hv
     obtain rfl := hv.val_inv
     refine ⟨[.slice none 0 0], vs', rfl, hvs, rfl, (fun u hu => by simp at hu; subst hu; rfl), (fun e he k hk => by simp at he; subst he; cases hk), fun w' Z' M' own' r' g' p i st0 hs hmv => ?_⟩
     obtain ⟨hd, k1, k2, k3, k4, k5⟩ := hmv _ (List.mem_singleton.2 rfl)
     refine ⟨_, hd, rfl, k1, k2, k3, k4, ?_, by simp [room], by omega, by rw [k4]; exact Nat.zero_le _, fun hc => absurd hc (by omega)⟩
     unfold HVal
     rw [k3]
     exact ⟨none, 0, by rw [k4], by omega, Nat.zero_le _, fun h => absurd h (Nat.lt_irrefl _)⟩
    ·cases h
   ·rename_i r2 s2
    split at h
    ·rename_i R2 m2 t hrd
     split at h
     ·rename_i hlev
      obtain ⟨y, hy, e⟩ := Option.map_eq_some_iff.1 h
      injection e with e1 e
      injection e with e2 e3
      subst e1; subst e2; subst e3
      obtain ⟨h1, h2, h3, b0, S0, xs0, h4, h5, h6, h7, h8, h9⟩ := hm.data hrd
      have hTx : t = ⟨.sl b a, y⟩ := by
       obtain ⟨T, x⟩ := t
       have hy' : castD T (.sl b a) x = some y := hy
       obtain ⟨e1, e2⟩ := castSl hy'
       subst e1
       have e2 := eq_of_heq e2
       subst e2
       rfl
      rw [hTx] at h5
      injection h5 with hx1 hx2
      injection hx1 with hx1 hx3
      subst hx1; subst hx3
      have hx2' : y = xs0 := eq_of_heq hx2
      subst hx2'
      obtain ⟨hd1, n1, n2, n3, n4, n5⟩ := h9
      obtain ⟨hd', o1, o2⟩ := hv.osl_inv
      have o1' := h2.valid_hd (q := []) h3 o1
      rw [n1] at o1'
      injection o1' with o1'
      subst o1'
      obtain ⟨o3, ad, c, rfl, o4, o5, o6, o7⟩ := o2
      simp only [wlen, wlo, Nat.zero_mul, Nat.add_zero, Nat.zero_add] at o4 o6 o7
      refine ⟨[.slice ad hd1.n c], vs', rfl, hvs, rfl, (fun u hu => by simp at hu; subst hu; rfl), (fun e he k hk => by simp at he; subst he; injection hk with hk; subst hk; exact ⟨_, _, _, _, hrd⟩), fun w' Z' M' own' r' g' p i st0 hs hmv => ?_⟩
      obtain ⟨g1, g2⟩ := hmv _ (List.mem_singleton.2 rfl) R2 h1
      refine ⟨_, hd1, rfl, (g1 [] hd1 n1).trans (by rw [Mv.hd_sl _ rfl]), n2, n3, n4, ?_, h6, n5.le, n5.lim, fun hc => ?_⟩
      ·unfold HVal
       rw [n3]
       exact ⟨ad, c, rfl, o4, o6, o7⟩
      ·obtain ⟨bb, oo, row, e1, e2, e3, e4, e5⟩ := n5.elems hc
       obtain ⟨q1, q2⟩ := g2 bb [] row e2 e3
       refine ⟨bb, oo, row, e1, q1, q2, e4, fun j hj => ?_⟩
       obtain ⟨z, hz, hor⟩ := e5 j hj
       refine ⟨z, hz, ?_⟩
       have hor' := OR.move2 (w' := w') (Z' := Z') (M' := M') (own' := own') (r' := r') (g' := g') (p := []) (p' := p ++ [(i, st0 ++ st)]) (i' := j) hs (fun s' rest hd hg => by have := g1 ((j, s') :: rest) hd (by simpa using hg); rw [Mv.hd_cons] at this; simpa using this) (fun b' s' rest row' ho hM => by have := g2 b' ((j, s') :: rest) row' (by simpa using ho) hM; simpa using this) hor
       simp only [Bool.or_eq_true, beq_iff_eq] at hlev
       rcases hlev with rfl | hlev
       ·exact hor'
       ·exact OR.of_FR (.inr hlev) (OR.to_FR (.inr hlev) hor')
     ·cases h
    ·cases h
   ·cases h
 | int k => intro st cs vs x rest l h hc; exact flat' (S := .int k) h hc
 | bool => intro st cs vs x rest l h hc; exact flat' (S := .bool) h hc
 | str => intro st cs vs x rest l h hc; exact flat' (S := .str) h hc
 | unit => intro st cs vs x rest l h hc; exact flat' (S := .unit) h hc
 | arr n a ih => intro st cs vs x rest l h hc; exact flat' (S := .arr n a) h hc
 | ptr a ih =>
  intro st cs vs x rest l h hc
  cases cs with
  | nil => simp [moveIn, Sh.flat] at h
  | cons c cs =>
   obtain ⟨v, vs', rfl, hv, hvs⟩ := hc.uncons
   simp only [moveIn] at h
   split at h
   ·rename_i u
    split at h
    ·rename_i hn
     simp only [Option.some.injEq, Prod.mk.injEq] at h
     obtain ⟨rfl, rfl, rfl⟩ := h
     rw [isNilP_eq hn] at hv
     obtain rfl := hv.val_inv
     refine ⟨[.pointer none], vs', rfl, hvs, rfl, (fun u hu => by simp at hu; subst hu; rfl), (fun e he k hk => by simp at he; subst he; cases hk), fun w' Z' M' own' r' g' p i st0 hs hmv => ?_⟩
     obtain ⟨hd, k1, k2, k3, k4, k5⟩ := hmv _ (List.mem_singleton.2 rfl)
     refine ⟨_, hd, rfl, k1, k2, k3, k4, ?_, by omega, by rw [k4]; exact Nat.zero_le _, fun hc => absurd hc (by omega)⟩
     unfold HVal
     rw [k3]
     exact .inl ⟨k4, rfl⟩
    ·cases h
   ·rename_i r2 s2
    split at h
    ·rename_i R2 m2 t hrd
     split at h
     ·rename_i hlev
      obtain ⟨y, hy, e⟩ := Option.map_eq_some_iff.1 h
      injection e with e1 e
      injection e with e2 e3
      subst e1; subst e2; subst e3
      obtain ⟨h1, h2, h3, b0, S0, xs0, h4, h5, h6, h7, h8, h9⟩ := hm.data hrd
      subst h5
      have hx1 := one1_eq hy
      obtain ⟨y0, rfl, hy0⟩ := hx1
      obtain ⟨e, e'⟩ := qdz hy0
      subst e
      have e' := e'
      subst e'
      obtain ⟨hd1, n1, n2, n3, n4, n5⟩ := h9
      obtain ⟨hd', b, o, so, T, o1, o2, o3, o4, rfl⟩ := hv.tref_inv
      have o1' := h2.valid_hd (q := []) h3 o1
      rw [n1] at o1'
      injection o1' with o1'
      subst o1'
      simp only [sAt, Option.some.injEq, Prod.mk.injEq] at o4
      obtain ⟨_, rfl⟩ := o4
      have hn1 : hd1.n = 1 := n4
      refine ⟨[.pointer (some ⟨b, o + 0 * hd1.S.size + 0, none⟩)], vs', rfl, hvs, rfl, (fun u hu => by simp at hu; subst hu; rfl), (fun e he k hk => by simp at he; subst he; injection hk with hk; subst hk; exact ⟨_, _, _, _, hrd⟩), fun w' Z' M' own' r' g' p i st0 hs hmv => ?_⟩
      obtain ⟨g1, g2⟩ := hmv _ (List.mem_singleton.2 rfl) R2 h1
      refine ⟨_, { hd1 with isPtr := true }, rfl, (g1 [] hd1 n1).trans (by simp [Mv.hd]), n2, rfl, hn1, ?_, n5.le, n5.lim, fun hc => ?_⟩
      ·unfold HVal
       rw [if_pos rfl]
       exact .inr ⟨b, o, o3, hn1, by simp⟩
      ·obtain ⟨bb, oo, row, e1, e2, e3, e4, e5⟩ := n5.elems hc
       obtain ⟨q1, q2⟩ := g2 bb [] row e2 e3
       refine ⟨bb, oo, row, e1, q1, q2, e4, fun j hj => ?_⟩
       obtain ⟨z, hz, hor⟩ := e5 j hj
       refine ⟨z, hz, ?_⟩
       have hor' := OR.move2 (w' := w') (Z' := Z') (M' := M') (own' := own') (r' := r') (g' := g') (p := []) (p' := p ++ [(i, st0 ++ st)]) (i' := j) hs (fun s' rest hd hg => by have := g1 ((j, s') :: rest) hd (by simpa using hg); rw [Mv.hd_cons] at this; simpa using this) (fun b' s' rest row' ho hM => by have := g2 b' ((j, s') :: rest) row' (by simpa using ho) hM; simpa using this) hor
       simp only [Bool.or_eq_true, beq_iff_eq] at hlev
       rcases hlev with rfl | hlev
       ·exact hor'
       ·exact OR.of_FR (.inr hlev) (OR.to_FR (.inr hlev) hor')
     ·cases h
    ·cases h
   ·cases h
def gMv (γ : Gst) (h : Heap) (base : Pth → Option Hd) (cov : Nat → List St → Bool) (p : Pth) (st0 : List St) (l : List (Nat × Mv)) (q : Pth) : Option Hd :=
 match q.drop p.length with
 | (k, s') :: rest => if q.take p.length = p ∧ cov k s' = true then (match l.find? fun e => e.1 == k && (st0 ++ e.2.st) == s' with
  | some e => (match e.2.r with
   | none => if rest = [] then some ⟨e.2.S, e.2.ptr, 0, 0, none⟩ else none
   | some r2 => match hget h r2 with
    | some R2 => (γ.G R2.cur rest).map (e.2.hd rest)
    | none => none)
  | none => none) else base q
 | [] => base q
def oMv (own : Own) (r : Nat) (p : Pth) (st0 : List St) (l : List (Nat × Mv)) : Own := fun b => match own b with
 | some (k, q) => match l.find? fun e => e.2.r == some k with
  | some e => some (r, p ++ (e.1, st0 ++ e.2.st) :: q)
  | none => some (k, q)
 | none => none
theorem gMv_in {base : Pth → Option Hd} {cov : Nat → List St → Bool} {p : Pth} {st0 : List St} {l : List (Nat × Mv)} {k : Nat} {s' : List St} {rest : Pth} (hc : cov k s' = true) :
  gMv γ h base cov p st0 l (p ++ (k, s') :: rest) = match l.find? fun e => e.1 == k && (st0 ++ e.2.st) == s' with
  | some e => (match e.2.r with
   | none => if rest = [] then some ⟨e.2.S, e.2.ptr, 0, 0, none⟩ else none
   | some r2 => match hget h r2 with
    | some R2 => (γ.G R2.cur rest).map (e.2.hd rest)
    | none => none)
  | none => none := by
 unfold gMv
 simp [hc]
theorem gMv_out {base : Pth → Option Hd} {cov : Nat → List St → Bool} {p : Pth} {st0 : List St} {l : List (Nat × Mv)} {q : Pth} (hq : ∀ k s' rest, q = p ++ (k, s') :: rest → cov k s' = false) : gMv γ h base cov p st0 l q = base q := by
 unfold gMv
 split
 ·rename_i k s' rest hd
  split
  ·rename_i hc
   have : q = p ++ (k, s') :: rest := by rw [← List.take_append_drop p.length q, hd, hc.1]
   have := hq k s' rest this
   rw [hc.2] at this
   cases this
  ·rfl
 ·rfl
theorem nodupB_cons {α : Type} [BEq α] [LawfulBEq α] {x : α} {l : List α} (h : nodupB (x :: l) = true) : x ∉ l ∧ nodupB l = true := by
 simp only [nodupB, Bool.and_eq_true, Bool.not_eq_true'] at h
 refine ⟨fun hm => ?_, h.2⟩
 have := h.1
 rw [List.contains_iff_mem.2 hm] at this
 cases this
theorem find_nodup {α β : Type} [BEq β] [LawfulBEq β] {f : α → β} {q : α → Bool} : ∀ {l : List α}, nodupB (l.map f) = true → ∀ e ∈ l, q e = true → (∀ e' ∈ l, q e' = true → f e' = f e) → l.find? q = some e
 | [], _, e, he, _, _ => by cases he
 | x :: l, hn, e, he, hq, hu => by
  rw [List.map_cons] at hn
  obtain ⟨h1, h2⟩ := nodupB_cons hn
  rw [List.find?_cons]
  split
  ·rename_i hx
   have := hu x List.mem_cons_self hx
   rcases List.mem_cons.1 he with rfl | he
   ·rfl
   ·exact absurd (List.mem_map.2 ⟨e, he, this.symm⟩) h1
  ·rename_i hx
   rcases List.mem_cons.1 he with rfl | he
   ·rw [hq] at hx; cases hx
   ·exact find_nodup h2 e he hq fun e' he' => hu e' (List.mem_cons_of_mem _ he')
theorem qdg : ∀ {l : List Mv} {k : Nat}, k ∈ qcx l ↔ ∃ e ∈ l, e.r = some k
 | [], k => by simp [qcx]
 | ⟨st, S, some r, pt⟩ :: l, k => by
  simp only [qcx, List.mem_cons, qdg (l := l)]
  constructor
  ·rintro (rfl | ⟨e, he, hr⟩)
   ·exact ⟨_, .inl rfl, rfl⟩
   ·exact ⟨e, .inr he, hr⟩
  ·rintro ⟨e, rfl | he, hr⟩
   ·injection hr with hr; exact .inl hr.symm
   ·exact .inr ⟨e, he, hr⟩
 | ⟨st, S, none, pt⟩ :: l, k => by
  simp only [qcx, List.mem_cons, qdg (l := l)]
  constructor
  ·rintro ⟨e, he, hr⟩; exact ⟨e, .inr he, hr⟩
  ·rintro ⟨e, rfl | he, hr⟩
   ·cases hr
   ·exact ⟨e, he, hr⟩
theorem mvRoots_find : ∀ {l : List (Nat × Mv)} {k : Nat}, nodupB (qcx (l.map (·.2))) = true → ∀ e ∈ l, e.2.r = some k → l.find? (fun e => e.2.r == some k) = some e
 | [], _, _, e, he, _ => by cases he
 | ⟨i, ⟨st, S, some r, pt⟩⟩ :: l, k, hn, e, he, hr => by
  simp only [List.map_cons, qcx] at hn
  obtain ⟨h1, h2⟩ := nodupB_cons hn
  rw [List.find?_cons]
  by_cases hk : r = k
  ·subst hk
   simp only [BEq.rfl]
   rcases List.mem_cons.1 he with rfl | he
   ·rfl
   ·exact absurd (qdg.2 ⟨e.2, List.mem_map.2 ⟨e, he, rfl⟩, hr⟩) h1
  ·have : ((some r : Option Nat) == some k) = false := by simpa using hk
   simp only [this]
   rcases List.mem_cons.1 he with rfl | he
   ·injection hr with hr; exact absurd hr hk
   ·exact mvRoots_find h2 e he hr
 | ⟨i, ⟨st, S, none, pt⟩⟩ :: l, k, hn, e, he, hr => by
  simp only [List.map_cons, qcx] at hn
  rw [List.find?_cons]
  simp only [show ((none : Option Nat) == some k) = false from rfl]
  rcases List.mem_cons.1 he with rfl | he
  ·cases hr
  ·exact mvRoots_find hn e he hr
theorem hget_mvDel : ∀ {l : List Nat} {h : Heap} {r : Nat}, hget (qav h (mvDel l)) r = if r ∈ l then none else hget h r
 | [], h, r => by simp [mvDel, qav]
 | k :: l, h, r => by
  have : qav h (mvDel (k :: l)) = qav (hdel h k) (mvDel l) := rfl
  rw [this, hget_mvDel, hget_hdel]
  simp only [List.mem_cons]
  by_cases e : r = k
  ·subst e; simp
  ·simp [e]
theorem MemR.dels (hm : MemR w0 K w Z own γ h used) : ∀ {l : List Nat}, MemR w0 K w Z own γ (qav h (mvDel l)) used := fun {l} => by
 have sub : ∀ r' R, hget (qav h (mvDel l)) r' = some R → hget h r' = some R := fun r' R hg => by
  rw [hget_mvDel] at hg
  split at hg
  ·cases hg
  ·exact hg
 exact ⟨hm.os, hm.tape, hm.output, hm.size, hm.kept, hm.zin, hm.zlt, hm.ownlt, hm.ownZ, hm.ownK, fun r' R hg => hm.root r' R (sub r' R hg), fun r' R hg => hm.keys r' R (sub r' R hg), hm.fresh⟩
theorem MvL_ok (hm : MemR w0 K w Z own γ h used) {base : Pth → Option Hd} {cov : Nat → List St → Bool} {p : Pth} {st0 : List St} {l : List (Nat × Mv)} (hr : nodupB (qcx (l.map (·.2))) = true) (hn : nodupB (l.map fun e => (e.1, e.2.st)) = true) (hcov : ∀ e ∈ l, cov e.1 (st0 ++ e.2.st) = true)
  {M' : Rows} {own2 : Own} {g2 : Pth → Option Hd} (hg2 : ∀ k s' rest, g2 (p ++ (k, s') :: rest) = gMv γ h base cov p st0 l (p ++ (k, s') :: rest)) (ho2 : ∀ b o, own b = some o → (∃ e ∈ l, e.2.r = some o.1) → own2 b = oMv own r p st0 l b)
  (hM : ∀ b k q row, own b = some (k, q) → (∃ e ∈ l, e.2.r = some k) → rows w b = some row → M' b = some row) {i : Nat} {l' : List Mv} (hl' : ∀ e ∈ l', (i, e) ∈ l) : MvL w own γ h l' M' own2 r g2 p i st0 := by
 intro e he
 have hmem := hl' e he
 have hfind : l.find? (fun e' => e'.1 == i && (st0 ++ e'.2.st) == (st0 ++ e.st)) = some (i, e) := by
  refine find_nodup (f := fun e => (e.1, e.2.st)) hn (i, e) hmem (by simp) fun e' he' hq => ?_
  simp only [Bool.and_eq_true, beq_iff_eq] at hq
  obtain ⟨q1, q2⟩ := hq
  have q2 := List.append_cancel_left q2
  rw [q1, q2]
 have hc := hcov _ hmem
 split
 ·rename_i hnone
  refine ⟨⟨e.S, e.ptr, 0, 0, none⟩, ?_, rfl, rfl, rfl, rfl⟩
  rw [hg2, gMv_in hc, hfind]
  simp [hnone]
 ·rename_i k hk
  intro R hR
  refine ⟨fun q hd hq => ?_, fun b q row ho hrow => ⟨?_, hM b k q row ho ⟨_, hmem, hk⟩ hrow⟩⟩
  ·rw [hg2, gMv_in hc, hfind]
   simp only [hk, hR, hq, Option.map_some]
  ·rw [ho2 b _ ho ⟨_, hmem, hk⟩]
   unfold oMv
   rw [ho]
   simp only [mvRoots_find hr (i, e) hmem hk]
end
end Go.BE

/- A part of the proofs over this program: an abstract machine that the kernel evaluates, its soundness, and what the functions compute (Ops3). -/
import Derived.Test.YthdkgphnleibmaaDoorAeOps2
namespace Go.AE
section
variable {P : Program} {E : Ctx} {w : World} {Z : Nat → Prop} {β : Nat → Option Nat} {N0 nx : Nat} {h : Heap} {a A B : AV} {v V U : Value} {cs ds : List AV} {vs us : List Value}
theorem run_mapM_list {α γ : Type} (f : α → Sem γ) (g : α → γ) : ∀ l : List α, (∀ x ∈ l, (f x).run P w = .ok (g x) w) → (l.mapM f).run P w = .ok (l.map g) w
  | [], _ => by simp [List.mapM_nil]
  | x :: l, h => by
    simp only [List.mapM_cons, Sem.run_bind, h x List.mem_cons_self, Result.andThen_ok, run_mapM_list f g l (fun y hy => h y (List.mem_cons_of_mem _ hy)), Sem.run_pure, List.map_cons]
theorem run_mapM {α γ : Type} (f : α → Sem γ) (g : α → γ) (l : Array α) (h : ∀ x ∈ l.toList, (f x).run P w = .ok (g x) w) : (l.mapM f).run P w = .ok (l.map g) w := by
  rw [Array.mapM_eq_mapM_toList, Sem.run_map, run_mapM_list f g l.toList h, Result.andThen_ok]
  congr 1
  apply Array.ext'
  simp
/-- the parts of a literal -/
def Parts (w : World) (Z : Nat → Prop) (β : Nat → Option Nat) (ps : List (Nat × AV)) (vs : List (Nat × Value)) : Prop :=
  ps.length = vs.length ∧ ∀ (j : Nat) x y, ps[j]? = some x → vs[j]? = some y → x.1 = y.1 ∧ VR w Z β x.2 y.2
theorem afill_congr {f g : Nat → Option (Nat × Nat)} : ∀ {ps : List (Nat × AV)} {cs : List AV}, (∀ x ∈ ps, f x.1 = g x.1) → afill f cs ps = afill g cs ps
  | [], _, _ => rfl
  | (i, a) :: ps, cs, h => by
    have h0 := h (i, a) List.mem_cons_self
    simp only at h0
    simp only [afill, h0]
    split
    · rfl
    · split
      · exact afill_congr (fun x hx => h x (List.mem_cons_of_mem _ hx))
      · rfl
theorem abuild_sound (hT : TyOK E.P E.ty) {t : TypeId} {ps : List (Nat × AV)} {vps : Array (Nat × Value)} (hp : Parts w Z β ps vps.toList) (he : abuild E t ps = some a) :
    ∃ v, (Instr.build t vps).run E.P w = .ok v w ∧ VR w Z β a v := by
  unfold abuild at he
  split at he
  · rename_i fs sz by_ z fl hi
    obtain ⟨ti, h1, h2, h3, zv, h4, h5⟩ := (hT t _ hi).info
    obtain ⟨d, hd, gs, rfl, hl, hg⟩ := (hT t _ hi).desc
    simp only [Option.map_eq_some_iff] at he
    obtain ⟨out, he, rfl⟩ := he
    let g : Field → Nat × Nat := fun f => (f.offset, E.P.cellsOf f.type)
    have hpl : ∀ (W : World), (gs.mapM fun f => do pure (f.offset, ← sizeOf f.type) : Sem (Array (Nat × Nat))).run E.P W = .ok (gs.map g) W := fun W => by
      refine run_mapM _ g gs fun f hf => ?_
      obtain ⟨j, hj⟩ := List.mem_iff_getElem?.1 hf
      have hjl : j < fs.length := by rw [hl, ← Array.length_toList]; exact (List.getElem?_eq_some_iff.1 hj).1
      obtain ⟨f', hf', _, ⟨ti', hti, hts⟩, _⟩ := hg j _ (List.getElem?_eq_getElem hjl)
      have : f' = f := by rw [Array.getElem?_toList] at hj; rw [hf'] at hj; exact Option.some.inj hj
      subst this
      simp only [Sem.run_bind, run_sizeOf' hti rfl, Result.andThen_ok, Sem.run_pure, g, Program.cellsOf, hti]
      rfl
    have hcong : afill (fun i => (fs[i]?).map fun f => (f.off, f.size)) (z.map .val) ps = afill (fun i => (gs.map g)[i]?) (z.map .val) ps := by
      congr 1
      funext i
      rcases Nat.lt_or_ge i fs.length with hi' | hi'
      · obtain ⟨f', hf', ho, ⟨ti', hti, hts⟩, _⟩ := hg i _ (List.getElem?_eq_getElem hi')
        rw [List.getElem?_eq_getElem hi', Array.getElem?_map, hf']
        simp only [Option.map_some, g, Program.cellsOf, hti]
        rw [ho]
        simp [hts]
      · rw [List.getElem?_eq_none hi', Array.getElem?_eq_none (by simp; omega)]
        rfl
    rw [hcong] at he
    obtain ⟨arr', e1, e2, e3⟩ := fill_sound (w := w) (Z := Z) (β := β) (cs := z.map .val) (arr := zv.cells) hp.1 hp.2 (by rw [h5]; exact VRs.vals z) he
    refine ⟨.agg arr', ?_, .agg _ _ (by simpa using e2.1) (fun j x y hx hy => e2.2 j x y hx (by simpa using hy))⟩
    simp only [Instr.build, Sem.run_bind, run_zeroValue' h1 h4, Result.andThen_ok, run_underlying hd]
    rw [hpl w]
    simp only [Result.andThen_ok, e1, Sem.run_pure]
  · rename_i n e sz by_ z fl hi
    split at he
    · rename_i ie hie
      obtain ⟨ti, h1, h2, h3, zv, h4, h5⟩ := (hT t _ hi).info
      obtain ⟨d, hd, hk⟩ := (hT t _ hi).desc
      simp only [TKOK] at hk
      subst hk
      obtain ⟨tie, k1, k2, _⟩ := (hT e _ hie).info
      simp only [Option.map_eq_some_iff] at he
      obtain ⟨out, he, rfl⟩ := he
      obtain ⟨arr', e1, e2, e3⟩ := fill_sound (w := w) (Z := Z) (β := β) (cs := z.map .val) (arr := zv.cells) hp.1 hp.2 (by rw [h5]; exact VRs.vals z) he
      refine ⟨.agg arr', ?_, .agg _ _ (by simpa using e2.1) (fun j x y hx hy => e2.2 j x y hx (by simpa using hy))⟩
      simp only [Instr.build, Sem.run_bind, run_zeroValue' h1 h4, Result.andThen_ok, run_underlying hd, run_sizeOf' k1 k2, e1, Sem.run_pure]
    · cases he
  · cases he

/-! ### fields, elements -/
theorem VR.agg_inv (h : VR w Z β (.agg cs) v) : ∃ arr, v = .agg arr ∧ VRs w Z β cs arr.toList := by
  cases h with
  | cr h =>
    cases h with
    | agg _ vs hl hr => exact ⟨vs, rfl, by simpa using hl, fun j x y hx hy => .cr (hr j x y hx (by simpa using hy))⟩
  | agg _ vs hl hr => exact ⟨vs, rfl, by simpa using hl, fun j x y hx hy => hr j x y hx (by simpa using hy)⟩
theorem VR.ref_inv {r off : Nat} (h : VR w Z β (.ref r off) v) : ∃ b, β r = some b ∧ v = .pointer (some ⟨b, off, none⟩) := by
  cases h with
  | cr h => cases h
  | ref _ _ b hb => exact ⟨b, hb, rfl⟩
theorem VR.sl_inv {r s off n : Nat} (h : VR w Z β (.sl r s off n) v) : ∃ b c, β r = some b ∧ n ≤ c ∧ v = .slice (some ⟨b, off, none⟩) n c := by
  cases h with
  | cr h => cases h
  | sl _ _ _ _ b c hb hc => exact ⟨b, c, hb, hc, rfl⟩
/-- a pointer to read-only cells, moved -/
theorem VR.rop_inv {off : Nat} (h : VR w Z β (.rop cs off) v) : ∃ b o, v = .pointer (some ⟨b, o + off, none⟩) ∧ ∀ off', VR w Z β (.rop cs off') (.pointer (some ⟨b, o + off', none⟩)) := by
  cases h with
  | cr h =>
    cases h with
    | rop _ _ b o u hz hc hr => exact ⟨b, o, rfl, fun off' => .cr (.rop cs off' b o u hz hc hr)⟩
theorem run_part {t : TypeId} {n : Nat} {g : Bool} (hi : ∃ ti, P.info? t = some ti ∧ ti.size = n) (hd : ∃ d, P.underlying t = some d ∧ isAggD d = g) {arr : Array Value} {off : Nat} (hr : VRs w Z β cs arr.toList)
    (he : (if g then (if off + n ≤ cs.length then some (AV.agg ((cs.drop off).take n)) else none) else cs[off]?) = some a) : ∃ v, (part t arr off).run P w = .ok v w ∧ VR w Z β a v := by
  obtain ⟨ti, h1, h2⟩ := hi
  obtain ⟨d, h3, h4⟩ := hd
  simp only [part, Sem.run_bind, run_isAgg' h3, h4, Result.andThen_ok]
  cases g
  · simp only [Bool.false_eq_true, if_false] at he ⊢
    obtain ⟨v, hv, hr⟩ := hr.get he
    rw [Array.getElem?_toList] at hv
    exact ⟨v, by simp [hv], hr⟩
  · simp only [if_true] at he ⊢
    split at he
    · injection he with he
      subst he
      refine ⟨.agg (arr.extract off (off + n)), by simp only [Sem.run_bind, run_sizeOf' h1 h2, Result.andThen_ok, Sem.run_pure], ?_⟩
      have h5 := (hr.drop off).take n
      have h6 : (arr.extract off (off + n)).toList = (arr.toList.drop off).take n := by simp [List.extract_eq_take_drop]
      exact .agg _ _ (by have := h5.1; rwa [← h6, Array.length_toList] at this) (fun j x y hx hy => h5.2 j x y hx (by rwa [← h6, Array.getElem?_toList]))
    · cases he
theorem afield_sound (hT : TyOK E.P E.ty) {t : TypeId} {f : Nat} (he : afield E t f A = some a) (hA : VR w Z β A V) : ∃ v, (Instr.field t V f).run E.P w = .ok v w ∧ VR w Z β a v := by
  unfold afield at he
  split at he
  · obtain ⟨arr, rfl, hr⟩ := hA.agg_inv
    split at he
    · rename_i fs _ _ _ _ hi
      split at he
      · rename_i fi hf
        obtain ⟨d, hd, gs, rfl, hl, hg⟩ := (hT t _ hi).desc
        obtain ⟨g, hg1, ho, hs, hk⟩ := hg f _ hf
        obtain ⟨v, h1, h2⟩ := run_part (P := E.P) hs hk hr (off := fi.off) he
        refine ⟨v, ?_, h2⟩
        simp only [Instr.field, Sem.run_bind, run_underlying hd, Result.andThen_ok, hg1, asAgg, Sem.run_pure, ho]
        exact h1
      · cases he
    · cases he
  · cases he
theorem fieldAt_run {s : TypeId} {gs : Array Field} {f : Nat} {g : Field} {fi : FI} (hd : P.underlying s = some (.struct gs)) (hg : gs[f]? = some g) (hf : FIOK P fi g) (hz : fi.size ≠ 0) (b o : Nat) :
    (Instr.fieldAt s (.pointer (some ⟨b, o, none⟩)) f).run P w = .ok (.pointer (some ⟨b, o + fi.off, none⟩)) w := by
  obtain ⟨ho, ⟨ti, h1, h2⟩, _⟩ := hf
  simp only [Instr.fieldAt, Sem.run_bind, run_underlying hd, Result.andThen_ok, hg, Instr.sureAddr, Sem.run_pure, fieldPlace, run_sizeOf' h1 h2]
  rw [if_neg hz]
  simp only [Sem.run_pure, Result.andThen_ok, add_none, ho]
theorem afieldAddr_sound (hT : TyOK E.P E.ty) {s : TypeId} {f : Nat} (he : afieldAddr E s f A = some a) (hA : VR w Z β A V) : ∃ v, (Instr.fieldAt s V f).run E.P w = .ok v w ∧ VR w Z β a v := by
  unfold afieldAddr at he
  split at he
  · rename_i r off
    split at he
    · rename_i fs _ _ _ _ hi
      split at he
      · rename_i fi hf
        split at he
        · cases he
        · rename_i hz
          injection he with he
          subst he
          obtain ⟨d, hd, gs, rfl, hl, hg⟩ := (hT s _ hi).desc
          obtain ⟨g, hg1, hg2⟩ := hg f _ hf
          obtain ⟨b, hb, rfl⟩ := hA.ref_inv
          exact ⟨_, fieldAt_run hd hg1 hg2 hz b off, .ref _ _ _ hb⟩
      · cases he
    · cases he
  · rename_i cs off
    split at he
    · rename_i fs _ _ _ _ hi
      split at he
      · rename_i fi hf
        split at he
        · cases he
        · rename_i hz
          injection he with he
          subst he
          obtain ⟨d, hd, gs, rfl, hl, hg⟩ := (hT s _ hi).desc
          obtain ⟨g, hg1, hg2⟩ := hg f _ hf
          obtain ⟨b, o, rfl, hr⟩ := hA.rop_inv
          exact ⟨_, fieldAt_run hd hg1 hg2 hz b (o + off), by rw [Nat.add_assoc]; exact hr _⟩
      · cases he
    · cases he
  · cases he
theorem aindexAddr_sound (hT : TyOK E.P E.ty) {t : TypeId} {k : IntKind} {i : Int} {C : List Prop} (he : aindexAddr E t A i = some (C, a)) (hC : AllP C) (hA : VR w Z β A V) :
    ∃ v, (Instr.indexAt t V (.int k i)).run E.P w = .ok v w ∧ VR w Z β a v := by
  unfold aindexAddr at he
  split at he
  · rename_i n e _ _ _ _ hi
    obtain ⟨d, hd, hk⟩ := (hT t _ hi).desc
    simp only [TKOK] at hk
    subst hk
    split at he
    · rename_i _ ie r off hie
      obtain ⟨tie, k1, k2, _⟩ := (hT e _ hie).info
      injection he with he; injection he with h1 h2; subst h1; subst h2
      obtain ⟨b, hb, rfl⟩ := hA.ref_inv
      simp only [AllP, and_true] at hC
      refine ⟨.pointer (some ⟨b, off + i.toNat * ie.size, none⟩), ?_, .ref _ _ _ hb⟩
      simp only [Instr.indexAt, asIntOf, Sem.run_bind, Sem.run_pure, Result.andThen_ok, run_underlying hd, Instr.sureAddr, hC, and_self, if_true, run_sizeOf' k1 k2, add_none]
    · rename_i _ ie cs off hie
      obtain ⟨tie, k1, k2, _⟩ := (hT e _ hie).info
      injection he with he; injection he with h1 h2; subst h1; subst h2
      obtain ⟨b, o, rfl, hr⟩ := hA.rop_inv
      simp only [AllP, and_true] at hC
      refine ⟨.pointer (some ⟨b, o + off + i.toNat * ie.size, none⟩), ?_, by rw [Nat.add_assoc]; exact hr _⟩
      simp only [Instr.indexAt, asIntOf, Sem.run_bind, Sem.run_pure, Result.andThen_ok, run_underlying hd, Instr.sureAddr, hC, and_self, if_true, run_sizeOf' k1 k2, add_none]
    · cases he
  · rename_i e _ _ _ _ hi
    obtain ⟨d, hd, hk⟩ := (hT t _ hi).desc
    simp only [TKOK] at hk
    subst hk
    split at he
    · rename_i _ ie n f hie
      obtain ⟨tie, k1, k2, _⟩ := (hT e _ hie).info
      injection he with he; injection he with h1 h2; subst h1; subst h2
      simp only [AllP, and_true] at hC
      obtain ⟨⟨c1, c2⟩, c3⟩ := hC
      cases hA with
      | cr hA =>
        cases hA with
        | nil => omega
        | ro _ _ b o s c u hc hz hs hcell hrel =>
          have hi : i.toNat < n := by omega
          have hs' := hs _ hi
          rw [c3] at hs'
          subst hs'
          refine ⟨.pointer (some ⟨b, o + i.toNat * ie.size + 0, none⟩), ?_, .cr (.rop (f i.toNat) 0 b (o + i.toNat * ie.size) (u i.toNat) (hz (by omega)) (fun j a hj => ?_) (fun j a hj => hrel _ j a hi hj))⟩
          · simp only [Instr.indexAt, asIntOf, Sem.run_bind, Sem.run_pure, Result.andThen_ok, run_underlying hd, c1, c2, and_self, if_true, run_sizeOf' k1 k2, add_none, Nat.add_zero]
          · have := hcell i.toNat j a hi hj
            rwa [Nat.add_assoc]
    · rename_i _ ie r s off n hie
      obtain ⟨tie, k1, k2, _⟩ := (hT e _ hie).info
      split at he
      · rename_i hs
        injection he with he; injection he with h1 h2; subst h1; subst h2
        obtain ⟨b, c, hb, hc, rfl⟩ := hA.sl_inv
        simp only [AllP, and_true] at hC
        obtain ⟨c1, c2⟩ := hC
        refine ⟨.pointer (some ⟨b, off + i.toNat * s, none⟩), ?_, .ref _ _ _ hb⟩
        simp only [Instr.indexAt, asIntOf, Sem.run_bind, Sem.run_pure, Result.andThen_ok, run_underlying hd, c1, c2, and_self, if_true, run_sizeOf' k1 k2, add_none, hs]
      · cases he
    · cases he
  · cases he
theorem aindex_sound (hT : TyOK E.P E.ty) {t : TypeId} {k : IntKind} {i : Int} {C : List Prop} (he : aindex E t A i = some (C, a)) (hC : AllP C) (hA : VR w Z β A V) :
    ∃ v, (Instr.index t V (.int k i)).run E.P w = .ok v w ∧ VR w Z β a v := by
  unfold aindex at he
  split at he
  · rename_i n e _ _ _ _ hi
    obtain ⟨d, hd, hk⟩ := (hT t _ hi).desc
    simp only [TKOK] at hk
    subst hk
    split at he
    · rename_i _ ie cs hie
      split at he
      · rename_i x hx
        injection he with he; injection he with h1 h2; subst h1; subst h2
        obtain ⟨tie, k1, k2, _⟩ := (hT e _ hie).info
        obtain ⟨de, hde, hke⟩ := (hT e _ hie).desc
        obtain ⟨arr, rfl, hr⟩ := hA.agg_inv
        simp only [AllP, and_true] at hC
        obtain ⟨v, h1, h2⟩ := run_part (P := E.P) (t := e) ⟨tie, k1, k2⟩ ⟨de, hde, hke.isAgg⟩ hr (off := i.toNat * ie.size) hx
        refine ⟨v, ?_, h2⟩
        simp only [Instr.index, asIntOf, Sem.run_bind, Sem.run_pure, Result.andThen_ok, run_underlying hd, hC, and_self, if_true, run_sizeOf' k1 k2]
        exact h1
      · cases he
    · cases he
  · cases he
theorem aextract_sound {n : Nat} (he : aextract n A = some a) (hA : VR w Z β A V) : ∃ v, (Instr.extract V n).run P w = .ok v w ∧ VR w Z β a v := by
  unfold aextract at he
  split at he
  · cases hA with
    | cr hA =>
      cases hA with
      | tup _ us hl hr =>
        have hl' := (List.getElem?_eq_some_iff.1 he).1
        rw [hl] at hl'
        exact ⟨us[n], by simp [Instr.extract, hl'], .cr (hr n _ _ he (Array.getElem?_eq_getElem hl'))⟩
    | tup _ us hl hr =>
      have hl' := (List.getElem?_eq_some_iff.1 he).1
      rw [hl] at hl'
      exact ⟨us[n], by simp [Instr.extract, hl'], hr n _ _ he (Array.getElem?_eq_getElem hl')⟩
  · cases he
theorem alen_sound (hT : TyOK E.P E.ty) {t rt : TypeId} {ats : Array TypeId} {args : Array Value} (ht : ats[0]? = some t) (hv : args[0]? = some V) (he : alen E t A = some a) (hA : VR w Z β A V) : ∃ v, (Builtin.len_ ats rt args).run E.P w = .ok v w ∧ VR w Z β a v := by
  unfold alen at he
  split at he
  · split at he
    · rename_i hi
      obtain ⟨d, hd, hk⟩ := (hT t _ hi).desc
      simp only [TKOK] at hk
      subst hk
      injection he with he
      subst he
      cases hA with
      | cr hA =>
        cases hA with
        | nil => exact ⟨_, by simp only [Builtin.len_, goInt, ht, hv, Sem.run_bind, run_underlying hd, Result.andThen_ok, Sem.run_pure], .cr (.val _)⟩
        | ro => exact ⟨_, by simp only [Builtin.len_, goInt, ht, hv, Sem.run_bind, run_underlying hd, Result.andThen_ok, Sem.run_pure], .cr (.val _)⟩
    · cases he
  · split at he
    · rename_i hi
      obtain ⟨d, hd, hk⟩ := (hT t _ hi).desc
      simp only [TKOK] at hk
      subst hk
      injection he with he
      subst he
      obtain ⟨b, c, hb, hc, rfl⟩ := hA.sl_inv
      exact ⟨_, by simp only [Builtin.len_, goInt, ht, hv, Sem.run_bind, run_underlying hd, Result.andThen_ok, Sem.run_pure], .cr (.val _)⟩
    · cases he
  · split at he
    · rename_i hi
      obtain ⟨d, hd, hk⟩ := (hT t _ hi).desc
      simp only [TKOK] at hk
      subst hk
      injection he with he
      subst he
      obtain rfl := hA.val_inv
      exact ⟨_, by simp only [Builtin.len_, goInt, ht, hv, Sem.run_bind, run_underlying hd, Result.andThen_ok, Sem.run_pure], .cr (.val _)⟩
    · cases he
  · split at he
    · rename_i hi
      obtain ⟨d, hd, hk⟩ := (hT t _ hi).desc
      simp only [TKOK] at hk
      subst hk
      injection he with he
      subst he
      obtain rfl := hA.val_inv
      exact ⟨_, by simp only [Builtin.len_, goInt, ht, hv, Sem.run_bind, run_underlying hd, Result.andThen_ok, Sem.run_pure], .cr (.val _)⟩
    · cases he
  · cases he
end
end Go.AE

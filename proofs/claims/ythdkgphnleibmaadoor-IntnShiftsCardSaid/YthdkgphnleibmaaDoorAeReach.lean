/- A part of the proofs over this program: an abstract machine that the kernel evaluates, its soundness, and what the functions compute (Reach). -/
import Derived.Test.YthdkgphnleibmaaDoorAePath
namespace Go.AE
open Go.RowKit
/-! ### renaming roots; forgetting -/
mutual
def AV.ren (f : Nat → Option Nat) : AV → AV
  | .bad => .bad
  | .val v => .val v
  | .ro n g => .ro n g
  | .rop cs o => .rop cs o
  | .agg cs => .agg (renL f cs)
  | .tup cs => .tup (renL f cs)
  | .fn g cs => .fn g (renL f cs)
  | .ref r o => match f r with | some r' => .ref r' o | none => .bad
  | .sl r s o n => match f r with | some r' => .sl r' s o n | none => .bad
def renL (f : Nat → Option Nat) : List AV → List AV
  | [] => []
  | a :: l => a.ren f :: renL f l
end
def alook : List (Nat × Nat) → Nat → Option Nat
  | [], _ => none
  | (k, r) :: l, t => if k = t then some r else alook l t
/-- temporaries that are kept, the others forgotten -/
def keepT (f : Nat → Option Nat) : List AV → Nat → List Nat → List AV
  | [], _, _ => []
  | _ :: l, i, [] => .bad :: keepT f l (i + 1) []
  | a :: l, i, k :: ks => if i = k then a.ren f :: keepT f l (i + 1) ks else .bad :: keepT f l (i + 1) (k :: ks)
def keepH (h : Heap) (f : Nat → Option Nat) : List (Nat × Nat) → Heap
  | [] => []
  | (r, r') :: l => match hget h r with
    | some cs => (r', renL f cs) :: keepH h f l
    | none => keepH h f l
def renF (f : Nat → Option Nat) : List AFr → List AFr
  | [] => []
  | F :: Fs => { F with fr := renL f F.fr } :: renF f Fs
def Cfg.cut (keep : List Nat) (roots : List (Nat × Nat)) (nx : Nat) (c : Cfg) : Cfg :=
  { cur := { c.cur with fr := keepT (alook roots) c.cur.fr 0 keep, dec := [] }, callers := renF (alook roots) c.callers, h := keepH c.h (alook roots) roots, nx := nx }
/-- every new number once, and below nx -/
def rootsOK (nx : Nat) : List (Nat × Nat) → Bool
  | [] => true
  | (r, r') :: l => decide (r' < nx) && l.all (fun x => x.1 != r && x.2 != r') && rootsOK nx l
section
variable {E : Ctx} {w w0 : World} {Z Z0 : Nat → Prop} {β β' : Nat → Option Nat} {a : AV} {v : Value}
mutual
theorem renL_length (f : Nat → Option Nat) : ∀ l : List AV, (renL f l).length = l.length
  | [] => rfl
  | _ :: l => by simp [renL, renL_length f l]
end
theorem renL_get (f : Nat → Option Nat) : ∀ (l : List AV) (j : Nat), (renL f l)[j]? = (l[j]?).map (AV.ren f)
  | [], j => by simp [renL]
  | a :: l, 0 => by simp [renL]
  | a :: l, j + 1 => by simpa [renL] using renL_get f l j
theorem CR.ren (f : Nat → Option Nat) (h : CR w Z a v) : CR w Z (a.ren f) v := by
  induction h with
  | val v => exact .val v
  | nil g => exact .nil g
  | ro n g b o s c u hc hz hs hcell hrel ih => exact .ro n g b o s c u hc hz hs hcell hrel
  | rop cs off b o u hz hcell hrel ih => exact .rop cs off b o u hz hcell hrel
  | agg cs vs hl hrel ih =>
    refine .agg _ vs (by rw [renL_length]; exact hl) fun j x y hx hy => ?_
    rw [renL_get] at hx
    obtain ⟨x', hx', rfl⟩ := Option.map_eq_some_iff.1 hx
    exact ih j x' y hx' hy
  | tup cs vs hl hrel ih =>
    refine .tup _ vs (by rw [renL_length]; exact hl) fun j x y hx hy => ?_
    rw [renL_get] at hx
    obtain ⟨x', hx', rfl⟩ := Option.map_eq_some_iff.1 hx
    exact ih j x' y hx' hy
  | fn g cs vs hl hrel ih =>
    refine .fn g _ vs (by rw [renL_length]; exact hl) fun j x y hx hy => ?_
    rw [renL_get] at hx
    obtain ⟨x', hx', rfl⟩ := Option.map_eq_some_iff.1 hx
    exact ih j x' y hx' hy
theorem VR.ren {f : Nat → Option Nat} (hf : ∀ r r' b, f r = some r' → β r = some b → β' r' = some b) (h : VR w Z β a v) : VR w Z β' (a.ren f) v := by
  induction h with
  | bad v => exact .bad v
  | cr h => exact .cr (h.ren f)
  | ref r off b h =>
    simp only [AV.ren]
    split
    · rename_i r' hr
      exact .ref r' off b (hf r r' b hr h)
    · exact .bad _
  | sl r s off n b c h hc =>
    simp only [AV.ren]
    split
    · rename_i r' hr
      exact .sl r' s off n b c (hf r r' b hr h) hc
    · exact .bad _
  | agg cs vs hl hrel ih =>
    refine .agg _ vs (by rw [renL_length]; exact hl) fun j x y hx hy => ?_
    rw [renL_get] at hx
    obtain ⟨x', hx', rfl⟩ := Option.map_eq_some_iff.1 hx
    exact ih j x' y hx' hy
  | tup cs vs hl hrel ih =>
    refine .tup _ vs (by rw [renL_length]; exact hl) fun j x y hx hy => ?_
    rw [renL_get] at hx
    obtain ⟨x', hx', rfl⟩ := Option.map_eq_some_iff.1 hx
    exact ih j x' y hx' hy
  | fn g cs vs hl hrel ih =>
    refine .fn g _ vs (by rw [renL_length]; exact hl) fun j x y hx hy => ?_
    rw [renL_get] at hx
    obtain ⟨x', hx', rfl⟩ := Option.map_eq_some_iff.1 hx
    exact ih j x' y hx' hy
theorem VRs.renL {f : Nat → Option Nat} {cs : List AV} {vs : List Value} (hf : ∀ r r' b, f r = some r' → β r = some b → β' r' = some b) (h : VRs w Z β cs vs) : VRs w Z β' (renL f cs) vs := by
  refine ⟨by rw [renL_length]; exact h.1, fun j x y hx hy => ?_⟩
  rw [renL_get] at hx
  obtain ⟨x', hx', rfl⟩ := Option.map_eq_some_iff.1 hx
  exact (h.2 j x' y hx' hy).ren hf
theorem VRs.keepT {f : Nat → Option Nat} (hf : ∀ r r' b, f r = some r' → β r = some b → β' r' = some b) : ∀ {cs : List AV} {vs : List Value} (i : Nat) (ks : List Nat), VRs w Z β cs vs → VRs w Z β' (AE.keepT f cs i ks) vs
  | [], _, _, _, h => ⟨by simpa [AE.keepT] using h.1, fun j a v ha => by simp [AE.keepT] at ha⟩
  | _ :: _, [], _, _, h => by simp [VRs] at h
  | _ :: _, _ :: _, i, [], h => .cons (.bad _) (VRs.keepT hf (i + 1) [] h.tail)
  | _ :: _, _ :: _, i, k :: ks, h => by
    simp only [AE.keepT]
    split
    · exact .cons (h.head.ren hf) (VRs.keepT hf (i + 1) ks h.tail)
    · exact .cons (.bad _) (VRs.keepT hf (i + 1) (k :: ks) h.tail)
theorem alook_mem {l : List (Nat × Nat)} {r r' : Nat} (h : alook l r = some r') : (r, r') ∈ l := by
  induction l with
  | nil => simp [alook] at h
  | cons x l ih =>
    obtain ⟨k, q⟩ := x
    simp only [alook] at h
    split at h
    · rename_i hk
      injection h with h
      subst hk; subst h
      exact List.mem_cons_self
    · exact List.mem_cons_of_mem _ (ih h)
theorem rootsOK_inj {nx : Nat} : ∀ {l : List (Nat × Nat)}, rootsOK nx l = true → ∀ r r' s s', (r, r') ∈ l → (s, s') ∈ l → (r = s ∨ r' = s') → r = s ∧ r' = s'
  | [], _, r, r', s, s', h, _, _ => by cases h
  | (p, q) :: l, h, r, r', s, s', h1, h2, hor => by
    simp only [rootsOK, Bool.and_eq_true, decide_eq_true_eq] at h
    obtain ⟨⟨_, hall⟩, hrest⟩ := h
    rw [List.all_eq_true] at hall
    rcases List.mem_cons.1 h1 with e1 | m1
    · rcases List.mem_cons.1 h2 with e2 | m2
      · injection e1 with a1 b1; injection e2 with a2 b2
        subst a1; subst b1; subst a2; subst b2
        exact ⟨rfl, rfl⟩
      · injection e1 with a1 b1
        subst a1; subst b1
        have := hall _ m2
        simp at this
        rcases hor with rfl | rfl
        · exact absurd rfl this.1
        · exact absurd rfl this.2
    · rcases List.mem_cons.1 h2 with e2 | m2
      · injection e2 with a2 b2
        subst a2; subst b2
        have := hall _ m1
        simp at this
        rcases hor with rfl | rfl
        · exact absurd rfl this.1
        · exact absurd rfl this.2
      · exact rootsOK_inj hrest r r' s s' m1 m2 hor
theorem rootsOK_lt {nx : Nat} : ∀ {l : List (Nat × Nat)}, rootsOK nx l = true → ∀ r r', (r, r') ∈ l → r' < nx
  | [], _, r, r', h => by cases h
  | (p, q) :: l, h, r, r', hm => by
    simp only [rootsOK, Bool.and_eq_true, decide_eq_true_eq] at h
    rcases List.mem_cons.1 hm with e | m
    · injection e with a b
      subst b
      exact h.1.1
    · exact rootsOK_lt h.2 r r' m
theorem keepH_get {h : Heap} {f : Nat → Option Nat} : ∀ {l : List (Nat × Nat)} {r' : Nat} {cs : List AV}, hget (keepH h f l) r' = some cs → ∃ r ds, (r, r') ∈ l ∧ hget h r = some ds ∧ cs = renL f ds
  | [], r', cs, hg => by simp [keepH, hget] at hg
  | (p, q) :: l, r', cs, hg => by
    simp only [keepH] at hg
    split at hg
    · rename_i ds hds
      simp only [hget] at hg
      split at hg
      · rename_i hq
        injection hg with hg
        subst hq
        exact ⟨p, ds, List.mem_cons_self, hds, hg.symm⟩
      · obtain ⟨r, ds', h1, h2, h3⟩ := keepH_get hg
        exact ⟨r, ds', List.mem_cons_of_mem _ h1, h2, h3⟩
    · obtain ⟨r, ds', h1, h2, h3⟩ := keepH_get hg
      exact ⟨r, ds', List.mem_cons_of_mem _ h1, h2, h3⟩
/-- the new labels: the block of the root that a number stood for -/
def βcut (β : Nat → Option Nat) (roots : List (Nat × Nat)) : Nat → Option Nat := fun r' => (roots.find? (fun x => x.2 == r')).bind fun x => β x.1
theorem βcut_at {nx : Nat} {roots : List (Nat × Nat)} (hr : rootsOK nx roots = true) {r r' : Nat} (hm : (r, r') ∈ roots) : βcut β roots r' = β r := by
  unfold βcut
  cases hf : roots.find? (fun x => x.2 == r') with
  | none => exact absurd (List.find?_eq_none.1 hf _ hm) (by simp)
  | some x =>
    have h1 := List.mem_of_find?_eq_some hf
    have h2 := List.find?_some hf
    simp only [beq_iff_eq] at h2
    obtain ⟨h3, _⟩ := rootsOK_inj hr x.1 x.2 r r' h1 hm (.inr h2)
    simp [h3]
theorem βcut_none {nx : Nat} {roots : List (Nat × Nat)} (hr : rootsOK nx roots = true) {r' : Nat} (h : nx ≤ r') : βcut β roots r' = none := by
  unfold βcut
  cases hf : roots.find? (fun x => x.2 == r') with
  | none => rfl
  | some x =>
    have h1 := List.mem_of_find?_eq_some hf
    have h2 := List.find?_some hf
    simp only [beq_iff_eq] at h2
    have := rootsOK_lt hr x.1 x.2 h1
    omega
theorem CsR.renF {f : Nat → Option Nat} (hf : ∀ r r' b, f r = some r' → β r = some b → β' r' = some b) : ∀ {Fs : List AFr} {as : List Act}, CsR w Z β Fs as → CsR w Z β' (AE.renF f Fs) as
  | [], [], _ => trivial
  | _ :: _, _ :: _, h => ⟨⟨h.1.defers, h.1.tmps.renL hf, h.1.dec⟩, CsR.renF hf h.2⟩
theorem frs_renF (f : Nat → Option Nat) : ∀ (Fs : List AFr) (as : List Act), frs (renF f Fs) as = frs Fs as
  | [], [] => rfl
  | [], _ :: _ => rfl
  | _ :: _, [] => rfl
  | F :: Fs, a :: as => by simp [renF, frs, mkF, frs_renF f Fs as]
theorem botFn_renF (f : Nat → Option Nat) : ∀ (F : AFr) (G : AFr) (Fs : List AFr), F.fn = G.fn → botFn F (renF f Fs) = botFn G Fs
  | _, _, [], h => h
  | _, _, H :: Hs, _ => botFn_renF f { H with fr := renL f H.fr } H Hs rfl
theorem cut_ok {c : Cfg} {a : Act} {as : List Act} {keep : List Nat} {roots : List (Nat × Nat)} {nx : Nat} (hr : rootsOK nx roots = true) (hS : StOK E w0 Z0 c a as w Z β) : StOK E w0 Z0 (c.cut keep roots nx) a as w Z (βcut β roots) := by
  have hf : ∀ r r' b, alook roots r = some r' → β r = some b → βcut β roots r' = some b := fun r r' b h1 h2 => by rw [βcut_at hr (alook_mem h1), h2]
  refine ⟨⟨hS.cur.defers, hS.cur.tmps.keepT hf 0 keep, fun t d h => by simp [Cfg.cut, dlook] at h⟩, hS.callers.renF hf, ⟨⟨fun r' cs hg => ?_, fun r1 r2 b cs1 cs2 hg1 hg2 hb1 hb2 => ?_, fun r h => βcut_none hr h, fun r' cs hg => ?_⟩, hS.mem.zlt, hS.mem.zin, hS.mem.below⟩, hS.gl⟩
  · obtain ⟨r, ds, h1, h2, rfl⟩ := keepH_get hg
    obtain ⟨b, hb, hro⟩ := hS.mem.heap.row r ds h2
    obtain ⟨arr, e, hrow, hrel⟩ := hro.row
    exact ⟨b, by rw [βcut_at hr h1, hb], hro.lo, hro.nz, arr, e, hrow, hrel.renL hf⟩
  · obtain ⟨s1, ds1, h1, h2, _⟩ := keepH_get hg1
    obtain ⟨s2, ds2, k1, k2, _⟩ := keepH_get hg2
    rw [βcut_at hr h1] at hb1
    rw [βcut_at hr k1] at hb2
    have := hS.mem.heap.inj s1 s2 b ds1 ds2 h2 k2 hb1 hb2
    exact (rootsOK_inj hr s1 r1 s2 r2 h1 k1 (.inl this)).2
  · obtain ⟨r, ds, h1, _, _⟩ := keepH_get hg
    exact rootsOK_lt hr _ _ h1

/-! ### reaching -/
def Reach (E : Ctx) (c c' : Cfg) : Prop := ∀ w0 Z0 base a as w Z β, StOK E w0 Z0 c a as w Z β → FinOK E w0 Z0 base c a as w Z (.at_ c')
def Gives (E : Ctx) (c : Cfg) (v : AV) : Prop := ∀ w0 Z0 base a as w Z β, StOK E w0 Z0 c a as w Z β → ∃ h, FinOK E w0 Z0 base c a as w Z (.ret v h)
theorem Reach.refl (c : Cfg) : Reach E c c := fun _ _ _ a as w Z β hS => ⟨a, as, w, Z, β, hS, Stay.refl _ _, rfl, .refl _ _⟩
theorem Reach.trans {c c1 c2 : Cfg} (h : Reach E c c1) (k : Reach E c1 c2) : Reach E c c2 := by
  intro w0 Z0 base a as w Z β hS
  obtain ⟨a1, as1, w1, Z1, β1, hS1, hst1, hb1, hs1⟩ := h w0 Z0 base a as w Z β hS
  obtain ⟨a2, as2, w2, Z2, β2, hS2, hst2, hb2, hs2⟩ := k w0 Z0 base a1 as1 w1 Z1 β1 hS1
  exact ⟨a2, as2, w2, Z2, β2, hS2, hst1.trans hst2, hb2.trans hb1, hs1.trans hs2⟩
theorem Reach.gives {c c1 : Cfg} {v : AV} (h : Reach E c c1) (k : Gives E c1 v) : Gives E c v := by
  intro w0 Z0 base a as w Z β hS
  obtain ⟨a1, as1, w1, Z1, β1, hS1, hst1, hb1, hs1⟩ := h w0 Z0 base a as w Z β hS
  obtain ⟨hh, V, w2, Z2, β2, fr, k1, k2, k3, k4, k5, k6⟩ := k w0 Z0 base a1 as1 w1 Z1 β1 hS1
  exact ⟨hh, V, w2, Z2, β2, fr, k1, hst1.trans k2, k3, hs1.trans k4, k5.trans hb1, k6⟩
theorem Reach.cut {c : Cfg} {keep : List Nat} {roots : List (Nat × Nat)} {nx : Nat} (hr : rootsOK nx roots = true) : Reach E c (c.cut keep roots nx) := by
  intro w0 Z0 base a as w Z β hS
  refine ⟨a, as, w, Z, _, cut_ok hr hS, Stay.refl _ _, ?_, ?_⟩
  · exact botFn_renF _ _ _ c.callers rfl
  · have : frs (c.cut keep roots nx).callers as = frs c.callers as := frs_renF _ _ _
    rw [this]
    exact .refl _ _
/-- a path to its end -/
theorem Gives.path (hE : EOK E) {n : Nat} {c : Cfg} {ds ds' : List Bool} {C : List Prop} {v : AV} {h : Heap} (he : apath E n ds c = some (C, .ret v h, ds')) (hC : AllP C) : Gives E c v :=
  fun _ _ _ _ _ _ _ _ hS => ⟨h, apath_sound hE n hS he hC⟩
/-- a path to a cut -/
def apathc (E : Ctx) (n : Nat) (ds : List Bool) (keep : List Nat) (roots : List (Nat × Nat)) (nx : Nat) (c : Cfg) : Option (List Prop × Cfg) :=
  match apath E n ds c with
  | some (C, .at_ c', _) => if rootsOK nx roots then some (C, c'.cut keep roots nx) else none
  | _ => none
theorem Reach.path (hE : EOK E) {n : Nat} {c c' : Cfg} {ds : List Bool} {keep : List Nat} {roots : List (Nat × Nat)} {nx : Nat} {C : List Prop} (he : apathc E n ds keep roots nx c = some (C, c')) (hC : AllP C) : Reach E c c' := by
  unfold apathc at he
  split at he
  · rename_i C1 c1 ds1 h1
    split at he
    · rename_i hr
      simp only [Option.some.injEq, Prod.mk.injEq] at he
      obtain ⟨rfl, rfl⟩ := he
      exact Reach.trans (fun _ _ _ _ _ _ _ _ hS => apath_sound hE n hS h1 hC) (Reach.cut hr)
    · cases he
  · cases he

/-! ### functions by their contracts -/
abbrev FSpec := List AV → Option SRes
def SpecOK (E : Ctx) (f : FuncId) (s : FSpec) : Prop := ∀ args r, closedAll args = true → s args = some r → r.pre → ∀ (w : World) (Z : Nat → Prop) (vs : List Value), GlR E w Z → (∀ b, Z b → b < w.heap.size) →
  VRs w Z (fun _ => none) args vs → Calls E.P f vs.toArray w fun e w' => ∃ v Z', e = .returned v ∧ Below w.heap.size w w' ∧ (∀ b, Z b → Z' b) ∧ (∀ b, Z' b → Z b ∨ w.heap.size ≤ b) ∧ (∀ b, Z' b → b < w'.heap.size) ∧ CR w' Z' r.res v
/-- the state in which a call begins -/
def start (E : Ctx) (f : FuncId) (args : List AV) : Cfg := { cur := (enter E f args).getD ⟨0, [], [], []⟩, callers := [], h := [], nx := 0 }
theorem specOK_of {f : FuncId} {s : FSpec} (h : ∀ args r, s args = some r → r.pre → (enter E f args).isSome = true ∧ r.res.closed = true ∧ Gives E (start E f args) r.res) : SpecOK E f s := by
  intro args r _ hs hp w Z vs hg hz hvs cs
  obtain ⟨h1, h2, h3⟩ := h args r hs hp
  cases he : enter E f args with
  | none => rw [he] at h1; cases h1
  | some F =>
    obtain ⟨b, e1, e2, e3⟩ := enter_ok he hvs
    have hS : StOK E w Z (start E f args) b [] w Z (fun _ => none) := by
      refine ⟨?_, trivial, ⟨⟨fun r cs hg => ?_, fun r1 r2 k cs1 cs2 hg1 => ?_, fun _ _ => rfl, fun r cs hg => ?_⟩, hz, fun b hb => .inl hb, Below.refl _ _⟩, hg⟩
      · simp only [start, he, Option.getD_some]; exact e2
      · simp [start, hget] at hg
      · simp [start, hget] at hg1
      · simp [start, hget] at hg
    obtain ⟨hh, V, w', Z', β', fr, k1, k2, ⟨nx, k3⟩, k4, k5, k6⟩ := h3 w Z cs b [] w Z _ hS
    refine ⟨.returned V, w', fr, ⟨V, Z', rfl, k3.below, k2.sub, k3.zin, k3.zlt, k1.toCR h2⟩, ?_, ?_, k6⟩
    · rw [e1]
      have : mkF (start E f args).cur b = mkF F b := by simp [start, he]
      rw [← this]
      exact k4
    · rw [k5]
      simp [start, he, botFn, e3]
def envOf : List (FuncId × FSpec) → Env
  | [], _, _ => none
  | (f, s) :: l, g, args => if f = g then s args else envOf l g args
theorem envOK_of {l : List (FuncId × FSpec)} (he : E.env = envOf l) (h : ∀ x ∈ l, SpecOK E x.1 x.2) : EnvOK E := by
  intro f args r hc hr hp
  rw [he] at hr
  clear he
  induction l with
  | nil => simp [envOf] at hr
  | cons x l ih =>
    simp only [envOf] at hr
    split at hr
    · rename_i hx
      subst hx
      exact h x List.mem_cons_self args r hc hr hp
    · exact ih (fun y hy => h y (List.mem_cons_of_mem _ hy)) hr
end
end Go.AE

/- A part of the proofs over this program: an abstract machine that the kernel evaluates, and its soundness. No conditions. -/
import Derived.Test.YtfnbbidogehnfaaGreatDoorEngineD
import Derived.Recover
namespace Go.BE
open Go.RowKit
section
variable {P : Program} {E : Ctx} {w w' w0 : World} {Z Z' : Nat → Prop} {K : Kp} {own own' : Own} {γ γ' : Gst} {h h' : Heap} {used used' : Nat → Prop} {r s d id : Nat} {R : Root} {A B : AV} {v V U : Value} {cs ds : List AV} {vs us : List Value} {F : AFr} {Fs : List AFr} {a : Act} {as : List Act} {c : Cfg}
theorem botFn_fn {G : AFr} (h : F.fn = G.fn) : botFn F Fs = botFn G Fs := by
 cases Fs with
 | nil => exact h
 | cons => rfl
theorem VR.yld_inv (h : VR w Z γ (.yld r) v) : ∃ l, γ.β r = some l ∧ v = .func (.yield l) #[] #[] := by
 cases h with
 | cr h => cases h
 | yld _ l h => exact ⟨l, h, rfl⟩
theorem findRng_ok {g : Rng} : ∀ {Fs : List AFr} {as : List Act}, findRng r Fs = some (F, g) → CsR w Z γ Fs as → ∃ b, FrR w Z γ F b ∧ F.rng = some g ∧ g.r = r
 | [], _, h, _ => by simp [findRng] at h
 | G :: Gs, [], _, hc => hc.elim
 | G :: Gs, b :: bs, h, hc => by
  simp only [findRng] at h
  split at h
  ·rename_i g' hg
   split at h
   ·rename_i hr
    injection h with h
    injection h with h1 h2
    subst h1; subst h2
    exact ⟨b, hc.1, hg, hr⟩
   ·exact findRng_ok h hc.2
  ·exact findRng_ok h hc.2
theorem setPs_rel : ∀ {ps : List Tmp} {cs : List AV} {vs : List Value} {fr : List AV} {arr : Array Value}, cs.length = ps.length → VRs w Z γ fr arr.toList → VRs w Z γ cs vs →
  VRs w Z γ (setPs fr ps cs) ((ps.zip vs).foldl (fun (tmps : Array Value) (x : Tmp × Value) => tmps.setIfInBounds x.1 x.2) arr).toList
 | [], _, _, _, _, _, hf, _ => by simpa [setPs] using hf
 | p :: ps, [], _, _, _, hl, _, _ => by simp at hl
 | p :: ps, c :: cs, [], _, _, _, _, hv => by simp [VRs] at hv
 | p :: ps, c :: cs, v :: vs, fr, arr, hl, hf, hv => by
  simp only [setPs, List.zip_cons_cons, List.foldl_cons]
  exact setPs_rel (by simpa using hl) (by rw [Array.toList_setIfInBounds]; exact hf.set p hv.head) hv.tail
theorem op_round {b : Frame} {k : List Item} {fs : List Frame} {ops : Array Oper} {i : Nat} {rest : List Nat} {o : Oper} {l : Nat} {f : FuncId} {tmps : Array Value} {as bd : Code} (ho : ops[i]? = some o) (hw : Region.wanted o (yielded ops a.tmps) = true)
  (hr : (execOp a.eval o).run P w = .ok (.round l f tmps as bd) w') : step P (lone (b.atR a (.inRegion ops (i :: rest) :: k)) fs w) = .next (lone (Frame.round l f tmps as bd .normal) (b.atR a (.inRegion ops (i :: rest) :: k) :: fs) w') := by
 have hg := stepGR_op (P := P) (b := b) (k := k) (cs := fs) (w := w) (rest := rest) ho hw
 refine step_lone_go ?_
 have hr := semAt_run (ro := b.roundOf) (fun d => by simp) hr
 rw [hg]
 simp [stepG.apply, hr, Frame.atR]
theorem yieldT_sound {base : List Frame} (hS : StOK E w0 K c a as w Z own γ) {ops : Array Oper} {i : Nat} {o : Oper} {rest : List Nat} {k : List Item} {Q : Fin → Prop}
  (ht : c.cur.todo = .inRegion ops (i :: rest) :: k) (ho : ops[i]? = some o) (hw : Region.wanted o (yielded ops a.tmps) = true)
  {args : List AV} (hy : yldOf (ev E c.cur.fr) o.op = some (r, args)) (he : (yieldT c r args).wp Q) : ∃ f, Q f ∧ FinOK E w0 K base c a as w Z f := by
 have hev : ∀ x, VR w Z γ (ev E c.cur.fr x) (a.eval x) := fun x => ev_rel' hS.gl hS.cur.tmps x
 have hmk : mkF c.cur a = (fb c.cur).atR a (.inRegion ops (i :: rest) :: k) := by simp [mkF, ht]
 unfold yldOf at hy
 split at hy
 ·rename_i f xs ats hop
  split at hy
  ·rename_i r' hf
   injection hy with hy
   injection hy with h1 h2
   subst h1; subst h2
   have hvf := hev f
   rw [hf] at hvf
   obtain ⟨l, hl, hval⟩ := hvf.yld_inv
   unfold yieldT at he
   split at he
   ·rename_i Qr F g hQ hF
    split at he
    ·rename_i R st pend hc
     split at he
     ·rename_i hlen
      obtain ⟨hRg, he1⟩ := he
      have he2 := he1 hRg
      clear he1
      obtain ⟨b0, o0, k1, k2, k3, k4, _, _⟩ := hS.mem.obj hQ hc
      rw [hl] at k1
      injection k1 with k1
      subst k1
      have k4 : o0 = .loop { R.base with state := st, pending := pend } := k4
      obtain ⟨b, hb, hrng, hgr⟩ := findRng_ok hF hS.callers
      obtain ⟨g1, g2, g3, g4, g5, g6, _⟩ := hb.link.rng g hrng
      rw [hgr, hl] at g1
      injection g1 with g1
      subst hRg
      have hsz : (xs.map a.eval).size = g.params.size := by simpa using hlen
      have hrun : (execOp a.eval o).run E.P w = .ok (.round l F.fn ((g.params.zip (xs.map a.eval)).foldl (fun tmps (x : Tmp × Value) => tmps.setIfInBounds x.1 x.2) b.tmps) g.assign g.body) w := by
       simp only [execOp, hop, resolve, hval, Deferred.ofValue, Sem.run_bind, Sem.run_pure, Result.andThen_ok, invoke, Array.empty_append]
       have := run_yield (P := E.P) (args := xs.map a.eval) (k3.trans (congrArg some k4)) (by show _ = g.R.base.params.size; rw [g4]; exact hsz)
       rw [this]
       simp only [g2, g3, g4, g5, g6]
      refine ⟨_, he2, { tmps := (g.params.zip (xs.map a.eval)).foldl (fun tmps (x : Tmp × Value) => tmps.setIfInBounds x.1 x.2) b.tmps, defers := [] }, a :: as, w, Z, own, γ, ⟨⟨rfl, ?_, ⟨fun g hg => (by cases hg), fun r0 R0 hr => ?_, fun r0 R0 hr => (by cases hr)⟩⟩, ⟨hS.cur, hS.callers⟩, hS.mem, hS.gl⟩, Stay.refl _ _, rfl, ?_⟩
      ·have := setPs_rel (ps := g.params.toList) (cs := xs.toList.map (ev E c.cur.fr)) (vs := xs.toList.map a.eval) (by simpa using hlen) hb.tmps ⟨by simp, fun j x y hx hy => by
        rw [List.getElem?_map] at hx hy
        cases hz : xs.toList[j]? with
        | none => rw [hz] at hx; simp at hx
        | some z =>
         rw [hz] at hx hy
         simp at hx hy
         subst hx; subst hy
         exact hev z⟩
       simp only
       rw [← Array.foldl_toList, Array.toList_zip, Array.toList_map]
       exact this
      ·injection hr with hr
       injection hr with hr1 hr2
       injection hr1 with hr1
       subst hr1; subst hr2
       rw [hl, g1]
      ·refine .one ?_
       rw [hmk, op_round ho hw hrun]
       have : mkF { fn := F.fn, todo := [.code g.assign, .beginRound, .code g.body], fr := setPs F.fr g.params.toList (xs.toList.map (ev E c.cur.fr)), rnd := some (some r', g.R) } { tmps := (g.params.zip (xs.map a.eval)).foldl (fun tmps (x : Tmp × Value) => tmps.setIfInBounds x.1 x.2) b.tmps, defers := [] } = Frame.round l F.fn ((g.params.zip (xs.map a.eval)).foldl (fun tmps (x : Tmp × Value) => tmps.setIfInBounds x.1 x.2) b.tmps) g.assign g.body .normal := by
        simp [mkF, fb, Frame.atR, Frame.round, g1]
       rw [this]
       simp only [frs, List.cons_append, hmk]
     ·exact he.elim
    ·exact he.elim
   ·exact he.elim
  ·cases hy
 ·cases hy
theorem runOp_sound {base : List Frame} (hE : EOK E) (hS : StOK E w0 K c a as w Z own γ) {ops : Array Oper} {i : Nat} {o : Oper} {rest : List Nat} {k : List Item} {Q : Fin → Prop}
  (ht : c.cur.todo = .inRegion ops (i :: rest) :: k) (ho : ops[i]? = some o) (hw : Region.wanted o (yielded ops a.tmps) = true)
  (he : (runOp E c ops o rest k).wp Q) : ∃ f, Q f ∧ FinOK E w0 K base c a as w Z f := by
 unfold runOp at he
 split at he
 ·rename_i r args hy
  exact yieldT_sound hS ht ho hw hy he
 ·exact runOp0_sound hE hS ht ho hw he
theorem hdel_hput : ∀ {h : Heap} {r : Nat} {R : Root}, hdel (hput h r R) r = hdel h r
 | [], r, R => by simp [hput, hdel]
 | (k, c) :: h, r, R => by
  simp only [hput]
  by_cases hk : k = r
  ·rw [if_pos hk]
   simp [hdel, hk]
  ·rw [if_neg hk]
   simp [hdel, hk, hdel_hput]
theorem MemR.end (hm : MemR w0 K w Z own γ h used) {x : AObj} {b : Nat} {o' : Obj} (hg : hget h r = some R) (hc : R.cont = .obj x) (hb : γ.β r = some b) :
  Stay w Z (w.putObj b o') Z ∧ MemR w0 K (w.putObj b o') Z own γ (hdel h r) used := by
 obtain ⟨h1, h2⟩ := hm.setObj (x' := .gone) (o' := o') hg hc hb trivial
 exact ⟨h1, by have := h2.del r; rw [hdel_hput] at this; exact this⟩
theorem dropMarks_sound : ∀ {ms : List (Option Nat × RgL)} {h h1 : Heap} {w : World} {fr : Frame}, dropMarks h ms = some h1 → (∀ r R, (some r, R) ∈ ms → γ.β r = some R.d) → MemR w0 K w Z own γ h used →
  fr.mode = .returning → fr.defers = ms.map markD → ∃ w', Stay w Z w' Z ∧ MemR w0 K w' Z own γ h1 used ∧ ∀ fs, Steps P (lone fr fs w) (lone { fr with defers := [] } fs w')
 | [], h, h1, w, fr, he, _, hm, hmode, hd => by
  simp only [dropMarks, Option.some.injEq] at he
  subst he
  refine ⟨w, Stay.refl _ _, hm, fun fs => ?_⟩
  have : ({ fr with defers := [] } : Frame) = fr := by
   have hd : fr.defers = [] := hd
   rw [← hd]
  rw [this]
  exact .refl _ _
 | (none, _) :: _, _, _, _, _, he, _, _, _, _ => by simp [dropMarks] at he
 | (some r, R) :: l, h, h1, w, fr, he, hβ, hm, hmode, hd => by
  simp only [dropMarks] at he
  split at he
  ·rename_i Q hQ
   split at he
   ·rename_i hc
    have hb := hβ r R List.mem_cons_self
    obtain ⟨b0, o0, k1, k2, k3, k4, _, _⟩ := hm.obj hQ hc
    rw [hb] at k1
    injection k1 with k1
    subst k1
    have k4 : o0 = .deferred (some []) := k4
    have hk := run_takeDeferred (P := P) (k3.trans (congrArg some k4))
    obtain ⟨m1, m2⟩ := hm.end (o' := .deferred none) hQ hc hb
    obtain ⟨w', n1, n2, n3⟩ := dropMarks_sound (fr := { fr with defers := l.map markD }) he (fun r' R' h' => hβ r' R' (List.mem_cons_of_mem _ h')) m2 hmode rfl
    refine ⟨w', m1.trans n1, n2, fun fs => .head ?_ (n3 fs)⟩
    have := step_collected (P := P) (fr := fr) (cs := fs) (d := markD (some r, R)) (r := R.d) (ds := l.map markD) (by rw [hmode]; simp) (by rw [hd]; rfl) rfl hk
    simpa using this
   ·cases he
  ·cases he
theorem endRnd_sound {base : List Frame} (hS : StOK E w0 K c a as w Z own γ) {Q : Fin → Prop} {jump : Option Code}
  (hst : ∀ (l : Nat) (v : Value) (w' : World) (x : Frame) (fs : List Frame), (fb c.cur).roundOf = some l → (Instr.endRound l jump).run E.P w = .ok v w' → step E.P (lone (mkF c.cur a) (x :: fs) w) = .next (lone (x.finish v) fs w'))
  (he : (endRnd c jump).wp Q) : ∃ f, Q f ∧ FinOK E w0 K base c a as w Z f := by
 unfold endRnd at he
 split at he
 ·rename_i r R0 hrnd
  have hb := hS.cur.link.rnd r R0 hrnd
  split at he
  ·rename_i Qr hQ
   split at he
   ·rename_i R st pend hc
    have hcs := hS.callers
    split at he
    ·rename_i F Fs hcl
     rw [hcl] at hcs
     cases as with
     | nil => exact hcs.elim
     | cons b bs =>
      obtain ⟨hF, hFs⟩ := hcs
      split at he
      ·rename_i ops i rest k htodo
       split at he
       ·rename_i o ho
        obtain ⟨b0, o0, k1, k2, k3, k4, _, _⟩ := hS.mem.obj hQ hc
        rw [hb] at k1
        injection k1 with k1
        subst k1
        have k4 : o0 = .loop { R.base with state := st, pending := pend } := k4
        have hrun := run_endRound (P := E.P) jump (k3.trans (congrArg some k4))
        obtain ⟨m1, m2⟩ := hS.mem.setObj (x' := .loop R (if jump.isNone then .ready else .done) jump) (o' := .loop { R.base with state := if jump.isNone then .ready else .done, pending := jump }) hQ hc hb rfl
        have hmk : mkF F b = (fb F).atR b (.inRegion ops (i :: rest) :: k) := by simp [mkF, htodo]
        refine ⟨_, he, b.put o.dst (.bool jump.isNone), bs, _, Z, own, γ, ⟨(hF.mono m1 (Gst.Le.refl _)).fin (.cr (.val _ trivial)), hFs.mono m1 (Gst.Le.refl _), m2, hS.gl.mono m1⟩, m1, ?_, .one ?_⟩
        ·rw [hcl]
         cases Fs <;> rfl
        ·rw [hcl, frs_cons, hmk, hst R0.l _ _ _ _ (by simp [fb, hrnd]) hrun, Frame.finish_atR, ho]
         rfl
       ·exact he.elim
      ·exact he.elim
    ·exact he.elim
   ·exact he.elim
  ·exact he.elim
 ·exact he.elim
theorem leave_sound {base : List Frame} (hE : EOK E) (hS : StOK E w0 K c a as w Z own γ) {Q : Fin → Prop} {todo : List Item} {jump : Option Code}
  (hst : (fb c.cur).roundOf = none → ∀ fs, Steps E.P (lone (mkF c.cur a) fs w) (lone { (fb c.cur).atR a todo with mode := .returning } fs w))
  (hst2 : ∀ (l : Nat) (v : Value) (w' : World) (x : Frame) (fs : List Frame), (fb c.cur).roundOf = some l → (Instr.endRound l jump).run E.P w = .ok v w' → step E.P (lone (mkF c.cur a) (x :: fs) w) = .next (lone (x.finish v) fs w'))
  (he : (leave E c jump).wp Q) : ∃ f, Q f ∧ FinOK E w0 K base c a as w Z f := by
 unfold leave at he
 split at he
 ·rename_i hrnd
  split at he
  ·rename_i h1 hd
   have hn : (fb c.cur).roundOf = none := by simp [fb, hrnd]
   obtain ⟨w', m1, m2, m3⟩ := dropMarks_sound (P := E.P) (fr := { (fb c.cur).atR a todo with mode := .returning }) hd hS.cur.link.marks hS.mem rfl hS.cur.defers
   exact leave0_sound (todo := todo) hE hS m1 m2 (fun fs => (hst hn fs).trans (m3 fs)) he
  ·exact he.elim
 ·exact endRnd_sound hS hst2 he
theorem beginRnd_sound {base : List Frame} (hS : StOK E w0 K c a as w Z own γ) {Q : Fin → Prop} {k : List Item} (ht : c.cur.todo = .beginRound :: k) (he : (beginRnd c k).wp Q) : ∃ f, Q f ∧ FinOK E w0 K base c a as w Z f := by
 unfold beginRnd at he
 split at he
 ·rename_i r R0 hrnd
  have hb := hS.cur.link.rnd r R0 hrnd
  split at he
  ·rename_i Qr hQ
   split at he
   ·rename_i R pend hc
    obtain ⟨b0, o0, k1, k2, k3, k4, _, _⟩ := hS.mem.obj hQ hc
    rw [hb] at k1
    injection k1 with k1
    subst k1
    have k4 : o0 = .loop { R.base with state := .ready, pending := pend } := k4
    have hrun := run_beginRound (P := E.P) (k3.trans (congrArg some k4)) rfl
    obtain ⟨m1, m2⟩ := hS.mem.setObj (x' := .loop R .busy pend) (o' := .loop { R.base with state := .busy, pending := pend }) hQ hc hb rfl
    refine ⟨_, he, a, as, _, Z, own, γ, ⟨(hS.cur.mono m1 (Gst.Le.refl _)).to k, hS.callers.mono m1 (Gst.Le.refl _), m2, hS.gl.mono m1⟩, m1, by cases c.callers <;> rfl, .one ?_⟩
    have hmk : mkF c.cur a = (fb c.cur).atR a (.beginRound :: k) := by simp [mkF, ht]
    rw [hmk, stepR_beginRound (l := R0.l) (by simp [fb, hrnd]) hrun]
    rfl
   ·exact he.elim
  ·exact he.elim
 ·exact he.elim
theorem endRng_sound {base : List Frame} (hS : StOK E w0 K c a as w Z own γ) {Q : Fin → Prop} {l : Nat} {k : List Item} (ht : c.cur.todo = .endRangeFunc l :: k) (he : (endRng c k).wp Q) : ∃ f, Q f ∧ FinOK E w0 K base c a as w Z f := by
 unfold endRng at he
 split at he
 ·rename_i g hrng
  obtain ⟨hb, _, _, _, _, _, k', hk'⟩ := hS.cur.link.rng g hrng
  have hl : l = g.R.l := by
   rw [ht] at hk'
   rcases hk' with hk' | hk'
   ·injection hk' with hk'
    cases hk'
   ·injection hk' with hk'
    injection hk' with hk'
  subst hl
  split at he
  ·rename_i Qr hQ
   split at he
   ·rename_i R st pend hc
    have hne : st ≠ .busy := by
     intro e
     subst e
     exact he.elim
    have he : Q (.at_ { c with cur := c.cur.to ((pend.map Item.code).toList ++ k), h := hdel c.h g.r }) := by
     cases st <;> first | exact absurd rfl hne | exact he
    obtain ⟨b0, o0, k1, k2, k3, k4, _, _⟩ := hS.mem.obj hQ hc
    rw [hb] at k1
    injection k1 with k1
    subst k1
    have k4 : o0 = .loop { R.base with state := st, pending := pend } := k4
    have hrun := run_endLoop (P := E.P) (k3.trans (congrArg some k4)) hne
    obtain ⟨m1, m2⟩ := hS.mem.end (o' := .loop { R.base with state := .exhausted, pending := pend }) hQ hc hb
    refine ⟨_, he, a, as, _, Z, own, γ, ⟨(hS.cur.mono m1 (Gst.Le.refl _)).to _, hS.callers.mono m1 (Gst.Le.refl _), m2, hS.gl.mono m1⟩, m1, by cases c.callers <;> rfl, .one ?_⟩
    have hmk : mkF c.cur a = (fb c.cur).atR a (.endRangeFunc g.R.l :: k) := by simp [mkF, ht]
    rw [hmk, stepR_endRangeFunc hrun]
    rfl
   ·exact he.elim
  ·exact he.elim
 ·exact he.elim
theorem rangeT_sound {base : List Frame} (hE : EOK E) (hS : StOK E w0 K c a as w Z own γ) {Q : Fin → Prop} {f : Operand} {params : Array Tmp} {assign body : Code} {k : List Item} (ht : c.cur.todo = .code (.rangeFunc f params assign body) :: k)
  (he : (rangeT E c f params assign body k).wp Q) : ∃ f, Q f ∧ FinOK E w0 K base c a as w Z f := by
 have hev : ∀ x, VR w Z γ (ev E c.cur.fr x) (a.eval x) := fun x => ev_rel' hS.gl hS.cur.tmps x
 unfold rangeT at he
 split at he
 ·rename_i g caps hg hrnd
  split at he
  ·rename_i hfn
   have hvf := hev f
   rw [hg] at hvf
   simp only [Bool.and_eq_true] at hfn
   obtain ⟨hfn, hlt⟩ := hfn
   obtain ⟨us, hval, hus⟩ := hvf.fn_inv
   rw [fnV_lt hlt] at hval
   let L : Go.Loop := { state := .ready, pending := none, fn := c.cur.fn, tmps := a.tmps, params := params, assign := assign, body := body, defers := w.heap.size }
   let R : RgL := { l := w.heap.size + 1, d := w.heap.size, base := L }
   have he := he R
   split at he
   ·rename_i F hF
    obtain ⟨own1, γ1, s1, x1, m1, b1⟩ := hS.mem.newObj (id := c.nx) (used' := fun s => s < c.nx + 1) (by simp) (fun s hs => Nat.lt_succ_of_lt hs) (Nat.lt_succ_self _) (o := .deferred (some [])) (x := .defd) rfl
    obtain ⟨own2, γ2, s2, x2, m2, b2⟩ := m1.newObj (id := c.nx + 1) (used' := fun s => s < c.nx + qba) (by simp) (fun s hs => by simp only [qba]; omega) (by simp only [qba]; omega) (o := .loop L) (x := .loop R .ready none) rfl
    have l1 := x1.le hS.mem.fresh
    have l2 := x2.le m1.fresh
    have hs := s1.trans s2
    have hle := l1.trans l2
    have hb2 : γ2.β (c.nx + 1) = some (w.heap.size + 1) := by
     rw [b2]
     show some (w.heap.push _).size = _
     simp
    have hargs : VRs ((w.alloc (.deferred (some []))).alloc (.loop L)) Z γ2 (.yld (c.nx + 1) :: caps) (.func (.yield (w.heap.size + 1)) #[] #[] :: us.toList) := .cons (.yld _ _ hb2) (hus.mono hs hle)
    obtain ⟨b, e1, e2, e3⟩ := enter_ok hF hargs
    have hnone : (fb c.cur).roundOf = none := by simp [fb, hrnd]
    refine ⟨_, he, b, { a with defers := { target := .collected w.heap.size, args := #[] } :: a.defers } :: as, _, Z, own2, γ2, ⟨e2, ⟨⟨?_, hS.cur.tmps.mono hs hle, ⟨fun g' hg' => ?_, fun r' R' h' => ?_, fun r' R' h' => ?_⟩⟩, hS.callers.mono hs hle⟩, m2, hS.gl.mono hs⟩, hs, ?_, .one ?_⟩
    ·simp [hS.cur.defers, markD, R]
    ·injection hg' with hg'
     subst hg'
     exact ⟨hb2, rfl, rfl, rfl, rfl, rfl, k, .inl rfl⟩
    ·rw [show c.cur.rnd = _ from hrnd] at h'
     cases h'
    ·rcases List.mem_cons.1 h' with h' | h'
     ·injection h' with h1 h2
      injection h1 with h1
      subst h1; subst h2
      exact l2.β _ _ b1
     ·exact hle.β _ _ (hS.cur.link.marks r' R' h')
    ·refine (?_ : botFn { c.cur with todo := .inRangeFunc R.l :: k, rng := some { r := c.nx + 1, R := R, params := params, assign := assign, body := body }, marks := (some c.nx, R) :: c.cur.marks } c.callers = botFn c.cur c.callers)
     exact botFn_fn rfl
    ·have hmk : mkF c.cur a = (fb c.cur).atR a (.code (.rangeFunc f params assign body) :: k) := by simp [mkF, ht]
     have hin : (invoke (.fn (.func g) us) #[.func (.yield (w.heap.size + 1)) #[] #[]]).run E.P ((w.alloc (.deferred (some []))).alloc (.loop L)) = .ok (.enter g (.func (.yield (w.heap.size + 1)) #[] #[] :: us.toList).toArray) ((w.alloc (.deferred (some []))).alloc (.loop L)) := by
      have := hE.fns g hfn (#[.func (.yield (w.heap.size + 1)) #[] #[]] ++ us) ((w.alloc (.deferred (some []))).alloc (.loop L))
      simp only [invoke]
      rw [this]
      congr 2
      apply Array.ext'
      simp
     have hres : (resolve a.eval (rangeCall f (w.heap.size + 1)) 0).run E.P ((w.alloc (.deferred (some []))).alloc (.loop L)) = .ok { target := .fn (.func g) us, args := #[.func (.yield (w.heap.size + 1)) #[] #[]] } ((w.alloc (.deferred (some []))).alloc (.loop L)) := by
      have hc : a.eval (.const (.func (.yield (w.heap.size + 1)) #[] #[])) = .func (.yield (w.heap.size + 1)) #[] #[] := rfl
      simp [resolve, rangeCall, hval, Deferred.ofValue, hc]
     rw [hmk, stepR_rangeFunc (b := fb c.cur) (a := a) (ps := params) (assign := assign) (body := body) (by rw [hnone]; exact run_enterLoop_outer _ _ _ _ _) hres hin, e1]
     rfl
   ·exact he.elim
  ·exact he.elim
 ·exact he.elim
end
end Go.BE
namespace Go.BE
open Go.RowKit
section
variable {E : Ctx} {w w' w0 : World} {Z Z' : Nat → Prop} {K : Kp} {own own' : Own} {γ γ' : Gst} {h h' : Heap} {a : Act} {as : List Act} {c : Cfg}
theorem stepR_scope {P : Program} {b : Frame} {a : Act} {k : List Item} {cs : List Frame} {c : Code} : step P (lone (b.atR a (.code (.scope c) :: k)) cs w) = .next (lone (b.atR a (.code c :: .inScope c :: k)) cs w) :=
 step_lone_go (by simp [stepG, stepG.exec, Frame.atR])
theorem stepR_inScope {P : Program} {b : Frame} {a : Act} {k : List Item} {cs : List Frame} {c : Code} : step P (lone (b.atR a (.inScope c :: k)) cs w) = .next (lone (b.atR a k) cs w) :=
 step_lone_go (by simp [stepG, stepG.exec, Frame.atR])
theorem astep_sound {base : List Frame} (hE : EOK E) (hS : StOK E w0 K c a as w Z own γ) {Q : Fin → Prop} (he : (astep E c).wp Q) : ∃ f, Q f ∧ FinOK E w0 K base c a as w Z f := by
 have hev : ∀ x, VR w Z γ (ev E c.cur.fr x) (a.eval x) := fun x => ev_rel' hS.gl hS.cur.tmps x
 unfold astep at he
 split at he
 ·rename_i ht
  exact leave_sound (todo := []) hE hS (fun hn fs => by simp only [mkF, ht]; exact .one (stepR_end hn)) (fun l v w' x fs hl hr => by simp only [mkF, ht]; exact stepR_round_end hl rfl hr) he
 ·rename_i k ht
  exact leave_sound (todo := .code .ret :: k) hE hS (fun hn fs => by simp only [mkF, ht]; exact .one (stepR_ret hn)) (fun l v w' x fs hl hr => by simp only [mkF, ht]; exact stepR_round_ret hl rfl hr) he
 ·rename_i k ht
  exact qda hS (fun fs => by simp only [mkF, ht]; exact stepR_skip) he
 ·rename_i l k ht
  exact qda hS (fun fs => by simp only [mkF, ht]; exact stepR_label) he
 ·rename_i l k ht
  exact qda hS (fun fs => by simp only [mkF, ht]; exact stepR_inBlock) he
 ·rename_i l k ht
  exact qda hS (fun fs => by simp only [mkF, ht]; exact stepR_inScope) he
 ·rename_i x y k ht
  exact qda hS (fun fs => by simp only [mkF, ht]; exact stepR_seq) he
 ·rename_i x y z k ht
  split at he
  ·rename_i b hb
   have hv := asB_inv (hev x) hb
   cases hbb : b with
   | true =>
    refine ⟨_, he.1 hbb, a, as, w, Z, own, γ, ⟨⟨hS.cur.defers, ?_, hS.cur.link.next rfl rfl rfl⟩, hS.callers, hS.mem, hS.gl⟩, Stay.refl _ _, by cases c.callers <;> rfl, ?_⟩
    ·show VRs w Z γ (setB c.cur.fr (opTmp x) true) _
     rw [setB_eq hb hbb]
     exact hS.cur.tmps
    ·rw [hbb] at hv
     simp only [mkF, ht]
     exact .one (stepR_cond hv)
   | false =>
    refine ⟨_, he.2 hbb, a, as, w, Z, own, γ, ⟨⟨hS.cur.defers, ?_, hS.cur.link.next rfl rfl rfl⟩, hS.callers, hS.mem, hS.gl⟩, Stay.refl _ _, by cases c.callers <;> rfl, ?_⟩
    ·show VRs w Z γ (setB c.cur.fr (opTmp x) false) _
     rw [setB_eq hb hbb]
     exact hS.cur.tmps
    ·rw [hbb] at hv
     simp only [mkF, ht]
     exact .one (stepR_cond hv)
  ·exact he.elim
 ·rename_i l x k ht
  exact qda hS (fun fs => by simp only [mkF, ht]; exact stepR_block) he
 ·rename_i x k ht
  exact qda hS (fun fs => by simp only [mkF, ht]; exact stepR_loop) he
 ·rename_i x k ht
  exact qda hS (fun fs => by simp only [mkF, ht]; exact stepR_inLoop) he
 ·rename_i x k ht
  exact qda hS (fun fs => by simp only [mkF, ht]; exact stepR_scope) he
 ·rename_i l k ht
  split at he
  ·rename_i k' hk
   exact qda hS (fun fs => by simp only [mkF, ht]; exact stepR_goto hk) he
  ·exact he.elim
 ·rename_i l k ht
  split at he
  ·rename_i k' hk
   exact qda hS (fun fs => by simp only [mkF, ht]; exact stepR_exit hk) he
  ·rename_i hk
   split at he
   ·exact endRnd_sound hS (fun l v w' x fs hl hr => by simp only [mkF, ht]; exact stepR_round_exit hl rfl hk hr) he
   ·exact he.elim
 ·rename_i l ops k ht
  split at he
  ·rw [Tre.wp_bind] at he
   obtain ⟨x, hq, htl, a', w', Z', own', γ', q1, q2, q3, q4, q5, q6⟩ := dtext_sound hE hS.mem hS.gl hS.cur.tmps he (fb c.cur) k (frs c.callers as ++ base)
   refine ⟨_, knows_wp htl hq, a', as, w', Z', own', γ', ⟨⟨q1.trans hS.cur.defers, q2, (hS.cur.link.mono q4).next rfl rfl rfl⟩, hS.callers.mono q3 q4, q5, hS.gl.mono q3⟩, q3, by cases c.callers <;> rfl, ?_⟩
   refine .head ?_ (q6.trans (.one stepR_region_end))
   simp only [mkF, ht]
   exact stepR_region
  ·exact qda hS (fun fs => by simp only [mkF, ht]; exact stepR_region) he
 ·rename_i l ops k ht
  have hst : Stay w Z { w with drawn := w.drawn + 1 } Z := ⟨fun _ _ => rfl, fun _ h => h⟩
  have hm : MemR w0 K { w with drawn := w.drawn + 1 } Z own γ c.h (fun s => s < c.nx) :=
   hS.mem.step hst (Gst.Ext.refl _ γ) (fun _ h => h) rfl rfl rfl (Nat.le_refl _) (fun _ => False) (fun _ _ _ => rfl) (fun _ _ ho _ => ho) (fun _ _ ho => .inl ⟨ho, fun h => h⟩) (fun b hb => ⟨hS.mem.zlt b hb, .inl hb⟩) (fun x R hg => .inl ⟨hg, fun h => h⟩) hS.mem.fresh
  have hst0 := stepR_region_draw (P := E.P) (b := fb c.cur) (a := a) (k := k) (cs := frs c.callers as ++ base) (w := w) (ops := ops) (id := l)
  simp only [Region.schedule, hE.mixed, Bool.true_or, if_true] at hst0
  rw [Tre.wp_bind] at he
  obtain ⟨x, hq, htl, a', w', Z', own', γ', q1, q2, q3, q4, q5, q6⟩ := adraw_sound hE hm (hS.gl.mono hst) (hS.cur.tmps.mono hst (Gst.Le.refl _)) he (fb c.cur) k (frs c.callers as ++ base) (w.tape w.drawn (.order c.cur.fn l))
  refine ⟨_, knows_wp htl hq, a', as, w', Z', own', γ', ⟨⟨q1.trans hS.cur.defers, q2, (hS.cur.link.mono q4).next rfl rfl rfl⟩, (hS.callers.mono hst (Gst.Le.refl _)).mono q3 q4, q5, (hS.gl.mono hst).mono q3⟩, hst.trans q3, by cases c.callers <;> rfl, ?_⟩
  refine .head ?_ (q6.trans ?_)
  ·simp only [mkF, ht]
   exact hst0
  ·generalize cutIdx E ops = m
   unfold restL restI
   split
   ·rename_i hm2
    have hm2 : m = ops.size := Nat.eq_of_beq_eq_true hm2
    rw [hm2, Nat.sub_self]
    exact .one stepR_region_end
   ·exact .refl _ _
 ·rename_i f params assign body k ht
  exact rangeT_sound hE hS ht he
 ·rename_i k ht
  exact beginRnd_sound hS ht he
 ·rename_i l k ht
  exact endRng_sound hS ht he
 ·rename_i ops k ht
  exact qda hS (fun fs => by simp only [mkF, ht]; exact stepR_region_end) he
 ·rename_i ops i rest k ht
  split at he
  ·exact he.elim
  ·rename_i o ho
   split at he
   ·rename_i hg
    exact runOp_sound hE hS ht ho (by simp [Region.wanted, hg]) he
   ·rename_i j want hg
    split at he
    ·exact he.elim
    ·rename_i t hj
     split at he
     ·rename_i b hb
      have hbt := lget_val hS.cur.tmps hb
      rw [Array.getElem?_toList] at hbt
      have hset : ∀ d, b = d → c.cur.fr.set t (abool d) = c.cur.fr := fun d hd => lget_set_self (by rw [hb, hd]; rfl) (by simp [abool])
      have hcfg : ∀ d, b = d → ({ c with cur := { c.cur with fr := c.cur.fr.set t (abool d) } } : Cfg) = c := fun d hd => by rw [hset d hd]
      have hyes : ∀ d, b = d → d = want → (runOp E { c with cur := { c.cur with fr := c.cur.fr.set t (abool d) } } ops o rest k).wp Q → ∃ f, Q f ∧ FinOK E w0 K base c a as w Z f := fun d hd hw hr => by
       rw [hcfg d hd] at hr
       refine runOp_sound hE hS ht ho ?_ hr
       simp only [Region.wanted, hg, yielded_at hj, hbt, hd, hw]
       simp
      have hno : ∀ d, b = d → d ≠ want → Q (.at_ { c with cur := { c.cur with fr := c.cur.fr.set t (abool d) }.fin ops o.dst rest k und }) → ∃ f, Q f ∧ FinOK E w0 K base c a as w Z f := fun d hd hw hr => by
       have hw : ((ops[i]?).map (Region.wanted · (yielded ops a.tmps))).getD false = false := by
        simp only [ho, Option.map_some, Option.getD_some, Region.wanted, hg, yielded_at hj, hbt, hd]
        simpa using hw
       rw [hset d hd] at hr
       refine ⟨_, hr, a.put o.dst undef, as, w, Z, own, γ, ⟨hS.cur.fin (.cr (.val _ trivial)), hS.callers, hS.mem, hS.gl⟩, Stay.refl _ _, by cases c.callers <;> rfl, ?_⟩
       have := stepR_op_skip (P := E.P) (b := fb c.cur) (a := a) (k := k) (cs := frs c.callers as ++ base) (w := w) (ops := ops) (i := i) (rest := rest) hw
       rw [ho] at this
       simp only [mkF, ht]
       exact .one this
      dsimp only at he
      split at he
      ·rename_i hwant
       cases hbb : b with
       | true => exact hyes true hbb hwant.symm (he.1 hbb)
       | false => exact hno false hbb (by rw [hwant]; simp) (he.2 hbb)
      ·rename_i hwant
       have hwant : want = false := by simpa using hwant
       cases hbb : b with
       | true => exact hno true hbb (by rw [hwant]; simp) (he.1 hbb)
       | false => exact hyes false hbb hwant.symm (he.2 hbb)
     ·rename_i vs hb
      have hbt := lget_val hS.cur.tmps hb
      rw [Array.getElem?_toList] at hbt
      have hw : ((ops[i]?).map (Region.wanted · (yielded ops a.tmps))).getD false = false := by
       simp only [ho, Option.map_some, Option.getD_some, Region.wanted, hg, yielded_at hj, hbt]
       rfl
      refine ⟨_, he, a.put o.dst undef, as, w, Z, own, γ, ⟨hS.cur.fin (.cr (.val _ trivial)), hS.callers, hS.mem, hS.gl⟩, Stay.refl _ _, by cases c.callers <;> rfl, ?_⟩
      have := stepR_op_skip (P := E.P) (b := fb c.cur) (a := a) (k := k) (cs := frs c.callers as ++ base) (w := w) (ops := ops) (i := i) (rest := rest) hw
      rw [ho] at this
      simp only [mkF, ht]
      exact .one this
     ·exact he.elim
 ·exact he.elim
end
end Go.BE
namespace Go.BE
open Go.RowKit
section
variable {E : Ctx} {w w' w0 : World} {Z Z' : Nat → Prop} {K : Kp} {own own' : Own} {γ γ' : Gst} {h h' : Heap} {used used' : Nat → Prop} {r s d id nx : Nat} {R : Root} {a : AV} {v : Value} {cs ds : List AV} {vs us : List Value} {roots : List (Nat × Nat)}
theorem LinkR.ren {f : Nat → Option Nat} {F : AFr} {a : Act} {l : List AV} (hr : Ren w Z own γ γ' h f) (hl : LinkR γ F a) : LinkR γ' { F.renX f with fr := l } a := by
 refine ⟨fun g hg => ?_, fun r R hg => ?_, fun r R hg => ?_⟩
 ·simp only [AFr.renX] at hg
  split at hg
  ·rename_i g0 hg0
   split at hg
   ·rename_i r' hr'
    injection hg with hg
    subst hg
    obtain ⟨q1, q2⟩ := hl.rng g0 hg0
    exact ⟨hr.β _ _ _ hr' q1, q2⟩
   ·cases hg
  ·cases hg
 ·simp only [AFr.renX] at hg
  split at hg
  ·rename_i r0 R0 hg0
   injection hg with hg
   injection hg with e1 e2
   subst e2
   exact hr.β _ _ _ e1 (hl.rnd r0 _ hg0)
  ·rename_i hne
   exact absurd hg (hne _ _)
 ·simp only [AFr.renX, List.mem_map] at hg
  obtain ⟨⟨o, R0⟩, hm, e⟩ := hg
  injection e with e1 e2
  simp only at e1 e2
  subst e2
  obtain ⟨r0, rfl, e1⟩ := Option.bind_eq_some_iff.1 e1
  exact hr.β _ _ _ e1 (hl.marks r0 _ hm)
theorem renX_marks (f : Nat → Option Nat) (F : AFr) : (F.renX f).marks.map markD = F.marks.map markD := by
 simp [AFr.renX, markD, Function.comp_def]
theorem fb_renX (f : Nat → Option Nat) (F : AFr) (l : List AV) : fb { F.renX f with fr := l } = fb F := by
 obtain ⟨fn, todo, fr, rng, rnd, marks⟩ := F
 cases rnd with
 | none => rfl
 | some x => obtain ⟨o, R⟩ := x; cases o <;> rfl
theorem mkF_renX (f : Nat → Option Nat) (F : AFr) (l : List AV) (a : Act) : mkF { F.renX f with fr := l } a = mkF F a := by
 unfold mkF
 rw [fb_renX]
 rfl
theorem CsR.ren {f : Nat → Option Nat} (hr : Ren w Z own γ γ' h f) (hn : ∀ A V, VR w Z γ A V → VR w Z γ (norm h A) V) : ∀ {Fs : List AFr} {as : List Act}, CsR w Z γ Fs as → CsR w Z γ' (renF h f Fs) as
 | [], [], _ => trivial
 | _ :: _, _ :: _, hc => ⟨⟨hc.1.defers.trans (renX_marks f _).symm, hc.1.tmps.ren hr hn, hc.1.link.ren hr⟩, CsR.ren hr hn hc.2⟩
theorem frs_renF (h : Heap) (f : Nat → Option Nat) : ∀ (Fs : List AFr) (as : List Act), frs (renF h f Fs) as = frs Fs as
 | [], [] => rfl
 | [], _ :: _ => rfl
 | _ :: _, [] => rfl
 | F :: Fs, a :: as => by simp only [renF, frs, mkF_renX, frs_renF h f Fs as]
theorem botFn_renF (h : Heap) (f : Nat → Option Nat) : ∀ (F : AFr) (G : AFr) (Fs : List AFr), F.fn = G.fn → botFn F (renF h f Fs) = botFn G Fs
 | _, _, [], h => h
 | _, _, H :: Hs, _ => botFn_renF h f { H.renX f with fr := renL h f H.fr } H Hs rfl
theorem CsR.keepF : ∀ {kc : List (List Nat)} {Fs : List AFr} {as : List Act}, CsR w Z γ Fs as → CsR w Z γ (keepF kc Fs) as
 | [], Fs, _, hc => hc
 | _ :: _, [], _, hc => hc
 | k :: ks, F :: Fs, [], hc => hc.elim
 | k :: ks, F :: Fs, a :: as, hc => ⟨⟨hc.1.defers, keepT_VRs k 0 hc.1.tmps, hc.1.link.fr⟩, CsR.keepF hc.2⟩
theorem frs_keepF : ∀ (kc : List (List Nat)) (Fs : List AFr) (as : List Act), frs (keepF kc Fs) as = frs Fs as
 | [], _, _ => rfl
 | _ :: _, [], _ => rfl
 | _ :: _, _ :: _, [] => rfl
 | k :: ks, F :: Fs, a :: as => by simp [Go.BE.keepF, frs, mkF, fb, frs_keepF ks Fs as]
theorem botFn_keepF : ∀ (kc : List (List Nat)) (F : AFr) (G : AFr) (Fs : List AFr), F.fn = G.fn → botFn F (keepF kc Fs) = botFn G Fs
 | [], _, _, [], h => h
 | [], _, _, _ :: _, _ => rfl
 | _ :: _, _, _, [], h => h
 | k :: ks, _, _, H :: Hs, _ => botFn_keepF ks { H with fr := keepT k H.fr 0 } H Hs rfl
theorem cut_ok {c : Cfg} {a : Act} {as : List Act} {keep : List Nat} {kc : List (List Nat)} {nx : Nat} (hr : qeq nx roots = true) (hS : StOK E w0 K c a as w Z own γ) : ∃ own' γ', StOK E w0 K (c.cut roots keep kc nx) a as w Z own' γ' := by
 obtain ⟨own', hR, hm⟩ := hS.mem.ren hr
 have hn : ∀ A V, VR w Z γ A V → VR w Z γ (norm c.h A) V := fun A V hv => norm_sound hS.mem hv
 exact ⟨own', _, ⟨hS.cur.defers.trans (renX_marks _ _).symm, (keepT_VRs keep 0 hS.cur.tmps).ren hR hn, hS.cur.link.ren hR⟩, (CsR.keepF hS.callers).ren hR hn, hm, hS.gl⟩
end
end Go.BE
namespace Go.BE
open Go.RowKit
inductive Fx where
 | own (b : Nat) (S : Sh) (m : Nat := 0)
 | dat (S : Sh)
inductive Wh where
 | t (t : Nat)
 | c (t off : Nat)
 | f (t k off : Nat)   -- cells that the function in t has caught, as its k-th
structure Hints where
 cut : List (Nat × Nat) → FuncId → Nat → List Nat × List (Wh × Fx) × List (List Nat)
 ret : FuncId → List (Option Fx)
 unr : FuncId → Nat → Bool := fun _ _ => false   -- loops that are unrolled
 join : FuncId → Nat → Bool := fun _ _ => false   -- questions ahead of which paths are joined
def firstDst : List Oper → Nat
 | [] => 0
 | o :: l => match o.dst with | some d => d | none => firstDst l
def sigOf (F : AFr) : Nat × Nat := match F.todo with
 | .inRegion ops (i :: _) :: _ => (F.fn, firstDst ops.toList * 64 + i)
 | .inRangeFunc _ :: _ => (F.fn, 2000000 + match F.rng with | some g => g.params.toList.headD 0 | none => 0)
 | _ => (F.fn, 0)
def denV (h : Heap) (S : Sh) : AV → Option (List Prop × Den S × List (Nat × Option Root))
 | .tv T x => (castD T S x).map fun y => ([], y, [])
 | .agg cs => if S.isAgg && cs.all AV.one then (match closeL h cs with
  | some (C, cs, ws) => match toDen S cs with
   | some (y, []) => some (C, y, ws)
   | _ => none
  | none => none) else none
 | a => if !S.isAgg then (match closeC h a with
  | some (C, a, ws) => match toDen S [a] with
   | some (y, []) => some (C, y, ws)
   | _ => none
  | none => none) else none
def isNil : AV → Bool
 | .val (.slice none 0 0) => true
 | _ => false
def fixV (h : Heap) (nx : Nat) (fx : Fx) (a : AV) : Option (List Prop × AV × List (Nat × Option Root)) :=
 match fx with
 | .own b S m => if isNil (norm h a) then some ([], .osl nx nx [] none, [(nx, some (qcy nx (.arr m b S [])))]) else (match norm h a with
  | .osl r s [] (some win) => (match rdata h r s 0 with
   | some (R, m', ⟨.sl b' S', xs⟩) => if m' == 0 || S'.flat then some ([], .osl r nx [] none, [(r, some (R.rep 0 nx (.arr m' b' S' (wins xs (some win)))))]) else none
   | _ => none)
  | a => some ([], a, []))
 | .dat S => match denV h S (norm h a) with
  | some (C, y, ws) => some (C, avOf S y, ws)
  | none => none
def fixC (c : Cfg) (r off : Nat) (fx : Fx) : Option (List Prop × Cfg) := match hget c.h r with
 | some R => match R.cont with
  | .cells cs => match cs[off]? with
   | some a => match fixV c.h c.nx fx a with
    | some (C, a, ws) => match hget (qav c.h ws) r with
     | some R' => match R'.cont with
      | .cells cs' => some (C, { c with h := hput (qav c.h ws) r { R' with cont := .cells (cs'.set off a) }, nx := c.nx + 1 })
      | _ => none
     | none => none
    | none => none
   | none => none
  | _ => none
 | none => none
def caught (k : Nat) : AV → Option Nat
 | .fn _ cs => match cs[k]? with
  | some (.ref r 0) => some r
  | _ => none
 | _ => none
def fix1 (c : Cfg) : Wh × Fx → Option (List Prop × Cfg)
 | (.t t, fx) => match fixV c.h c.nx fx (lget c.cur.fr t) with
  | some (C, a, ws) => some (C, { c with cur := { c.cur with fr := c.cur.fr.set t a }, h := qav c.h ws, nx := c.nx + 1 })
  | none => none
 | (.c t off, fx) => match lget c.cur.fr t with
  | .ref r 0 => fixC c r off fx
  | _ => none
 | (.f t k off, fx) => match caught k (lget c.cur.fr t) with
  | some r => fixC c r off fx
  | none => none
def fixes (c : Cfg) : List (Wh × Fx) → Option (List Prop × Cfg)
 | [] => some ([], c)
 | f :: l => match fix1 c f with
  | some (C, c) => match fixes c l with
   | some (C', c) => some (C ++ C', c)
   | none => none
  | none => none
inductive Leaf where
 | head (c : Cfg)
 | ret (v : AV) (h : Heap)
 | pan (v : AV)
def loopIx : List Item → Nat
 | .code _ :: .inLoop _ :: .inBlock id :: _ => id
 | _ => 0
def joinIx (H : Hints) (c : Cfg) : Option Nat := match c.cur.todo with
 | .code (.cond (.tmp n) _ _) :: _ => match H.join c.cur.fn n with | true => some (100000 + n) | false => none
 | _ => none
def cutC (H : Hints) (ix : Nat) (c : Cfg) : Option (List Prop × Cfg) :=
 let k := H.cut (c.callers.map sigOf) c.cur.fn ix
 match fixes c k.2.1 with
 | some (C, c) =>
  let rs := keepR c.h (liveL c.h (keepT k.1 c.cur.fr 0) ++ (c.cur.liveX ++ liveF c.h (keepF k.2.2 c.callers)))
  if qeq rs.length (number rs 0) then some (C, c.cut (number rs 0) k.1 k.2.2 rs.length) else none
 | none => none
def headT (H : Hints) (ix : Nat) (c : Cfg) : Tre Leaf := match cutC H ix c with
 | some (C, c) => chks C (.ok (.head c))
 | none => .bad
def fixR (h : Heap) (nx : Nat) : List (Option Fx) → List AV → Option (List Prop × List AV × Heap × Nat)
 | some S :: l, a :: as => match fixV h nx S a with
  | some (C, a, ws) => match fixR (qav h ws) (nx + 1) l as with
   | some (C', as, h', nx') => some (C ++ C', a :: as, h', nx')
   | none => none
  | none => none
 | none :: l, a :: as => match fixR h nx l as with
  | some (C, as, h', nx') => some (C, a :: as, h', nx')
  | none => none
 | _, as => some ([], as, h, nx)
def retV : AV → List AV → AV
 | .tup _, l => .tup l
 | _, l => lget l 0
theorem retV_of {A : AV} {L : List AV} (h : ∀ l, A ≠ .tup l) : retV A L = lget L 0 := by
 cases A <;> first | rfl | exact absurd rfl (h _)
def retT (H : Hints) (f : FuncId) (v : AV) (h : Heap) (nx : Nat) : Tre Leaf :=
 match fixR h nx (H.ret f) (match v with | .tup l => l | a => [a]) with
 | some (C, vs, h, _) =>
  let rs := keepR h (liveL h vs)
  if qeq 16 (number rs 0) then chks C (.ok (.ret (retV v (renL h (alook (number rs 0)) vs)) (keepH h (alook (number rs 0)) (number rs 0)))) else .bad
 | none => .bad
def iteT {α : Type} (b : Bool) (t e : Tre α) : Tre α := match b with | true => t | false => e
def Tre.go {α β : Type} : Tre α → (α → Tre β) → Tre β
 | .ok a, f => f a
 | .ite b t e, f => iteT b (t.go f) (e.go f)
 | .chk C t, f => .chk C (t.go f)
 | .know K t, f => .know K (t.go f)
 | .any p k, f => .any p fun b => (k b).go f
 | .rg k, f => .rg fun R => (k R).go f
 | .bad, _ => .bad
def atLoop (c : Cfg) : Bool := match c.cur.todo with | .code (.loop _) :: _ => true | .inLoop _ :: _ => true | _ => false
def cutAt (H : Hints) (c c' : Cfg) : Option Nat := match joinIx H c' with
 | some ix => some ix
 | none => match atLoop c && !H.unr c'.cur.fn (loopIx c'.cur.todo) with | true => some (loopIx c'.cur.todo) | false => none
def run (E : Ctx) (H : Hints) (f : FuncId) : Nat → Cfg → Tre Leaf
 | 0, _ => .bad
 | n + 1, c => (astep E c).go fun x => match x with
  | .at_ c' => match cutAt H c c' with | some ix => headT H ix c' | none => run E H f n c'
  | .ret v h nx => retT H f v h nx
  | .pan v _ _ => .ok (.pan v)
def RunsP (E : Ctx) (c : Cfg) (Q : AV → Heap → Prop) (N : AV → Prop) : Prop := ∀ w0 K base a as w Z own γ, StOK E w0 K c a as w Z own γ → (∃ v h, Q v h ∧ FinOK E w0 K base c a as w Z (.ret v h 16)) ∨ ∃ v h nx, N v ∧ FinOK E w0 K base c a as w Z (.pan v h nx)
def Runs (E : Ctx) (c : Cfg) (Q : AV → Heap → Prop) : Prop := RunsP E c Q fun _ => False
def contP (E : Ctx) (Q : AV → Heap → Prop) (N : AV → Prop) : Leaf → Prop
 | .head c => RunsP E c Q N
 | .ret v h => Q v h
 | .pan v => N v
def contL (E : Ctx) (Q : AV → Heap → Prop) : Leaf → Prop
 | .head c => Runs E c Q
 | .ret v h => Q v h
 | .pan _ => False
theorem contL_eq (E : Ctx) (Q : AV → Heap → Prop) : contL E Q = contP E Q fun _ => False := by funext l; cases l <;> rfl
theorem Runs.ends {E : Ctx} {c : Cfg} {Q : AV → Heap → Prop} (h : Runs E c Q) (w0 : World) (K : Kp) (base : List Frame) (a : Act) (as : List Act) (w : World) (Z : Nat → Prop) (own : Own) (γ : Gst) (hS : StOK E w0 K c a as w Z own γ) : ∃ v h, Q v h ∧ FinOK E w0 K base c a as w Z (.ret v h 16) := by
 rcases h w0 K base a as w Z own γ hS with h | ⟨_, _, _, h, _⟩
 ·exact h
 ·exact h.elim
section
variable {E : Ctx} {w w' w0 : World} {Z Z' : Nat → Prop} {K : Kp} {own own' : Own} {γ γ' : Gst} {h h' : Heap} {used used' : Nat → Prop} {r s d id nx : Nat} {R : Root} {a A B : AV} {v V : Value} {cs ds : List AV} {vs us : List Value} {H : Hints} {Q : AV → Heap → Prop} {c : Cfg}
theorem CR.of_tv {S : Sh} {x : Den S} (h : CR w Z (.tv S x) v) : CR w Z (avOf S x) v := by
 generalize hA : AV.tv S x = A at h
 cases h with
 | tva S1 x1 vs hS h =>
  injection hA with e1 e2
  subst e1
  have e2 := eq_of_heq e2
  subst e2
  have := h.avOf
  rw [if_pos hS] at this
  simpa using this
 | tv1 S1 x1 v1 hS h =>
  injection hA with e1 e2
  subst e1
  have e2 := eq_of_heq e2
  subst e2
  have := h.avOf
  rw [if_neg (by simp [hS])] at this
  obtain ⟨u, hu, hc⟩ := this
  injection hu with hu
  subst hu
  exact hc
 | _ => cases hA
theorem denV_sound (hm : MemR w0 K w Z own γ h used) {S : Sh} {C : List Prop} {y : Den S} {ws : List (Nat × Option Root)} (he : denV h S A = some (C, y, ws)) (hC : AllP C) (hA : VR w Z γ A V) :
  ∃ Z' own', Closed w0 K w Z own γ (qav h ws) used Z' own' ∧ CR w Z' (avOf S y) V := by
 unfold denV at he
 split at he
 ·rename_i T x
  obtain ⟨y', hy, he⟩ := Option.map_eq_some_iff.1 he
  injection he with e1 e2
  injection e2 with e2 e3
  subst e2; subst e3
  obtain ⟨e, rfl⟩ := qdz hy
  subst e
  exact ⟨Z, own, ⟨Stay.refl _ _, hm, fun _ _ h => h, fun _ _ h => .inl h⟩, (hA.toCR rfl).of_tv⟩
 ·rename_i cs
  split at he
  ·rename_i hS
   simp only [Bool.and_eq_true] at hS
   split at he
   ·rename_i C1 cs1 ws1 hcl
    split at he
    ·rename_i y' hy
     injection he with he
     injection he with e1 e2
     injection e2 with e2 e3
     subst e2; subst e3
     obtain ⟨arr, rfl, hv⟩ := hA.agg_inv'
     obtain ⟨Z', own', k1, k2, k3⟩ := qfh hm hcl (by rw [e1]; exact hC) hv
     obtain ⟨us, ws', f1, f2, f3⟩ := qfy hy (show CRs w Z' cs1 arr.toList from ⟨k2, k3⟩)
     have : ws' = [] := List.eq_nil_of_length_eq_zero (by have := f3.1; simpa using this.symm)
     subst this
     refine ⟨Z', own', k1, ?_⟩
     have := f2.avOf
     rw [if_pos hS.1] at this
     rw [List.append_nil] at f1
     rw [← f1] at this
     simpa using this
    ·cases he
   ·cases he
  ·cases he
 ·split at he
  ·rename_i hS
   split at he
   ·rename_i C1 a1 ws1 hcl
    split at he
    ·rename_i y' hy
     injection he with he
     injection he with e1 e2
     injection e2 with e2 e3
     subst e2; subst e3
     obtain ⟨Z', own', k1, k2⟩ := qgg hm hcl (by rw [e1]; exact hC) hA
     obtain ⟨us, ws', f1, f2, f3⟩ := qfy hy (show CRs w Z' [a1] [V] from ⟨rfl, fun j x z hx hz => by
      cases j with
      | zero => simp at hx hz; subst hx; subst hz; exact k2
      | succ j => simp at hx⟩)
     have : ws' = [] := List.eq_nil_of_length_eq_zero (by have := f3.1; simpa using this.symm)
     subst this
     refine ⟨Z', own', k1, ?_⟩
     have := f2.avOf
     rw [if_neg (by simpa using hS)] at this
     rw [List.append_nil] at f1
     obtain ⟨u, hu, hc⟩ := this
     rw [← f1] at hu
     injection hu with hu
     subst hu
     exact hc
    ·cases he
   ·cases he
  ·cases he
theorem MemR.retake (hm : MemR w0 K w Z own γ h used) (hid : ¬ used id) (hu : ∀ s, used s → used' s) (hid' : used' id) (hR : hget h r = some R) {m b : Nat} {S : Sh} {xs : List (Den S)} (hc : R.cont = .arr m b S xs) (hp : R.pend = none) (hf : R.fz = false) (hmf : m = 0 ∨ S.flat = true) (hv : R.valid s 0 = true)
  {lo n : Nat} (hA : VR w Z γ (.osl r s [] (some (lo, n))) V) : ∃ γ', Gst.Ext used γ γ' ∧ MemR w0 K w Z own γ' (hput h r (R.rep 0 id (.arr m b S (wins xs (some (lo, n)))))) used' ∧ VR w Z γ' (.osl r id [] none) V := by
 obtain ⟨hr, hroom, M0, own0, r0, ⟨hd0, n1, n2, n3, n4, n5⟩, hM0, _, ho0⟩ := hm.arr hR hc
 obtain ⟨rfl, rfl⟩ := ho0 hf
 have hM := hM0 hp
 subst hM
 obtain ⟨hd', o1, o2⟩ := hA.osl_inv
 have o1' := hr.valid_hd (q := []) hv o1
 rw [n1] at o1'
 injection o1' with o1'
 subst o1'
 obtain ⟨o3, ad, c, rfl, o4, o5, o6, o7⟩ := o2
 simp only [wlen, wlo] at o4 o5 o6 o7
 have n2 : hd0.S = S := n2
 have n4 : hd0.n = xs.length := n4
 obtain ⟨k1, k2, k3⟩ := hm.keys r0 R hR
 have hwl : (wins xs (some (lo, n))).length = n := by
  have := wins_length (xs := xs) (w := some (lo, n)) (by simp only [wlo, wlen]; omega)
  simpa [wlen] using this
 let blk : Option (Nat × Nat) := hd0.blk.map fun x => (x.1, x.2 + lo * S.size)
 let hd : Hd := { S := S, isPtr := false, n := n, c := c, blk := blk }
 let g : Pth → Option Hd := fun q => if q = [] then some hd else none
 have he := Gst.setG_ext (γ := γ) hid g
 have hG : (γ.setG id g).G id = g := by simp [Gst.setG, upd]
 refine ⟨γ.setG id g, he, ?_, .osl _ _ _ _ _ hd (by rw [hG]; rfl) ⟨rfl, ad, c, rfl, o4, ⟨by simp [wlo, wlen], by simp only [wlo, hd]; omega⟩, by simp [wlo, hd], fun h => ?_⟩⟩
 ·refine hm.step (Stay.refl w Z) he hu rfl rfl rfl (Nat.le_refl _) (fun _ => False) (fun b hb _ => rfl) (fun b o ho _ => ho) (fun b o ho => .inl ⟨ho, fun h => h⟩) (fun b hb => ⟨hm.zlt b hb, .inl hb⟩) (fun r' R' hg => ?_) (fun s hs => ?_)
  ·rw [qbr] at hg
   split at hg
   ·rename_i hrr
    injection hg with hg
    subst hg; subst hrr
    refine .inr ⟨⟨fun e hmem q hd' f1 f2 f3 => ?_, ?_⟩, hu _ k1, hid', fun e hmem => ?_⟩
    ·have hmem' : e = (R.cur, [], 0) ∨ e ∈ oldCut 0 R.old := by simpa [Root.rep] using hmem
     rcases hmem' with rfl | hmem'
     ·exact absurd f1 (Nat.not_lt_zero _)
     ·obtain ⟨e0, g1, rfl⟩ := oldCut_mem hmem'
      have hlt : q.length < min e0.2.2 0 := f1
      omega
    ·unfold ContR
     simp only [Root.rep, hf, Bool.false_eq_true, if_false]
     refine ⟨⟨by rw [hwl]; exact room_le hroom (by omega), by rw [hG]; exact Dom.one _⟩, hd, by rw [hG]; rfl, rfl, rfl, hwl.symm, o4, by show n ≤ roomB; have := n5.lim; omega, fun hc' => ?_⟩
     have hc' : 0 < c := hc'
     obtain ⟨bb, o, row, e1, e2, e3, e4, e5⟩ := n5.elems (by omega)
     rw [n2] at e4 e5
     have hcs : (lo + c) * S.size ≤ hd0.c * S.size := Nat.mul_le_mul_right _ o6
     rw [Nat.add_mul] at hcs
     refine ⟨bb, o + lo * S.size, row, by simp [hd, blk, e1], e2, e3, by show o + lo * S.size + c * S.size ≤ row.length; omega, fun j hj => ?_⟩
     have hj : j < n := hj
     obtain ⟨y, hy, hor⟩ := e5 (lo + j) (by omega)
     refine ⟨y, ?_, OR.of_FR hmf ?_⟩
     ·show lat ((xs.drop lo).take n) j = some y
      unfold lat at hy ⊢
      rw [List.getElem?_take, if_pos hj, List.getElem?_drop]
      exact hy
     ·have := OR.to_FR hmf hor
      rw [Nat.add_mul, ← Nat.add_assoc] at this
      exact this
    ·have hmem' : e = (R.cur, [], 0) ∨ e ∈ oldCut 0 R.old := by simpa [Root.rep] using hmem
     rcases hmem' with rfl | hmem'
     ·exact hu _ k2
     ·obtain ⟨e0, g1, rfl⟩ := oldCut_mem hmem'
      exact hu _ (k3 e0 g1)
   ·exact .inl ⟨hg, fun h => h⟩
  ·have hns : ¬ used s := fun h => hs (hu s h)
   refine ⟨(hm.fresh s hns).1, fun q => ?_⟩
   simp only [Gst.setG, upd]
   rw [if_neg (by intro e; subst e; exact hs hid')]
   exact (hm.fresh s hns).2 q
 ·obtain ⟨bb, o, e1, e2⟩ := o7 h
  exact ⟨bb, o + lo * S.size, by simp [hd, blk, e1], by rw [e2, n2]; simp [wlo]⟩
theorem fixV_sound (hm : MemR w0 K w Z own γ h (fun s => s < nx)) {fx : Fx} {C : List Prop} {ws : List (Nat × Option Root)} (he : fixV h nx fx A = some (C, B, ws)) (hC : AllP C) (hA : VR w Z γ A V) :
  ∃ Z' own' γ', Stay w Z w Z' ∧ γ.Le γ' ∧ MemR w0 K w Z' own' γ' (qav h ws) (fun s => s < nx + 1) ∧ VR w Z' γ' B V := by
 have hn := norm_sound hm hA
 have hu : ∀ s, s < nx → s < nx + 1 := fun s h => by omega
 unfold fixV at he
 split at he
 ·rename_i b S m
  split at he
  ·rename_i hnil
   injection he with he
   injection he with e1 e2
   injection e2 with e2 e3
   subst e2; subst e3
   have : norm h A = .val (.slice none 0 0) := by
    unfold isNil at hnil
    split at hnil
    ·assumption
    ·cases hnil
   rw [this] at hn
   have hV := hn.val_inv
   subst hV
   obtain ⟨γ', k1, k2, k3⟩ := hm.newEmpty (id := nx) (Nat.lt_irrefl _) hu (Nat.lt_succ_self nx) (m := m) (b := b) (S := S)
   exact ⟨Z, own, γ', Stay.refl _ _, k1.le hm.fresh, k2, k3⟩
  ·split at he
   ·rename_i r s win hnw
    rw [hnw] at hn
    split at he
    ·rename_i R m' b' S' xs hrd
     split at he
     ·rename_i hmf
      simp only [Bool.or_eq_true, beq_iff_eq] at hmf
      injection he with he
      injection he with e1 e2
      injection e2 with e2 e3
      subst e2; subst e3
      obtain ⟨b0, S0, xs0, h1, h2, h3, h4, h5, h6⟩ := rdata_spec hrd
      cases h3
      obtain ⟨lo, n⟩ := win
      obtain ⟨γ', k1, k2, k3⟩ := hm.retake (id := nx) (Nat.lt_irrefl _) hu (Nat.lt_succ_self nx) h1 h2 h5 h6 hmf h4 hn
      exact ⟨Z, own, γ', Stay.refl _ _, k1.le hm.fresh, k2, k3⟩
     ·cases he
    ·cases he
   ·injection he with he
    injection he with e1 e2
    injection e2 with e2 e3
    subst e2; subst e3
    exact ⟨Z, own, γ, Stay.refl _ _, Gst.Le.refl _, hm.used_mono hu, hn⟩
 ·rename_i S
  split at he
  ·rename_i C1 y ws1 hd
   injection he with he
   injection he with e1 e2
   injection e2 with e2 e3
   subst e2; subst e3
   obtain ⟨Z', own', k1, k2⟩ := denV_sound hm hd (by rw [e1]; exact hC) hn
   exact ⟨Z', own', γ, k1.stay, Gst.Le.refl _, k1.mem.used_mono hu, .cr k2⟩
  ·cases he
theorem MemR.recell (hm : MemR w0 K w Z own γ h used) (hg : hget h r = some R) (hc : R.cont = .cells cs) (hv : ∀ (b : Nat) (arr : Array Value) (e : TypeId), γ.β r = some b → w.heap[b]? = some (.cells arr e (0, 0)) → VRs w Z γ cs arr.toList → VRs w Z γ ds arr.toList) : MemR w0 K w Z own γ (hput h r { R with cont := .cells ds }) used := by
 refine hm.step (Stay.refl w Z) (Gst.Ext.refl used γ) (fun _ h => h) rfl rfl rfl (Nat.le_refl _) (fun _ => False) (fun _ _ _ => rfl) (fun _ _ ho _ => ho) (fun _ _ ho => .inl ⟨ho, fun h => h⟩) (fun b hb => ⟨hm.zlt b hb, .inl hb⟩) (fun x R' hg' => ?_) hm.fresh
 rw [qbr] at hg'
 split at hg'
 ·rename_i hx
  injection hg' with hg'
  subst hx
  obtain ⟨k1, k2, k3⟩ := hm.keys _ _ hg
  have hr := hm.root _ _ hg
  refine .inr ⟨?_, by subst hg'; exact ⟨k1, k2, k3⟩⟩
  subst hg'
  refine ⟨hr.old, ?_⟩
  have := hr.cont
  unfold ContR at this ⊢
  rw [hc] at this
  simp only
  obtain ⟨e1, e2, b, arr, e, q1, q2, q3, q4⟩ := this
  exact ⟨e1, e2, b, arr, e, q1, q2, q3, hv b arr e q1 q3 q4⟩
 ·exact .inl ⟨hg', fun h => h⟩
structure Same (c c' : Cfg) : Prop where
 fn : c'.cur.fn = c.cur.fn
 todo : c'.cur.todo = c.cur.todo
 fb : fb c'.cur = fb c.cur
 frs : ∀ as, frs c'.callers as = frs c.callers as
 bot : ∀ F G : AFr, F.fn = G.fn → botFn F c'.callers = botFn G c.callers
theorem botFn_eq : ∀ {Fs : List AFr} {F G : AFr}, F.fn = G.fn → botFn F Fs = botFn G Fs
 | [], _, _, h => h
 | _ :: _, _, _, _ => rfl
theorem fixC_ok {act : Act} {as : List Act} {r off : Nat} {fx : Fx} {C : List Prop} {c' : Cfg} (hS : StOK E w0 K c act as w Z own γ) (he : fixC c r off fx = some (C, c')) (hC : AllP C) : ∃ Z' own' γ', Stay w Z w Z' ∧ StOK E w0 K c' act as w Z' own' γ' ∧ Same c c' := by
 unfold fixC at he
 split at he
 ·rename_i R hR
  split at he
  ·rename_i cs hcs
   split at he
   ·rename_i b hb
    split at he
    ·rename_i C1 b' ws hf
     split at he
     ·rename_i R' hR'
      split at he
      ·rename_i cs' hcs'
       injection he with he
       injection he with e1 e2
       subst e2
       obtain ⟨blk, q1, q2, q3, q4, arr, e, q5, q6⟩ := hS.mem.cells hR hcs
       obtain ⟨V, hV, hbV⟩ := q6.get hb
       obtain ⟨Z', own', γ', k1, k2, k3, k4⟩ := fixV_sound hS.mem hf (by rw [e1]; exact hC) hbV
       refine ⟨Z', own', γ', k1, ⟨⟨hS.cur.defers, hS.cur.tmps.mono k1 k2, hS.cur.link.mono k2⟩, hS.callers.mono k1 k2, ?_, hS.gl.mono k1⟩, rfl, rfl, rfl, fun _ => rfl, fun F G h => botFn_eq h⟩
       refine k3.recell hR' hcs' fun blk2 arr2 e2 f1 f2 f3 => ?_
       rw [k2.β _ _ q1] at f1
       injection f1 with f1
       subst f1
       rw [q5] at f2
       injection f2 with f2
       injection f2 with f2 _
       subst f2
       have h1 := f3.set off k4
       have : arr.toList.set off V = arr.toList := by
        apply List.ext_getElem?
        intro i
        rw [List.getElem?_set]
        by_cases hi : off = i
        ·subst hi
         rw [if_pos rfl, hV, if_pos (List.getElem?_eq_some_iff.1 hV).1]
        ·rw [if_neg hi]
       rw [this] at h1
       exact h1
      ·cases he
     ·cases he
    ·cases he
   ·cases he
  ·cases he
 ·cases he
theorem fix1_ok {act : Act} {as : List Act} {f : Wh × Fx} {C : List Prop} {c' : Cfg} (hS : StOK E w0 K c act as w Z own γ) (he : fix1 c f = some (C, c')) (hC : AllP C) : ∃ Z' own' γ', Stay w Z w Z' ∧ StOK E w0 K c' act as w Z' own' γ' ∧ Same c c' := by
 unfold fix1 at he
 split at he
 ·rename_i t fx
  split at he
  ·rename_i C1 b ws hf
   injection he with he
   injection he with e1 e2
   subst e2
   obtain ⟨Z', own', γ', k1, k2, k3, k4⟩ := fixV_sound hS.mem hf (by rw [e1]; exact hC) (lget_rel (t := t) hS.cur.tmps)
   refine ⟨Z', own', γ', k1, ⟨⟨hS.cur.defers, ?_, (hS.cur.link.mono k2).fr⟩, hS.callers.mono k1 k2, k3, hS.gl.mono k1⟩, rfl, rfl, rfl, fun _ => rfl, fun F G h => botFn_eq h⟩
   have h1 := (hS.cur.tmps.mono k1 k2).set t k4
   have : act.tmps.toList.set t (act.tmps.getD t undef) = act.tmps.toList := by
    rcases Nat.lt_or_ge t act.tmps.size with hlt | hge
    ·apply List.ext_getElem?
     intro i
     rw [List.getElem?_set]
     by_cases hi : t = i
     ·subst hi
      simp [hlt, Array.getD_eq_getD_getElem?]
     ·rw [if_neg hi]
    ·rw [List.set_eq_of_length_le (by simpa using hge)]
   rw [this] at h1
   exact h1
  ·cases he
 ·split at he
  ·exact fixC_ok hS he hC
  ·cases he
 ·split at he
  ·exact fixC_ok hS he hC
  ·cases he
theorem Same.trans {c1 c2 c3 : Cfg} (h : Same c1 c2) (k : Same c2 c3) : Same c1 c3 := ⟨k.fn.trans h.fn, k.todo.trans h.todo, k.fb.trans h.fb, fun as => (k.frs as).trans (h.frs as), fun F G e => (k.bot F F rfl).trans (h.bot F G e)⟩
theorem fixes_ok {act : Act} {as : List Act} : ∀ {l : List (Wh × Fx)} {c c' : Cfg} {C : List Prop} {Z : Nat → Prop} {own : Own} {γ : Gst}, StOK E w0 K c act as w Z own γ → fixes c l = some (C, c') → AllP C → ∃ Z' own' γ', Stay w Z w Z' ∧ StOK E w0 K c' act as w Z' own' γ' ∧ Same c c'
 | [], c, c', C, Z, own, γ, hS, he, _ => by
  simp only [fixes, Option.some.injEq, Prod.mk.injEq] at he
  obtain ⟨_, rfl⟩ := he
  exact ⟨Z, own, γ, Stay.refl _ _, hS, rfl, rfl, rfl, fun _ => rfl, fun F G h => botFn_eq h⟩
 | f :: l, c, c', C, Z, own, γ, hS, he, hC => by
  simp only [fixes] at he
  split at he
  ·rename_i C1 c1 h1
   split at he
   ·rename_i C2 c2 h2
    injection he with he
    injection he with e1 e2
    subst e2
    rw [← e1, AllP.append] at hC
    obtain ⟨Z1, own1, γ1, k1, k2, k3⟩ := fix1_ok hS h1 hC.1
    obtain ⟨Z2, own2, γ2, j1, j2, j3⟩ := fixes_ok k2 h2 hC.2
    exact ⟨Z2, own2, γ2, k1.trans j1, j2, k3.trans j3⟩
   ·cases he
  ·cases he
theorem cutC_ok {ix : Nat} {act : Act} {as : List Act} {c' : Cfg} {C : List Prop} (hS : StOK E w0 K c act as w Z own γ) (he : cutC H ix c = some (C, c')) (hC : AllP C) : ∃ Z' own' γ', Stay w Z w Z' ∧ StOK E w0 K c' act as w Z' own' γ' ∧ Same c c' := by
 unfold cutC at he
 dsimp only at he
 split at he
 ·rename_i C1 c1 h1
  split at he
  ·rename_i hr
   injection he with he
   injection he with e1 e2
   subst e2
   obtain ⟨Z1, own1, γ1, k1, k2, k3⟩ := fixes_ok hS h1 (by rw [e1]; exact hC)
   obtain ⟨own2, γ2, k4⟩ := cut_ok (keep := (H.cut (c.callers.map sigOf) c.cur.fn ix).1) (kc := (H.cut (c.callers.map sigOf) c.cur.fn ix).2.2) hr k2
   refine ⟨Z1, own2, γ2, k1, k4, k3.trans ⟨rfl, rfl, fb_renX _ _ _, fun as => (frs_renF _ _ _ _).trans (frs_keepF _ _ _), fun F G h => (botFn_renF _ _ F F _ rfl).trans (botFn_keepF _ _ _ _ h)⟩⟩
  ·cases he
 ·cases he
theorem FinOK.of_same {base : List Frame} {act : Act} {as : List Act} {c' : Cfg} {f : Fin} (hs : Stay w Z w Z') (h : Same c c') (hf : FinOK E w0 K base c' act as w Z' f) : FinOK E w0 K base c act as w Z f := by
 have hmk : mkF c'.cur act = mkF c.cur act := by unfold mkF; rw [h.fb, h.todo]
 cases f with
 | at_ c2 =>
  obtain ⟨a2, as2, w2, Z2, own2, γ2, k1, k2, k3, k4⟩ := hf
  rw [hmk, h.frs] at k4
  exact ⟨a2, as2, w2, Z2, own2, γ2, k1, hs.trans k2, k3.trans (h.bot _ _ h.fn), k4⟩
 | ret A h2 nx =>
  obtain ⟨V, w2, Z2, own2, γ2, fr, k1, k2, k3, k4, k5, k6⟩ := hf
  rw [hmk, h.frs] at k4
  exact ⟨V, w2, Z2, own2, γ2, fr, k1, hs.trans k2, k3, k4, k5.trans (h.bot _ _ h.fn), k6⟩
 | pan A h2 nx =>
  obtain ⟨V, w2, Z2, own2, γ2, fr, k1, k2, ⟨Z3, k7, k3⟩, k4, k5, k6⟩ := hf
  rw [hmk, h.frs] at k4
  exact ⟨V, w2, Z2, own2, γ2, fr, k1, hs.trans k2, ⟨Z3, hs.trans k7, k3⟩, k4, k5.trans (h.bot _ _ h.fn), k6⟩
theorem FinOK.trans {base : List Frame} {act : Act} {as : List Act} {c1 : Cfg} {f : Fin} (h1 : FinOK E w0 K base c act as w Z (.at_ c1)) (h2 : ∀ act1 as1 w1 Z1 own1 γ1, StOK E w0 K c1 act1 as1 w1 Z1 own1 γ1 → FinOK E w0 K base c1 act1 as1 w1 Z1 f) : FinOK E w0 K base c act as w Z f := by
 obtain ⟨a1, as1, w1, Z1, own1, γ1, k1, k2, k3, k4⟩ := h1
 have := h2 a1 as1 w1 Z1 own1 γ1 k1
 cases f with
 | at_ c2 =>
  obtain ⟨a2, as2, w2, Z2, own2, γ2, j1, j2, j3, j4⟩ := this
  exact ⟨a2, as2, w2, Z2, own2, γ2, j1, k2.trans j2, j3.trans k3, k4.trans j4⟩
 | ret A h nx =>
  obtain ⟨V, w2, Z2, own2, γ2, fr, j1, j2, j3, j4, j5, j6⟩ := this
  exact ⟨V, w2, Z2, own2, γ2, fr, j1, k2.trans j2, j3, k4.trans j4, j5.trans k3, j6⟩
 | pan A h nx =>
  obtain ⟨V, w2, Z2, own2, γ2, fr, j1, j2, ⟨Z3, j7, j3⟩, j4, j5, j6⟩ := this
  exact ⟨V, w2, Z2, own2, γ2, fr, j1, k2.trans j2, ⟨Z3, k2.trans j7, j3⟩, k4.trans j4, j5.trans k3, j6⟩
theorem fixR_ok : ∀ {l : List (Option Fx)} {cs : List AV} {vs : List Value} {h h' : Heap} {nx nx' : Nat} {C : List Prop} {ds : List AV} {Z : Nat → Prop} {own : Own} {γ : Gst}, MemR w0 K w Z own γ h (fun s => s < nx) → fixR h nx l cs = some (C, ds, h', nx') → AllP C → VRs w Z γ cs vs →
  ∃ Z' own' γ', Stay w Z w Z' ∧ γ.Le γ' ∧ MemR w0 K w Z' own' γ' h' (fun s => s < nx') ∧ VRs w Z' γ' ds vs
 | some S :: l, a :: as, vs, h, h', nx, nx', C, ds, Z, own, γ, hm, he, hC, hv => by
  simp only [fixR] at he
  split at he
  ·rename_i C1 b ws hf
   split at he
   ·rename_i C2 bs h2 nx2 hr
    simp only [Option.some.injEq, Prod.mk.injEq] at he
    obtain ⟨rfl, rfl, rfl, rfl⟩ := he
    rw [AllP.append] at hC
    cases vs with
    | nil => simp [VRs] at hv
    | cons v vs =>
     obtain ⟨Z1, own1, γ1, k1, k2, k3, k4⟩ := fixV_sound hm hf hC.1 hv.head
     obtain ⟨Z2, own2, γ2, j1, j2, j3, j4⟩ := fixR_ok k3 hr hC.2 (hv.tail.mono k1 k2)
     exact ⟨Z2, own2, γ2, k1.trans j1, k2.trans j2, j3, .cons (k4.mono j1 j2) j4⟩
   ·cases he
  ·cases he
 | none :: l, a :: as, vs, h, h', nx, nx', C, ds, Z, own, γ, hm, he, hC, hv => by
  simp only [fixR] at he
  split at he
  ·rename_i C2 bs h2 nx2 hr
   simp only [Option.some.injEq, Prod.mk.injEq] at he
   obtain ⟨rfl, rfl, rfl, rfl⟩ := he
   cases vs with
   | nil => simp [VRs] at hv
   | cons v vs =>
    obtain ⟨Z2, own2, γ2, j1, j2, j3, j4⟩ := fixR_ok hm hr hC hv.tail
    exact ⟨Z2, own2, γ2, j1, j2, j3, .cons (hv.head.mono j1 j2) j4⟩
  ·cases he
 | [], cs, vs, h, h', nx, nx', C, ds, Z, own, γ, hm, he, _, hv => by
  simp only [fixR, Option.some.injEq, Prod.mk.injEq] at he
  obtain ⟨_, rfl, rfl, rfl⟩ := he
  exact ⟨Z, own, γ, Stay.refl _ _, Gst.Le.refl _, hm, hv⟩
 | o :: l, [], vs, h, h', nx, nx', C, ds, Z, own, γ, hm, he, _, hv => by
  cases o <;>
  ·simp only [fixR, Option.some.injEq, Prod.mk.injEq] at he
   obtain ⟨_, rfl, rfl, rfl⟩ := he
   exact ⟨Z, own, γ, Stay.refl _ _, Gst.Le.refl _, hm, hv⟩
theorem retT_ok {base : List Frame} {act : Act} {as : List Act} {f : FuncId} {A : AV} {Ql : Leaf → Prop} (hf : FinOK E w0 K base c act as w Z (.ret A h nx)) (he : (retT H f A h nx).wp Ql) : ∃ v h', Ql (.ret v h') ∧ FinOK E w0 K base c act as w Z (.ret v h' 16) := by
 obtain ⟨V, w2, Z2, own2, γ2, fr, k1, k2, k3, k4, k5, k6⟩ := hf
 unfold retT at he
 split at he
 ·rename_i C vs h2 nx2 hr
  dsimp only at he
  split at he
  ·rename_i hok
   obtain ⟨hC, he⟩ := qfi he
   refine ⟨_, _, he, ?_⟩
   have fin : ∀ {cs us}, VRs w2 Z2 γ2 cs us → fixR h nx (H.ret f) cs = some (C, vs, h2, nx2) → ∃ Z3 own3 γ3, Stay w2 Z2 w2 Z3 ∧ MemR w0 K w2 Z3 own3 γ3 (keepH h2 (alook (number (keepR h2 (liveL h2 vs)) 0)) (number (keepR h2 (liveL h2 vs)) 0)) (fun s => s < 16) ∧ VRs w2 Z3 γ3 (renL h2 (alook (number (keepR h2 (liveL h2 vs)) 0)) vs) us := fun {cs us} hv hr => by
    obtain ⟨Z3, own3, γ3, j1, j2, j3, j4⟩ := fixR_ok k3 hr hC hv
    obtain ⟨own4, hR, hm⟩ := j3.ren hok
    exact ⟨Z3, own4, _, j1, hm, j4.ren hR (fun A V hv => norm_sound j3 hv)⟩
   clear he
   split at hr
   ·rename_i l
    obtain ⟨us, rfl, hl, hus⟩ : ∃ us : Array Value, V = .tuple us ∧ l.length = us.size ∧ ∀ (j : Nat) a v, l[j]? = some a → us[j]? = some v → VR w2 Z2 γ2 a v := by
     generalize hA : AV.tup l = A' at k1
     cases k1 with
     | tup cs vs hl hrel => injection hA with hA; subst hA; exact ⟨vs, rfl, hl, hrel⟩
     | cr hc =>
      cases hc with
      | tup cs vs hl hrel => injection hA with hA; subst hA; exact ⟨vs, rfl, hl, fun j a v ha hv => .cr (hrel j a v ha hv)⟩
      | _ => cases hA
     | _ => cases hA
    obtain ⟨Z3, own3, γ3, j1, j2, j3⟩ := fin (us := us.toList) ⟨by simpa using hl, fun j x y hx hy => hus j x y hx (by simpa using hy)⟩ hr
    exact ⟨_, w2, Z3, own3, γ3, fr, .tup _ us (by simpa using j3.1) (fun j x y hx hy => j3.2 j x y hx (by simpa using hy)), k2.trans j1, j2, k4, k5, k6⟩
   ·rename_i hnt
    obtain ⟨Z3, own3, γ3, j1, j2, j3⟩ := fin (cs := [A]) (us := [V]) (.cons k1 .nil) hr
    refine ⟨V, w2, Z3, own3, γ3, fr, ?_, k2.trans j1, j2, k4, k5, k6⟩
    have hl := j3.1
    rw [retV_of fun l e => hnt l e]
    generalize renL h2 (alook (number (keepR h2 (liveL h2 vs)) 0)) vs = L at j3 hl
    cases L with
    | nil => simp at hl
    | cons b L => exact j3.head
  ·exact he.elim
 ·exact he.elim
theorem Tre.go_wp {α β : Type} {f : α → Tre β} {Q : β → Prop} : ∀ {t : Tre α}, (t.go f).wp Q → t.wp fun a => (f a).wp Q
 | .ok a, h => h
 | .ite b t e, h => by
  cases b with
  | true => exact ⟨fun _ => Tre.go_wp h, fun h => (nomatch h)⟩
  | false => exact ⟨fun h => (nomatch h), fun _ => Tre.go_wp h⟩
 | .chk C t, h => ⟨h.1, fun hc => Tre.go_wp (h.2 hc)⟩
 | .know K t, h => fun hk => Tre.go_wp (h hk)
 | .any p k, h => fun b hb => Tre.go_wp (h b hb)
 | .rg k, h => fun R => Tre.go_wp (h R)
 | .bad, h => h.elim
theorem RunsP.of_run {N : AV → Prop} (hE : EOK E) {f : FuncId} : ∀ {n : Nat} {c : Cfg}, (run E H f n c).wp (contP E Q N) → RunsP E c Q N
 | 0, c, h => h.elim
 | n + 1, c, h => by
  intro w0 K base a as w Z own γ hS
  obtain ⟨fin, h1, h2⟩ := astep_sound (base := base) hE hS (Tre.go_wp (t := astep E c) h)
  cases fin with
  | at_ c' =>
   simp only at h1
   split at h1
   ·unfold headT at h1
    split at h1
    ·rename_i C c'' hc
     obtain ⟨hC, h1⟩ := qfi h1
     have h1 : RunsP E c'' Q N := h1
     obtain ⟨a1, as1, w1, Z1, own1, γ1, k1, k2, k3, k4⟩ := h2
     obtain ⟨Z2, own2, γ2, j1, j2, j3⟩ := cutC_ok k1 hc hC
     rcases h1 w0 K base a1 as1 w1 Z2 own2 γ2 j2 with ⟨v, hh, q1, q2⟩ | ⟨v, hh, nx, q1, q2⟩
     ·obtain ⟨V, w3, Z3, own3, γ3, fr, l1, l2, l3, l4, l5, l6⟩ := FinOK.of_same j1 j3 q2
      exact .inl ⟨v, hh, q1, V, w3, Z3, own3, γ3, fr, l1, k2.trans l2, l3, k4.trans l4, l5.trans k3, l6⟩
     ·obtain ⟨V, w3, Z3, own3, γ3, fr, l1, l2, ⟨Z4, l7, l3⟩, l4, l5, l6⟩ := FinOK.of_same j1 j3 q2
      exact .inr ⟨v, hh, nx, q1, V, w3, Z3, own3, γ3, fr, l1, k2.trans l2, ⟨Z4, k2.trans l7, l3⟩, k4.trans l4, l5.trans k3, l6⟩
    ·exact h1.elim
   ·have h1 : RunsP E c' Q N := RunsP.of_run hE h1
    obtain ⟨a1, as1, w1, Z1, own1, γ1, k1, k2, k3, k4⟩ := h2
    rcases h1 w0 K base a1 as1 w1 Z1 own1 γ1 k1 with ⟨v, hh, q1, q2⟩ | ⟨v, hh, nx, q1, q2⟩
    ·obtain ⟨V, w3, Z3, own3, γ3, fr, l1, l2, l3, l4, l5, l6⟩ := q2
     exact .inl ⟨v, hh, q1, V, w3, Z3, own3, γ3, fr, l1, k2.trans l2, l3, k4.trans l4, l5.trans k3, l6⟩
    ·obtain ⟨V, w3, Z3, own3, γ3, fr, l1, l2, ⟨Z4, l7, l3⟩, l4, l5, l6⟩ := q2
     exact .inr ⟨v, hh, nx, q1, V, w3, Z3, own3, γ3, fr, l1, k2.trans l2, ⟨Z4, k2.trans l7, l3⟩, k4.trans l4, l5.trans k3, l6⟩
  | ret A h nx =>
   obtain ⟨v, h', q1, q2⟩ := retT_ok h2 h1
   exact .inl ⟨v, h', q1, q2⟩
  | pan A h nx => exact .inr ⟨A, h, nx, h1, h2⟩
theorem Runs.of_run (hE : EOK E) {f : FuncId} {n : Nat} {c : Cfg} (h : (run E H f n c).wp (contL E Q)) : Runs E c Q := RunsP.of_run hE (by rw [contL_eq] at h; exact h)
def firsts : Heap → List Nat → Heap
 | [], _ => []
 | (r, R) :: h, l => if l.contains r then firsts h l else (r, R) :: firsts h (r :: l)
theorem firsts_get : ∀ {h : Heap} {l : List Nat} {r : Nat} {R : Root}, (r, R) ∈ firsts h l → l.contains r = false ∧ hget h r = some R
 | [], l, r, R, hm => by cases hm
 | (k, R') :: h, l, r, R, hm => by
  simp only [firsts] at hm
  split at hm
  ·rename_i hk
   obtain ⟨h1, h2⟩ := firsts_get hm
   refine ⟨h1, ?_⟩
   simp only [hget]
   rw [if_neg (fun e => by rw [e, h1] at hk; cases hk)]
   exact h2
  ·rename_i hk
   rcases List.mem_cons.1 hm with e | hm
   ·injection e with e1 e2
    subst e1; subst e2
    exact ⟨by simpa using hk, by simp [hget]⟩
   ·obtain ⟨h1, h2⟩ := firsts_get hm
    simp only [List.contains_cons, Bool.or_eq_false_iff, beq_eq_false_iff_ne] at h1
    refine ⟨h1.2, ?_⟩
    simp only [hget]
    rw [if_neg (Ne.symm h1.1)]
    exact h2
theorem StOK.ok {act : Act} {as : List Act} (hS : StOK E w0 K c act as w Z own γ) : okAVs c.cur.fr ∧ okHeap (firsts c.h []) :=
 ⟨hS.cur.tmps.ok, okHeap_of fun _ _ hm => (hS.mem.root _ _ (firsts_get hm).2).ok⟩
theorem RunsP.imp {Q' : AV → Heap → Prop} {N N' : AV → Prop} (hq : ∀ v h, Q v h → Q' v h) (hn : ∀ v, N v → N' v) (h : RunsP E c Q N) : RunsP E c Q' N' := by
 intro w0 K base a as w Z own γ hS
 rcases h w0 K base a as w Z own γ hS with ⟨v, hh, h1, h2⟩ | ⟨v, hh, nx, h1, h2⟩
 ·exact .inl ⟨v, hh, hq _ _ h1, h2⟩
 ·exact .inr ⟨v, hh, nx, hn _ h1, h2⟩
theorem Runs.imp {Q' : AV → Heap → Prop} (hq : ∀ v h, Q v h → Q' v h) (h : Runs E c Q) : Runs E c Q' := RunsP.imp hq (fun _ h => h) h
end
end Go.BE
namespace Go.BE
open Go.RowKit
abbrev FSpec := List AV → Option SRes
def qat (E : Ctx) (f : FuncId) (s : FSpec) : Prop := ∀ args r, qcm args = true → s args = some r → r.pre → ∀ (w : World) (Z : Nat → Prop) (vs : List Value), GlR E w Z → (∀ b, Z b → b < w.heap.size) → CRs w Z args vs → qfj E.P f vs.toArray w Z r
def start (E : Ctx) (f : FuncId) (args : List AV) : Cfg := { cur := (enter E f args).getD { fn := 0, todo := [], fr := [] }, callers := [], h := [], nx := 0 }
def argD (S : Sh) : AV → Option (Den S)
 | .tv T x => castD T S x
 | .agg cs => if S.isAgg then (match toDen S cs with | some (y, []) => some y | _ => none) else none
 | a => if S.isAgg then none else (match toDen S [a] with | some (y, []) => some y | _ => none)
def DenL : List Sh → Type
 | [] => Unit
 | S :: l => Den S × DenL l
inductive Par where
 | d (S : Sh)
 | fn (g : FuncId) (caps : List Sh)
 | cap (S : Sh)
 | capfn (g : FuncId) (caps : List Sh)
def DenP : Par → Type
 | .d S => Den S
 | .fn _ l => DenL l
 | .cap S => Den S
 | .capfn _ l => DenL l
def Args : List Par → Type
 | [] => Unit
 | p :: l => DenP p × Args l
def capAV : (S : Sh) → Den S → AV
 | .int k, x => .rop [aint k x] 0
 | .bool, x => .rop [abool x] 0
 | .str, x => .rop [.val (.string x)] 0
 | S, x => .rtp S x
def capD (S : Sh) : AV → Option (Den S)
 | .rtp T x => castD T S x
 | .rop cs 0 => match S with
  | .int k => one1 (toDen (.int k) cs)
  | .bool => one1 (toDen .bool cs)
  | .str => one1 (toDen .str cs)
  | S => one1 (toDen S cs)
 | _ => none
where one1 {α : Type} : Option (α × List AV) → Option α
 | some (y, []) => some y
 | _ => none
def capsAV : (l : List Sh) → DenL l → List AV
 | [], _ => []
 | S :: l, x => capAV S x.1 :: capsAV l x.2
def capsD : (l : List Sh) → List AV → Option (DenL l)
 | [], [] => some ()
 | S :: l, a :: as => match capD S a, capsD l as with
  | some x, some y => some (x, y)
  | _, _ => none
 | _, _ => none
def parAV : (p : Par) → DenP p → AV
 | .d S, x => avOf S x
 | .fn g l, x => .fn g (capsAV l x)
 | .cap S, x => capAV S x
 | .capfn g l, x => .rop [.fn g (capsAV l x)] 0
def capfnD : AV → Option (FuncId × List AV)
 | .rop [.fn g cs] 0 => some (g, cs)
 | _ => none
theorem capfnD_eq {a : AV} {x : FuncId × List AV} (h : capfnD a = some x) : a = .rop [.fn x.1 x.2] 0 := by
 unfold capfnD at h
 split at h
 ·injection h with h
  subst h
  rfl
 ·cases h
def parD : (p : Par) → AV → Option (DenP p)
 | .d S, a => argD S a
 | .fn g l, .fn g' cs => if g = g' then capsD l cs else none
 | .fn _ _, _ => none
 | .cap S, a => capD S a
 | .capfn g l, a => match capfnD a with
  | some x => if g = x.1 then capsD l x.2 else none
  | none => none
def qdt : (l : List Par) → Args l → List AV
 | [], _ => []
 | p :: l, x => parAV p x.1 :: qdt l x.2
def argsD : (l : List Par) → List AV → Option (Args l)
 | [], [] => some ()
 | p :: l, a :: as => match parD p a, argsD l as with
  | some x, some y => some (x, y)
  | _, _ => none
 | _, _ => none
def okL : (l : List Sh) → DenL l → Prop
 | [], _ => True
 | S :: l, x => okD S x.1 ∧ okL l x.2
def okP : (p : Par) → DenP p → Prop
 | .d S, x => okD S x
 | .fn _ l, x => okL l x
 | .cap S, x => okD S x
 | .capfn _ l, x => okL l x
def okArgs : (l : List Par) → Args l → Prop
 | [], _ => True
 | p :: l, x => okP p x.1 ∧ okArgs l x.2
structure Con where
 ps : List Par
 pre : Args ps → Prop
 res : Args ps → AV
 roots : Args ps → List (Nat × Root)
def Con.spec (s : Con) : FSpec := fun args => match argsD s.ps args with
 | some x => some ⟨s.pre x, s.res x, s.roots x, none⟩
 | none => none
structure ConP where
 ps : List Par
 pre : Args ps → Prop
 err : Args ps → Bool
 val : Args ps → AV
def ConP.spec (s : ConP) : FSpec := fun args => match argsD s.ps args with
 | some x => some ⟨s.pre x, .tup [], [], some (s.err x, s.val x)⟩
 | none => none
def con (ps : List Par) (R : Sh) (pre : Args ps → Prop) (f : Args ps → Den R) : Con := ⟨ps, pre, fun x => avOf R (f x), fun _ => []⟩
section
variable {E : Ctx} {w w' w0 : World} {Z Z' : Nat → Prop} {K : Kp} {own own' : Own} {γ γ' : Gst} {h h' : Heap} {used used' : Nat → Prop} {a A B : AV} {v V : Value} {cs ds : List AV} {vs us : List Value}
theorem CRs.one (h : CR w Z a v) : CRs w Z [a] [v] := ⟨rfl, fun j x z hx hz => by
 cases j with
 | zero => simp at hx hz; subst hx; subst hz; exact h
 | succ j => simp at hx⟩
theorem CRs.cons (h : CR w Z a v) (k : CRs w Z cs vs) : CRs w Z (a :: cs) (v :: vs) := ⟨by simp [k.1], fun j x z hx hz => by
 cases j with
 | zero => simp at hx hz; subst hx; subst hz; exact h
 | succ j => exact k.2 j x z (by simpa using hx) (by simpa using hz)⟩
theorem CR.agg_inv (h : CR w Z (.agg cs) v) : ∃ arr, v = .agg arr ∧ CRs w Z cs arr.toList := by
 cases h with
 | agg _ vs hl hrel => exact ⟨vs, rfl, by simpa using hl, fun j x y hx hy => hrel j x y hx (by simpa using hy)⟩
theorem CR.fn_inv {g : FuncId} (h : CR w Z (.fn g cs) v) : ∃ arr : Array Value, v = fnV g arr ∧ CRs w Z cs arr.toList := by
 cases h with
 | fn _ _ vs hl hrel => exact ⟨vs, rfl, by simpa using hl, fun j x y hx hy => hrel j x y hx (by simpa using hy)⟩
theorem toDen_all {S : Sh} {y : Den S} (h : toDen S cs = some (y, [])) (hc : CRs w Z cs vs) : FR w Z S y vs := by
 obtain ⟨us, ws, f1, f2, f3⟩ := qfy h hc
 have : ws = [] := List.eq_nil_of_length_eq_zero (by have := f3.1; simpa using this.symm)
 subst this
 rw [List.append_nil] at f1
 exact f1 ▸ f2
theorem argD_sound {S : Sh} {y : Den S} (h : argD S A = some y) (hA : CR w Z A v) : CR w Z (avOf S y) v := by
 unfold argD at h
 split at h
 ·obtain ⟨e, rfl⟩ := qdz h
  subst e
  exact hA.of_tv
 ·split at h
  ·rename_i hS
   split at h
   ·rename_i y' hy
    injection h with h
    subst h
    obtain ⟨arr, rfl, hc⟩ := hA.agg_inv
    have := (toDen_all hy hc).avOf
    rw [if_pos hS] at this
    simpa using this
   ·cases h
  ·cases h
 ·split at h
  ·cases h
  ·rename_i hS
   split at h
   ·rename_i y' hy
    injection h with h
    subst h
    have := (toDen_all hy (CRs.one hA)).avOf
    rw [if_neg hS] at this
    obtain ⟨u, hu, hc⟩ := this
    injection hu with hu
    subst hu
    exact hc
   ·cases h
theorem capD_one {S : Sh} {y : Den S} {cs : List AV} (hS : ∀ x, capAV S x = .rop (qeu S x) 0) (h1 : S.size = 1) (h : capD.one1 (toDen S cs) = some y) (hA : CR w Z (.rop cs 0) v) : CR w Z (capAV S y) v := by
 unfold capD.one1 at h
 split at h
 ·rename_i y' hy
  injection h with h
  subst h
  cases hA with
  | rop _ _ b o u hz hc hr =>
   have hcs : CRs w Z cs ((List.range cs.length).map u) := ⟨by simp, fun j x z hx hz => by
    rw [List.getElem?_map] at hz
    obtain ⟨i, hi, rfl⟩ := Option.map_eq_some_iff.1 hz
    rw [List.getElem?_range (List.getElem?_eq_some_iff.1 hx).1] at hi
    injection hi with hi
    subst hi
    exact hr _ x hx⟩
   have hF := toDen_all hy hcs
   have hv : VRs w Z ⟨fun _ => none, fun _ _ => none⟩ (qeu S y') ((List.range cs.length).map u) := hF.cells
   rw [hS]
   refine .rop _ _ _ _ u hz (fun j x hx => ?_) (fun j x hx => ?_)
   ·have hl : j < cs.length := by
     have := (List.getElem?_eq_some_iff.1 hx).1
     rw [hv.1] at this
     simpa using this
    exact hc j cs[j] (List.getElem?_eq_getElem hl)
   ·have hl : j < cs.length := by
     have := (List.getElem?_eq_some_iff.1 hx).1
     rw [hv.1] at this
     simpa using this
    have := hv.2 j x (u j) hx (by simp [hl])
    refine this.toCR ?_
    clear this hl
    have : ∀ {S : Sh} {x : Den S} (j : Nat) (a : AV), (qeu S x)[j]? = some a → S.size = 1 → (∀ x, capAV S x = .rop (qeu S x) 0) → a.closed = true := by
     intro S x j a ha _ hc
     cases S with
     | int k => cases j <;> simp [qeu] at ha; subst ha; rfl
     | bool => cases j <;> simp [qeu] at ha; subst ha; rfl
     | str => cases j <;> simp [qeu] at ha; subst ha; rfl
     | unit => simp [qeu] at ha
     | pair a b => have := hc (dz _); simp [capAV] at this
     | arr n a => have := hc (dz _); simp [capAV] at this
     | sl b a => have := hc (dz _); simp [capAV] at this
     | ptr a => have := hc (dz _); simp [capAV] at this
    exact this j x hx h1 hS
 ·cases h
theorem capD_rop {S : Sh} {y : Den S} {cs : List AV} (hS : ∀ x, capAV S x = .rtp S x) (h : capD.one1 (toDen S cs) = some y) (hA : CR w Z (.rop cs 0) v) : CR w Z (capAV S y) v := by
 unfold capD.one1 at h
 split at h
 ·rename_i y' hy
  injection h with h
  subst h
  cases hA with
  | rop _ _ b o u hz hc hr =>
   have hcs : CRs w Z cs ((List.range cs.length).map u) := ⟨by simp, fun j x z hx hz => by
    rw [List.getElem?_map] at hz
    obtain ⟨i, hi, rfl⟩ := Option.map_eq_some_iff.1 hz
    rw [List.getElem?_range (List.getElem?_eq_some_iff.1 hx).1] at hi
    injection hi with hi
    subst hi
    exact hr _ x hx⟩
   have hF := toDen_all hy hcs
   rw [hS]
   refine .rtp S y' b (o + 0) _ hz (fun j v hj => ?_) hF
   rw [List.getElem?_map] at hj
   obtain ⟨i, hi, rfl⟩ := Option.map_eq_some_iff.1 hj
   have hlt : j < cs.length := by
    have := (List.getElem?_eq_some_iff.1 hi).1
    simpa using this
   rw [List.getElem?_range hlt] at hi
   injection hi with hi
   subst hi
   exact hc j cs[j] (List.getElem?_eq_getElem hlt)
 ·cases h
theorem capD_sound {S : Sh} {y : Den S} (h : capD S A = some y) (hA : CR w Z A v) : CR w Z (capAV S y) v := by
 unfold capD at h
 split at h
 ·rename_i T x
  obtain ⟨e, rfl⟩ := qdz h
  subst e
  cases hA with
  | rtp _ _ b o us hz hr hf =>
   have key : ∀ x (hx : capAV T x = .rop (qeu T x) 0) (_ : FR w Z T x us) (_ : ∀ (j : Nat) a, (qeu T x)[j]? = some a → a.closed = true), CR w Z (capAV T x) (.pointer (some ⟨b, o, none⟩)) := fun x hx hf hcl => by
    have hv : VRs w Z ⟨fun _ => none, fun _ _ => none⟩ (qeu T x) us := hf.cells
    rw [hx]
    refine .rop _ 0 b o (fun j => us.getD j undef) hz (fun j a ha => ?_) (fun j a ha => ?_)
    ·obtain ⟨u, hu, hr'⟩ := hv.get ha
     have := hr j u hu
     simpa [List.getD_eq_getElem?_getD, hu] using this
    ·obtain ⟨u, hu, hr'⟩ := hv.get ha
     have := hr'.toCR (hcl j a ha)
     simpa [List.getD_eq_getElem?_getD, hu] using this
   cases T with
   | int k => exact key x rfl hf fun j a ha => by cases j <;> simp [qeu] at ha; subst ha; rfl
   | bool => exact key x rfl hf fun j a ha => by cases j <;> simp [qeu] at ha; subst ha; rfl
   | str => exact key x rfl hf fun j a ha => by cases j <;> simp [qeu] at ha; subst ha; rfl
   | unit => exact .rtp _ _ b o us hz hr hf
   | pair a b' => exact .rtp _ _ b o us hz hr hf
   | arr n a => exact .rtp _ _ b o us hz hr hf
   | sl b' a => exact .rtp _ _ b o us hz hr hf
   | ptr a => exact .rtp _ _ b o us hz hr hf
 ·split at h
  ·exact capD_one (fun _ => rfl) rfl h hA
  ·exact capD_one (fun _ => rfl) rfl h hA
  ·exact capD_one (fun _ => rfl) rfl h hA
  ·rename_i S' h1 h2 h3
   exact capD_rop (fun x => by
    cases S with
    | int k => exact absurd rfl (h1 k)
    | bool => exact absurd rfl h2
    | str => exact absurd rfl h3
    | _ => rfl) h hA
 ·cases h
theorem capsD_sound : ∀ {l : List Sh} {cs : List AV} {vs : List Value} {x : DenL l}, capsD l cs = some x → CRs w Z cs vs → CRs w Z (capsAV l x) vs
 | [], [], vs, x, _, h => h
 | S :: l, a :: as, [], x, _, h => by simp [CRs] at h
 | S :: l, a :: as, v :: vs, x, he, h => by
  simp only [capsD] at he
  split at he
  ·rename_i y z hy hz
   injection he with he
   subst he
   exact .cons (capD_sound hy (h.2 0 a v rfl rfl)) (capsD_sound hz h.tail)
  ·cases he
 | [], _ :: _, _, _, he, _ => by simp [capsD] at he
 | _ :: _, [], _, _, he, _ => by simp [capsD] at he
theorem parD_sound {p : Par} {x : DenP p} (he : parD p A = some x) (h : CR w Z A v) : CR w Z (parAV p x) v := by
 cases p with
 | d S => exact argD_sound he h
 | fn g l =>
  cases A with
  | fn g' cs =>
   have he' : g = g' ∧ capsD l cs = some x := by
    have he1 : (if g = g' then capsD l cs else none : Option (DenL l)) = some x := he
    by_cases hg : g = g'
    ·rw [if_pos hg] at he1
     exact ⟨hg, he1⟩
    ·rw [if_neg hg] at he1
     cases he1
   obtain ⟨rfl, he'⟩ := he'
   obtain ⟨arr, rfl, hc⟩ := h.fn_inv
   have := capsD_sound he' hc
   exact .fn _ _ arr (by simpa using this.1) fun j a v ha hv => this.2 j a v ha (by simpa using hv)
  | _ => simp [parD] at he
 | cap S => exact capD_sound he h
 | capfn g l =>
  have key : ∃ g' cs, A = .rop [.fn g' cs] 0 ∧ g = g' ∧ capsD l cs = some x := by
   have he' : (match capfnD A with | some x => if g = x.1 then capsD l x.2 else none | none => none : Option (DenL l)) = some x := he
   cases hq : capfnD A with
   | none => rw [hq] at he'; cases he'
   | some y =>
    rw [hq] at he'
    by_cases hg : g = y.1
    ·have he2 : (if g = y.1 then capsD l y.2 else none) = some x := he'
     rw [if_pos hg] at he2
     exact ⟨y.1, y.2, capfnD_eq hq, hg, he2⟩
    ·have he2 : (if g = y.1 then capsD l y.2 else none) = some x := he'
     rw [if_neg hg] at he2
     cases he2
  obtain ⟨g', cs, rfl, rfl, hx⟩ := key
  cases h with
  | rop _ _ b o u hz hcell hrel =>
   refine .rop [.fn g (capsAV l x)] 0 b o u hz (fun j a ha => ?_) (fun j a ha => ?_)
   ·cases j with
    | zero => exact hcell 0 _ rfl
    | succ j => simp at ha
   ·cases j with
    | zero =>
     simp at ha
     subst ha
     have h0 := hrel 0 _ rfl
     obtain ⟨arr, e, hc⟩ := h0.fn_inv
     have := capsD_sound hx hc
     rw [e]
     exact .fn _ _ _ (by simpa using this.1) (fun j a v ha hv => this.2 j a v ha (by simpa using hv))
    | succ j => simp at ha
theorem argsD_sound : ∀ {l : List Par} {cs : List AV} {vs : List Value} {x : Args l}, argsD l cs = some x → CRs w Z cs vs → CRs w Z (qdt l x) vs
 | [], [], vs, x, _, h => h
 | S :: l, a :: as, [], x, _, h => by simp [CRs] at h
 | S :: l, a :: as, v :: vs, x, he, h => by
  simp only [argsD] at he
  split at he
  ·rename_i y z hy hz
   injection he with he
   subst he
   exact .cons (parD_sound hy (h.2 0 a v rfl rfl)) (argsD_sound hz h.tail)
  ·cases he
 | [], _ :: _, _, _, he, _ => by simp [argsD] at he
 | _ :: _, [], _, _, he, _ => by simp [argsD] at he
theorem okAV_avOf : ∀ {S : Sh} {x : Den S}, okAV (avOf S x) → okD S x := by
 intro S x h
 cases S <;> first | exact h | trivial
theorem okAV_capAV : ∀ {S : Sh} {x : Den S}, okAV (capAV S x) → okD S x := by
 intro S x h
 cases S <;> first | exact h | exact h.1 | trivial
theorem okAVs_caps : ∀ {l : List Sh} {x : DenL l}, okAVs (capsAV l x) → okL l x
 | [], _, _ => trivial
 | _ :: _, _, h => ⟨okAV_capAV h.1, okAVs_caps h.2⟩
theorem okAV_par {p : Par} {x : DenP p} (h : okAV (parAV p x)) : okP p x := by
 cases p with
 | d S => exact okAV_avOf h
 | fn g l => exact okAVs_caps h
 | cap S => exact okAV_capAV h
 | capfn g l => exact okAVs_caps h.1
theorem okAVs_args : ∀ {l : List Par} {x : Args l}, okAVs (qdt l x) → okArgs l x
 | [], _, _ => trivial
 | _ :: _, _, h => ⟨okAV_par h.1, okAVs_args h.2⟩
theorem qcj {f : FuncId} {s : Con} (h : ∀ x, okArgs s.ps x → s.pre x → (enter E f (qdt s.ps x)).isSome = true ∧ Runs E (start E f (qdt s.ps x)) fun v h => v = s.res x ∧ h = s.roots x) : qat E f s.spec := by
 intro args r _ hs hp w Z vs hg hz hvs
 unfold Con.spec at hs
 split at hs
 ·rename_i x hx
  injection hs with hs
  subst hs
  have hc := argsD_sound hx hvs
  have hv : VRs w Z ⟨fun _ => none, fun _ _ => none⟩ (qdt s.ps x) vs := ⟨hc.1, fun j a v ha hv => .cr (hc.2 j a v ha hv)⟩
  obtain ⟨h1, h2⟩ := h x (okAVs_args hv.ok) hp
  refine qfj.of_r ?_ rfl
  intro cs
  cases he : enter E f (qdt s.ps x) with
  | none => rw [he] at h1; cases h1
  | some F =>
   obtain ⟨b, e1, e2, e3⟩ := enter_ok he hv
   have hm : MemR w ⟨fun _ => True, Z⟩ w Z (fun _ => none) ⟨fun _ => none, fun _ _ => none⟩ [] (fun s => s < 0) :=
    ⟨rfl, rfl, rfl, Nat.le_refl _, fun _ _ _ => rfl, fun b hb _ _ => hb, hz, fun b o ho => by simp at ho, fun b o ho => by simp at ho, fun b o ho => by simp at ho, fun r R hg => by simp [hget] at hg, fun r R hg => by simp [hget] at hg, fun _ _ => ⟨rfl, fun _ => rfl⟩⟩
   have hS : StOK E w ⟨fun _ => True, Z⟩ (start E f (qdt s.ps x)) b [] w Z (fun _ => none) ⟨fun _ => none, fun _ _ => none⟩ := by
    refine ⟨?_, trivial, hm, hg⟩
    simp only [start, he, Option.getD_some]
    exact e2
   obtain ⟨A, hh, ⟨rfl, rfl⟩, V, w', Z', own', γ', fr, k1, k2, k3, k4, k5, k6⟩ := h2.ends w _ cs b [] w Z _ _ hS
   refine ⟨.returned V, w', fr, ⟨V, Z', own', γ', rfl, k2, k3, k1⟩, ?_, ?_, k6⟩
   ·rw [e1]
    have : mkF (start E f (qdt s.ps x)).cur b = mkF F b := by simp [start, he]
    rw [← this]
    exact k4
   ·rw [k5]
    simp [start, he, botFn, e3]
 ·cases hs
theorem spec_ofP {f : FuncId} {s : ConP} (h : ∀ x, okArgs s.ps x → s.pre x → (enter E f (qdt s.ps x)).isSome = true ∧ RunsP E (start E f (qdt s.ps x)) (fun v h => v = .tup [] ∧ h = [] ∧ s.err x = false) fun v => v = s.val x ∧ s.err x = true) : qat E f s.spec := by
 intro args r _ hs hp w Z vs hg hz hvs
 unfold ConP.spec at hs
 split at hs
 ·rename_i x hx
  injection hs with hs
  subst hs
  have hc := argsD_sound hx hvs
  have hv : VRs w Z ⟨fun _ => none, fun _ _ => none⟩ (qdt s.ps x) vs := ⟨hc.1, fun j a v ha hv => .cr (hc.2 j a v ha hv)⟩
  obtain ⟨h1, h2⟩ := h x (okAVs_args hv.ok) hp
  refine qfj.of_p (b := s.err x) (pv := s.val x) ?_ rfl
  intro cs
  cases he : enter E f (qdt s.ps x) with
  | none => rw [he] at h1; cases h1
  | some F =>
   obtain ⟨b, e1, e2, e3⟩ := enter_ok he hv
   have hm : MemR w ⟨fun _ => True, Z⟩ w Z (fun _ => none) ⟨fun _ => none, fun _ _ => none⟩ [] (fun s => s < 0) :=
    ⟨rfl, rfl, rfl, Nat.le_refl _, fun _ _ _ => rfl, fun b hb _ _ => hb, hz, fun b o ho => by simp at ho, fun b o ho => by simp at ho, fun b o ho => by simp at ho, fun r R hg => by simp [hget] at hg, fun r R hg => by simp [hget] at hg, fun _ _ => ⟨rfl, fun _ => rfl⟩⟩
   have hS : StOK E w ⟨fun _ => True, Z⟩ (start E f (qdt s.ps x)) b [] w Z (fun _ => none) ⟨fun _ => none, fun _ _ => none⟩ := by
    refine ⟨?_, trivial, hm, hg⟩
    simp only [start, he, Option.getD_some]
    exact e2
   have hmk : mkF (start E f (qdt s.ps x)).cur b = mkF F b := by simp [start, he]
   rcases h2 w _ cs b [] w Z _ _ hS with ⟨A, hh, ⟨rfl, rfl, herr⟩, V, w', Z', own', γ', fr, k1, k2, k3, k4, k5, k6⟩ | ⟨A, hh, nx, ⟨rfl, herr⟩, V, w', Z', own', γ', fr, k1, k2, ⟨Z2, k7, k3⟩, k4, k5, k6⟩
   ·refine ⟨.returned V, w', fr, ⟨Z', own', γ', [], _, k2, k3, .inr ⟨herr, V, rfl, k1⟩⟩, ?_, ?_, k6⟩
    ·rw [e1, ← hmk]
     exact k4
    ·rw [k5]
     simp [start, he, botFn, e3]
   ·refine ⟨.panicked [{ v := V, recovered := false }], w', fr, ?_, ?_, ?_, k6⟩
    ·exact ⟨Z2, own', γ', hh, _, k7, k3, .inl ⟨herr, V, rfl, Z', k2, k1⟩⟩
    ·rw [e1, ← hmk]
     exact k4
    ·rw [k5]
     simp [start, he, botFn, e3]
 ·cases hs
def envOf : List (FuncId × FSpec) → Env
 | [], _, _ => none
 | (f, s) :: l, g, args => match (if f = g then s args else none) with
  | some r => some r
  | none => envOf l g args
theorem envOK_of {l : List (FuncId × FSpec)} (he : E.env = envOf l) (h : ∀ x ∈ l, qat E x.1 x.2) : EnvOK E := by
 intro f args r hc hr hp
 rw [he] at hr
 clear he
 induction l with
 | nil => simp [envOf] at hr
 | cons x l ih =>
  simp only [envOf] at hr
  split at hr
  ·rename_i r' hx
   injection hr with hr
   subst hr
   split at hx
   ·rename_i hf
    subst hf
    exact h x List.mem_cons_self args r' hc hx hp
   ·cases hx
  ·exact ih (fun y hy => h y (List.mem_cons_of_mem _ hy)) hr
end
end Go.BE
namespace Go.BE
open Go.RowKit
def eqV : Value → Value → Bool
 | .bool a, .bool b => a == b
 | .int k a, .int l b => decide (k = l) && decide (a = b)
 | .string a, .string b => decide (a.data.toList = b.data.toList)
 | .pointer none, .pointer none => true
 | .slice none a b, .slice none c d => decide (a = c) && decide (b = d)
 | .map none, .map none => true
 | .chan none, .chan none => true
 | .nilFunc, .nilFunc => true
 | .nilIface, .nilIface => true
 | _, _ => false
theorem eqV_ok {a b : Value} (h : eqV a b = true) : a = b := by
 unfold eqV at h
 split at h
 case h_3 a b =>
  cases a; cases b
  simp only [decide_eq_true_eq] at h
  have := Array.ext' h
  rw [this]
 all_goals simp_all
def eqVs : List Value → List Value → Bool
 | [], [] => true
 | a :: l, b :: m => eqV a b && eqVs l m
 | _, _ => false
theorem eqVs_ok : ∀ {l m : List Value}, eqVs l m = true → l = m
 | [], [], _ => rfl
 | a :: l, b :: m, h => by
  simp only [eqVs, Bool.and_eq_true] at h
  rw [eqV_ok h.1, eqVs_ok h.2]
 | [], _ :: _, h => by simp [eqVs] at h
 | _ :: _, [], h => by simp [eqVs] at h
def chkF (P : Program) (f : FI) (g : Field) : Bool :=
 decide (g.offset = f.off) && (match P.info? g.type with | some ti => decide (ti.size = f.size) | none => false) &&
  (match P.underlying g.type with | some d => isAggD d == f.agg | none => false)
theorem chkF_ok {P : Program} {f : FI} {g : Field} (h : chkF P f g = true) : FIOK P f g := by
 simp only [chkF, Bool.and_eq_true, decide_eq_true_eq] at h
 obtain ⟨⟨h1, h2⟩, h3⟩ := h
 refine ⟨h1, ?_, ?_⟩
 ·split at h2
  ·rename_i ti hti
   exact ⟨ti, hti, by simpa using h2⟩
  ·cases h2
 ·split at h3
  ·rename_i d hd
   exact ⟨d, hd, by simpa using h3⟩
  ·cases h3
def chkFs (P : Program) : List FI → List Field → Bool
 | [], [] => true
 | f :: fs, g :: gs => chkF P f g && chkFs P fs gs
 | _, _ => false
theorem chkFs_ok {P : Program} : ∀ {fs : List FI} {gs : List Field}, chkFs P fs gs = true → fs.length = gs.length ∧ ∀ (j : Nat) f, fs[j]? = some f → ∃ g, gs[j]? = some g ∧ FIOK P f g
 | [], [], _ => ⟨rfl, fun j f h => by simp at h⟩
 | f :: fs, g :: gs, h => by
  simp only [chkFs, Bool.and_eq_true] at h
  obtain ⟨h1, h2⟩ := chkFs_ok h.2
  refine ⟨by simp [h1], fun j f' hj => ?_⟩
  cases j with
  | zero => simp at hj; subst hj; exact ⟨g, rfl, chkF_ok h.1⟩
  | succ j => exact h2 j f' (by simpa using hj)
 | [], _ :: _, h => by simp [chkFs] at h
 | _ :: _, [], h => by simp [chkFs] at h
def chkK (P : Program) : TK → TypeDesc → Bool
 | .int k, .int k' => decide (k = k')
 | .bool, .bool => true
 | .str, .string => true
 | .ptr e, .pointer e' => decide (e = e')
 | .slice e, .slice e' => decide (e = e')
 | .arr n e, .array n' e' => decide (n = n') && decide (e = e')
 | .struct fs, .struct gs => chkFs P fs gs.toList
 | .map k e, .map k' e' => decide (k = k') && decide (e = e')
 | .other, d => !isAggD d
 | _, _ => false
theorem chkK_ok {P : Program} {k : TK} {d : TypeDesc} (h : chkK P k d = true) : TKOK P k d := by
 unfold chkK at h
 split at h
 ·simp only [decide_eq_true_eq] at h; subst h; rfl
 ·rfl
 ·rfl
 ·simp only [decide_eq_true_eq] at h; subst h; rfl
 ·simp only [decide_eq_true_eq] at h; subst h; rfl
 ·simp only [Bool.and_eq_true, decide_eq_true_eq] at h; obtain ⟨rfl, rfl⟩ := h; rfl
 ·obtain ⟨h1, h2⟩ := chkFs_ok h
  exact ⟨_, rfl, by simpa using h1, fun j f hj => by simpa using h2 j f hj⟩
 ·simp only [Bool.and_eq_true, decide_eq_true_eq] at h; obtain ⟨rfl, rfl⟩ := h; rfl
 ·simpa [TKOK] using h
 ·cases h
def chkS (i : TI) : Bool := match i.sh with
 | none => true
 | some S => decide (S.size = i.size) && eqVs (zvals S) i.zero && (S.isAgg == i.isAgg)
theorem chkS_ok {i : TI} (h : chkS i = true) : ∀ S, i.sh = some S → S.size = i.size ∧ zvals S = i.zero ∧ S.isAgg = i.isAgg := by
 intro S hS
 unfold chkS at h
 rw [hS] at h
 simp only [Bool.and_eq_true, decide_eq_true_eq, beq_iff_eq] at h
 exact ⟨h.1.1, eqVs_ok h.1.2, h.2⟩
def chkT (P : Program) (t : TypeId) (i : TI) : Bool :=
  (match P.info? t with
   | some ti => decide (ti.size = i.size) && decide (ti.bytes = i.bytes) && (match ti.zero with | some z => eqVs z.cells.toList i.zero | none => false)
   | none => false) &&
  (match P.underlying t with | some d => chkK P i.tk d | none => false) && chkS i
theorem chkT_ok {P : Program} {t : TypeId} {i : TI} (h : chkT P t i = true) : TIOK P t i := by
 simp only [chkT, Bool.and_eq_true] at h
 obtain ⟨⟨h1, h2⟩, h3⟩ := h
 refine ⟨?_, ?_, chkS_ok h3⟩
 ·split at h1
  ·rename_i ti hti
   simp only [Bool.and_eq_true, decide_eq_true_eq] at h1
   obtain ⟨⟨a, b⟩, c⟩ := h1
   split at c
   ·rename_i z hz
    exact ⟨ti, hti, a, b, z, hz, eqVs_ok c⟩
   ·cases c
  ·cases h1
 ·split at h2
  ·rename_i d hd
   exact ⟨d, hd, chkK_ok h2⟩
  ·cases h2
def tyOf (n : Nat) (tr : Tr TI) : Ty := fun t => if t < n then tr.get t else none
def chkTy (P : Program) (tr : Tr TI) : Nat → Bool
 | 0 => true
 | n + 1 => chkTy P tr n && (match tr.get n with | some i => chkT P n i | none => true)
theorem chkTy_ok {P : Program} {tr : Tr TI} : ∀ {n : Nat}, chkTy P tr n = true → TyOK P (tyOf n tr)
 | 0, _, t, i, h => by simp [tyOf] at h
 | n + 1, hc, t, i, h => by
  simp only [chkTy, Bool.and_eq_true] at hc
  simp only [tyOf] at h
  split at h
  ·rename_i ht
   rcases Nat.lt_or_ge t n with hlt | hge
   ·exact chkTy_ok hc.1 t i (by simp only [tyOf]; rw [if_pos hlt]; exact h)
   ·obtain rfl : t = n := Nat.le_antisymm (Nat.lt_succ_iff.1 ht) hge
    have h2 := hc.2
    rw [h] at h2
    exact chkT_ok h2
  ·cases h
def chkFn (P : Program) (f : Nat) : Bool :=
 match P.funcs[f]? with
 | some fn => fn.body.isSome && !(fn.name == "runtime.NumGoroutine")
 | none => false
theorem chkFn_ok {P : Program} {f : Nat} (h : chkFn P f = true) : ∀ args w, (callFunc f args).run P w = .ok (.enter f args) w := by
 intro args w
 unfold chkFn at h
 split at h
 ·rename_i fn hfn
  simp only [Bool.and_eq_true, Bool.not_eq_true'] at h
  obtain ⟨h1, h2⟩ := h
  have h3 : fn.body.isNone = false := by cases hb : fn.body <;> simp_all
  simp only [callFunc, Sem.run_bind, run_program, Result.andThen_ok, hfn, h2, h3, Bool.false_eq_true, if_false, Sem.run_pure]
 ·cases h
def fnsOf (l : List Nat) : Nat → Bool := fun f => l.contains f
theorem chkFns_ok {P : Program} {l : List Nat} (h : (l.all fun f => chkFn P f) = true) : ∀ f, fnsOf l f = true → ∀ args w, (callFunc f args).run P w = .ok (.enter f args) w := by
 intro f hf
 rw [List.all_eq_true] at h
 exact chkFn_ok (h f (by simpa [fnsOf] using hf))
end Go.BE
namespace Go.BE
open Go.RowKit
inductive CT where
 | i (k : IntKind)
 | b
 | d (S : Sh)
def DenT : CT → Type
 | .i _ => Int
 | .b => Bool
 | .d S => Den S
def DenTs : List CT → Type
 | [] => Unit
 | c :: l => DenT c × DenTs l
def cellT : (c : CT) → DenT c → AV
 | .i k, n => .val (.int k n)
 | .b, x => .val (.bool x)
 | .d S, x => .tv S x
def cavT : (l : List CT) → DenTs l → List AV
 | [], _ => []
 | c :: l, x => cellT c x.1 :: cavT l x.2
def avI (k : IntKind) : AV → Option Int
 | .val (.int k' n) => if k' = k then some n else none
 | _ => none
def avB : AV → Option Bool
 | .val (.bool x) => some x
 | _ => none
def avD (S : Sh) : AV → Option (Den S)
 | .tv S' x => castD S' S x
 | _ => none
theorem avI_eq {k : IntKind} {a : AV} {n : Int} (h : avI k a = some n) : a = .val (.int k n) := by
 unfold avI at h
 split at h
 ·split at h
  ·rename_i hk
   subst hk
   injection h with h
   subst h
   rfl
  ·cases h
 ·cases h
theorem avB_eq {a : AV} {b : Bool} (h : avB a = some b) : a = .val (.bool b) := by
 unfold avB at h
 split at h
 ·injection h with h
  subst h
  rfl
 ·cases h
theorem avD_eq {S : Sh} {a : AV} {x : Den S} (h : avD S a = some x) : a = .tv S x := by
 unfold avD at h
 split at h
 ·obtain ⟨e, rfl⟩ := qdz h
  subst e
  rfl
 ·cases h
def lookT : (c : CT) → AV → Option (DenT c)
 | .i k, a => avI k a
 | .b, a => avB a
 | .d S, a => avD S a
def lookTs : (l : List CT) → List AV → Option (DenTs l)
 | [], [] => some ()
 | c :: l, a :: as => match lookT c a, lookTs l as with
  | some x, some y => some (x, y)
  | _, _ => none
 | _, _ => none
def okT : (c : CT) → DenT c → Prop
 | .i k, n => k.has n
 | .b, _ => True
 | .d S, x => okD S x
def okTs : (l : List CT) → DenTs l → Prop
 | [], _ => True
 | c :: l, x => okT c x.1 ∧ okTs l x.2
theorem lookT_eq : ∀ {c : CT} {a : AV} {x : DenT c}, lookT c a = some x → a = cellT c x
 | .i _, _, _, h => avI_eq h
 | .b, _, _, h => avB_eq h
 | .d _, _, _, h => avD_eq h
theorem lookTs_eq : ∀ {l : List CT} {as : List AV} {x : DenTs l}, lookTs l as = some x → as = cavT l x
 | [], [], _, _ => rfl
 | [], _ :: _, _, h => by simp [lookTs] at h
 | _ :: _, [], _, h => by simp [lookTs] at h
 | c :: l, a :: as, x, h => by
  simp only [lookTs] at h
  split at h
  ·rename_i y z h1 h2
   injection h with h
   subst h
   simp only [cavT]
   rw [← lookT_eq h1, ← lookTs_eq h2]
  ·cases h
theorem okT_of : ∀ {c : CT} {x : DenT c}, okAV (cellT c x) → okT c x
 | .i _, _, h => by simpa [cellT, okAV, okT] using h
 | .b, _, _ => trivial
 | .d _, _, h => by simpa [cellT, okAV, okT] using h
theorem okTs_of : ∀ {l : List CT} {x : DenTs l}, okAVs (cavT l x) → okTs l x
 | [], _, _ => trivial
 | _ :: _, _, h => by
  simp only [cavT, okAVs] at h
  exact ⟨okT_of h.1, okTs_of h.2⟩
inductive PIO where
 | c (p : Par)
 | ref (m b : Nat) (S : Sh)
 | sl (m b : Nat) (S : Sh)
 | cl (l : List CT)
 | rc (l m : List CT)
def DenIO : PIO → Type
 | .c p => DenP p
 | .ref _ _ S => Den S
 | .sl _ _ S => List (Den S)
 | .cl l => DenTs l
 | .rc l m => DenTs l × DenTs m
def ArgsIO : List PIO → Type
 | [] => Unit
 | p :: l => DenIO p × ArgsIO l
def ioCells (i : Nat) (cs : List AV) : Root := { cont := .cells cs, cur := i, old := [], fz := false, pend := none }
def ioRoot (i m b : Nat) (S : Sh) (xs : List (Den S)) : Root := { cont := .arr m b S xs, cur := i, old := [], fz := false, pend := none }
def ioAV : (l : List PIO) → Nat → ArgsIO l → List AV
 | [], _, _ => []
 | .c p :: l, i, x => parAV p x.1 :: ioAV l i x.2
 | .ref _ _ _ :: l, i, x => .tref i i [] 0 [] :: ioAV l (i + 1) x.2
 | .sl _ _ _ :: l, i, x => .osl i i [] none :: ioAV l (i + 1) x.2
 | .cl _ :: l, i, x => .ref i 0 :: ioAV l (i + 1) x.2
 | .rc _ _ :: l, i, x => .ref i 0 :: ioAV l (i + 2) x.2
def ioH : (l : List PIO) → Nat → ArgsIO l → Heap
 | [], _, _ => []
 | .c _ :: l, i, x => ioH l i x.2
 | .ref m b S :: l, i, x => (i, ioRoot i m b S [x.1]) :: ioH l (i + 1) x.2
 | .sl m b S :: l, i, x => (i, ioRoot i m b S x.1) :: ioH l (i + 1) x.2
 | .cl c :: l, i, x => (i, ioCells i (cavT c x.1)) :: ioH l (i + 1) x.2
 | .rc c d :: l, i, x => (i, ioCells i (.ref (i + 1) 0 :: cavT d x.1.2)) :: (i + 1, ioCells (i + 1) (cavT c x.1.1)) :: ioH l (i + 2) x.2
def rootD (i m b : Nat) (S : Sh) (R : Root) : Option (List (Den S)) := match R with
 | { cont := .arr m' b' S' xs, cur := c, old := [], fz := false, pend := none } => if m' = m ∧ b' = b ∧ c = i then castD (.sl b' S') (.sl b S) xs else none
 | _ => none
def cellsOf (i : Nat) (R : Root) : Option (List AV) := match R with
 | { cont := .cells cs, cur := c, old := [], fz := false, pend := none } => match Nat.beq c i with
  | true => some cs
  | false => none
 | _ => none
def isCl (i : Nat) : AV → Bool
 | .ref r 0 => r == i
 | _ => false
def rcCells (i : Nat) : List AV → Option (List AV)
 | a :: cs => match isCl (i + 1) a with
  | true => some cs
  | false => none
 | [] => none
def one' {α : Type} : List α → Option α
 | [x] => some x
 | _ => none
def isRef (i : Nat) : AV → Bool
 | .tref r s [] 0 [] => r == i && s == i
 | _ => false
def isSl (i : Nat) : AV → Bool
 | .osl r s [] none => r == i && s == i
 | _ => false
def qgf : (l : List PIO) → Nat → List AV → Heap → Option (ArgsIO l)
 | [], _, [], [] => some ()
 | .c p :: l, i, a :: as, h => if a.closed then (match parD p a, qgf l i as h with
  | some x, some y => some (x, y)
  | _, _ => none) else none
 | .ref m b S :: l, i, a :: as, x :: h => if isRef i a && x.1 == i then (match (rootD i m b S x.2).bind one', qgf l (i + 1) as h with
  | some x, some y => some (x, y)
  | _, _ => none) else none
 | .sl m b S :: l, i, a :: as, x :: h => if isSl i a && x.1 == i then (match rootD i m b S x.2, qgf l (i + 1) as h with
  | some x, some y => some (x, y)
  | _, _ => none) else none
 | .cl c :: l, i, a :: as, x :: h => if isCl i a && x.1 == i then (match (cellsOf i x.2).bind (lookTs c), qgf l (i + 1) as h with
  | some x, some y => some (x, y)
  | _, _ => none) else none
 | .rc c d :: l, i, a :: as, x :: y :: h => if isCl i a && x.1 == i && y.1 == i + 1 then (match ((cellsOf i x.2).bind (rcCells i)).bind (lookTs d), (cellsOf (i + 1) y.2).bind (lookTs c), qgf l (i + 2) as h with
  | some u, some v, some z => some ((v, u), z)
  | _, _, _ => none) else none
 | _, _, _, _ => none
def okIO : (l : List PIO) → ArgsIO l → Prop
 | [], _ => True
 | .c p :: l, x => okP p x.1 ∧ okIO l x.2
 | .ref _ _ S :: l, x => okD S x.1 ∧ okIO l x.2
 | .sl _ b S :: l, x => (room b (List.length (α := Den S) x.1) ∧ ∀ y ∈ (show List (Den S) from x.1), okD S y) ∧ okIO l x.2
 | .cl c :: l, x => okTs c x.1 ∧ okIO l x.2
 | .rc c d :: l, x => (okTs c x.1.1 ∧ okTs d x.1.2) ∧ okIO l x.2
structure ConIO where
 ps : List PIO
 pre : ArgsIO ps → Prop
 res : ArgsIO ps → AV
 roots : ArgsIO ps → List (Nat × Root)
def ConIO.spec (s : ConIO) (args : List AV) (h : Heap) : Option SRes := match qgf s.ps 1 args h with
 | some x => some ⟨s.pre x, s.res x, s.roots x, none⟩
 | none => none
section
variable {E : Ctx} {w w' w0 : World} {Z Z' : Nat → Prop} {K : Kp} {own own' : Own} {γ γ' : Gst} {h h' : Heap} {used used' : Nat → Prop} {a A B : AV} {v V : Value} {cs ds : List AV} {vs us : List Value}
theorem rootD_eq {i m b : Nat} {S : Sh} {R : Root} {xs : List (Den S)} (h : rootD i m b S R = some xs) : R = ioRoot i m b S xs := by
 unfold rootD at h
 split at h
 ·rename_i m' b' S' xs' c
  split at h
  ·rename_i hc
   obtain ⟨rfl, rfl, rfl⟩ := hc
   obtain ⟨e, rfl⟩ := qdz h
   injection e with _ e
   subst e
   rfl
  ·cases h
 ·cases h
theorem isRef_eq {i : Nat} (h : isRef i a = true) : a = .tref i i [] 0 [] := by
 unfold isRef at h
 split at h
 ·simp only [Bool.and_eq_true, beq_iff_eq] at h
  rw [h.1, h.2]
 ·cases h
theorem isSl_eq {i : Nat} (h : isSl i a = true) : a = .osl i i [] none := by
 unfold isSl at h
 split at h
 ·simp only [Bool.and_eq_true, beq_iff_eq] at h
  rw [h.1, h.2]
 ·cases h
theorem cellsOf_eq {i : Nat} {R : Root} {cs : List AV} (h : cellsOf i R = some cs) : R = ioCells i cs := by
 unfold cellsOf at h
 split at h
 ·split at h
  ·rename_i hc
   have hc := Nat.eq_of_beq_eq_true hc
   subst hc
   injection h with h
   subst h
   rfl
  ·cases h
 ·cases h
theorem isCl_eq {i : Nat} (h : isCl i a = true) : a = .ref i 0 := by
 unfold isCl at h
 split at h
 ·rw [beq_iff_eq] at h
  rw [h]
 ·cases h
theorem rcCells_eq {i : Nat} {as cs : List AV} (h : rcCells i as = some cs) : as = .ref (i + 1) 0 :: cs := by
 unfold rcCells at h
 split at h
 ·split at h
  ·rename_i hc
   injection h with h
   subst h
   rw [isCl_eq hc]
  ·cases h
 ·cases h
theorem one'_eq {α : Type} {l : List α} {x : α} (h : one' l = some x) : l = [x] := by
 unfold one' at h
 split at h
 ·injection h with h
  subst h
  rfl
 ·cases h
theorem ioLook_sound : ∀ {l : List PIO} {i : Nat} {cs : List AV} {vs : List Value} {h : Heap} {x : ArgsIO l}, qgf l i cs h = some x → VRs w Z γ cs vs → VRs w Z γ (ioAV l i x) vs ∧ h = ioH l i x := by
 intro l
 induction l with
 | nil =>
  intro i cs vs h x he hv
  cases cs with
  | nil =>
   cases h with
   | nil => exact ⟨hv, rfl⟩
   | cons => simp [qgf] at he
  | cons => simp [qgf] at he
 | cons p l ih =>
  intro i cs vs h x he hv
  cases cs with
  | nil => cases p <;> simp [qgf] at he
  | cons a cs =>
   cases vs with
   | nil => simp [VRs] at hv
   | cons v vs =>
    cases p with
    | c p =>
     simp only [qgf] at he
     split at he
     ·rename_i hcl
      split at he
      ·rename_i y z hy hz
       injection he with he
       subst he
       obtain ⟨q1, q2⟩ := ih hz hv.tail
       exact ⟨.cons (.cr (parD_sound hy (hv.head.toCR hcl))) q1, q2⟩
      ·cases he
     ·cases he
    | ref m b S =>
     cases h with
     | nil => simp [qgf] at he
     | cons R h =>
      obtain ⟨j, R⟩ := R
      simp only [qgf] at he
      split at he
      ·rename_i hc
       simp only [Bool.and_eq_true, beq_iff_eq] at hc
       obtain ⟨hc, rfl⟩ := hc
       split at he
       ·rename_i y z hy hz
        injection he with he
        subst he
        obtain ⟨q1, q2⟩ := ih hz hv.tail
        obtain ⟨ys, hys, hy1⟩ := Option.bind_eq_some_iff.1 hy
        have e1 := rootD_eq hys
        rw [one'_eq hy1] at e1
        have e2 := isRef_eq hc
        subst e2
        refine ⟨.cons hv.head q1, ?_⟩
        simp only [ioH]
        rw [← q2, ← e1]
       ·cases he
      ·cases he
    | sl m b S =>
     cases h with
     | nil => simp [qgf] at he
     | cons R h =>
      obtain ⟨j, R⟩ := R
      simp only [qgf] at he
      split at he
      ·rename_i hc
       simp only [Bool.and_eq_true, beq_iff_eq] at hc
       obtain ⟨hc, rfl⟩ := hc
       split at he
       ·rename_i y z hy hz
        injection he with he
        subst he
        obtain ⟨q1, q2⟩ := ih hz hv.tail
        have e1 := rootD_eq hy
        have e2 := isSl_eq hc
        subst e2
        refine ⟨.cons hv.head q1, ?_⟩
        simp only [ioH]
        rw [← q2, ← e1]
       ·cases he
      ·cases he
    | cl c =>
     cases h with
     | nil => simp [qgf] at he
     | cons R h =>
      obtain ⟨j, R⟩ := R
      simp only [qgf] at he
      split at he
      ·rename_i hc
       simp only [Bool.and_eq_true, beq_iff_eq] at hc
       obtain ⟨hc, rfl⟩ := hc
       split at he
       ·rename_i y z hy hz
        injection he with he
        subst he
        obtain ⟨q1, q2⟩ := ih hz hv.tail
        obtain ⟨cs', hcs, hx⟩ := Option.bind_eq_some_iff.1 hy
        have e1 := cellsOf_eq hcs
        rw [lookTs_eq hx] at e1
        have e2 := isCl_eq hc
        subst e2
        refine ⟨.cons hv.head q1, ?_⟩
        simp only [ioH]
        rw [← q2, ← e1]
       ·cases he
      ·cases he
    | rc c d =>
     match h, he with
     | [], he => simp [qgf] at he
     | [_], he => simp [qgf] at he
     | (j, R) :: (j', R') :: h, he =>
      simp only [qgf] at he
      split at he
      ·rename_i hc
       simp only [Bool.and_eq_true, beq_iff_eq] at hc
       obtain ⟨⟨hc, rfl⟩, rfl⟩ := hc
       split at he
       ·rename_i u y z hu hy hz
        injection he with he
        subst he
        obtain ⟨q1, q2⟩ := ih hz hv.tail
        obtain ⟨cs1, hcs1, hx1⟩ := Option.bind_eq_some_iff.1 hu
        obtain ⟨cs0, hcs0, hx0⟩ := Option.bind_eq_some_iff.1 hcs1
        obtain ⟨cs2, hcs2, hx2⟩ := Option.bind_eq_some_iff.1 hy
        have e0 := cellsOf_eq hcs0
        rw [rcCells_eq hx0, lookTs_eq hx1] at e0
        have e1 := cellsOf_eq hcs2
        rw [lookTs_eq hx2] at e1
        have e2 := isCl_eq hc
        subst e2
        refine ⟨.cons hv.head q1, ?_⟩
        simp only [ioH]
        rw [← q2, ← e1, ← e0]
       ·cases he
      ·cases he
theorem okIO_of : ∀ {l : List PIO} {i : Nat} {x : ArgsIO l}, okAVs (ioAV l i x) → okHeap (ioH l i x) → okIO l x
 | [], _, _, _, _ => trivial
 | .c _ :: _, _, _, h, k => ⟨okAV_par h.1, okIO_of h.2 k⟩
 | .ref _ _ _ :: _, _, x, h, k => ⟨k.1.2 x.1 (List.mem_cons_self), okIO_of h.2 k.2⟩
 | .sl _ _ _ :: _, _, _, h, k => ⟨k.1, okIO_of h.2 k.2⟩
 | .cl _ :: _, _, _, h, k => ⟨okTs_of k.1, okIO_of h.2 k.2⟩
 | .rc _ _ :: _, _, _, h, k => ⟨⟨okTs_of k.2.1, okTs_of k.1.2⟩, okIO_of h.2 k.2.2⟩
def startIO (E : Ctx) (f : FuncId) (ps : List PIO) (l : List Pin) (x : ArgsIO ps) : Cfg := { cur := (enter E f (ioAV ps 1 x)).getD { fn := 0, todo := [], fr := [] }, callers := [], h := (0, qfx l) :: ioH ps 1 x, nx := 16 }
def qbg (E : Ctx) (f : FuncId) (ns : List Nat) (s : List AV → Heap → Option SRes) : Prop := ∀ args h r, s args h = some r → r.pre → ∀ l, PinsOf ns h l → ∀ (w0 : World) (K : Kp) (w : World) (Z : Nat → Prop) (own : Own) (γ : Gst) (vs : List Value), GlR E w Z →
 MemR w0 K w Z own γ ((0, qfx l) :: h) (fun s => s < 16) → VRs w Z γ args vs →
 Calls E.P f vs.toArray w fun e w' => ∃ v Z' own' γ', e = .returned v ∧ Stay w Z w' Z' ∧ MemR w0 K w' Z' own' γ' ((0, qfx l) :: r.roots) (fun s => s < 16) ∧ VR w' Z' γ' r.res v
theorem qft : ∀ {l : List PIO} {i j : Nat} {x : ArgsIO l} {R : Root}, (j, R) ∈ ioH l i x → i ≤ j
 | [], _, _, _, _, h => by cases h
 | .c _ :: l, _, _, x, _, h => qft (l := l) (x := x.2) h
 | .ref .. :: l, i, j, x, _, h => by
  rcases List.mem_cons.1 h with e | h
  ·injection e with e1 _
   omega
  ·have := qft (l := l) (x := x.2) h
   omega
 | .sl .. :: l, i, j, x, _, h => by
  rcases List.mem_cons.1 h with e | h
  ·injection e with e1 _
   omega
  ·have := qft (l := l) (x := x.2) h
   omega
 | .cl _ :: l, i, j, x, _, h => by
  rcases List.mem_cons.1 h with e | h
  ·injection e with e1 _
   omega
  ·have := qft (l := l) (x := x.2) h
   omega
 | .rc .. :: l, i, j, x, _, h => by
  rcases List.mem_cons.1 h with e | h
  ·injection e with e1 _
   omega
  ·rcases List.mem_cons.1 h with e | h
   ·injection e with e1 _
    omega
   ·have := qft (l := l) (x := x.2) h
    omega
theorem ioH_get : ∀ {l : List PIO} {i j : Nat} {x : ArgsIO l} {R : Root}, (j, R) ∈ ioH l i x → hget (ioH l i x) j = some R
 | [], _, _, _, _, h => by cases h
 | .c _ :: l, _, _, x, _, h => ioH_get (l := l) (x := x.2) h
 | .ref .. :: l, i, j, x, _, h => by
  simp only [ioH, hget]
  rcases List.mem_cons.1 h with e | h
  ·injection e with e1 e2
   subst e1; subst e2
   simp
  ·have := qft (l := l) (x := x.2) h
   rw [if_neg (by omega)]
   exact ioH_get (l := l) (x := x.2) h
 | .sl .. :: l, i, j, x, _, h => by
  simp only [ioH, hget]
  rcases List.mem_cons.1 h with e | h
  ·injection e with e1 e2
   subst e1; subst e2
   simp
  ·have := qft (l := l) (x := x.2) h
   rw [if_neg (by omega)]
   exact ioH_get (l := l) (x := x.2) h
 | .cl _ :: l, i, j, x, _, h => by
  simp only [ioH, hget]
  rcases List.mem_cons.1 h with e | h
  ·injection e with e1 e2
   subst e1; subst e2
   simp
  ·have := qft (l := l) (x := x.2) h
   rw [if_neg (by omega)]
   exact ioH_get (l := l) (x := x.2) h
 | .rc .. :: l, i, j, x, _, h => by
  simp only [ioH, hget]
  rcases List.mem_cons.1 h with e | h
  ·injection e with e1 e2
   subst e1; subst e2
   simp
  ·rcases List.mem_cons.1 h with e | h
   ·injection e with e1 e2
    subst e1; subst e2
    rw [if_neg (by omega)]
    simp
   ·have := qft (l := l) (x := x.2) h
    rw [if_neg (by omega), if_neg (by omega)]
    exact ioH_get (l := l) (x := x.2) h
theorem spec_ofIO {f : FuncId} {s : ConIO} {ns : List Nat} (h : ∀ x l, okIO s.ps x → s.pre x → PinsOf ns (ioH s.ps 1 x) l → (enter E f (ioAV s.ps 1 x)).isSome = true ∧ Runs E (startIO E f s.ps l x) fun v h => v = s.res x ∧ h = (0, qfx l) :: s.roots x) : qbg E f ns s.spec := by
 intro args hh r hs hp l hl w0 K w Z own γ vs hg hm hvs
 unfold ConIO.spec at hs
 split at hs
 ·rename_i x hx
  injection hs with hs
  subst hs
  obtain ⟨hv, rfl⟩ := ioLook_sound hx hvs
  have hok : okHeap (ioH s.ps 1 x) := okHeap_of fun j R hmem => by
   have hj := qft hmem
   refine (hm.root j R ?_).ok
   simp only [hget]
   rw [if_neg (by omega)]
   exact ioH_get hmem
  obtain ⟨h1, h2⟩ := h x l (okIO_of hv.ok hok) hp hl
  intro cs
  cases he : enter E f (ioAV s.ps 1 x) with
  | none => rw [he] at h1; cases h1
  | some F =>
   obtain ⟨b, e1, e2, e3⟩ := enter_ok he hv
   have hS : StOK E w0 K (startIO E f s.ps l x) b [] w Z own γ := by
    refine ⟨?_, trivial, hm, hg⟩
    simp only [startIO, he, Option.getD_some]
    exact e2
   obtain ⟨A, hh, ⟨rfl, rfl⟩, V, w', Z', own', γ', fr, k1, k2, k3, k4, k5, k6⟩ := h2.ends w0 K cs b [] w Z _ _ hS
   refine ⟨.returned V, w', fr, ⟨V, Z', own', γ', rfl, k2, k3, k1⟩, ?_, ?_, k6⟩
   ·rw [e1]
    have : mkF (startIO E f s.ps l x).cur b = mkF F b := by simp [startIO, he]
    rw [← this]
    exact k4
   ·rw [k5]
    simp [startIO, he, botFn, e3]
 ·cases hs
def ioOf : List (FuncId × List Nat × (List AV → Heap → Option SRes)) → FuncId → List AV → Heap → Option SRes
 | [], _, _, _ => none
 | (f, _, s) :: l, g, args, h => if f = g then s args h else ioOf l g args h
def ioPinOf : List (FuncId × List Nat × (List AV → Heap → Option SRes)) → FuncId → List Nat
 | [], _ => []
 | (f, ns, _) :: l, g => if f = g then ns else ioPinOf l g
theorem ioOK_of {l : List (FuncId × List Nat × (List AV → Heap → Option SRes))} (he : E.io = ioOf l) (hp : E.iopin = ioPinOf l) (h : ∀ x ∈ l, qbg E x.1 x.2.1 x.2.2) : IoOK E := by
 intro f args hh r hr
 rw [he] at hr
 rw [hp]
 clear he hp
 induction l with
 | nil => simp [ioOf] at hr
 | cons x l ih =>
  simp only [ioOf] at hr
  simp only [ioPinOf]
  split at hr
  ·rename_i hf
   subst hf
   rw [if_pos rfl]
   exact h x List.mem_cons_self args hh r hr
  ·rename_i hf
   rw [if_neg hf]
   exact ih (fun y hy => h y (List.mem_cons_of_mem _ hy)) hr
def startH (E : Ctx) (f : FuncId) (args : List AV) (l : List Pin) (h : Heap) : Cfg := { cur := (enter E f args).getD { fn := 0, todo := [], fr := [] }, callers := [], h := (0, qfx l) :: h, nx := 16 }
theorem pins1 {m b : Nat} {S : Sh} {xs : List (Den S)} {l : List Pin} (h : PinsOf [1] [(1, ioRoot 1 m b S xs)] l) : ∃ hd, l = [.g 1 1 hd] := by
 simp only [PinsOf, ioRoot] at h
 rw [if_pos (by rfl)] at h
 obtain ⟨hd, l', rfl, rfl⟩ := h
 exact ⟨hd, rfl⟩
abbrev IoT := FuncId × List Nat × (List AV → Heap → Option SRes)
def iokOf : List (FuncId × List Bool) → FuncId → Option (List Bool)
 | [], _ => none
 | (f, bs) :: l, g => match Nat.beq f g with | true => some bs | false => iokOf l g
end
end Go.BE
namespace Go.BE
def loopsC : Code → List Item → List (List Item)
 | .seq a b, k => loopsC a (.code b :: k) ++ loopsC b k
 | .cond _ a b, k => loopsC a k ++ loopsC b k
 | .block id a, k => loopsC a (.inBlock id :: k)
 | .loop a, k => (.code a :: .inLoop a :: k) :: loopsC a (.inLoop a :: k)
 | .scope a, k => loopsC a (.inScope a :: k)
 | .rangeFunc _ _ a b, _ => loopsC a [.beginRound, .code b] ++ loopsC b []
 | _, _ => []
def headOf (ix : Nat) : List (List Item) → List Item
 | [] => []
 | t :: l => if loopIx t = ix then t else headOf ix l
def avlook : List (Nat × AV) → Nat → AV
 | [], _ => .bad
 | (k, a) :: l, t => if k = t then a else avlook l t
def mkFr (l : List (Nat × AV)) : Nat → Nat → List AV
 | 0, _ => []
 | n + 1, i => avlook l i :: mkFr l n (i + 1)
def hcfg (E : Ctx) (f : FuncId) (ix : Nat) (fr : List (Nat × AV)) (h : Heap) (nx : Nat) : Cfg :=
 match E.P.funcs[f]? with
 | some fn => { cur := { fn := f, todo := headOf ix ((fn.body.map fun c => loopsC c []).getD []), fr := mkFr fr fn.ntmps 0 }, callers := [], h := h, nx := nx }
 | none => { cur := { fn := f, todo := [], fr := [] }, callers := [], h := h, nx := nx }
def sigEq : List (Nat × Nat) → List (Nat × Nat) → Bool
 | [], [] => true
 | (a, b) :: l, (c, d) :: m => Nat.beq a c && Nat.beq b d && sigEq l m
 | _, _ => false
abbrev CutL := List (List (Nat × Nat) × Nat × Nat × List Nat × List (Wh × Fx) × List (List Nat))
def cutOf : CutL → List (Nat × Nat) → FuncId → Nat → List Nat × List (Wh × Fx) × List (List Nat)
 | [], _, _, _ => ([], [], [])
 | (s', f', ix', x) :: l, s, f, ix => match Nat.beq f' f && Nat.beq ix' ix && sigEq s' s with
  | true => x
  | false => cutOf l s f ix
def retsO (ops : Array Oper) (k : List Item) : List Nat → List (List Item)
 | [] => []
 | i :: l => match ops[i]? with
  | some { op := .call _, .. } => (.inRegion ops (i :: l) :: k) :: retsO ops k l
  | _ => retsO ops k l
def retsC : Code → List Item → List (List Item)
 | .seq a b, k => retsC a (.code b :: k) ++ retsC b k
 | .cond _ a b, k => retsC a k ++ retsC b k
 | .block id a, k => retsC a (.inBlock id :: k)
 | .loop a, k => retsC a (.inLoop a :: k)
 | .scope a, k => retsC a (.inScope a :: k)
 | .rangeFunc _ _ a b, _ => retsC a [.beginRound, .code b] ++ retsC b []
 | .region _ ops _, k => retsO ops k (List.range ops.size)
 | _, _ => []
def rngsC : Code → List Item → List (Array Tmp × Code × Code × List Item)
 | .seq a b, k => rngsC a (.code b :: k) ++ rngsC b k
 | .cond _ a b, k => rngsC a k ++ rngsC b k
 | .block id a, k => rngsC a (.inBlock id :: k)
 | .loop a, k => rngsC a (.inLoop a :: k)
 | .scope a, k => rngsC a (.inScope a :: k)
 | .rangeFunc _ ps a b, k => (ps, a, b, k) :: (rngsC a [.beginRound, .code b] ++ rngsC b [])
 | _, _ => []
def cfr (E : Ctx) (f : FuncId) (n : Nat) (fr : List (Nat × AV)) : AFr :=
 match E.P.funcs[f]? with
 | some fn => { fn := f, todo := ((fn.body.map fun c => retsC c []).getD []).getD n [], fr := mkFr fr fn.ntmps 0 }
 | none => { fn := f, todo := [], fr := [] }
def cfrr (E : Ctx) (f : FuncId) (n : Nat) (fr : List (Nat × AV)) (r : Nat) (R : RgL) : AFr :=
 match E.P.funcs[f]? with
 | some fn => match ((fn.body.map fun c => rngsC c []).getD [])[n]? with
  | some (ps, a, b, k) => { fn := f, todo := .inRangeFunc R.l :: k, fr := mkFr fr fn.ntmps 0, rng := some { r := r, R := R, params := ps, assign := a, body := b } }
  | none => { fn := f, todo := [], fr := [] }
 | none => { fn := f, todo := [], fr := [] }
def AFr.wx (F : AFr) (rnd : Option (Option Nat × RgL)) (marks : List (Option Nat × RgL)) : AFr := { F with rnd := rnd, marks := marks }
def Cfg.wx (c : Cfg) (rnd : Option (Option Nat × RgL)) (marks : List (Option Nat × RgL)) : Cfg := { c with cur := c.cur.wx rnd marks }
def hcfgx (E : Ctx) (f : FuncId) (ix : Nat) (fr : List (Nat × AV)) (h : Heap) (nx : Nat) (cs : List AFr) : Cfg := { hcfg E f ix fr h nx with callers := cs }
abbrev iOf (k : IntKind) (x : Den (.int k)) : Int := x
abbrev bOf (x : Den .bool) : Bool := x
abbrev tOf (x : Den .str) : ByteArray := x
abbrev oL (S : Sh) (x : Den (.ptr S)) : List (Den S) := Option.toList x
abbrev oH (S : Sh) (l : List (Den S)) : Den (.ptr S) := List.head? l
abbrev oG (S : Sh) (x : Den (.ptr S)) : Den S := Option.getD x (dz S)
abbrev oN (S : Sh) (x : Den (.ptr S)) : Bool := Option.isNone x
theorem qap {α : Type} {Q : α → Prop} {b : Bool} {t e : Tre α} (h1 : b = true → t.wp Q) (h2 : b = false → e.wp Q) : (cond b t e).wp Q := by
 cases b with
 | true => exact h1 rfl
 | false => exact h2 rfl
theorem wp_iff {α : Type} {Q : α → Prop} {b : Bool} {t e : Tre α} : (cond b t e).wp Q ↔ (b = true → t.wp Q) ∧ (b = false → e.wp Q) := by
 cases b <;> simp
theorem chk_iff {α : Type} {Q : α → Prop} {C : Prop} {t : Tre α} : (Tre.chk C t).wp Q ↔ C ∧ (C → t.wp Q) := Iff.rfl
theorem know_iff {α : Type} {Q : α → Prop} {C : Prop} {t : Tre α} : (Tre.know C t).wp Q ↔ (C → t.wp Q) := Iff.rfl
theorem any_iff {α : Type} {Q : α → Prop} {p : Bool → Prop} {k : Bool → Tre α} : (Tre.any p k).wp Q ↔ ∀ b, p b → (k b).wp Q := Iff.rfl
theorem RunsP.tree {E : Ctx} {H : Hints} {f : FuncId} {n : Nat} {c : Cfg} {T : Tre Leaf} {Q : AV → Heap → Prop} {N : AV → Prop} (hE : EOK E) (h : run E H f n c = T) (hw : T.wp (contP E Q N)) : RunsP E c Q N := RunsP.of_run hE (h ▸ hw)
theorem Runs.tree {E : Ctx} {H : Hints} {f : FuncId} {n : Nat} {c : Cfg} {T : Tre Leaf} {Q : AV → Heap → Prop} (hE : EOK E) (h : run E H f n c = T) (hw : T.wp (contL E Q)) : Runs E c Q := Runs.of_run hE (h ▸ hw)
end Go.BE
namespace Go.BE
abbrev I : Sh := .int .i64
abbrev z (x : Den (.int .i64)) : Int := x
def ln (S : Sh) (l : List (Den S)) : Nat := l.length
def gd (S : Sh) (l : List (Den S)) (i : Nat) : Den S := l.getD i (dz S)
def ap (S : Sh) (l m : List (Den S)) : List (Den S) := l ++ m
def st (S : Sh) (l : List (Den S)) (i : Nat) (x : Den S) : List (Den S) := l.set i x
def ls (S : Sh) (l m : List (Den S)) (o : Nat) : List (Den S) := lset l m o
abbrev vi (n : Int) : AV := .val (.int .i64 n)
abbrev vb (b : Bool) : AV := .val (.bool b)
abbrev vs (s : ByteArray) : AV := .val (.string s)
abbrev hd (c : Cfg) : Tre Leaf := .ok (.head c)
abbrev rt (v : AV) (h : Heap) : Tre Leaf := .ok (.ret v h)
abbrev bvand (k : IntKind) (a b : Int) : Int := ((BitVec.ofInt k.bits a &&& BitVec.ofInt k.bits b).toNat : Int)
abbrev bvor (k : IntKind) (a b : Int) : Int := ((BitVec.ofInt k.bits a ||| BitVec.ofInt k.bits b).toNat : Int)
abbrev bvandn (k : IntKind) (a b : Int) : Int := ((BitVec.ofInt k.bits a &&& ~~~(BitVec.ofInt k.bits b)).toNat : Int)
theorem rt_iff {E : Ctx} {Q : AV → Heap → Prop} {v : AV} {h : Heap} : (rt v h).wp (contL E Q) ↔ Q v h := Iff.rfl
theorem hd_iff {E : Ctx} {Q : AV → Heap → Prop} {c : Cfg} : (hd c).wp (contL E Q) ↔ Runs E c Q := Iff.rfl
theorem bne_t {a b : Int} (h : (a != b) = true) : a ≠ b := by simpa using h
theorem bne_f {a b : Int} (h : (a != b) = false) : a = b := by simpa using h
theorem lt01 : ((0 : Nat) < 1) = True := by simp
theorem qes {n : Nat} {P : Nat → Prop} (h0 : P n) (hs : ∀ i, i < n → P (i + 1) → P i) : ∀ i, i ≤ n → P i := fun i hi => by
 obtain ⟨k, rfl⟩ : ∃ k, n = i + k := ⟨n - i, by omega⟩
 clear hi
 induction k generalizing i with
 | zero => exact h0
 | succ k ih => exact hs i (by omega) (ih (i + 1) (by rwa [show i + 1 + k = i + (k + 1) by omega]) (fun j hj => hs j (by omega)))
theorem wrap64 (s : Int) (h1 : -9223372036854775808 ≤ s) (h2 : s ≤ 9223372036854775807) : IntKind.wrap .i64 s = s := by
 simp only [IntKind.wrap, IntKind.bits, IntKind.signed, Bool.true_and]
 split <;> rename_i h <;> simp only [ge_iff_le, decide_eq_true_eq] at h <;> omega
theorem wrapS {i n : Nat} (hi : i < n) (h : n < 9223372036854775807) : IntKind.wrap .i64 ((i : Int) + 1) = ((i + 1 : Nat) : Int) := wrap64 _ (by omega) (by omega)
theorem qbz {S : Sh} {l : List (Den S)} {i : Nat} (h : i < ln S l) : l.drop i = gd S l i :: l.drop (i + 1) := by
 rw [List.drop_eq_getElem_cons h]
 congr 1
 unfold gd
 rw [List.getD_eq_getElem?_getD, List.getElem?_eq_getElem h]
 rfl
theorem qcf {S : Sh} {l : List (Den S)} : l.drop (ln S l) = [] := List.drop_length
theorem ln_ap {S : Sh} {l m : List (Den S)} : ln S (ap S l m) = ln S l + ln S m := List.length_append
theorem st_gd {S : Sh} {l : List (Den S)} {i : Nat} : st S l i (gd S l i) = l := by
 unfold st gd
 refine List.ext_getElem? fun j => ?_
 rw [List.getElem?_set]
 split
 ·rename_i h
  subst h
  split
  ·rename_i h
   rw [List.getD_eq_getElem?_getD, List.getElem?_eq_getElem h]
   rfl
  ·rename_i h
   rw [List.getElem?_eq_none (by omega)]
 ·rfl
theorem gd_st {S : Sh} {l : List (Den S)} {i : Nat} {x : Den S} (h : i < ln S l) : gd S (st S l i x) i = x := by
 unfold st gd
 have h : i < l.length := h
 rw [List.getD_eq_getElem?_getD, List.getElem?_set]
 simp only [if_true, h]
 rfl
theorem st_st {S : Sh} {l : List (Den S)} {i : Nat} {x y : Den S} : st S (st S l i x) i y = st S l i y := List.set_set ..
theorem ln_st {S : Sh} {l : List (Den S)} {i : Nat} {x : Den S} : ln S (st S l i x) = ln S l := List.length_set ..
theorem ok_gd {b : Nat} {S : Sh} {l : List (Den S)} {i : Nat} (h : okD (.sl b S) l) (hi : i < ln S l) : okD S (gd S l i) := by
 refine h.2 _ ?_
 unfold gd
 rw [List.getD_eq_getElem?_getD, List.getElem?_eq_getElem hi]
 exact List.getElem_mem hi
theorem qdm {b n : Nat} (h : room b n) : n < 9223372036854775807 := by
 have := h.2
 unfold roomB at this
 omega
def slook : List (Nat × Nat) → Nat → Nat
 | [], _ => 0
 | (k, v) :: l, t => if k = t then v else slook l t
def siteOf (tr : Tr (List (Nat × Nat))) (f t : Nat) : Nat := match tr.get f with
 | some l => slook l t
 | none => 0
def ownR (d : Nat) : (S : Sh) → Den S → Nat → List AV × List (Nat × Root)
 | .pair a b, x, n => ((ownR d a x.1 n).1 ++ (ownR d b x.2 (n + (ownR d a x.1 n).2.length)).1, (ownR d a x.1 n).2 ++ (ownR d b x.2 (n + (ownR d a x.1 n).2.length)).2)
 | .sl b a, x, n => ([.osl n n [] none], [(n, qcy n (.arr (min d a.dep) b a x))])
 | S, x, _ => (qeu S x, [])
def ownRes (d : Nat) : (S : Sh) → Den S → AV × List (Nat × Root)
 | .pair a b, x => (.agg (ownR d (.pair a b) x 0).1, (ownR d (.pair a b) x 0).2)
 | .sl b a, x => (.osl 0 0 [] none, [(0, qcy 0 (.arr (min d a.dep) b a x))])
 | S, x => (avOf S x, [])
def conO (d : Nat) (ps : List Par) (R : Sh) (pre : Args ps → Prop) (f : Args ps → Den R) : Con := ⟨ps, pre, fun x => (ownRes d R (f x)).1, fun x => (ownRes d R (f x)).2⟩
def Qv {α : Type} (E : Ctx) (f : α → AV) (x : α) : Leaf → Prop := contL E fun r h => r = f x ∧ h = []
theorem wp_both {α β : Type} {Q : β → α → Prop} {b : Bool} {t e : Tre α} {x y : β} (h1 : b = true → t.wp (Q x)) (h2 : b = false → e.wp (Q y)) : (cond b t e).wp (Q (cond b x y)) := by
 cases b
 ·exact h2 rfl
 ·exact h1 rfl
set_option linter.defProp false
def sS := (And.intro @wp_iff (And.intro @chk_iff (And.intro @know_iff (And.intro @any_iff (And.intro @rt_iff (And.intro @hd_iff (And.intro @true_imp_iff (And.intro @true_and (And.intro @and_true (And.intro @and_self @lt01))))))))))
def sL := (And.intro @Int.ofNat_lt (And.intro @Int.ofNat_le (And.intro @Int.natCast_nonneg (And.intro @Int.toNat_natCast (And.intro @decide_true (And.intro @decide_false (And.intro @Bool.true_eq_false (And.intro @Bool.false_eq_true (And.intro @false_imp_iff (And.intro @Nat.lt_irrefl (And.intro @imp_self @implies_true.{0})))))))))))
end Go.BE
namespace Go.BE
def denBL {α : Type} (e : α → α → Bool) : List α → List α → Bool
 | [], [] => true
 | a :: l, b :: m => e a b && denBL e l m
 | _, _ => false
def denBO {α : Type} (e : α → α → Bool) : Option α → Option α → Bool
 | none, none => true
 | some a, some b => e a b
 | _, _ => false
def denBV {α : Type} (e : α → α → Bool) : (n : Nat) → DenV α n → DenV α n → Bool
 | 0, _, _ => true
 | n + 1, x, y => e x.1 y.1 && denBV e n x.2 y.2
def denB : (S : Sh) → Den S → Den S → Bool
 | .int _, x, y => decide (x = (y : Int))
 | .bool, x, y => x == (y : Bool)
 | .str, x, y => decide (x.data.toList = (y : ByteArray).data.toList)
 | .unit, _, _ => true
 | .pair a b, x, y => denB a x.1 y.1 && denB b x.2 y.2
 | .arr n a, x, y => denBV (denB a) n x y
 | .sl _ a, x, y => denBL (denB a) x y
 | .ptr a, x, y => denBO (denB a) x y
theorem denBL_eq {α : Type} {e : α → α → Bool} (h : ∀ a b, e a b = true → a = b) : ∀ {l m : List α}, denBL e l m = true → l = m
 | [], [], _ => rfl
 | a :: l, b :: m, hb => by
  simp only [denBL, Bool.and_eq_true] at hb
  rw [h _ _ hb.1, denBL_eq h hb.2]
 | [], _ :: _, hb => by cases hb
 | _ :: _, [], hb => by cases hb
theorem denBV_eq {α : Type} {e : α → α → Bool} (h : ∀ a b, e a b = true → a = b) : ∀ {n : Nat} {x y : DenV α n}, denBV e n x y = true → x = y
 | 0, (), (), _ => rfl
 | n + 1, (a, x), (b, y), hb => by
  simp only [denBV, Bool.and_eq_true] at hb
  rw [h _ _ hb.1, denBV_eq h hb.2]
theorem denB_eq : ∀ {S : Sh} {x y : Den S}, denB S x y = true → x = y := by
 intro S
 induction S with
 | int k => exact fun h => of_decide_eq_true h
 | bool => exact fun h => beq_iff_eq.1 h
 | str =>
  intro x y h
  have := Array.ext' (of_decide_eq_true h)
  cases x; cases y
  simp only at this
  rw [this]
 | unit => exact fun _ => rfl
 | pair a b iha ihb =>
  intro x y h
  simp only [denB, Bool.and_eq_true] at h
  exact Prod.ext (iha h.1) (ihb h.2)
 | arr n a ih => exact fun h => denBV_eq (fun _ _ => ih) h
 | sl b a ih => exact fun h => denBL_eq (fun _ _ => ih) h
 | ptr a ih =>
  intro x y h
  cases x <;> cases y
  ·rfl
  ·cases h
  ·cases h
  ·exact congrArg some (ih h)
def capsB : (l : List Sh) → DenL l → DenL l → Bool
 | [], _, _ => true
 | S :: l, x, y => denB S x.1 y.1 && capsB l x.2 y.2
theorem capsB_eq : ∀ {l : List Sh} {x y : DenL l}, capsB l x y = true → x = y
 | [], (), (), _ => rfl
 | S :: l, (a, x), (b, y), h => by
  simp only [capsB, Bool.and_eq_true] at h
  rw [denB_eq h.1, capsB_eq h.2]
def parB : (p : Par) → DenP p → DenP p → Bool
 | .d S, x, y => denB S x y
 | .cap S, x, y => denB S x y
 | .fn _ l, x, y => capsB l x y
 | .capfn _ l, x, y => capsB l x y
theorem parB_eq : ∀ {p : Par} {x y : DenP p}, parB p x y = true → x = y
 | .d _, _, _, h => denB_eq h
 | .cap _, _, _, h => denB_eq h
 | .fn _ _, _, _, h => capsB_eq h
 | .capfn _ _, _, _, h => capsB_eq h
def argsB : (l : List Par) → Args l → Args l → Bool
 | [], _, _ => true
 | p :: l, x, y => parB p x.1 y.1 && argsB l x.2 y.2
theorem argsB_eq : ∀ {l : List Par} {x y : Args l}, argsB l x y = true → x = y
 | [], (), (), _ => rfl
 | p :: l, (a, x), (b, y), h => by
  simp only [argsB, Bool.and_eq_true] at h
  rw [parB_eq h.1, argsB_eq h.2]
theorem qev {α : Type} {Q : α → Prop} {C : Prop} {t : Tre α} (h : C) (k : t.wp Q) : (Tre.chk C t).wp Q := ⟨h, fun _ => k⟩
theorem qdb {α : Type} {Q : α → Prop} {K : Prop} {t : Tre α} (k : t.wp Q) : (Tre.know K t).wp Q := fun _ => k
structure LitC where
 ps : List Par
 L : Args ps
 res : AV
 roots : List (Nat × Root)
 pan : Option (Bool × AV) := none
def LitC.spec (k : LitC) : FSpec := fun args => match argsD k.ps args with
 | some x => match argsB k.ps x k.L with
  | true => some ⟨True, k.res, k.roots, k.pan⟩
  | false => none
 | none => none
theorem qfm {E : Ctx} {f : FuncId} {k : LitC} (hn : k.pan = none) (h : (enter E f (qdt k.ps k.L)).isSome = true ∧ Runs E (start E f (qdt k.ps k.L)) fun v h => v = k.res ∧ h = k.roots) : qat E f k.spec := by
 have hs : qat E f (Con.spec ⟨k.ps, fun x => x = k.L, fun _ => k.res, fun _ => k.roots⟩) := qcj fun x _ hx => by
  have hx : x = k.L := hx
  subst hx
  exact h
 intro args r hc hr hp w Z vs hg hz hvs
 unfold LitC.spec at hr
 split at hr
 ·rename_i x hx
  split at hr
  ·rename_i hb
   injection hr with hr
   subst hr
   rw [hn]
   exact hs args ⟨x = k.L, k.res, k.roots, none⟩ hc (by simp only [Con.spec, hx]) (argsB_eq hb) w Z vs hg hz hvs
  ·cases hr
 ·cases hr
theorem lit_ofP {E : Ctx} {f : FuncId} {k : LitC} {pv : AV} (hn : k.pan = some (false, pv)) (h1 : k.res = .tup []) (h2 : k.roots = []) (h : (enter E f (qdt k.ps k.L)).isSome = true ∧ RunsP E (start E f (qdt k.ps k.L)) (fun v h => v = .tup [] ∧ h = []) fun _ => False) : qat E f k.spec := by
 have hs : qat E f (ConP.spec ⟨k.ps, fun x => x = k.L, fun _ => false, fun _ => pv⟩) := spec_ofP fun x _ hx => by
  have hx : x = k.L := hx
  subst hx
  exact ⟨h.1, h.2.imp (fun v h ⟨e1, e2⟩ => ⟨e1, e2, rfl⟩) fun _ hf => hf.elim⟩
 intro args r hc hr hp w Z vs hg hz hvs
 unfold LitC.spec at hr
 split at hr
 ·rename_i x hx
  split at hr
  ·rename_i hb
   injection hr with hr
   subst hr
   rw [hn, h1, h2]
   exact hs args ⟨x = k.L, .tup [], [], some (false, pv)⟩ hc (by simp only [ConP.spec, hx]) (argsB_eq hb) w Z vs hg hz hvs
  ·cases hr
 ·cases hr
end Go.BE
namespace Go.BE
open Go.RowKit
def srun (E : Ctx) (ops : Array Oper) : List Nat → List AV → Heap → Nat → Option (List Prop × List AV × Heap × Nat)
 | [], fr, h, nx => some ([], fr, h, nx)
 | i :: rest, fr, h, nx => match ops[i]? with
  | some o => if o.guard.isSome then none else match aop E h nx 0 (ev E fr) o.op with
   | .v C A => match srun E ops rest (putT fr o.dst A) h (nx + qba) with
    | some (C', x) => some (C ++ C', x)
    | none => none
   | .w C A ws _ => match srun E ops rest (putT fr o.dst A) (qav h ws) (nx + qba) with
    | some (C', x) => some (C ++ C', x)
    | none => none
   | _ => none
  | none => none
section
variable {E : Ctx} {w w' w0 : World} {Z Z' : Nat → Prop} {K : Kp} {own own' : Own} {γ γ' : Gst} {h h' : Heap} {nx nx' : Nat} {fr fr' : List AV} {a : Act} {ops : Array Oper} {Q : Exit → Act → List Frame → World → Prop} {cs : List Frame}
theorem wpS_one {i : Nat} {rest : List Nat} {o : Oper} (ho : ops[i]? = some o) (hg : o.guard = none) {v : Value} (hr : (execOp a.eval o).run E.P w = .ok (.value v) w') (h : wpOpsS E.P ops Q rest (a.put o.dst v) cs w') : wpOpsS E.P ops Q (i :: rest) a cs w := by
 have hw : Region.wanted o (yielded ops a.tmps) = true := by simp [Region.wanted, hg]
 unfold wpOpsS
 rw [ho]
 simp only [hw, if_true, hr]
 exact h
theorem wpS_skip1 {i : Nat} {rest : List Nat} {o : Oper} (ho : ops[i]? = some o) (hg : o.guard = none) (hr : (execOp a.eval o).run E.P w = .ok .skip w') (h : wpOpsS E.P ops Q rest (a.put o.dst undef) cs w') : wpOpsS E.P ops Q (i :: rest) a cs w := by
 have hw : Region.wanted o (yielded ops a.tmps) = true := by simp [Region.wanted, hg]
 unfold wpOpsS
 rw [ho]
 simp only [hw, if_true, hr]
 exact h
theorem wpS_recover0 {i : Nat} {rest : List Nat} {o : Oper} (ho : ops[i]? = some o) (hg : o.guard = none) (hr : (execOp a.eval o).run E.P w = .ok .recover w) (hc : recoverD cs = none) (h : wpOpsS E.P ops Q rest (a.put o.dst .nilIface) cs w) : wpOpsS E.P ops Q (i :: rest) a cs w := by
 have hw : Region.wanted o (yielded ops a.tmps) = true := by simp [Region.wanted, hg]
 unfold wpOpsS
 rw [ho]
 simp only [hw, if_true, hr, hc]
 exact h
theorem put_defers {dst : Option Tmp} {v : Value} : (a.put dst v).defers = a.defers := by cases dst <;> rfl
theorem srun_sound (hE : EOK E) {more : List Nat} : ∀ {l : List Nat} {fr : List AV} {h : Heap} {nx : Nat} {C : List Prop} {a : Act} {w : World} {Z : Nat → Prop} {own : Own} {γ : Gst}, srun E ops l fr h nx = some (C, fr', h', nx') → AllP C →
  MemR w0 K w Z own γ h (fun s => s < nx) → GlR E w Z → VRs w Z γ fr a.tmps.toList →
  (∀ a' w' Z' own' γ', a'.defers = a.defers → Stay w Z w' Z' → γ.Le γ' → MemR w0 K w' Z' own' γ' h' (fun s => s < nx') → GlR E w' Z' → VRs w' Z' γ' fr' a'.tmps.toList → wpOpsS E.P ops Q more a' cs w') → wpOpsS E.P ops Q (l ++ more) a cs w
 | [], fr, h, nx, C, a, w, Z, own, γ, he, _, hm, hg, hf, k => by
  simp only [srun, Option.some.injEq, Prod.mk.injEq] at he
  obtain ⟨_, rfl, rfl, rfl⟩ := he
  exact k a w Z own γ rfl (Stay.refl _ _) (Gst.Le.refl _) hm hg hf
 | i :: rest, fr, h, nx, C, a, w, Z, own, γ, he, hC, hm, hg, hf, k => by
  simp only [srun] at he
  split at he
  ·rename_i o ho
   split at he
   ·cases he
   ·rename_i hgd
    have hgd : o.guard = none := by simpa using hgd
    have hu : ∀ s, s < nx → s < nx + qba := fun s h => by omega
    have hop := aop_sound (E := E) (K := K) (used' := fun s => s < nx + qba) hE.ty hm (id := nx) (Nat.lt_irrefl _) hu (by show nx < nx + 16; omega) (ro := 0) (fun x => ev_rel' hg hf x) o
    split at he
    ·rename_i C1 A hv
     rw [hv] at hop
     split at he
     ·rename_i C2 x hx
      injection he with he
      injection he with e1 e2
      subst e1; subst e2
      rw [AllP.append] at hC
      obtain ⟨v, r1, r2⟩ := hop hC.1
      refine wpS_one ho hgd r1 (srun_sound hE hx hC.2 (hm.used_mono hu) hg (hf.putT o.dst r2) fun a' w' Z' own' γ' q1 q2 q3 q4 q5 q6 => k a' w' Z' own' γ' (q1.trans put_defers) q2 q3 q4 q5 q6)
     ·cases he
    ·rename_i C1 A ws sk hv
     rw [hv] at hop
     split at he
     ·rename_i C2 x hx
      injection he with he
      injection he with e1 e2
      subst e1; subst e2
      rw [AllP.append] at hC
      obtain ⟨n, v, w1, Z1, own1, γ1, r1, r2, r3, r4, r5, r6⟩ := hop hC.1
      have hle := r4.le hm.fresh
      have hrest : ∀ u, VR w1 Z1 γ1 A u → wpOpsS E.P ops Q (rest ++ more) (a.put o.dst u) cs w1 := fun u hu' => srun_sound hE hx hC.2 r5 (hg.mono r3) ((hf.mono r3 hle).putT o.dst hu') fun a' w' Z' own' γ' q1 q2 q3 q4 q5 q6 => k a' w' Z' own' γ' (q1.trans put_defers) (r3.trans q2) (hle.trans q3) q4 q5 q6
      split at r2
      ·obtain ⟨rfl, rfl⟩ := r2
       exact wpS_skip1 ho hgd r1 (hrest _ r6)
      ·subst r2
       exact wpS_one ho hgd r1 (hrest _ r6)
     ·cases he
    ·cases he
  ·cases he
def sr (E : Ctx) (ops : Array Oper) (l : List Nat) (fr : List AV) (h : Heap) (nx : Nat) : List Prop × List AV × Heap × Nat := (srun E ops l fr h nx).getD ([False], [], [], 0)
theorem sr_eq {E : Ctx} {ops : Array Oper} {l : List Nat} {fr : List AV} {h : Heap} {nx : Nat} (hC : (sr E ops l fr h nx).1 = []) : srun E ops l fr h nx = some (sr E ops l fr h nx) := by
 unfold sr at *
 cases he : srun E ops l fr h nx with
 | none => rw [he] at hC; simp at hC
 | some x => rfl
theorem sr_sound (hE : EOK E) {more : List Nat} {l : List Nat} {fr : List AV} {h : Heap} {nx : Nat} (hC : (sr E ops l fr h nx).1 = []) (hm : MemR w0 K w Z own γ h (fun s => s < nx)) (hg : GlR E w Z) (hf : VRs w Z γ fr a.tmps.toList)
  (k : ∀ a' w' Z' own' γ', a'.defers = a.defers → Stay w Z w' Z' → γ.Le γ' → MemR w0 K w' Z' own' γ' (sr E ops l fr h nx).2.2.1 (fun s => s < (sr E ops l fr h nx).2.2.2) → GlR E w' Z' → VRs w' Z' γ' (sr E ops l fr h nx).2.1 a'.tmps.toList → wpOpsS E.P ops Q more a' cs w') : wpOpsS E.P ops Q (l ++ more) a cs w :=
 srun_sound hE (sr_eq hC) (by show AllP (sr E ops l fr h nx).1; rw [hC]; trivial) hm hg hf k
theorem wp_one {Q : Exit → Act → World → Prop} {i : Nat} {rest : List Nat} {o : Oper} (ho : ops[i]? = some o) (hg : o.guard = none) {v : Value} (hr : (execOp a.eval o).run E.P w = .ok (.value v) w') (h : wpOps E.P ops Q rest (a.put o.dst v) w') : wpOps E.P ops Q (i :: rest) a w := by
 have hw : Region.wanted o (yielded ops a.tmps) = true := by simp [Region.wanted, hg]
 unfold wpOps
 rw [ho]
 simp only [hw, if_true]
 refine .inl ?_
 unfold Oper.wp
 rw [hr]
 exact h
theorem wp_skip1 {Q : Exit → Act → World → Prop} {i : Nat} {rest : List Nat} {o : Oper} (ho : ops[i]? = some o) (hg : o.guard = none) (hr : (execOp a.eval o).run E.P w = .ok .skip w') (h : wpOps E.P ops Q rest (a.put o.dst undef) w') : wpOps E.P ops Q (i :: rest) a w := by
 have hw : Region.wanted o (yielded ops a.tmps) = true := by simp [Region.wanted, hg]
 unfold wpOps
 rw [ho]
 simp only [hw, if_true]
 refine .inl ?_
 unfold Oper.wp
 rw [hr]
 exact h
theorem wp_defer1 {Q : Exit → Act → World → Prop} {i : Nat} {rest : List Nat} {o : Oper} {d : Deferred} (ho : ops[i]? = some o) (hg : o.guard = none) (hr : (execOp a.eval o).run E.P w = .ok (.defer d) w) (h : wpOps E.P ops Q rest ({ a with defers := d :: a.defers }.put o.dst undef) w) : wpOps E.P ops Q (i :: rest) a w := by
 have hw : Region.wanted o (yielded ops a.tmps) = true := by simp [Region.wanted, hg]
 unfold wpOps
 rw [ho]
 simp only [hw, if_true]
 refine .inl ?_
 unfold Oper.wp
 rw [hr]
 exact h
theorem wp_call1 {Q : Exit → Act → World → Prop} {i : Nat} {rest : List Nat} {o : Oper} {f : FuncId} {args : Array Value} (ho : ops[i]? = some o) (hg : o.guard = none) (hr : (execOp a.eval o).run E.P w = .ok (.enter f args) w)
  (h : Calls E.P f args w fun
   | .returned v, w'' => wpOps E.P ops Q rest (a.put o.dst v) w''
   | .panicked chain, w'' => Q (.panic chain) a w''
   | .outgrown, _ => LetsOut Q) : wpOps E.P ops Q (i :: rest) a w := by
 have hw : Region.wanted o (yielded ops a.tmps) = true := by simp [Region.wanted, hg]
 unfold wpOps
 rw [ho]
 simp only [hw, if_true]
 refine .inl ?_
 unfold Oper.wp
 rw [hr]
 exact h
theorem srun_soundN (hE : EOK E) {more : List Nat} {Q : Exit → Act → World → Prop} : ∀ {l : List Nat} {fr : List AV} {h : Heap} {nx : Nat} {C : List Prop} {a : Act} {w : World} {Z : Nat → Prop} {own : Own} {γ : Gst}, srun E ops l fr h nx = some (C, fr', h', nx') → AllP C →
  MemR w0 K w Z own γ h (fun s => s < nx) → GlR E w Z → VRs w Z γ fr a.tmps.toList →
  (∀ a' w' Z' own' γ', a'.defers = a.defers → Stay w Z w' Z' → γ.Le γ' → MemR w0 K w' Z' own' γ' h' (fun s => s < nx') → GlR E w' Z' → VRs w' Z' γ' fr' a'.tmps.toList → wpOps E.P ops Q more a' w') → wpOps E.P ops Q (l ++ more) a w
 | [], fr, h, nx, C, a, w, Z, own, γ, he, _, hm, hg, hf, k => by
  simp only [srun, Option.some.injEq, Prod.mk.injEq] at he
  obtain ⟨_, rfl, rfl, rfl⟩ := he
  exact k a w Z own γ rfl (Stay.refl _ _) (Gst.Le.refl _) hm hg hf
 | i :: rest, fr, h, nx, C, a, w, Z, own, γ, he, hC, hm, hg, hf, k => by
  simp only [srun] at he
  split at he
  ·rename_i o ho
   split at he
   ·cases he
   ·rename_i hgd
    have hgd : o.guard = none := by simpa using hgd
    have hu : ∀ s, s < nx → s < nx + qba := fun s h => by omega
    have hop := aop_sound (E := E) (K := K) (used' := fun s => s < nx + qba) hE.ty hm (id := nx) (Nat.lt_irrefl _) hu (by show nx < nx + 16; omega) (ro := 0) (fun x => ev_rel' hg hf x) o
    split at he
    ·rename_i C1 A hv
     rw [hv] at hop
     split at he
     ·rename_i C2 x hx
      injection he with he
      injection he with e1 e2
      subst e1; subst e2
      rw [AllP.append] at hC
      obtain ⟨v, r1, r2⟩ := hop hC.1
      refine wp_one ho hgd r1 (srun_soundN hE hx hC.2 (hm.used_mono hu) hg (hf.putT o.dst r2) fun a' w' Z' own' γ' q1 q2 q3 q4 q5 q6 => k a' w' Z' own' γ' (q1.trans put_defers) q2 q3 q4 q5 q6)
     ·cases he
    ·rename_i C1 A ws sk hv
     rw [hv] at hop
     split at he
     ·rename_i C2 x hx
      injection he with he
      injection he with e1 e2
      subst e1; subst e2
      rw [AllP.append] at hC
      obtain ⟨n, v, w1, Z1, own1, γ1, r1, r2, r3, r4, r5, r6⟩ := hop hC.1
      have hle := r4.le hm.fresh
      have hrest : ∀ u, VR w1 Z1 γ1 A u → wpOps E.P ops Q (rest ++ more) (a.put o.dst u) w1 := fun u hu' => srun_soundN hE hx hC.2 r5 (hg.mono r3) ((hf.mono r3 hle).putT o.dst hu') fun a' w' Z' own' γ' q1 q2 q3 q4 q5 q6 => k a' w' Z' own' γ' (q1.trans put_defers) (r3.trans q2) (hle.trans q3) q4 q5 q6
      split at r2
      ·obtain ⟨rfl, rfl⟩ := r2
       exact wp_skip1 ho hgd r1 (hrest _ r6)
      ·subst r2
       exact wp_one ho hgd r1 (hrest _ r6)
     ·cases he
    ·cases he
  ·cases he
theorem sr_soundN (hE : EOK E) {more : List Nat} {Q : Exit → Act → World → Prop} {l : List Nat} {fr : List AV} {h : Heap} {nx : Nat} (hC : (sr E ops l fr h nx).1 = []) (hm : MemR w0 K w Z own γ h (fun s => s < nx)) (hg : GlR E w Z) (hf : VRs w Z γ fr a.tmps.toList)
  (k : ∀ a' w' Z' own' γ', a'.defers = a.defers → Stay w Z w' Z' → γ.Le γ' → MemR w0 K w' Z' own' γ' (sr E ops l fr h nx).2.2.1 (fun s => s < (sr E ops l fr h nx).2.2.2) → GlR E w' Z' → VRs w' Z' γ' (sr E ops l fr h nx).2.1 a'.tmps.toList → wpOps E.P ops Q more a' w') : wpOps E.P ops Q (l ++ more) a w :=
 srun_soundN hE (sr_eq hC) (by show AllP (sr E ops l fr h nx).1; rw [hC]; trivial) hm hg hf k
theorem MemR.drop (hm : MemR w0 K w Z own γ h (fun s => s < nx)) : MemR w0 K w Z (fun _ => none) ⟨fun _ => none, fun _ _ => none⟩ [] (fun s => s < 16) :=
 ⟨hm.os, hm.tape, hm.output, hm.size, hm.kept, hm.zin, hm.zlt, fun b o ho => by simp at ho, fun b o ho => by simp at ho, fun b o ho => by simp at ho, fun r R hg => by simp [hget] at hg, fun r R hg => by simp [hget] at hg, fun _ _ => ⟨rfl, fun _ => rfl⟩⟩
theorem MemR.none (hz : ∀ b, Z b → b < w.heap.size) : MemR w ⟨fun _ => True, Z⟩ w Z (fun _ => none) ⟨fun _ => none, fun _ _ => none⟩ [] (fun s => s < 0) :=
 ⟨rfl, rfl, rfl, Nat.le_refl _, fun _ _ _ => rfl, fun b hb _ _ => hb, hz, fun b o ho => by simp at ho, fun b o ho => by simp at ho, fun b o ho => by simp at ho, fun r R hg => by simp [hget] at hg, fun r R hg => by simp [hget] at hg, fun _ _ => ⟨rfl, fun _ => rfl⟩⟩
structure WS (E : Ctx) (ops : Array Oper) (Q : Exit → Act → List Frame → World → Prop) (l : List Nat) (a : Act) (cs : List Frame) (w : World) : Prop where
 out : wpOpsS E.P ops Q l a cs w
structure CS (E : Ctx) (c : Code) (Q : Exit → Act → List Frame → World → Prop) (a : Act) (cs : List Frame) (w : World) : Prop where
 out : c.wpS E.P Q a cs w
structure WN (E : Ctx) (ops : Array Oper) (Q : Exit → Act → World → Prop) (l : List Nat) (a : Act) (w : World) : Prop where
 out : wpOps E.P ops Q l a w
structure CN (E : Ctx) (c : Code) (Q : Exit → Act → World → Prop) (a : Act) (w : World) : Prop where
 out : c.wp E.P Q a w
def mkA (l : List Value) (ds : List Deferred) : Act := { tmps := l.toArray, defers := ds }
theorem put_eq {t : Nat} {v : Value} {l : List Value} {ds : List Deferred} (l' : List Value) (h : l.set t v = l') : (mkA l ds).put (some t) v = mkA l' ds := by
 subst h
 simp [Act.put, mkA]
theorem CS.seq {x y : Code} (h : CS E x (Exit.thenS (fun a cs w => CS E y Q a cs w) Q) a cs w) : CS E (.seq x y) Q a cs w := ⟨wpS_seq (by
 have := h.out
 intro b k hb hr
 obtain ⟨e, a', cs', w', q, r⟩ := this b k hb hr
 refine ⟨e, a', cs', w', ?_, r⟩
 cases e <;> first | exact (show CS E y Q a' cs' w' from q).out | exact q)⟩
theorem CS.reg {id : Nat} (l : List Nat) (hl : List.range ops.size = l) (h : WS E ops Q l a cs w) : CS E (.region id ops false) Q a cs w := ⟨wpS_region (by rw [hl]; exact h.out)⟩
theorem CS.condF {c : Operand} {x y : Code} (hc : a.eval c = .bool false) (h : CS E y Q a cs w) : CS E (.cond c x y) Q a cs w := ⟨wpS_cond (t := false) hc (by rw [if_neg (by decide)]; exact h.out)⟩
theorem CS.skip (h : Q .normal a cs w) : CS E .skip Q a cs w := ⟨wpS_of_wp (wp_skip h)⟩
theorem WS.next {next : Act → List Frame → World → Prop} (h : next a cs w) : WS E ops (Exit.thenS next Q) [] a cs w := ⟨h⟩
theorem WS.fin (h : Q .normal a cs w) : WS E ops Q [] a cs w := ⟨h⟩
theorem WS.at_ {i t : Nat} {rest : List Nat} {o : Oper} {l : List Value} {ds : List Deferred} (v : Value) (l' : List Value) (ho : ops[i]? = some o) (hg : o.guard = none) (hd : o.dst = some t) (hr : (execOp (mkA l ds).eval o).run E.P w = .ok (.value v) w) (hl : l.set t v = l') (h : WS E ops Q rest (mkA l' ds) cs w) : WS E ops Q (i :: rest) (mkA l ds) cs w :=
 ⟨wpS_one ho hg hr (by rw [hd, put_eq l' hl]; exact h.out)⟩
theorem WS.rcv0 {i t : Nat} {rest : List Nat} {o : Oper} {l : List Value} {ds : List Deferred} (l' : List Value) (ho : ops[i]? = some o) (hg : o.guard = none) (hd : o.dst = some t) (hr : (execOp (mkA l ds).eval o).run E.P w = .ok .recover w) (hc : recoverD cs = none) (hl : l.set t .nilIface = l') (h : WS E ops Q rest (mkA l' ds) cs w) : WS E ops Q (i :: rest) (mkA l ds) cs w :=
 ⟨wpS_recover0 ho hg hr hc (by rw [hd, put_eq l' hl]; exact h.out)⟩
theorem WS.sr (hE : EOK E) (l more : List Nat) {fr : List AV} {h : Heap} {nx : Nat} (hC : (BE.sr E ops l fr h nx).1 = []) (hm : MemR w0 K w Z own γ h (fun s => s < nx)) (hg : GlR E w Z) (hf : VRs w Z γ fr a.tmps.toList)
  (k : ∀ a' w' Z' own' γ', a'.defers = a.defers → Stay w Z w' Z' → γ.Le γ' → MemR w0 K w' Z' own' γ' (BE.sr E ops l fr h nx).2.2.1 (fun s => s < (BE.sr E ops l fr h nx).2.2.2) → GlR E w' Z' → VRs w' Z' γ' (BE.sr E ops l fr h nx).2.1 a'.tmps.toList → WS E ops Q more a' cs w') : WS E ops Q (l ++ more) a cs w :=
 ⟨sr_sound hE hC hm hg hf fun a' w' Z' own' γ' q1 q2 q3 q4 q5 q6 => (k a' w' Z' own' γ' q1 q2 q3 q4 q5 q6).out⟩
theorem CN.seq {x y : Code} {Q : Exit → Act → World → Prop} (h : CN E x (Exit.then (fun a w => CN E y Q a w) Q) a w) : CN E (.seq x y) Q a w := ⟨wp_seq (by
 have := h.out
 intro b k cs
 obtain ⟨e, a', w', q, r⟩ := this b k cs
 refine ⟨e, a', w', ?_, r⟩
 cases e <;> first | exact (show CN E y Q a' w' from q).out | exact q)⟩
theorem CN.reg {id : Nat} {Q : Exit → Act → World → Prop} (l : List Nat) (hl : List.range ops.size = l) (h : WN E ops Q l a w) : CN E (.region id ops false) Q a w := ⟨wp_region (by rw [hl]; exact h.out)⟩
theorem CN.ret {Q : Exit → Act → World → Prop} (h : Q .ret a w) : CN E .ret Q a w := ⟨wp_ret h⟩
theorem WN.next {next : Act → World → Prop} {Q : Exit → Act → World → Prop} (h : next a w) : WN E ops (Exit.then next Q) [] a w := ⟨h⟩
theorem WN.sr {Q : Exit → Act → World → Prop} (hE : EOK E) (l more : List Nat) {fr : List AV} {h : Heap} {nx : Nat} (hC : (BE.sr E ops l fr h nx).1 = []) (hm : MemR w0 K w Z own γ h (fun s => s < nx)) (hg : GlR E w Z) (hf : VRs w Z γ fr a.tmps.toList)
  (k : ∀ a' w' Z' own' γ', a'.defers = a.defers → Stay w Z w' Z' → γ.Le γ' → MemR w0 K w' Z' own' γ' (BE.sr E ops l fr h nx).2.2.1 (fun s => s < (BE.sr E ops l fr h nx).2.2.2) → GlR E w' Z' → VRs w' Z' γ' (BE.sr E ops l fr h nx).2.1 a'.tmps.toList → WN E ops Q more a' w') : WN E ops Q (l ++ more) a w :=
 ⟨sr_soundN hE hC hm hg hf fun a' w' Z' own' γ' q1 q2 q3 q4 q5 q6 => (k a' w' Z' own' γ' q1 q2 q3 q4 q5 q6).out⟩
theorem WN.defer {Q : Exit → Act → World → Prop} {i : Nat} {rest : List Nat} {o : Oper} (d : Deferred) (ho : ops[i]? = some o) (hg : o.guard = none) (hd : o.dst = none) (hr : (execOp a.eval o).run E.P w = .ok (.defer d) w) (h : WN E ops Q rest { a with defers := d :: a.defers } w) : WN E ops Q (i :: rest) a w :=
 ⟨wp_defer1 ho hg hr (by rw [hd]; exact h.out)⟩
theorem WN.call {Q : Exit → Act → World → Prop} {i : Nat} {rest : List Nat} {o : Oper} {f : FuncId} {args : Array Value} {R : Ending → World → Prop} (ho : ops[i]? = some o) (hg : o.guard = none) (hr : (execOp a.eval o).run E.P w = .ok (.enter f args) w) (hc : Calls E.P f args w R)
  (h1 : ∀ v w', R (.returned v) w' → WN E ops Q rest (a.put o.dst v) w') (h2 : ∀ ch w', R (.panicked ch) w' → Q (.panic ch) a w') (h3 : ∀ w', R .outgrown w' → LetsOut Q) : WN E ops Q (i :: rest) a w :=
 ⟨wp_call1 ho hg hr (hc.mono fun e w' he => by
  cases e with
  | returned v => exact (h1 v w' he).out
  | panicked ch => exact h2 ch w' he
  | outgrown => exact h3 w' he)⟩
theorem VR.cast {A B : AV} {v : Value} (h : VR w Z γ A v) (e : A = B) : VR w Z γ B v := e ▸ h
theorem spec_hand {f : FuncId} {s : Con} (h : ∀ x, okArgs s.ps x → s.pre x → ∀ (w : World) (Z : Nat → Prop) (vs : List Value), GlR E w Z → (∀ b, Z b → b < w.heap.size) → CRs w Z (qdt s.ps x) vs → PromiseR E.P f vs.toArray w Z ⟨s.pre x, s.res x, s.roots x, none⟩) : qat E f s.spec := by
 intro args r _ hs hp w Z vs hg hz hvs
 unfold Con.spec at hs
 split at hs
 ·rename_i x hx
  injection hs with hs
  subst hs
  have hc := argsD_sound hx hvs
  have hv : VRs w Z ⟨fun _ => none, fun _ _ => none⟩ (qdt s.ps x) vs := ⟨hc.1, fun j a v ha hv => .cr (hc.2 j a v ha hv)⟩
  exact qfj.of_r (h x (okAVs_args hv.ok) hp w Z vs hg hz hc) rfl
 ·cases hs
theorem load_root {fr : List AV} {t ty : Nat} {cs : List AV} (h1 : lget fr t = .ref 0 0) (h2 : hget h 0 = some (qcy 0 (.cells cs))) {A : AV} (h3 : ((E.ty ty).bind fun i => takeVar i cs 0) = some A) : aresults E h fr [.cell t ty] = some ([], [A]) := by
 obtain ⟨i, hi, hA⟩ := Option.bind_eq_some_iff.1 h3
 simp only [aresults, aload, h1, h2, hi, qcy, hA, Option.map_some, List.append_nil]
end
end Go.BE

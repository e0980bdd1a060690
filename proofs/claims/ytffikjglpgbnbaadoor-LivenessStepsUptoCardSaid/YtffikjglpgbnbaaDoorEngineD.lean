/- A part of the proofs over this program: an abstract machine that the kernel evaluates, and its soundness. No conditions. -/
import Derived.Test.YtffikjglpgbnbaaDoorEngineC
import Derived.Laws.RangeAny
import Derived.AtR
import Derived.RangeFuncRecord
import Derived.Orders
namespace Go.BE
open Go.RowKit
def fb (F : AFr) : Frame := { (default : Frame) with fn := F.fn, kind := .normal, roundOf := F.rnd.map (·.2.l) }
def mkF (F : AFr) (a : Act) : Frame := (fb F).atR a F.todo
def frs : List AFr → List Act → List Frame
 | F :: Fs, a :: as => mkF F a :: frs Fs as
 | _, _ => []
def markD (x : Option Nat × RgL) : Deferred := { target := .collected x.2.d, args := #[] }
structure LinkR (γ : Gst) (F : AFr) (a : Act) : Prop where
 rng : ∀ g, F.rng = some g → γ.β g.r = some g.R.l ∧ g.R.base.fn = F.fn ∧ g.R.base.tmps = a.tmps ∧ g.R.base.params = g.params ∧ g.R.base.assign = g.assign ∧ g.R.base.body = g.body ∧ ∃ k, F.todo = .inRangeFunc g.R.l :: k ∨ F.todo = .endRangeFunc g.R.l :: k
 rnd : ∀ r R, F.rnd = some (some r, R) → γ.β r = some R.l
 marks : ∀ r R, (some r, R) ∈ F.marks → γ.β r = some R.d
structure FrR (w : World) (Z : Nat → Prop) (γ : Gst) (F : AFr) (a : Act) : Prop where
 defers : a.defers = F.marks.map markD
 tmps : VRs w Z γ F.fr a.tmps.toList
 link : LinkR γ F a
def CsR (w : World) (Z : Nat → Prop) (γ : Gst) : List AFr → List Act → Prop
 | [], [] => True
 | F :: Fs, a :: as => FrR w Z γ F a ∧ CsR w Z γ Fs as
 | _, _ => False
structure StOK (E : Ctx) (w0 : World) (K : Kp) (c : Cfg) (a : Act) (as : List Act) (w : World) (Z : Nat → Prop) (own : Own) (γ : Gst) : Prop where
 cur : FrR w Z γ c.cur a
 callers : CsR w Z γ c.callers as
 mem : MemR w0 K w Z own γ c.h (fun s => s < c.nx)
 gl : GlR E w Z
def FnsOK (E : Ctx) : Prop := ∀ f, E.fns f = true → ∀ args w, (callFunc f args).run E.P w = .ok (.enter f args) w
structure EOK (E : Ctx) : Prop where
 ty : TyOK E.P E.ty
 env : EnvOK E
 io : IoOK E
 fns : FnsOK E
 mixed : E.P.follows .mixedOrders = true
def botFn : AFr → List AFr → FuncId
 | F, [] => F.fn
 | _, G :: Gs => botFn G Gs
def FinOK (E : Ctx) (w0 : World) (K : Kp) (base : List Frame) (c : Cfg) (a : Act) (as : List Act) (w : World) (Z : Nat → Prop) : Fin → Prop
 | .at_ c' => ∃ a' as' w' Z' own' γ', StOK E w0 K c' a' as' w' Z' own' γ' ∧ Stay w Z w' Z' ∧ botFn c'.cur c'.callers = botFn c.cur c.callers ∧ Steps E.P (lone (mkF c.cur a) (frs c.callers as ++ base) w) (lone (mkF c'.cur a') (frs c'.callers as' ++ base) w')
 | .ret A h nx => ∃ V w' Z' own' γ' fr, VR w' Z' γ' A V ∧ Stay w Z w' Z' ∧ MemR w0 K w' Z' own' γ' h (fun s => s < nx) ∧ Steps E.P (lone (mkF c.cur a) (frs c.callers as ++ base) w) (lone fr base w') ∧ fr.fn = botFn c.cur c.callers ∧ fr.leaving E.P w' (.returned V)
 | .pan A h nx => ∃ V w' Z' own' γ' fr, CR w' Z' A V ∧ Stay w Z w' Z' ∧ (∃ Z'', Stay w Z w' Z'' ∧ MemR w0 K w' Z'' own' γ' h (fun s => s < nx)) ∧ Steps E.P (lone (mkF c.cur a) (frs c.callers as ++ base) w) (lone fr base w') ∧ fr.fn = botFn c.cur c.callers ∧ fr.leaving E.P w' (.panicked [{ v := V, recovered := false }])
section
variable {P : Program} {E : Ctx} {w w' w0 : World} {Z Z' : Nat → Prop} {K : Kp} {own own' : Own} {γ γ' : Gst} {h h' : Heap} {used used' : Nat → Prop} {r s d id : Nat} {R : Root} {A B : AV} {v V U : Value} {cs ds : List AV} {vs us : List Value} {F : AFr} {Fs : List AFr} {a : Act} {as : List Act} {c : Cfg}
theorem LinkR.mono (hγ : γ.Le γ') (h : LinkR γ F a) : LinkR γ' F a :=
 ⟨fun g hg => ⟨hγ.β _ _ (h.rng g hg).1, (h.rng g hg).2⟩, fun r R hr => hγ.β _ _ (h.rnd r R hr), fun r R hr => hγ.β _ _ (h.marks r R hr)⟩
theorem LinkR.next {G : AFr} {b : Act} (h : LinkR γ F a) (e1 : G.rng = none) (e2 : G.rnd = F.rnd) (e3 : G.marks = F.marks) : LinkR γ G b :=
 ⟨fun g hg => (by rw [e1] at hg; cases hg), fun r R hr => h.rnd r R (e2 ▸ hr), fun r R hr => h.marks r R (e3 ▸ hr)⟩
theorem LinkR.fr {l : List AV} (h : LinkR γ F a) : LinkR γ { F with fr := l } a := ⟨h.rng, h.rnd, h.marks⟩
theorem LinkR.new {f : FuncId} {t : List Item} {l : List AV} {b : Act} : LinkR γ { fn := f, todo := t, fr := l } b :=
 ⟨fun g hg => (by cases hg), fun r R hr => (by cases hr), fun r R hr => (by cases hr)⟩
theorem FrR.mono (hs : Stay w Z w' Z') (hγ : γ.Le γ') (h : FrR w Z γ F a) : FrR w' Z' γ' F a := ⟨h.defers, h.tmps.mono hs hγ, h.link.mono hγ⟩
theorem CsR.mono (hs : Stay w Z w' Z') (hγ : γ.Le γ') : ∀ {Fs : List AFr} {as : List Act}, CsR w Z γ Fs as → CsR w' Z' γ' Fs as
 | [], [], _ => trivial
 | _ :: _, _ :: _, h => ⟨h.1.mono hs hγ, CsR.mono hs hγ h.2⟩
theorem lget_val {t : Nat} {u : Value} {l : List AV} {vs : List Value} (h : VRs w Z γ l vs) (hl : lget l t = .val u) : vs[t]? = some u := by
 unfold lget at hl
 rw [List.getD_eq_getElem?_getD] at hl
 cases hx : l[t]? with
 | none => rw [hx] at hl; simp at hl
 | some x =>
  rw [hx] at hl
  simp only [Option.getD_some] at hl
  subst hl
  obtain ⟨v, h1, h2⟩ := h.get hx
  rw [h1, h2.val_inv]
theorem lget_rel {t : Nat} {l : List AV} {arr : Array Value} (h : VRs w Z γ l arr.toList) : VR w Z γ (lget l t) (arr.getD t undef) := by
 unfold lget
 rw [List.getD_eq_getElem?_getD]
 cases hx : l[t]? with
 | none => exact .bad _
 | some x =>
  obtain ⟨v, h1, h2⟩ := h.get hx
  rw [Array.getElem?_toList] at h1
  rw [Array.getD_eq_getD_getElem?, h1]
  exact h2
theorem ev_rel (hg : GlR E w Z) (hf : VRs w Z γ F.fr a.tmps.toList) (x : Operand) : VR w Z γ (ev E F.fr x) (a.eval x) := by
 cases x with
 | tmp t => exact lget_rel hf
 | const v => exact cval_rel v
 | global g =>
  simp only [ev, Act.eval]
  split
  ·rename_i cs hcs
   exact .cr (hg g cs hcs)
  ·exact .bad _
 | func f => exact .cr (.fn f [] #[] rfl (fun j a v h => by simp at h))
theorem ev_rel' {fr : List AV} (hg : GlR E w Z) (hf : VRs w Z γ fr a.tmps.toList) (x : Operand) : VR w Z γ (ev E fr x) (a.eval x) := ev_rel (F := { fn := 0, todo := [], fr := fr }) hg hf x
theorem semAt_run {ro : Option Nat} {ρ : Operand → Value} {o : Oper} {n : Next} (hn : ∀ d, n ≠ .defer d) (hr : (execOp ρ o).run P w = .ok n w') : (o.semAt ro ρ).run P w = .ok n w' := by
 by_cases h : ∃ c, o.op = .defer c
 ·obtain ⟨c, hc⟩ := h
  exfalso
  simp only [execOp, hc, Sem.run_bind] at hr
  cases hres : (resolve ρ c o.type).run P w with
  | ok d w1 =>
   rw [hres] at hr
   simp only [Result.andThen_ok, Sem.run_pure] at hr
   injection hr with hr
   exact hn _ hr.symm
  | halt x w1 =>
   rw [hres] at hr
   simp [Result.andThen] at hr
 ·rw [Oper.semAt_eq _ _ _ fun c hc => h ⟨c, hc⟩]
  exact hr
theorem op_value {b : Frame} {k : List Item} {fs : List Frame} {ops : Array Oper} {i : Nat} {rest : List Nat} {o : Oper} (ho : ops[i]? = some o) (hw : Region.wanted o (yielded ops a.tmps) = true)
  (hr : (execOp a.eval o).run P w = .ok (.value v) w') : step P (lone (b.atR a (.inRegion ops (i :: rest) :: k)) fs w) = .next (lone (b.atR (a.put o.dst v) (.inRegion ops rest :: k)) fs w') := by
 have hg := stepGR_op (P := P) (b := b) (k := k) (cs := fs) (w := w) (rest := rest) ho hw
 have hfin : (b.atR a (.inRegion ops (i :: rest) :: k)).finish v = b.atR (a.put o.dst v) (.inRegion ops rest :: k) := by rw [Frame.finish_atR, ho]; rfl
 refine step_lone_go ?_
 have hr := semAt_run (ro := b.roundOf) (fun d => by simp) hr
 rw [hg, ← hfin]
 simp [stepG.apply, hr]
theorem op_skipv {b : Frame} {k : List Item} {fs : List Frame} {ops : Array Oper} {i : Nat} {rest : List Nat} {o : Oper} (ho : ops[i]? = some o) (hw : Region.wanted o (yielded ops a.tmps) = true)
  (hr : (execOp a.eval o).run P w = .ok .skip w') : step P (lone (b.atR a (.inRegion ops (i :: rest) :: k)) fs w) = .next (lone (b.atR (a.put o.dst undef) (.inRegion ops rest :: k)) fs w') := by
 have hg := stepGR_op (P := P) (b := b) (k := k) (cs := fs) (w := w) (rest := rest) ho hw
 have hfin : (b.atR a (.inRegion ops (i :: rest) :: k)).finish undef = b.atR (a.put o.dst undef) (.inRegion ops rest :: k) := by rw [Frame.finish_atR, ho]; rfl
 refine step_lone_go ?_
 have hr := semAt_run (ro := b.roundOf) (fun d => by simp) hr
 rw [hg, ← hfin]
 simp [stepG.apply, hr]
theorem op_enter {b : Frame} {k : List Item} {fs : List Frame} {ops : Array Oper} {i : Nat} {rest : List Nat} {o : Oper} {f : FuncId} {args : Array Value} (ho : ops[i]? = some o) (hw : Region.wanted o (yielded ops a.tmps) = true)
  (hr : (execOp a.eval o).run P w = .ok (.enter f args) w') : step P (lone (b.atR a (.inRegion ops (i :: rest) :: k)) fs w) = .next (lone (Frame.enter P f args .normal) (b.atR a (.inRegion ops (i :: rest) :: k) :: fs) w') := by
 have hg := stepGR_op (P := P) (b := b) (k := k) (cs := fs) (w := w) (rest := rest) ho hw
 refine step_lone_go ?_
 have hr := semAt_run (ro := b.roundOf) (fun d => by simp) hr
 rw [hg]
 simp [stepG.apply, hr, Frame.atR]
theorem op_back {b : Frame} {k : List Item} {fs : List Frame} {ops : Array Oper} {i : Nat} {rest : List Nat} {o : Oper} {fr : Frame} (ho : ops[i]? = some o) (hl : fr.leaving P w (.returned v)) :
  step P (lone fr (b.atR a (.inRegion ops (i :: rest) :: k) :: fs) w) = .next (lone (b.atR (a.put o.dst v) (.inRegion ops rest :: k)) fs w) := by
 have hfin : (b.atR a (.inRegion ops (i :: rest) :: k)).finish v = b.atR (a.put o.dst v) (.inRegion ops rest :: k) := by rw [Frame.finish_atR, ho]; rfl
 rw [← hfin]
 exact step_leave_returned hl

theorem VRs.putT {fr : List AV} (hf : VRs w Z γ fr a.tmps.toList) (dst : Option Tmp) (hv : VR w Z γ A v) : VRs w Z γ (putT fr dst A) (a.put dst v).tmps.toList := by
 cases dst with
 | none => exact hf
 | some t =>
  simp only [BE.putT, Act.put, Array.toList_setIfInBounds]
  exact hf.set t hv
theorem FrR.fin (hf : FrR w Z γ F a) {ops : Array Oper} {dst : Option Tmp} {rest : List Nat} {k : List Item} (hv : VR w Z γ A v) : FrR w Z γ (F.fin ops dst rest k A) (a.put dst v) :=
 ⟨by cases dst <;> exact hf.defers, hf.tmps.putT dst hv, hf.link.next rfl rfl rfl⟩
theorem FrR.to (hf : FrR w Z γ F a) (t : List Item) : FrR w Z γ (F.to t) a := ⟨hf.defers, hf.tmps, hf.link.next rfl rfl rfl⟩
theorem set_self {fr : List AV} {t : Nat} {y : AV} (h : fr[t]? = some y) : fr.set t y = fr := by
 apply List.ext_getElem?
 intro i
 rw [List.getElem?_set]
 by_cases hi : t = i
 ·subst hi
  have := (List.getElem?_eq_some_iff.1 h).1
  rw [if_pos rfl, if_pos this, h]
 ·rw [if_neg hi]
theorem lget_set_self {fr : List AV} {t : Nat} {x : AV} (h : lget fr t = x) (hx : x ≠ .bad) : fr.set t x = fr := by
 unfold lget at h
 rw [List.getD_eq_getElem?_getD] at h
 cases ht : fr[t]? with
 | none => rw [ht] at h; exact absurd h.symm hx
 | some y =>
  rw [ht] at h
  simp only [Option.getD_some] at h
  subst h
  exact set_self ht
theorem setB_eq {fr : List AV} {x : Operand} {b d : Bool} (hb : asB (ev E fr x) = some b) (hd : b = d) : setB fr (opTmp x) d = fr := by
 subst hd
 cases x with
 | tmp t =>
  simp only [opTmp, setB]
  refine lget_set_self ?_ (by simp [abool])
  simp only [ev] at hb
  unfold asB at hb
  split at hb
  ·rename_i heq
   injection hb with hb
   subst hb
   exact heq
  ·cases hb
 | _ => rfl
theorem frs_cons {F : AFr} {Fs : List AFr} {b : Act} {bs : List Act} {base : List Frame} : frs (F :: Fs) (b :: bs) ++ base = mkF F b :: (frs Fs bs ++ base) := rfl
theorem replicate_und (n : Nat) : VRs w Z γ (List.replicate n und) (List.replicate n undef) := by
 refine ⟨by simp, fun j x y hx hy => ?_⟩
 rw [List.getElem?_replicate] at hx hy
 split at hx
 ·rename_i hj
  rw [if_pos hj] at hy
  injection hx with hx; injection hy with hy
  subst hx; subst hy
  exact .cr (.val _ trivial)
 ·cases hx
theorem enter_ok {f : FuncId} {args : List AV} {vs : List Value} {F : AFr} (he : enter E f args = some F) (hr : VRs w Z γ args vs) :
  ∃ b, Frame.enter E.P f vs.toArray .normal = mkF F b ∧ FrR w Z γ F b ∧ F.fn = f := by
 unfold enter at he
 split at he
 ·rename_i fn hfn
  split at he
  ·rename_i code hb
   split at he
   ·rename_i hl
    injection he with he
    subst he
    refine ⟨{ tmps := vs.toArray ++ Array.replicate (fn.ntmps - vs.toArray.size) undef, defers := [] }, ?_, ⟨rfl, ?_, .new⟩, rfl⟩
    ·simp [Frame.enter, mkF, fb, Frame.atR, hfn, hb]
    ·simp only [Array.toList_append, Array.toList_replicate, List.size_toArray]
     rw [← hr.1]
     exact hr.append (replicate_und _)
   ·cases he
  ·cases he
 ·cases he
theorem aop_sound (hT : TyOK E.P E.ty) (hm : MemR w0 K w Z own γ h used) (hid : ¬ used id) (hu : ∀ s, used s → used' s) (hid' : used' id) {ro : Nat} {ρa : Operand → AV} {ρ : Operand → Value} (hρ : ∀ x, VR w Z γ (ρa x) (ρ x)) (o : Oper) : OutOK E w0 K w Z γ h used used' ρ o (aop E h id ro ρa o.op) :=
 aop1_sound hT hm hid hu hid' (fun x => norm_sound hm (hρ x)) o
theorem raise_up {base : List Frame} {chain : List PanicEntry} : ∀ {Fs : List AFr} {as : List Act} {F : AFr} {b : Act}, b.defers = [] → CsR w Z γ Fs as → (E.P.funcs[F.fn]?).isSome = true → (Fs.all fun F => F.marks.isEmpty && (E.P.funcs[F.fn]?).isSome) = true →
  ∃ fr, Steps E.P (lone ((mkF F b).raise chain) (frs Fs as ++ base) w) (lone fr base w) ∧ fr.fn = botFn F Fs ∧ fr.leaving E.P w (.panicked chain)
 | [], [], F, b, hd, _, hf, _ => by
  obtain ⟨fn, hfn⟩ := Option.isSome_iff_exists.1 hf
  exact ⟨(mkF F b).raise chain, .refl _ _, rfl, rfl, hd, fn, hfn⟩
 | G :: Gs, c :: cs, F, b, hd, hc, hf, hs => by
  obtain ⟨fn, hfn⟩ := Option.isSome_iff_exists.1 hf
  simp only [List.all_cons, Bool.and_eq_true] at hs
  obtain ⟨fr, h1, h2, h3⟩ := raise_up (base := base) (chain := chain) (F := G) (b := c) (by rw [hc.1.defers, List.isEmpty_iff.1 hs.1.1]; rfl) hc.2 hs.1.2 hs.2
  refine ⟨fr, .head ?_ h1, h2, h3⟩
  rw [frs_cons]
  exact step_leave_panicked (fr := (mkF F b).raise chain) ⟨rfl, hd, fn, hfn⟩
 | [], _ :: _, _, _, _, hc, _, _ => hc.elim
 | _ :: _, [], _, _, _, hc, _, _ => hc.elim
theorem panT_sound {base : List Frame} (hS : StOK E w0 K c a as w Z own γ) {A : AV} {Q : Fin → Prop} (he : (panT E c A).wp Q) {V : Value} {w' : World} {Z' Z2 : Nat → Prop} (hv : CR w' Z2 A V) (h2 : Stay w Z w' Z2) (h3 : Stay w Z w' Z') (hm : MemR w0 K w' Z' own γ c.h (fun s => s < c.nx))
  (hst : Steps E.P (lone (mkF c.cur a) (frs c.callers as ++ base) w) (lone ((mkF c.cur a).raise [{ v := V, recovered := false }]) (frs c.callers as ++ base) w')) : ∃ f, Q f ∧ FinOK E w0 K base c a as w Z f := by
 unfold panT at he
 split at he
 ·rename_i hok
  simp only [okFns, Bool.and_eq_true] at hok
  obtain ⟨fr, k1, k2, k3⟩ := raise_up (base := base) (w := w') (Z := Z') (γ := γ) (chain := [{ v := V, recovered := false }]) (F := c.cur) (b := a) (by rw [hS.cur.defers, List.isEmpty_iff.1 hok.1.1]; rfl) (hS.callers.mono h3 (Gst.Le.refl _)) hok.1.2 hok.2
  exact ⟨_, he, V, w', Z2, own, γ, fr, hv, h2, ⟨Z', h3, hm⟩, hst.trans k1, k2, k3⟩
 ·exact he.elim
theorem runOp0_sound {base : List Frame} (hE : EOK E) (hS : StOK E w0 K c a as w Z own γ) {ops : Array Oper} {i : Nat} {o : Oper} {rest : List Nat} {k : List Item} {Q : Fin → Prop}
  (ht : c.cur.todo = .inRegion ops (i :: rest) :: k) (ho : ops[i]? = some o) (hw : Region.wanted o (yielded ops a.tmps) = true)
  (he : (runOp0 E c ops o rest k).wp Q) : ∃ f, Q f ∧ FinOK E w0 K base c a as w Z f := by
 have hev : ∀ x, VR w Z γ (ev E c.cur.fr x) (a.eval x) := fun x => ev_rel' hS.gl hS.cur.tmps x
 have hmk : mkF c.cur a = (fb c.cur).atR a (.inRegion ops (i :: rest) :: k) := by simp [mkF, ht]
 have hu : ∀ s, s < c.nx → s < c.nx + qao := fun s h => by omega
 unfold runOp0 at he
 split at he
 ·rename_i x y z hop
  split at he
  ·rename_i b hb
   have hv := asB_inv (hev x) hb
   have hrun : (execOp a.eval o).run E.P w = .ok (.value (a.eval (if b then y else z))) w := by
    simp only [execOp, hop, hv, asBool, Sem.run_bind, Sem.run_pure, Result.andThen_ok]
    cases b <;> rfl
   cases hbb : b with
   | true =>
    refine ⟨_, he.1 hbb, a.put o.dst (a.eval y), as, w, Z, own, γ, ⟨?_, hS.callers, hS.mem, hS.gl⟩, Stay.refl _ _, by first | rfl | (cases c.callers <;> rfl), ?_⟩
    ·have : setB c.cur.fr (opTmp x) true = c.cur.fr := setB_eq hb hbb
     rw [this]
     exact hS.cur.fin (hev y)
    ·rw [hmk]
     rw [hbb] at hrun
     exact .one (op_value ho hw hrun)
   | false =>
    refine ⟨_, he.2 hbb, a.put o.dst (a.eval z), as, w, Z, own, γ, ⟨?_, hS.callers, hS.mem, hS.gl⟩, Stay.refl _ _, by first | rfl | (cases c.callers <;> rfl), ?_⟩
    ·have : setB c.cur.fr (opTmp x) false = c.cur.fr := setB_eq hb hbb
     rw [this]
     exact hS.cur.fin (hev z)
    ·rw [hmk]
     rw [hbb] at hrun
     exact .one (op_value ho hw hrun)
  ·exact he.elim
 ·rename_i x hop
  split at he
  ·rename_i t v hv
   have hx := hev x
   rw [hv] at hx
   have hval := hx.val_inv
   have hrun : (execOp a.eval o).run E.P w = .halt (.panic (.iface t v)) w := by
    simp only [execOp, hop, hval]
    rfl
   refine panT_sound hS he (V := .iface t v) (.val _ hx.val_ok) (Stay.refl _ _) (Stay.refl _ _) hS.mem ?_
   rw [hmk]
   have hg := stepGR_op (P := E.P) (b := fb c.cur) (k := k) (cs := frs c.callers as ++ base) (w := w) (rest := rest) ho hw
   rw [Oper.semAt_eq _ _ _ (fun c' hc' => by rw [hop] at hc'; cases hc')] at hg
   refine .one (step_lone_go ?_)
   rw [hg]
   simp [stepG.apply, hrun]
  ·exact he.elim
 ·rename_i x hop
  split at he
  ·rename_i r hv
   have hx := hev x
   rw [hv] at hx
   obtain ⟨b, hb, hval⟩ := hx.ref_inv
   split at he
   ·rename_i R hR
    split at he
    ·rename_i s pos hc
     obtain ⟨b0, o0, k1, k2, k3, ⟨k4, k4'⟩, k5, k6⟩ := hS.mem.obj hR hc
     rw [hb] at k1
     injection k1 with k1
     subst k1
     subst k4
     have hobj : ∀ {u : World}, u.heap = w.heap → (getObj b).run E.P u = .ok (.stringIter s pos) u := fun {u} hu => by simp [getObj, Sem.run, hu, k3]
     cases hpos : decide (pos < s.size) with
     | true =>
      have hp := of_decide_eq_true hpos
      obtain ⟨m1, m2⟩ := hS.mem.setObj (x' := .iter s (pos + runeW s pos)) (o' := .stringIter s (pos + runeW s pos)) hR hc hb ⟨rfl, k4'⟩
      have hrun : (execOp a.eval o).run E.P w = .ok (.value (.tuple #[.bool true, goInt pos, .int .i32 (runeAt s pos)])) { w with heap := w.heap.setIfInBounds b (.stringIter s (pos + runeW s pos)) } := by
       simp only [execOp, hop, hval]
       simp [Instr.next, getObj, setObj, Sem.run, k3, hp, runeAt, runeW]
      refine ⟨_, he.1 hpos, a.put o.dst (.tuple #[.bool true, goInt pos, .int .i32 (runeAt s pos)]), as, _, Z, own, γ, ⟨(hS.cur.mono m1 (Gst.Le.refl _)).fin ?_, hS.callers.mono m1 (Gst.Le.refl _), m2, hS.gl.mono m1⟩, m1, by cases c.callers <;> rfl, ?_⟩
      ·refine .tup _ _ rfl fun j x y hx hy => ?_
       have hd := decode_le s pos
       match j, hx, hy with
       | 0, hx, hy => simp at hx hy; subst hx; subst hy; exact .cr (.val _ trivial)
       | 1, hx, hy => simp at hx hy; subst hx; subst hy; exact .cr (.val _ (by
         show IntKind.i64.has _
         unfold roomB at k4'
         exact ⟨by simp [IntKind.min, IntKind.signed, IntKind.bits] <;> omega, by simp [IntKind.max, IntKind.signed, IntKind.bits] <;> omega⟩))
       | 2, hx, hy => simp at hx hy; subst hx; subst hy; exact .cr (.val _ (by
         show IntKind.i32.has _
         unfold runeAt
         exact ⟨by simp [IntKind.min, IntKind.signed, IntKind.bits] <;> omega, by simp [IntKind.max, IntKind.signed, IntKind.bits] <;> omega⟩))
       | j + 3, hx, hy => simp at hx
      ·rw [hmk]
       exact .one (op_value ho hw hrun)
     | false =>
      have hp := of_decide_eq_false hpos
      have hrun : (execOp a.eval o).run E.P w = .ok (.value (.tuple #[.bool false])) w := by
       simp only [execOp, hop, hval]
       simp [Instr.next, getObj, Sem.run, k3, hp]
      refine ⟨_, he.2 hpos, a.put o.dst (.tuple #[.bool false]), as, w, Z, own, γ, ⟨hS.cur.fin ?_, hS.callers, hS.mem, hS.gl⟩, Stay.refl _ _, by cases c.callers <;> rfl, ?_⟩
      ·exact .tup _ _ rfl fun j x y hx hy => by
        cases j with
        | zero => simp at hx hy; subst hx; subst hy; exact .cr (.val _ trivial)
        | succ j => simp at hx
      ·rw [hmk]
       exact .one (op_value ho hw hrun)
    ·exact he.elim
   ·exact he.elim
  ·exact he.elim
 ·rename_i hnp1 hnp2 hnp3
  have hop := aop_sound (K := K) (used' := fun s => s < c.nx + qao) hE.ty hS.mem (id := c.nx) (Nat.lt_irrefl _) hu (by show c.nx < c.nx + 16; omega) (ro := siteOp E c.cur.fn o.dst) hev o
  split at he
  ·rename_i C' A' hv
   rw [hv] at hop
   obtain ⟨hC, he⟩ := qds he
   obtain ⟨v, e1, e2⟩ := hop hC
   refine ⟨_, he, a.put o.dst v, as, w, Z, own, γ, ⟨hS.cur.fin e2, hS.callers, hS.mem.used_mono hu, hS.gl⟩, Stay.refl _ _, by cases c.callers <;> rfl, ?_⟩
   rw [hmk]
   exact .one (op_value ho hw e1)
  ·rename_i C' A' ws sk hv
   rw [hv] at hop
   obtain ⟨hC, he⟩ := qds he
   obtain ⟨n, v, w', Z', own', γ', e1, e2, e3, e4, e5, e6⟩ := hop hC
   have hle := e4.le hS.mem.fresh
   refine ⟨_, he, a.put o.dst v, as, w', Z', own', γ', ⟨(hS.cur.mono e3 hle).fin e6, hS.callers.mono e3 hle, e5, hS.gl.mono e3⟩, e3, by cases c.callers <;> rfl, ?_⟩
   rw [hmk]
   split at e2
   ·obtain ⟨rfl, rfl⟩ := e2
    exact .one (op_skipv ho hw e1)
   ·subst e2
    exact .one (op_value ho hw e1)
  ·rename_i p hv
   rw [hv] at hop
   obtain ⟨b, e1, e2⟩ := hop
   refine ⟨_, he b e1, a.put o.dst (.bool b), as, w, Z, own, γ, ⟨hS.cur.fin (.cr (.val _ trivial)), hS.callers, hS.mem.used_mono hu, hS.gl⟩, Stay.refl _ _, by cases c.callers <;> rfl, ?_⟩
   rw [hmk]
   exact .one (op_value ho hw e2)
  ·rename_i f args hv
   rw [hv] at hop
   obtain ⟨vs, e1, e2⟩ := hop
   split at he
   ·rename_i hfn
    rw [hE.fns f hfn] at e1
    split at he
    ·rename_i C' Kn A' ws hcall
     obtain ⟨hC, he⟩ := qds he
     have hcl := acallA_sound (used' := fun s => s < c.nx + qao) hE.env hE.io hS.mem hS.gl hcall hC e2 (fun j hj => by omega) hu (fun j hj => by show c.nx + j < c.nx + 16; omega)
     obtain ⟨e, w', fr, ⟨v, Z', own', γ', rfl, k1, k2, k3, k4, k5⟩, q1, q2, q3⟩ := hcl (mkF c.cur a :: (frs c.callers as ++ base))
     have hle := k3.le hS.mem.fresh
     refine ⟨_, he k1, a.put o.dst v, as, w', Z', own', γ', ⟨(hS.cur.mono k2 hle).fin k5, hS.callers.mono k2 hle, k4, hS.gl.mono k2⟩, k2, by cases c.callers <;> rfl, ?_⟩
     have hst := op_enter (P := E.P) (b := fb c.cur) (k := k) (rest := rest) (fs := frs c.callers as ++ base) ho hw e1
     rw [← hmk] at hst
     refine .head hst (Steps.trans q1 ?_)
     rw [hmk]
     exact .one (op_back ho q3)
    ·split at he
     ·rename_i C' bb pv A' hcall
      obtain ⟨hC, he⟩ := qds he
      have hcl := acallP_sound (used' := fun s => s < c.nx + qao) hE.env hS.mem hS.gl hcall hC e2 hu
      have hcl2 := acallP_sound (used' := fun s => s < c.nx) hE.env hS.mem hS.gl hcall hC e2 (fun _ h => h)
      have hst := op_enter (P := E.P) (b := fb c.cur) (k := k) (rest := rest) (fs := frs c.callers as ++ base) ho hw e1
      rw [← hmk] at hst
      cases hbb : bb with
      | true =>
       obtain ⟨e, w', fr, ⟨Z', k1, k2, k3⟩, q1, q2, q3⟩ := hcl2 (mkF c.cur a :: (frs c.callers as ++ base))
       rcases k3 with ⟨_, V, rfl, Z2, j1, j2⟩ | ⟨h0, _⟩
       ·exact panT_sound hS (he.1 hbb) j2 j1 k1 k2 (.head hst (Steps.trans q1 (.one (step_leave_panicked q3))))
       ·rw [hbb] at h0; cases h0
      | false =>
       obtain ⟨e, w', fr, ⟨Z', k1, k2, k3⟩, q1, q2, q3⟩ := hcl (mkF c.cur a :: (frs c.callers as ++ base))
       rcases k3 with ⟨h0, _⟩ | ⟨_, V, rfl, j1⟩
       ·rw [hbb] at h0; cases h0
       ·refine ⟨_, he.2 hbb, a.put o.dst V, as, w', Z', own, γ, ⟨(hS.cur.mono k1 (Gst.Le.refl _)).fin j1, hS.callers.mono k1 (Gst.Le.refl _), k2, hS.gl.mono k1⟩, k1, by cases c.callers <;> rfl, ?_⟩
        refine .head hst (Steps.trans q1 ?_)
        rw [hmk]
        exact .one (op_back ho q3)
     ·split at he
      ·rename_i F' hF
       obtain ⟨b, q1, q2, q3⟩ := enter_ok hF e2
       refine ⟨_, he, b, a :: as, w, Z, own, γ, ⟨q2, ⟨hS.cur, hS.callers⟩, hS.mem, hS.gl⟩, Stay.refl _ _, rfl, ?_⟩
       rw [frs_cons, ← q1]
       have hst := op_enter (P := E.P) (b := fb c.cur) (k := k) (rest := rest) (fs := frs c.callers as ++ base) ho hw e1
       rw [← hmk] at hst
       exact .one hst
      ·exact he.elim
   ·exact he.elim
  ·exact he.elim
def resOne (arr : Array Value) : ResultVar → Sem Value
 | .tmp t => pure (arr.getD t undef)
 | .cell a t => do loadVar t (← asAddr (arr.getD a undef))
theorem results_eq (fn : Func) (arr : Array Value) : results fn arr = (do let vs ← fn.results.mapM (resOne arr); pure (if h : vs.size = 1 then vs[0] else .tuple vs)) := by
 unfold results
 have : (fun (x : ResultVar) => match x with | .tmp t => (pure (arr.getD t undef) : Sem Value) | .cell a t => do loadVar t (← asAddr (arr.getD a undef))) = resOne arr := by funext x; cases x <;> rfl
 rw [← this]
 rfl
theorem aload_addr {C : List Prop} {t : TypeId} (he : aload E h t A = some (C, B)) (hA : VR w Z γ A V) : ∃ ad, V = .pointer (some ad) := by
 unfold aload at he
 split at he
 ·obtain ⟨b, o, rfl, _⟩ := hA.rop_inv; exact ⟨_, rfl⟩
 ·obtain ⟨b, o, us, rfl, _⟩ := hA.rtp_inv; exact ⟨_, rfl⟩
 ·obtain ⟨b, _, rfl⟩ := hA.ref_inv; exact ⟨_, rfl⟩
 ·obtain ⟨hd, b, o, so, T, _, _, _, _, rfl⟩ := hA.tref_inv; exact ⟨_, rfl⟩
 ·cases he
theorem aresults_sound (hT : TyOK E.P E.ty) (hm : MemR w0 K w Z own γ h used) {fr : List AV} {arr : Array Value} (hf : VRs w Z γ fr arr.toList) : ∀ {rs : List ResultVar} {C : List Prop} {vs : List AV}, aresults E h fr rs = some (C, vs) → AllP C →
  ∃ us : List Value, (rs.mapM (resOne arr)).run E.P w = .ok us w ∧ VRs w Z γ vs us
 | [], C, vs, he, _ => by
  simp only [aresults, Option.some.injEq, Prod.mk.injEq] at he
  obtain ⟨_, rfl⟩ := he
  exact ⟨[], rfl, .nil⟩
 | .tmp t :: rs, C, vs, he, hC => by
  simp only [aresults] at he
  split at he
  ·rename_i C1 l hl
   injection he with he
   injection he with he1 he2
   subst he1; subst he2
   obtain ⟨us, h1, h2⟩ := aresults_sound hT hm hf hl hC
   exact ⟨arr.getD t undef :: us, by simp only [List.mapM_cons, resOne, Sem.run_bind, Sem.run_pure, Result.andThen_ok, h1], .cons (lget_rel hf) h2⟩
  ·cases he
 | .cell x t :: rs, C, vs, he, hC => by
  simp only [aresults] at he
  split at he
  ·rename_i C1 v C2 l hv hl
   injection he with he
   injection he with he1 he2
   subst he1; subst he2
   rw [AllP.append] at hC
   obtain ⟨us, h1, h2⟩ := aresults_sound hT hm hf hl hC.2
   obtain ⟨ad, had⟩ := aload_addr hv (lget_rel (t := x) hf)
   obtain ⟨u, h3, h4⟩ := aload_sound hT hm hv hC.1 (lget_rel (t := x) hf)
   rw [had] at h3
   simp only [Instr.loadAt, Instr.sureAddr, Sem.run_bind, Sem.run_pure, Result.andThen_ok] at h3
   exact ⟨u :: us, by simp only [List.mapM_cons, resOne, Sem.run_bind, Sem.run_pure, Result.andThen_ok, had, asAddr, h3, h1], .cons h4 h2⟩
  ·cases he
theorem results_sound (hT : TyOK E.P E.ty) (hm : MemR w0 K w Z own γ h used) {fr : List AV} {arr : Array Value} (hf : VRs w Z γ fr arr.toList) {fn : Func} {C : List Prop} {vs : List AV} (he : aresults E h fr fn.results.toList = some (C, vs)) (hC : AllP C) :
  ∃ V, (results fn arr).run E.P w = .ok V w ∧ VR w Z γ (retv vs) V := by
 obtain ⟨us, h1, h2⟩ := aresults_sound hT hm hf he hC
 refine ⟨if h : us.toArray.size = 1 then us.toArray[0] else .tuple us.toArray, ?_, ?_⟩
 ·rw [results_eq, Sem.run_bind, Array.mapM_eq_mapM_toList, Sem.run_map, h1]
  rfl
 ·cases us with
  | nil =>
   have : vs = [] := List.eq_nil_of_length_eq_zero (by simpa using h2.1)
   subst this
   exact .tup _ _ rfl (fun j x y hx => by simp at hx)
  | cons u us =>
   cases vs with
   | nil => simp [VRs] at h2
   | cons x vs =>
    cases us with
    | nil =>
     have : vs = [] := List.eq_nil_of_length_eq_zero (by have := h2.1; simp at this; simpa using this)
     subst this
     exact h2.head
    | cons u' us =>
     cases vs with
     | nil => simp [VRs] at h2
     | cons x' vs => exact .tup _ _ (by simpa using h2.1) (fun j p q hp hq => h2.2 j p q hp (by simpa using hq))
theorem leave0_sound {base : List Frame} (hE : EOK E) (hS : StOK E w0 K c a as w Z own γ) {Q : Fin → Prop} {todo : List Item} (h2s : Stay w Z w' Z') (hm : MemR w0 K w' Z' own' γ h (fun s => s < c.nx))
  (hst : ∀ fs, Steps E.P (lone (mkF c.cur a) fs w) (lone { (fb c.cur).atR { a with defers := [] } todo with mode := .returning } fs w')) (he : (leave0 E c h).wp Q) : ∃ f, Q f ∧ FinOK E w0 K base c a as w Z f := by
 have hfr := hS.cur.tmps.mono h2s (Gst.Le.refl γ)
 unfold leave0 at he
 split at he
 ·exact he.elim
 ·rename_i fn hfn
  split at he
  ·exact he.elim
  ·rename_i C vs hvs
   have hcs := hS.callers.mono h2s (Gst.Le.refl γ)
   split at he
   ·rename_i hc
    obtain ⟨hC, he⟩ := qds he
    obtain ⟨V, h1, h2⟩ := results_sound hE.ty hm hfr hvs hC
    have hl : ({ (fb c.cur).atR { a with defers := [] } todo with mode := .returning } : Frame).leaving E.P w' (.returned V) := ⟨rfl, rfl, rfl, fn, hfn, h1⟩
    rw [hc] at hcs
    cases as with
    | cons => exact hcs.elim
    | nil =>
     refine ⟨_, he, V, w', Z', own', γ, _, h2, h2s, hm, ?_, ?_, hl⟩
     ·rw [hc]
      exact hst base
     ·rw [hc]
      rfl
   ·rename_i F Fs hc
    rw [hc] at hcs
    cases as with
    | nil => exact hcs.elim
    | cons b bs =>
     obtain ⟨hF, hFs⟩ := hcs
     split at he
     ·rename_i ops i rest k htodo
      split at he
      ·rename_i o ho
       obtain ⟨hC, he⟩ := qds he
       obtain ⟨V, h1, h2⟩ := results_sound hE.ty hm hfr hvs hC
       have hl : ({ (fb c.cur).atR { a with defers := [] } todo with mode := .returning } : Frame).leaving E.P w' (.returned V) := ⟨rfl, rfl, rfl, fn, hfn, h1⟩
       have hmk : mkF F b = (fb F).atR b (.inRegion ops (i :: rest) :: k) := by simp [mkF, htodo]
       refine ⟨_, he, b.put o.dst V, bs, w', Z', own', γ, ⟨hF.fin h2, hFs, hm, hS.gl.mono h2s⟩, h2s, ?_, ?_⟩
       ·rw [hc]
        cases Fs <;> rfl
       ·rw [hc, frs_cons, hmk]
        exact (hst _).trans (.one (op_back ho hl))
      ·exact he.elim
     ·rename_i l k htodo
      obtain ⟨hC, he⟩ := qds he
      obtain ⟨V, h1, h2⟩ := results_sound hE.ty hm hfr hvs hC
      have hl : ({ (fb c.cur).atR { a with defers := [] } todo with mode := .returning } : Frame).leaving E.P w' (.returned V) := ⟨rfl, rfl, rfl, fn, hfn, h1⟩
      have hmk : mkF F b = (fb F).atR b (.inRangeFunc l :: k) := by simp [mkF, htodo]
      refine ⟨_, he, b, bs, w', Z', own', γ, ⟨⟨hF.defers, hF.tmps, ⟨fun g hg => ?_, hF.link.rnd, hF.link.marks⟩⟩, hFs, hm, hS.gl.mono h2s⟩, h2s, ?_, ?_⟩
      ·obtain ⟨g1, g2, g3, g4, g5, g6, k', g7⟩ := hF.link.rng g hg
       refine ⟨g1, g2, g3, g4, g5, g6, k, .inr ?_⟩
       rw [htodo] at g7
       rcases g7 with g7 | g7
       ·injection g7 with g7
        injection g7 with g7
        rw [g7]
       ·injection g7 with g7
        cases g7
      ·rw [hc]
       cases Fs <;> rfl
      ·rw [hc, frs_cons, hmk]
       refine (hst _).trans (.one ?_)
       have := step_leave_returned (c := (fb F).atR b (.inRangeFunc l :: k)) (cs := frs Fs bs ++ base) hl
       rw [finish_atR_inRangeFunc] at this
       exact this
     ·exact he.elim
theorem qdb {base : List Frame} (hS : StOK E w0 K c a as w Z own γ) {t : List Item} (hst : ∀ fs, step E.P (lone (mkF c.cur a) fs w) = .next (lone ((fb c.cur).atR a t) fs w)) {Q : Fin → Prop} (he : (todoC c t).wp Q) : ∃ f, Q f ∧ FinOK E w0 K base c a as w Z f :=
 ⟨_, he, a, as, w, Z, own, γ, ⟨hS.cur.to t, hS.callers, hS.mem, hS.gl⟩, Stay.refl _ _, by cases c.callers <;> rfl, .one (hst _)⟩
theorem yielded_at {ops : Array Oper} {j t : Nat} (hj : (ops[j]?).bind (·.dst) = some t) : yielded ops a.tmps j = match a.tmps[t]? with | some (.bool b) => some b | _ => none := by
 unfold yielded
 rw [hj]
 rfl
end
end Go.BE
namespace Go.BE
open Go.RowKit
theorem putT_length (F : List AV) (d : Option Tmp) (v : AV) : (putT F d v).length = F.length := by cases d <;> simp [putT]
theorem putT_get (F : List AV) (d : Option Tmp) (v : AV) (t : Nat) : (putT F d v)[t]? = if d = some t ∧ t < F.length then some v else F[t]? := by
 cases d with
 | none => simp [putT]
 | some d =>
  simp only [putT, List.getElem?_set, Option.some.injEq]
  by_cases h : d = t
  ·subst h
   by_cases h2 : d < F.length
   ·simp [h2]
   ·simp [h2, List.getElem?_eq_none (Nat.le_of_not_lt h2)]
  ·simp [h]

def selF (L : Nat → Bool) : Nat → List Rc → List AV → List AV
 | _, [], F => F
 | i, r :: rs, F => selF L (i + 1) rs (if L i then putT F r.dst r.val else F)
def selH (L : Nat → Bool) : Nat → List Rc → (Nat → Option Root) → Nat → Option Root
 | _, [], g => g
 | i, r :: rs, g => selH L (i + 1) rs (if L i then upW r.ws g else g)
theorem selF_length (L : Nat → Bool) : ∀ (rs : List Rc) (i : Nat) (F : List AV), (selF L i rs F).length = F.length
 | [], i, F => rfl
 | r :: rs, i, F => by
  simp only [selF]
  rw [selF_length L rs]
  split
  ·exact putT_length _ _ _
  ·rfl
theorem selF_congr {L L' : Nat → Bool} {t : Nat} : ∀ (rs : List Rc) (i : Nat) (F F' : List AV), F.length = F'.length → F[t]? = F'[t]? →
  (∀ (m : Nat) r, rs[m]? = some r → r.dst = some t → L (i + m) = L' (i + m)) → (selF L i rs F)[t]? = (selF L' i rs F')[t]?
 | [], i, F, F', hl, ht, h => ht
 | r :: rs, i, F, F', hl, ht, h => by
  simp only [selF]
  refine selF_congr rs (i + 1) _ _ ?_ ?_ fun m q hm hq => ?_
  ·split <;> split <;> simp [putT_length, hl]
  ·have h0 := h 0 r rfl
   simp only [Nat.add_zero] at h0
   by_cases hd : r.dst = some t
   ·rw [← h0 hd]
    split
    ·rw [putT_get, putT_get, hl, ht]
    ·exact ht
   ·have key : ∀ (b : Bool) (G : List AV), (if b then putT G r.dst r.val else G)[t]? = G[t]? := by
     intro b G
     cases b
     ·rfl
     ·simp only [if_true]
      rw [putT_get, if_neg (fun hh => hd hh.1)]
    rw [key, key, ht]
  ·have := h (m + 1) q (by simpa using hm) hq
   rwa [show i + 1 + m = i + (m + 1) from by omega]
theorem selH_congr {L L' : Nat → Bool} {x : Nat} : ∀ (rs : List Rc) (i : Nat) (g g' : Nat → Option Root), g x = g' x →
  (∀ (m : Nat) r, rs[m]? = some r → x ∈ wrs r → L (i + m) = L' (i + m)) → selH L i rs g x = selH L' i rs g' x
 | [], i, g, g', ht, h => ht
 | r :: rs, i, g, g', ht, h => by
  simp only [selH]
  refine selH_congr rs (i + 1) _ _ ?_ fun m q hm hq => ?_
  ·by_cases hd : x ∈ wrs r
   ·have h0 := h 0 r rfl hd
    simp only [Nat.add_zero] at h0
    rw [← h0]
    split
    ·exact upW_in (.inr ht)
    ·exact ht
   ·have key : ∀ (b : Bool) (G : Nat → Option Root), (if b then upW r.ws G else G) x = G x := by
     intro b G
     cases b
     ·rfl
     ·simp only [if_true]
      exact upW_not hd
    rw [key, key, ht]
  ·have := h (m + 1) q (by simpa using hm) hq
   rwa [show i + 1 + m = i + (m + 1) from by omega]
theorem selF_last {L : Nat → Bool} {t : Nat} {v : AV} : ∀ (rs : List Rc) (i : Nat) (F : List AV) (j : Nat) (r : Rc), rs[j]? = some r → r.dst = some t → r.val = v → L (i + j) = true →
  (∀ (m : Nat) q, j < m → rs[m]? = some q → q.dst = some t → L (i + m) = false) → (selF L i rs F)[t]? = if t < F.length then some v else none
 | [], i, F, j, r, hj, _, _, _, _ => by simp at hj
 | q :: rs, i, F, 0, r, hj, hd, hv, hL, h => by
  simp only [List.getElem?_cons_zero, Option.some.injEq] at hj
  subst hj
  simp only [selF, Nat.add_zero] at hL ⊢
  rw [if_pos hL]
  have : (selF L (i + 1) rs (putT F q.dst q.val))[t]? = (selF (fun _ => false) (i + 1) rs (putT F q.dst q.val))[t]? := by
   refine selF_congr rs (i + 1) _ _ rfl rfl fun m p hm hp => ?_
   have := h (m + 1) p (by omega) (by simpa using hm) hp
   rwa [show i + 1 + m = i + (m + 1) from by omega]
  rw [this]
  have none : ∀ (rs : List Rc) (i : Nat) (F : List AV), selF (fun _ => false) i rs F = F := by
   intro rs
   induction rs with
   | nil => intro i F; rfl
   | cons r rs ih => intro i F; simp only [selF]; exact ih _ _
  rw [none, putT_get, hd, hv]
  simp only [true_and]
  split
  ·rfl
  ·rename_i hlt
   exact List.getElem?_eq_none (Nat.le_of_not_lt hlt)
 | q :: rs, i, F, j + 1, r, hj, hd, hv, hL, h => by
  simp only [selF]
  have hlen : (if L i = true then putT F q.dst q.val else F).length = F.length := by
   split
   ·exact putT_length _ _ _
   ·rfl
  rw [← hlen]
  refine selF_last rs (i + 1) _ j r (by simpa using hj) hd hv (by rwa [show i + 1 + j = i + (j + 1) from by omega]) fun m p hm hp hpd => ?_
  have := h (m + 1) p (by omega) (by simpa using hp) hpd
  rwa [show i + 1 + m = i + (m + 1) from by omega]
theorem selH_none : ∀ (rs : List Rc) (i : Nat) (g : Nat → Option Root), selH (fun _ => false) i rs g = g
 | [], i, g => rfl
 | r :: rs, i, g => by simp only [selH]; exact selH_none rs _ g
theorem selH_last {L : Nat → Bool} {x : Nat} : ∀ (rs : List Rc) (i : Nat) (g : Nat → Option Root) (j : Nat) (r : Rc), rs[j]? = some r → x ∈ wrs r → L (i + j) = true →
  (∀ (m : Nat) q, j < m → rs[m]? = some q → x ∈ wrs q → L (i + m) = false) → ∀ g', selH L i rs g x = upW r.ws g' x
 | [], i, g, j, r, hj, _, _, _, _ => by simp at hj
 | q :: rs, i, g, 0, r, hj, hd, hL, h, g' => by
  simp only [List.getElem?_cons_zero, Option.some.injEq] at hj
  subst hj
  simp only [selH, Nat.add_zero] at hL ⊢
  rw [if_pos hL]
  have : selH L (i + 1) rs (upW q.ws g) x = selH (fun _ => false) (i + 1) rs (upW q.ws g) x := by
   refine selH_congr rs (i + 1) _ _ rfl fun m p hm hp => ?_
   have := h (m + 1) p (by omega) (by simpa using hm) hp
   rwa [show i + 1 + m = i + (m + 1) from by omega]
  rw [this, selH_none]
  exact upW_in (.inl hd)
 | q :: rs, i, g, j + 1, r, hj, hd, hL, h, g' => by
  simp only [selH]
  refine selH_last rs (i + 1) _ j r (by simpa using hj) hd (by rwa [show i + 1 + j = i + (j + 1) from by omega]) (fun m p hm hp hpd => ?_) g'
  have := h (m + 1) p (by omega) (by simpa using hp) hpd
  rwa [show i + 1 + m = i + (m + 1) from by omega]
def addL (L : Nat → Bool) (j : Nat) : Nat → Bool := fun i => L i || i == j
theorem selF_add {L : Nat → Bool} {j : Nat} {r : Rc} {rs : List Rc} {F : List AV} (hj : rs[j]? = some r)
  (h : ∀ (m : Nat) q t, j < m → rs[m]? = some q → q.dst = some t → r.dst = some t → L m = false) : selF (addL L j) 0 rs F = putT (selF L 0 rs F) r.dst r.val := by
 refine List.ext_getElem? fun t => ?_
 rw [putT_get, selF_length]
 by_cases hd : r.dst = some t
 ·rw [selF_last rs 0 F j r hj hd rfl (by simp [addL]) fun m q hm hq hqd => ?_]
  ·simp only [hd, true_and]
   split
   ·rfl
   ·rename_i hlt
    rw [List.getElem?_eq_none]
    rw [selF_length]
    omega
  ·simp only [addL, Nat.zero_add, Bool.or_eq_false_iff]
   exact ⟨h m q t hm hq hqd hd, by simp; omega⟩
 ·rw [if_neg (fun hh => hd hh.1)]
  refine selF_congr rs 0 _ _ rfl rfl fun m q hm hq => ?_
  simp only [addL, Nat.zero_add]
  by_cases hmj : m = j
  ·subst hmj
   rw [hj] at hm
   injection hm with hm
   subst hm
   exact absurd hq hd
  ·simp [hmj]
theorem selH_add {L : Nat → Bool} {j : Nat} {r : Rc} {rs : List Rc} {g : Nat → Option Root} (hj : rs[j]? = some r)
  (h : ∀ (m : Nat) q x, j < m → rs[m]? = some q → x ∈ wrs q → x ∈ wrs r → L m = false) (x : Nat) : selH (addL L j) 0 rs g x = upW r.ws (selH L 0 rs g) x := by
 by_cases hd : x ∈ wrs r
 ·refine selH_last rs 0 g j r hj hd (by simp [addL]) (fun m q hm hq hqd => ?_) _
  simp only [addL, Nat.zero_add, Bool.or_eq_false_iff]
  exact ⟨h m q x hm hq hqd hd, by simp; omega⟩
 ·rw [upW_not hd]
  refine selH_congr rs 0 _ _ rfl fun m q hm hq => ?_
  simp only [addL, Nat.zero_add]
  by_cases hmj : m = j
  ·subst hmj
   rw [hj] at hm
   injection hm with hm
   subst hm
   exact absurd hq hd
  ·simp [hmj]
theorem maskF_get (ns : List Nat) : ∀ (F : List AV) (i t : Nat), (maskF ns F i)[t]? = (F[t]?).map fun a => if ns.contains (i + t) then a else .bad
 | [], i, t => by simp [maskF]
 | a :: F, i, 0 => by simp [maskF]
 | a :: F, i, t + 1 => by
  simp only [maskF, List.getElem?_cons_succ]
  rw [maskF_get ns F (i + 1) t, show i + 1 + t = i + (t + 1) from by omega]
theorem maskF_congr {ns : List Nat} {F F' : List AV} (h : ∀ t, ns.contains t = true → F[t]? = F'[t]?) (hl : F.length = F'.length) : maskF ns F 0 = maskF ns F' 0 := by
 refine List.ext_getElem? fun t => ?_
 rw [maskF_get, maskF_get, Nat.zero_add]
 by_cases hc : ns.contains t = true
 ·rw [h t hc]
 ·simp only [hc, Bool.false_eq_true, if_false]
  rcases Nat.lt_or_ge t F.length with hlt | hge
  ·rw [List.getElem?_eq_getElem hlt, List.getElem?_eq_getElem (by omega)]; rfl
  ·rw [List.getElem?_eq_none hge, List.getElem?_eq_none (by omega)]
theorem maskH_congr {H H' : Heap} : ∀ {l : List Nat}, (∀ x ∈ l, hget H x = hget H' x) → maskH H l = maskH H' l
 | [], _ => rfl
 | x :: l, h => by
  simp only [maskH]
  rw [h x (by simp), maskH_congr fun y hy => h y (by simp [hy])]

def foldF (rs : List Rc) (F : List AV) : List AV := rs.foldl (fun F r => putT F r.dst r.val) F
def foldH (rs : List Rc) (h : Heap) : Heap := rs.foldl (fun h r => qaj h r.ws) h
theorem foldF_sel (rs : List Rc) : ∀ (k i : Nat) (F : List AV), foldF (rs.take k) F = selF (fun m => decide (m < i + k)) i rs F := by
 have none : ∀ (rs : List Rc) (L : Nat → Bool) (i : Nat) (F : List AV), (∀ m, i ≤ m → L m = false) → selF L i rs F = F := by
  intro rs
  induction rs with
  | nil => intro L i F _; rfl
  | cons r rs ih =>
   intro L i F h
   simp only [selF, h i (Nat.le_refl _), Bool.false_eq_true, if_false]
   exact ih _ _ _ fun m hm => h m (by omega)
 induction rs with
 | nil => intro k i F; simp [foldF, selF]
 | cons r rs ih =>
  intro k i F
  cases k with
  | zero =>
   rw [none _ _ _ _ (fun m hm => by simp; omega)]
   rfl
  | succ k =>
   simp only [List.take_succ_cons, selF, show i < i + (k + 1) from by omega, decide_true, if_true]
   have := ih k (i + 1) (putT F r.dst r.val)
   rw [show i + 1 + k = i + (k + 1) from by omega] at this
   exact this
theorem foldH_sel (rs : List Rc) : ∀ (k i : Nat) (h : Heap) (x : Nat), hget (foldH (rs.take k) h) x = selH (fun m => decide (m < i + k)) i rs (hget h) x := by
 have none : ∀ (rs : List Rc) (L : Nat → Bool) (i : Nat) (g : Nat → Option Root), (∀ m, i ≤ m → L m = false) → selH L i rs g = g := by
  intro rs
  induction rs with
  | nil => intro L i g _; rfl
  | cons r rs ih =>
   intro L i g h
   simp only [selH, h i (Nat.le_refl _), Bool.false_eq_true, if_false]
   exact ih _ _ _ fun m hm => h m (by omega)
 induction rs with
 | nil => intro k i h x; simp [foldH, selH]
 | cons r rs ih =>
  intro k i h x
  cases k with
  | zero =>
   rw [none _ _ _ _ (fun m hm => by simp; omega)]
   rfl
  | succ k =>
   simp only [List.take_succ_cons, selH, show i < i + (k + 1) from by omega, decide_true, if_true]
   have := ih k (i + 1) (qaj h r.ws) x
   rw [show i + 1 + k = i + (k + 1) from by omega, qbx] at this
   exact this
theorem addN_mem {l : List Nat} {x y : Nat} (h : y ∈ addN l x) : y = x ∨ y ∈ l := by
 unfold addN at h
 split at h
 ·exact .inr h
 ·simpa using h
theorem addAll_mem {y : Nat} : ∀ {m l : List Nat}, y ∈ addAll l m → y ∈ l ∨ y ∈ m
 | [], l, h => .inl h
 | x :: m, l, h => by
  rcases addAll_mem (m := m) h with h | h
  ·rcases addN_mem h with rfl | h
   ·exact .inr (by simp)
   ·exact .inl h
  ·exact .inr (by simp [h])
theorem ancOf_ok {acc : List (List Nat)} {j : Nat} : ∀ {es : List Go.Edge} {l : List Nat}, ancOf acc j es = some l → (∀ e ∈ es, Region.binds .any e = true → e.on < j) ∧ ∀ i ∈ l, ∃ e ∈ es, Region.binds .any e = true ∧ (i = e.on ∨ i ∈ acc.getD e.on [])
 | [], l, h => by
  simp only [ancOf, Option.some.injEq] at h
  subst h
  exact ⟨fun e he => by simp at he, fun i hi => by simp at hi⟩
 | e :: es, l, h => by
  simp only [ancOf] at h
  split at h
  ·rename_i hb
   split at h
   ·rename_i hlt
    split at h
    ·rename_i l' hl'
     injection h with h
     subst h
     obtain ⟨h1, h2⟩ := ancOf_ok hl'
     refine ⟨fun e' he' hb' => ?_, fun i hi => ?_⟩
     ·simp only [List.mem_cons] at he'
      rcases he' with rfl | he'
      ·exact hlt
      ·exact h1 e' he' hb'
     ·rcases addAll_mem hi with hi | hi
      ·rcases addN_mem hi with rfl | hi
       ·exact ⟨e, by simp, hb, .inl rfl⟩
       ·obtain ⟨e', he', r⟩ := h2 i hi
        exact ⟨e', by simp [he'], r⟩
      ·exact ⟨e, by simp, hb, .inr hi⟩
    ·cases h
   ·cases h
  ·rename_i hb
   obtain ⟨h1, h2⟩ := ancOf_ok h
   refine ⟨fun e' he' hb' => ?_, fun i hi => ?_⟩
   ·simp only [List.mem_cons] at he'
    rcases he' with rfl | he'
    ·exact absurd hb' hb
    ·exact h1 e' he' hb'
   ·obtain ⟨e', he', r⟩ := h2 i hi
    exact ⟨e', by simp [he'], r⟩
theorem ancs_ok : ∀ {os : List Oper} {acc A : List (List Nat)}, ancs acc os = some A → (∀ k, k < acc.length → A[k]? = acc[k]?) ∧
  ∀ (k : Nat) o, os[k]? = some o → (∀ e ∈ o.after.toList, Region.binds .any e = true → e.on < acc.length + k) ∧ ∀ i ∈ A.getD (acc.length + k) [], ∃ e ∈ o.after.toList, Region.binds .any e = true ∧ (i = e.on ∨ i ∈ A.getD e.on [])
 | [], acc, A, h => by
  simp only [ancs, Option.some.injEq] at h
  subst h
  exact ⟨fun k hk => rfl, fun k o ho => by simp at ho⟩
 | o :: os, acc, A, h => by
  simp only [ancs] at h
  split at h
  ·rename_i l hl
   obtain ⟨h1, h2⟩ := ancs_ok h
   simp only [List.length_append, List.length_cons, List.length_nil, Nat.zero_add] at h1 h2
   have hA : ∀ k, k < acc.length → A[k]? = acc[k]? := fun k hk => by rw [h1 k (by omega), List.getElem?_append_left hk]
   refine ⟨hA, fun k q hq => ?_⟩
   cases k with
   | zero =>
    simp only [List.getElem?_cons_zero, Option.some.injEq] at hq
    subst hq
    obtain ⟨k1, k2⟩ := ancOf_ok hl
    refine ⟨k1, fun i hi => ?_⟩
    have hAj : A.getD acc.length [] = l := by
     rw [List.getD_eq_getElem?_getD, h1 _ (by omega)]
     simp
    rw [Nat.add_zero, hAj] at hi
    obtain ⟨e, he, hb, hr⟩ := k2 i hi
    refine ⟨e, he, hb, hr.imp id fun hr => ?_⟩
    rw [List.getD_eq_getElem?_getD, hA _ (k1 e he hb), ← List.getD_eq_getElem?_getD]
    exact hr
   | succ k =>
    have := h2 k q (by simpa using hq)
    rw [show acc.length + 1 + k = acc.length + (k + 1) from by omega] at this
    exact this
  ·cases h

theorem okAgainst_ok {anc : List Nat} {r : Rc} : ∀ {qs : List Rc} {i : Nat}, okAgainst anc r i qs = true → ∀ (m : Nat) q, qs[m]? = some q → conf q r = true → i + m ∈ anc
 | [], i, h, m, q, hm, hc => by simp at hm
 | p :: qs, i, h, m, q, hm, hc => by
  simp only [okAgainst, Bool.and_eq_true, Bool.or_eq_true, Bool.not_eq_true'] at h
  cases m with
  | zero =>
   simp only [List.getElem?_cons_zero, Option.some.injEq] at hm
   subst hm
   rcases h.1 with h1 | h1
   ·rw [h1] at hc; cases hc
   ·simpa using h1
  | succ m =>
   have := okAgainst_ok h.2 m q (by simpa using hm) hc
   rwa [show i + 1 + m = i + (m + 1) from by omega] at this
theorem okAll_ok {A : List (List Nat)} : ∀ {rs done : List Rc}, okAll A done.length done rs = true → ∀ (i k : Nat) q r, (done ++ rs)[i]? = some q → (done ++ rs)[k]? = some r → i < k → done.length ≤ k → conf q r = true → i ∈ A.getD k []
 | [], done, h, i, k, q, r, hi, hk, hik, hd, hc => by
  have := (List.getElem?_eq_some_iff.1 hk).1
  simp at this
  omega
 | p :: rs, done, h, i, k, q, r, hi, hk, hik, hd, hc => by
  simp only [okAll, Bool.and_eq_true] at h
  by_cases hkd : k = done.length
  ·subst hkd
   rw [List.getElem?_append_right (Nat.le_refl _)] at hk
   simp only [Nat.sub_self, List.getElem?_cons_zero, Option.some.injEq] at hk
   subst hk
   rw [List.getElem?_append_left hik] at hi
   have := okAgainst_ok h.1 i q hi hc
   simpa using this
  ·have h2 := h.2
   have := okAll_ok (done := done ++ [p]) (rs := rs) (by simpa using h2) i k q r (by simpa using hi) (by simpa using hk) hik (by simp; omega) hc
   exact this
theorem meets_of {l m : List Nat} {x : Nat} (h1 : x ∈ l) (h2 : m.contains x = true) : meets l m = true := by
 unfold meets
 rw [List.any_eq_true]
 exact ⟨x, h1, h2⟩
end Go.BE
namespace Go.BE
open Go.RowKit
def Lof (listed : Array Bool) : Nat → Bool := fun i => listed.getD i false
theorem Lof_set {listed : Array Bool} {i : Nat} (hi : i < listed.size) : Lof (listed.setIfInBounds i true) = addL (Lof listed) i := by
 funext j
 simp only [Lof, addL, Array.getD_eq_getD_getElem?]
 by_cases h : i = j
 ·subst h
  simp [Array.getElem?_setIfInBounds_self, hi]
 ·rw [Array.getElem?_setIfInBounds_ne h]
  have : (j == i) = false := by simpa using Ne.symm h
  rw [this, Bool.or_false]
theorem Lof_true {listed : Array Bool} {j : Nat} (hj : j < listed.size) : listed.getD j true = Lof listed j := by
 simp only [Lof, Array.getD_eq_getD_getElem?, Array.getElem?_eq_getElem hj, Option.getD_some]
def DOK (E : Ctx) (fn : FuncId) (ops : Array Oper) (id : Nat) (o : Oper) (F : List AV) (H : Heap) (r : Rc) : Prop := (dop E fn ops id o F H).wp fun r' => r' = r
def Tre.det {α : Type} : Tre α → Prop
 | .ok _ => True
 | .ite _ t e => t.det ∧ e.det
 | .chk _ t => t.det
 | .know _ _ => False
 | .any _ _ => False
 | .rg _ => False
 | .bad => True
theorem Tre.resolve {α : Type} {Q : α → Prop} {t : Tre α} (hd : t.det) (h : t.wp Q) : ∃ r, t.wp (fun r' => r' = r) ∧ Q r := by
 induction t with
 | ok a => exact ⟨a, rfl, h⟩
 | ite b t e iht ihe =>
  cases hb : b with
  | true =>
   obtain ⟨r, h1, h2⟩ := iht hd.1 (h.1 hb)
   exact ⟨r, ⟨fun _ => h1, fun h => (nomatch h)⟩, h2⟩
  | false =>
   obtain ⟨r, h1, h2⟩ := ihe hd.2 (h.2 hb)
   exact ⟨r, ⟨fun h => (nomatch h), fun _ => h1⟩, h2⟩
 | chk C t ih =>
  obtain ⟨r, h1, h2⟩ := ih hd (h.2 h.1)
  exact ⟨r, ⟨h.1, fun _ => h1⟩, h2⟩
 | know K t _ => exact hd.elim
 | any p k _ => exact hd.elim
 | rg k _ => exact hd.elim
 | bad => exact h.elim
theorem chks_det {α : Type} {t : Tre α} : ∀ {C : List Prop}, t.det → (chks C t).det
 | [], h => h
 | _ :: l, h => chks_det (C := l) h
theorem dval_det {E : Ctx} {ro : Nat} {id : Nat} {o : Oper} {ns : List Nat} {fm : List AV} {rd : List Nat} {hm : Heap} : (dval E ro id o ns fm rd hm).det := by
 unfold dval
 split
 ·split
  ·exact ⟨trivial, trivial⟩
  ·trivial
 ·split
  ·exact chks_det trivial
  ·exact chks_det trivial
  ·trivial
  ·split
   ·split
    ·exact chks_det trivial
    ·trivial
   ·trivial
  ·trivial
theorem dop_det {E : Ctx} {fn : FuncId} {ops : Array Oper} {id : Nat} {o : Oper} {F : List AV} {H : Heap} : (dop E fn ops id o F H).det := by
 unfold dop
 dsimp only
 split
 ·exact dval_det
 ·split
  ·trivial
  ·split
   ·split
    ·exact ⟨dval_det, trivial⟩
    ·exact ⟨trivial, dval_det⟩
   ·trivial
   ·trivial
theorem dval_nm {E : Ctx} {ro : Nat} {id : Nat} {o : Oper} {ns : List Nat} {fm : List AV} {rd : List Nat} {hm : Heap} {r : Rc} (h : (dval E ro id o ns fm rd hm).wp fun r' => r' = r) : r.nm = ns ∧ r.dst = o.dst ∧ r.rd = rd := by
 unfold dval at h
 split at h
 ·split at h
  ·rename_i b hb
   cases hbb : b with
   | true => have := h.1 hbb; subst this; exact ⟨rfl, rfl, rfl⟩
   | false => have := h.2 hbb; subst this; exact ⟨rfl, rfl, rfl⟩
  ·exact h.elim
 ·split at h
  ·have := (qds h).2; subst this; exact ⟨rfl, rfl, rfl⟩
  ·have := (qds h).2; subst this; exact ⟨rfl, rfl, rfl⟩
  ·exact h.elim
  ·split at h
   ·split at h
    ·have := (qds h).2; subst this; exact ⟨rfl, rfl, rfl⟩
    ·exact h.elim
   ·exact h.elim
  ·exact h.elim
theorem DOK.nm {E : Ctx} {fn : FuncId} {ops : Array Oper} {id : Nat} {o : Oper} {F : List AV} {H : Heap} {r : Rc} (h : DOK E fn ops id o F H r) : r.nm = names ops o ∧ r.dst = o.dst ∧ r.rd = rdDeep H o.op (rdFor o.op (rdOf (maskF (names ops o) F 0) (names ops o))) := by
 unfold DOK dop at h
 dsimp only at h
 split at h
 ·exact dval_nm h
 ·split at h
  ·exact h.elim
  ·split at h
   ·rename_i b hb
    split at h
    ·cases hbb : b with
     | true => exact dval_nm (h.1 hbb)
     | false => have := h.2 hbb; subst this; exact ⟨rfl, rfl, rfl⟩
    ·cases hbb : b with
     | true => have := h.1 hbb; subst this; exact ⟨rfl, rfl, rfl⟩
     | false => exact dval_nm (h.2 hbb)
   ·have h : _ = r := h
    subst h
    exact ⟨rfl, rfl, rfl⟩
   ·exact h.elim
theorem innerR_congr {H H' : Heap} : ∀ {l : List Nat}, (∀ x ∈ l, hget H x = hget H' x) → innerR H l = innerR H' l
 | [], _ => rfl
 | r :: l, h => by
  simp only [innerR]
  rw [h r List.mem_cons_self, innerR_congr fun x hx => h x (List.mem_cons_of_mem _ hx)]
theorem rdDeep_congr {H H' : Heap} {o : Op} {l : List Nat} (h : ∀ x ∈ rdDeep H o l, hget H x = hget H' x) : rdDeep H o l = rdDeep H' o l := by
 unfold rdDeep at h ⊢
 split
 ·rw [innerR_congr fun x hx => h x (by simp [hx])]
 ·rfl
theorem DOK.congr {E : Ctx} {fn : FuncId} {ops : Array Oper} {id : Nat} {o : Oper} {F F' : List AV} {H H' : Heap} {r : Rc} (h : DOK E fn ops id o F H r) (hF : ∀ t, r.nm.contains t = true → F[t]? = F'[t]?) (hl : F.length = F'.length) (hH : ∀ x ∈ r.rd, hget H x = hget H' x) :
  DOK E fn ops id o F' H' r := by
 obtain ⟨h1, h2, h3⟩ := h.nm
 rw [h1] at hF
 have e1 := maskF_congr hF hl
 rw [h3] at hH
 have e2 := maskH_congr hH
 have e3 := rdDeep_congr hH
 unfold DOK dop at h ⊢
 dsimp only at h ⊢
 rw [← e1, ← e3, ← e2]
 exact h
theorem decideT_wp {fr : List AV} {t : Option Nat} {g : List AV → Tre (List Rc × List AV × Heap)} {Q : List Rc × List AV × Heap → Prop} (h : (decideT fr t g).wp Q) : (g fr).wp Q := by
 unfold decideT at h
 split at h
 ·rename_i t
  split at h
  ·rename_i b hb
   cases hbb : b with
   | true =>
    have := h.1 hbb
    rw [lget_set_self (x := abool true) (by rw [hb, hbb]; rfl) (by simp [abool])] at this
    exact this
   | false =>
    have := h.2 hbb
    rw [lget_set_self (x := abool false) (by rw [hb, hbb]; rfl) (by simp [abool])] at this
    exact this
  ·exact h
 ·exact h
theorem drun_ok {E : Ctx} {fn : FuncId} {ops : Array Oper} {base : Nat} {Q : List Rc × List AV × Heap → Prop} : ∀ (os : List Oper) (i : Nat) (F : List AV) (h : Heap), (drun E fn ops base i os F h).wp Q →
  ∃ rs, Q (rs, foldF rs F, foldH rs h) ∧ rs.length = os.length ∧ ∀ (j : Nat) o, os[j]? = some o → ∃ r, rs[j]? = some r ∧ DOK E fn ops (base + (i + j) * qao) o (foldF (rs.take j) F) (foldH (rs.take j) h) r
 | [], i, F, h, hw => ⟨[], hw, rfl, fun j o ho => by simp at ho⟩
 | o :: os, i, F, h, hw => by
  simp only [drun] at hw
  have hw := decideT_wp hw
  rw [Tre.wp_bind] at hw
  obtain ⟨r, h1, h2⟩ := Tre.resolve dop_det hw
  rw [Tre.wp_bind] at h2
  obtain ⟨rs, k1, k2, k3⟩ := drun_ok (Q := fun x => Q (r :: x.1, x.2.1, x.2.2)) os (i + 1) (putT F r.dst r.val) (qaj h r.ws) h2
  refine ⟨r :: rs, k1, by simp [k2], fun j q hq => ?_⟩
  cases j with
  | zero =>
   simp only [List.getElem?_cons_zero, Option.some.injEq] at hq
   subst hq
   exact ⟨r, rfl, h1⟩
  | succ j =>
   obtain ⟨r', e1, e2⟩ := k3 j q (by simpa using hq)
   refine ⟨r', by simpa using e1, ?_⟩
   rw [show i + (j + 1) = i + 1 + j from by omega]
   exact e2
section
variable {P : Program} {E : Ctx} {w w' w0 : World} {Z Z' : Nat → Prop} {K : Kp} {own own' : Own} {γ γ' : Gst} {h h' H : Heap} {used used' : Nat → Prop} {s d id nx : Nat} {A B : AV} {v V U : Value} {cs ds : List AV} {vs us : List Value} {F fr : List AV} {a : Act} {fn : FuncId} {ops : Array Oper} {r : Rc}
theorem mask_VRs {ns : List Nat} {F : List AV} (h : VRs w Z γ F vs) : VRs w Z γ (maskF ns F 0) vs := by
 have hl : (maskF ns F 0).length = F.length := by
  have : ∀ (F : List AV) (i : Nat), (maskF ns F i).length = F.length := by
   intro F
   induction F with
   | nil => intro i; rfl
   | cons a F ih => intro i; simp [maskF, ih]
  exact this F 0
 refine ⟨hl.trans h.1, fun j x y hx hy => ?_⟩
 rw [maskF_get] at hx
 cases hF : F[j]? with
 | none => rw [hF] at hx; cases hx
 | some z =>
  rw [hF] at hx
  simp only [Option.map_some, Option.some.injEq] at hx
  subst hx
  split
  ·exact h.2 j z y hF hy
  ·exact .bad _
end
end Go.BE
namespace Go.BE
open Go.RowKit
section
variable {P : Program} {E : Ctx} {w w' w0 : World} {Z Z' : Nat → Prop} {K : Kp} {own own' : Own} {γ γ' : Gst} {h h' H : Heap} {used used' : Nat → Prop} {s d id nx : Nat} {A B : AV} {v V U : Value} {cs ds : List AV} {vs us : List Value} {F fr fm : List AV} {a : Act} {fn : FuncId} {ops : Array Oper} {r : Rc} {rs : List Rc} {AA : List (List Nat)} {listed : Array Bool} {m : Nat}
structure Did (E : Ctx) (w0 : World) (K : Kp) (w : World) (Z : Nat → Prop) (γ : Gst) (H : Heap) (used used' : Nat → Prop) (r : Rc) (v : Value) (w' : World) (Z' : Nat → Prop) (own' : Own) (γ' : Gst) : Prop where
 val : VR w' Z' γ' r.val v
 stay : Stay w Z w' Z'
 ext : Gst.Ext used γ γ'
 mem : MemR w0 K w' Z' own' γ' (qaj H r.ws) used'
theorem dval_run (hE : EOK E) {b : Frame} {k : List Item} {fs : List Frame} {i : Nat} {rest : List Nat} {o : Oper} {ro : Nat} {ns rd : List Nat} (hm : MemR w0 K w Z own γ H used) (hg : GlR E w Z)
  (hf : VRs w Z γ fm a.tmps.toList) (hd : (dval E ro id o ns fm rd (maskH H rd)).wp fun r' => r' = r) (ho : ops[i]? = some o) (hw : Region.wanted o (yielded ops a.tmps) = true)
  (hid : ∀ j, j < 16 → ¬ used (id + j)) (hu : ∀ s, used s → used' s) (hid' : ∀ j, j < 16 → used' (id + j)) :
  ∃ v w' Z' own' γ', Did E w0 K w Z γ H used used' r v w' Z' own' γ' ∧ Steps E.P (lone (b.atR a (.inRegion ops (i :: rest) :: k)) fs w) (lone (b.atR (a.put r.dst v) (.inRegion ops rest :: k)) fs w') := by
 have hev : ∀ x, VR w Z γ (ev E fm x) (a.eval x) := fun x => ev_rel' hg hf x
 unfold dval at hd
 split at hd
 ·rename_i x y z hop
  split at hd
  ·rename_i b' hb
   have hv := asB_inv (hev x) hb
   have hrun : (execOp a.eval o).run E.P w = .ok (.value (a.eval (if b' then y else z))) w := by
    simp only [execOp, hop, hv, asBool, Sem.run_bind, Sem.run_pure, Result.andThen_ok]
    cases b' <;> rfl
   cases hbb : b' with
   | true =>
    have := hd.1 hbb
    subst this
    rw [hbb] at hrun
    exact ⟨_, w, Z, own, γ, ⟨hev _, Stay.refl _ _, Gst.Ext.refl _ _, hm.used_mono hu⟩, .one (op_value ho hw hrun)⟩
   | false =>
    have := hd.2 hbb
    subst this
    rw [hbb] at hrun
    exact ⟨_, w, Z, own, γ, ⟨hev _, Stay.refl _ _, Gst.Ext.refl _ _, hm.used_mono hu⟩, .one (op_value ho hw hrun)⟩
  ·exact hd.elim
 ·rename_i hnp
  have hmm := hm.masked rd
  have hop := aop_sound (used' := used') hE.ty hmm (id := id) (hid 0 (by omega)) hu (hid' 0 (by omega)) (ro := ro) hev o
  split at hd
  ·rename_i C' A' hv
   rw [hv] at hop
   obtain ⟨hC, hd⟩ := qds hd
   obtain ⟨v, e1, e2⟩ := hop hC
   subst hd
   exact ⟨v, w, Z, own, γ, ⟨e2, Stay.refl _ _, Gst.Ext.refl _ _, hm.used_mono hu⟩, .one (op_value ho hw e1)⟩
  ·rename_i C' A' ws sk hv
   rw [hv] at hop
   obtain ⟨hC, hd⟩ := qds hd
   obtain ⟨n, v, w', Z', own', γ', e1, e2, e3, e4, e5, e6⟩ := hop hC
   subst hd
   obtain ⟨own2, hm2, _⟩ := hm.framed e3 e4 hu e5
   refine ⟨v, w', Z', own2, γ', ⟨e6, e3, e4, hm2⟩, ?_⟩
   split at e2
   ·obtain ⟨rfl, rfl⟩ := e2
    exact .one (op_skipv ho hw e1)
   ·subst e2
    exact .one (op_value ho hw e1)
  ·exact hd.elim
  ·rename_i f args hv
   rw [hv] at hop
   obtain ⟨vs, e1, e2⟩ := hop
   split at hd
   ·rename_i hfn
    rw [hE.fns f hfn] at e1
    split at hd
    ·rename_i C' Kn A' ws hcall
     obtain ⟨hC, hd⟩ := qds hd
     subst hd
     have hcl := acallA_sound (used' := used') hE.env hE.io hmm hg hcall hC e2 hid hu hid'
     obtain ⟨e, w', fr, ⟨v, Z', own', γ', rfl, k1, k2, k3, k4, k5⟩, q1, q2, q3⟩ := hcl (b.atR a (.inRegion ops (i :: rest) :: k) :: fs)
     obtain ⟨own2, hm2, _⟩ := hm.framed k2 k3 hu k4
     exact ⟨v, w', Z', own2, γ', ⟨k5, k2, k3, hm2⟩, .head (op_enter ho hw e1) (Steps.trans q1 (.one (op_back ho q3)))⟩
    ·exact hd.elim
   ·exact hd.elim
  ·exact hd.elim
theorem dok_run (hE : EOK E) {b : Frame} {k : List Item} {fs : List Frame} {i : Nat} {rest : List Nat} {o : Oper} (hm : MemR w0 K w Z own γ H used) (hg : GlR E w Z)
  (hf : VRs w Z γ F a.tmps.toList) (hd : DOK E fn ops id o F H r) (ho : ops[i]? = some o)
  (hid : ∀ j, j < 16 → ¬ used (id + j)) (hu : ∀ s, used s → used' s) (hid' : ∀ j, j < 16 → used' (id + j)) :
  ∃ v w' Z' own' γ', Did E w0 K w Z γ H used used' r v w' Z' own' γ' ∧ Steps E.P (lone (b.atR a (.inRegion ops (i :: rest) :: k)) fs w) (lone (b.atR (a.put r.dst v) (.inRegion ops rest :: k)) fs w') := by
 have hfm : VRs w Z γ (maskF (names ops o) F 0) a.tmps.toList := mask_VRs hf
 have hskip : ∀ ns rd, r = ⟨o.dst, und, [], ns, rd, false⟩ → ((ops[i]?).map (Region.wanted · (yielded ops a.tmps))).getD false = false →
   ∃ v w' Z' own' γ', Did E w0 K w Z γ H used used' r v w' Z' own' γ' ∧ Steps E.P (lone (b.atR a (.inRegion ops (i :: rest) :: k)) fs w) (lone (b.atR (a.put r.dst v) (.inRegion ops rest :: k)) fs w') := by
  rintro ns rd rfl hw
  have := stepR_op_skip (P := E.P) (b := b) (a := a) (k := k) (cs := fs) (w := w) (ops := ops) (i := i) (rest := rest) hw
  rw [ho] at this
  exact ⟨undef, w, Z, own, γ, ⟨.cr (.val _ trivial), Stay.refl _ _, Gst.Ext.refl _ _, hm.used_mono hu⟩, .one this⟩
 unfold DOK dop at hd
 dsimp only at hd
 split at hd
 ·rename_i hgd
  exact dval_run hE hm hg hfm hd ho (by simp [Region.wanted, hgd]) hid hu hid'
 ·rename_i j want hgd
  split at hd
  ·exact hd.elim
  ·rename_i t ht
   split at hd
   ·rename_i b' hb'
    have hbt := lget_val hfm hb'
    rw [Array.getElem?_toList] at hbt
    have hyes : b' = want → Region.wanted o (yielded ops a.tmps) = true := fun e => by
     simp only [Region.wanted, hgd, yielded_at ht, hbt, e]
     simp
    have hno : b' ≠ want → ((ops[i]?).map (Region.wanted · (yielded ops a.tmps))).getD false = false := fun e => by
     simp only [ho, Option.map_some, Option.getD_some, Region.wanted, hgd, yielded_at ht, hbt]
     simpa using e
    split at hd
    ·rename_i hwant
     cases hbb : b' with
     | true => exact dval_run hE hm hg hfm (hd.1 hbb) ho (hyes (by rw [hbb, hwant])) hid hu hid'
     | false => exact hskip _ _ (hd.2 hbb).symm (hno (by rw [hbb, hwant]; simp))
    ·rename_i hwant
     have hwant : want = false := by simpa using hwant
     cases hbb : b' with
     | true => exact hskip _ _ (hd.1 hbb).symm (hno (by rw [hbb, hwant]; simp))
     | false => exact dval_run hE hm hg hfm (hd.2 hbb) ho (hyes (by rw [hbb, hwant])) hid hu hid'
   ·rename_i vs hb'
    have hd : _ = r := hd
    have hbt := lget_val hfm hb'
    rw [Array.getElem?_toList] at hbt
    refine hskip _ _ hd.symm ?_
    simp only [ho, Option.map_some, Option.getD_some, Region.wanted, hgd, yielded_at ht, hbt]
    rfl
   ·exact hd.elim
structure Plan (E : Ctx) (fn : FuncId) (ops : Array Oper) (m : Nat) (nx : Nat) (fr : List AV) (h : Heap) (AA : List (List Nat)) (rs : List Rc) : Prop where
 le : m ≤ ops.size
 chain : ∀ j, m ≤ j → j < ops.size → ∀ i, i < j → i ∈ AA.getD j []
 len : rs.length = m
 recs : ∀ (j : Nat) o, j < m → ops[j]? = some o → ∃ r, rs[j]? = some r ∧ DOK E fn ops (nx + j * qao) o (foldF (rs.take j) fr) (foldH (rs.take j) h) r
 anc : ∀ (j : Nat) o, ops[j]? = some o → (∀ e ∈ o.after, Region.binds .any e = true → e.on < j) ∧ ∀ i ∈ AA.getD j [], ∃ e ∈ o.after, Region.binds .any e = true ∧ (i = e.on ∨ i ∈ AA.getD e.on [])
 conf : ∀ (i k : Nat) q r, rs[i]? = some q → rs[k]? = some r → i < k → conf q r = true → i ∈ AA.getD k []
def usedL (nx : Nat) (listed : Array Bool) (s : Nat) : Prop := s < nx ∨ ∃ j, Lof listed j = true ∧ nx + j * qao ≤ s ∧ s < nx + j * qao + qao
structure Inv (E : Ctx) (ops : Array Oper) (m : Nat) (nx : Nat) (fr : List AV) (h : Heap) (AA : List (List Nat)) (rs : List Rc) (w0 : World) (K : Kp) (listed : Array Bool) (a : Act) (w : World) (Z : Nat → Prop) (own : Own) (γ : Gst) (H : Heap) : Prop where
 size : listed.size = ops.size
 part : ∀ j, Lof listed j = true → j < m
 closed : ∀ j, Lof listed j = true → ∀ i ∈ AA.getD j [], Lof listed i = true
 frame : VRs w Z γ (selF (Lof listed) 0 rs fr) a.tmps.toList
 heap : ∀ x, hget H x = selH (Lof listed) 0 rs (hget h) x
 mem : MemR w0 K w Z own γ H (usedL nx listed)
 ok : ∀ j r, Lof listed j = true → rs[j]? = some r → okAV r.val
 gl : GlR E w Z
theorem conf1 {q r : Rc} {t : Nat} (h : q.dst = some t) (k : r.nm.contains t = true) : conf q r = true := by
 have : meets q.dst.toList r.nm = true := meets_of (x := t) (by simp [h]) k
 simp [conf, this]
theorem conf2 {q r : Rc} {t : Nat} (h : r.dst = some t) (k : q.nm.contains t = true) : conf q r = true := by
 have : meets r.dst.toList q.nm = true := meets_of (x := t) (by simp [h]) k
 simp [conf, this]
theorem conf3 {q r : Rc} {x : Nat} (h : x ∈ wrs q) (k : x ∈ wrs r ∨ x ∈ r.rd) : conf q r = true := by
 have : meets (wrs q) (wrs r ++ r.rd) = true := meets_of (x := x) h (by simpa using k)
 simp [conf, this]
theorem conf4 {q r : Rc} {x : Nat} (h : x ∈ wrs r) (k : x ∈ wrs q ∨ x ∈ q.rd) : conf q r = true := by
 have : meets (wrs r) (wrs q ++ q.rd) = true := meets_of (x := x) h (by simpa using k)
 simp [conf, this]
theorem names_dst {o : Oper} {t : Nat} (h : o.dst = some t) : (names ops o).contains t = true := by
 simp [names, h]
theorem usedL_new {i : Nat} (hs : listed.size = ops.size) (hL : Lof listed i = false) (j : Nat) (hj : j < 16) : ¬ usedL nx listed (nx + i * qao + j) := by
 rintro (h | ⟨m, h1, h2, h3⟩)
 ·omega
 ·simp only [qao] at *
  have : m = i := by omega
  subst this
  rw [h1] at hL
  cases hL
theorem usedL_add {i : Nat} (hi : i < listed.size) : ∀ s, usedL nx (listed.setIfInBounds i true) s ↔ usedL nx listed s ∨ (nx + i * qao ≤ s ∧ s < nx + i * qao + qao) := by
 intro s
 simp only [usedL, Lof_set hi, addL, Bool.or_eq_true, beq_iff_eq]
 constructor
 ·rintro (h | ⟨j, h1 | rfl, h2⟩)
  ·exact .inl (.inl h)
  ·exact .inl (.inr ⟨j, h1, h2⟩)
  ·exact .inr h2
 ·rintro ((h | ⟨j, h1, h2⟩) | h)
  ·exact .inl h
  ·exact .inr ⟨j, .inl h1, h2⟩
  ·exact .inr ⟨i, .inr rfl, h⟩
theorem inv_step (hE : EOK E) (hP : Plan E fn ops m nx fr h AA rs) (hI : Inv E ops m nx fr h AA rs w0 K listed a w Z own γ H) {i : Nat} (him : i < m) (hi : i ∈ Region.ready .any ops listed) (b : Frame) (k : List Item) (fs : List Frame) (rest : List Nat) :
  ∃ a' w' Z' own' γ' H', Inv E ops m nx fr h AA rs w0 K (listed.setIfInBounds i true) a' w' Z' own' γ' H' ∧ a'.defers = a.defers ∧ Stay w Z w' Z' ∧ γ.Le γ' ∧
   Steps E.P (lone (b.atR a (.inRegion ops (i :: rest) :: k)) fs w) (lone (b.atR a' (.inRegion ops rest :: k)) fs w') := by
 rw [mem_ready] at hi
 obtain ⟨hun, o, ho, hed⟩ := hi
 have hlt : i < ops.size := (Array.getElem?_eq_some_iff.1 ho).1
 have hlt' : i < listed.size := by rw [hI.size]; exact hlt
 rw [Lof_true hlt'] at hun
 obtain ⟨r, hr, hd⟩ := hP.recs i o him ho
 have hanc : ∀ m ∈ AA.getD i [], Lof listed m = true := fun m hm => by
  obtain ⟨e, he, hb, hm | hm⟩ := (hP.anc i o ho).2 m hm
  ·subst hm; exact hed e he hb
  ·exact hI.closed e.on (hed e he hb) m hm
 have hlater : ∀ m q, i < m → rs[m]? = some q → conf r q = true → Lof listed m = false := fun m q hm hq hc => by
  cases hL : Lof listed m with
  | false => rfl
  | true =>
   have := hI.closed m hL i (hP.conf i m r q hr hq hm hc)
   rw [hun] at this
   cases this
 have hbefore : ∀ m q, m < i → rs[m]? = some q → conf q r = true → Lof listed m = true := fun m q hm hq hc => hanc m (hP.conf m i q r hq hr hm hc)
 obtain ⟨hnm, hdst, hrd⟩ := hd.nm
 have hd' : DOK E fn ops (nx + i * qao) o (selF (Lof listed) 0 rs fr) H r := by
  refine hd.congr (fun t ht => ?_) (by rw [foldF_sel rs i 0, selF_length, selF_length]) (fun x hx => ?_)
  ·rw [foldF_sel rs i 0]
   refine selF_congr rs 0 fr fr rfl rfl fun m q hm hq => ?_
   simp only [Nat.zero_add]
   rcases Nat.lt_trichotomy m i with hmi | hmi | hmi
   ·rw [hbefore m q hmi hm (conf1 hq ht)]; simpa using hmi
   ·subst hmi; rw [hun]; simp
   ·rw [hlater m q hmi hm (conf2 hq ht)]; simp; omega
  ·rw [foldH_sel rs i 0, hI.heap x]
   refine selH_congr rs 0 _ _ rfl fun m q hm hq => ?_
   simp only [Nat.zero_add]
   rcases Nat.lt_trichotomy m i with hmi | hmi | hmi
   ·rw [hbefore m q hmi hm (conf3 hq (.inr hx))]; simpa using hmi
   ·subst hmi; rw [hun]; simp
   ·rw [hlater m q hmi hm (conf4 hq (.inr hx))]; simp; omega
 obtain ⟨v, w', Z', own', γ', D, hs⟩ := dok_run (used' := usedL nx (listed.setIfInBounds i true)) (b := b) (k := k) (fs := fs) (rest := rest) hE hI.mem hI.gl hI.frame hd' ho (fun j hj => usedL_new hI.size hun j hj) (fun s h => (usedL_add hlt' s).2 (.inl h)) (fun j hj => (usedL_add hlt' _).2 (.inr ⟨by omega, by simp only [qao]; omega⟩))
 have hle := D.ext.le hI.mem.fresh
 refine ⟨a.put r.dst v, w', Z', own', γ', qaj H r.ws, ⟨by simp [hI.size], ?_, ?_, ?_, ?_, D.mem, ?_, hI.gl.mono D.stay⟩, ?_, D.stay, hle, hs⟩
 ·rw [Lof_set hlt']
  intro j hj
  simp only [addL, Bool.or_eq_true, beq_iff_eq] at hj
  rcases hj with hj | rfl
  ·exact hI.part j hj
  ·exact him
 ·rw [Lof_set hlt']
  intro j hj m hm
  simp only [addL, Bool.or_eq_true, beq_iff_eq] at hj ⊢
  rcases hj with hj | rfl
  ·exact .inl (hI.closed j hj m hm)
  ·exact .inl (hanc m hm)
 ·rw [Lof_set hlt', selF_add hr fun m q t hm hq hqt hrt => hlater m q hm hq (conf2 hqt (by rw [hnm]; exact names_dst (hdst ▸ hrt)))]
  exact (hI.frame.mono D.stay hle).putT r.dst D.val
 ·intro x
  rw [Lof_set hlt', selH_add hr fun m q y hm hq hqt hrt => hlater m q hm hq (conf4 hqt (.inl hrt)), qbx]
  have : hget H = selH (Lof listed) 0 rs (hget h) := funext hI.heap
  rw [this]
 ·rw [Lof_set hlt']
  intro j q hj hq
  simp only [addL, Bool.or_eq_true, beq_iff_eq] at hj
  rcases hj with hj | rfl
  ·exact hI.ok j q hj hq
  ·rw [hr] at hq
   injection hq with hq
   subst hq
   exact D.val.ok
 ·cases r.dst <;> rfl
theorem ready_part (hP : Plan E fn ops m nx fr h AA rs) (hs : listed.size = ops.size) (hc : ∀ j, Lof listed j = true → ∀ i ∈ AA.getD j [], Lof listed i = true) {i : Nat} (hi : i ∈ Region.ready .any ops listed) : i < m ∨ ∀ j, j < m → Lof listed j = true := by
 rcases Nat.lt_or_ge i m with h | hge
 ·exact .inl h
 ·refine .inr fun j hj => ?_
  rw [mem_ready] at hi
  obtain ⟨_, o, ho, hed⟩ := hi
  have hlt : i < ops.size := (Array.getElem?_eq_some_iff.1 ho).1
  obtain ⟨e, he, hb, hm | hm⟩ := (hP.anc i o ho).2 j (hP.chain i hge hlt j (Nat.lt_of_lt_of_le hj hge))
  ·subst hm; exact hed e he hb
  ·exact hc e.on (hed e he hb) j hm
theorem AA_lt (hP : Plan E fn ops m nx fr h AA rs) : ∀ (j : Nat), j < ops.size → ∀ i ∈ AA.getD j [], i < j := by
 intro j
 induction j using Nat.strongRecOn with
 | _ j ih =>
  intro hj i hi
  obtain ⟨e, he, hb, h⟩ := (hP.anc j ops[j] (Array.getElem?_eq_getElem hj)).2 i hi
  have hlt := (hP.anc j ops[j] (Array.getElem?_eq_getElem hj)).1 e he hb
  rcases h with rfl | h
  ·exact hlt
  ·exact Nat.lt_trans (ih e.on hlt (by omega) i h) hlt
theorem ready_at (hP : Plan E fn ops m nx fr h AA rs) (hs : listed.size = ops.size) {p : Nat} (hmp : m ≤ p) (hL : ∀ j, Lof listed j = true ↔ j < p) (i : Nat) : i ∈ Region.ready .any ops listed ↔ (i = p ∧ p < ops.size) := by
 rw [mem_ready]
 constructor
 ·rintro ⟨h1, o, ho, hed⟩
  have hlt : i < ops.size := (Array.getElem?_eq_some_iff.1 ho).1
  rw [Lof_true (by omega)] at h1
  have hge : p ≤ i := by
   rcases Nat.lt_or_ge i p with h | h
   ·rw [(hL i).2 h] at h1; cases h1
   ·exact h
  rcases Nat.lt_or_eq_of_le hge with hlt2 | rfl
  ·exfalso
   obtain ⟨e, he, hb, h⟩ := (hP.anc i o ho).2 p (hP.chain i (by omega) hlt p hlt2)
   have hl := (hL _).1 (hed e he hb)
   rcases h with h | h
   ·omega
   ·have := AA_lt hP e.on (by omega) p h
    omega
  ·exact ⟨rfl, hlt⟩
 ·rintro ⟨rfl, h2⟩
  refine ⟨?_, ops[i], Array.getElem?_eq_getElem h2, fun e he hb => ?_⟩
  ·rw [Lof_true (by omega)]
   cases hc : Lof listed i with
   | false => rfl
   | true => have := (hL i).1 hc; omega
  ·exact (hL _).2 ((hP.anc i ops[i] (Array.getElem?_eq_getElem h2)).1 e he hb)
theorem ready_nil (hP : Plan E fn ops m nx fr h AA rs) (hs : listed.size = ops.size) (hn : Region.ready .any ops listed = []) : ∀ j, j < ops.size → Lof listed j = true := by
 intro j
 induction j using Nat.strongRecOn with
 | _ j ih =>
  intro hj
  cases hL : Lof listed j with
  | true => rfl
  | false =>
   have : j ∈ Region.ready .any ops listed := by
    rw [mem_ready, Lof_true (by omega)]
    refine ⟨hL, ops[j], Array.getElem?_eq_getElem hj, fun e he hb => ?_⟩
    have hlt := (hP.anc j ops[j] (Array.getElem?_eq_getElem hj)).1 e he hb
    exact ih e.on hlt (by omega)
   rw [hn] at this
   cases this
def unl (n : Nat) (listed : Array Bool) : Nat := ((List.range n).filter fun i => !Lof listed i).length
theorem unl_lt {n i : Nat} (hs : i < listed.size) (hi : i < n) (hL : Lof listed i = false) : unl n (listed.setIfInBounds i true) < unl n listed := by
 unfold unl
 rw [Lof_set hs]
 have : (List.range n).filter (fun j => !addL (Lof listed) i j) = ((List.range n).filter fun j => !Lof listed j).filter fun j => !(j == i) := by
  rw [List.filter_filter]
  congr 1
  funext j
  simp [addL, Bool.not_or, Bool.and_comm]
 rw [this, List.length_filter_lt_length_iff_exists]
 exact ⟨i, by simp [hi, hL], by simp⟩
def restL (n m : Nat) : List Nat := List.range' m (n - m)
theorem ready_nodup (listed : Array Bool) : (Region.ready .any ops listed).Nodup := by
 unfold Region.ready
 exact List.Pairwise.filter _ List.nodup_range
theorem single {l : List Nat} {x : Nat} (hn : l.Nodup) (h : ∀ i, i ∈ l ↔ i = x) : l = [x] := by
 cases l with
 | nil => exact absurd ((h x).2 rfl) (by simp)
 | cons y l =>
  have hy : y = x := (h y).1 List.mem_cons_self
  subst hy
  cases l with
  | nil => rfl
  | cons u l =>
   have hu : u = y := (h u).1 (List.mem_cons_of_mem _ List.mem_cons_self)
   rw [List.nodup_cons] at hn
   exact absurd (by rw [hu]; exact List.mem_cons_self) hn.1
theorem go_succ (fuel t : Nat) (listed : Array Bool) : Region.linearise.go .any ops (fuel + 1) t listed [] = (match (Region.ready .any ops listed)[t % (Region.ready .any ops listed).length]? with
  | some i => Region.linearise.go .any ops fuel (t / (Region.ready .any ops listed).length) (listed.setIfInBounds i true) [i]
  | none => [].reverse) := by
 simp only [Region.linearise.go]
 rfl
theorem go_chain (hP : Plan E fn ops m nx fr h AA rs) : ∀ (n p fuel t : Nat) {listed : Array Bool}, listed.size = ops.size → m ≤ p → p ≤ ops.size → (∀ j, Lof listed j = true ↔ j < p) → ops.size - p = n → n ≤ fuel → Region.linearise.go .any ops fuel t listed [] = List.range' p n
 | 0, p, fuel, t, listed, hs, hmp, hps, hL, hn, _ => by
  have hnil : Region.ready .any ops listed = [] := by
   cases hr : Region.ready .any ops listed with
   | nil => rfl
   | cons x xs =>
    have := (ready_at hP hs hmp hL x).1 (by rw [hr]; exact List.mem_cons_self)
    omega
  cases fuel with
  | zero => rfl
  | succ fuel => rw [go_succ, hnil]; rfl
 | n + 1, p, fuel, t, listed, hs, hmp, hps, hL, hn, hf => by
  have hlt : p < ops.size := by omega
  have h1 : Region.ready .any ops listed = [p] := single (ready_nodup listed) fun i => by
   rw [ready_at hP hs hmp hL]
   exact ⟨fun h => h.1, fun h => ⟨h, hlt⟩⟩
  cases fuel with
  | zero => omega
  | succ fuel =>
   rw [go_succ, h1]
   simp only [List.length_singleton, Nat.mod_one, List.getElem?_cons_zero]
   rw [linearise_go_acc, List.reverse_singleton, List.singleton_append, List.range'_succ]
   congr 1
   refine go_chain hP n (p + 1) fuel _ (by simpa using hs) (by omega) (by omega) (fun j => ?_) (by omega) (by omega)
   rw [Lof_set (by omega)]
   simp only [addL, Bool.or_eq_true, beq_iff_eq]
   rw [hL]
   omega
theorem unl_first (listed : Array Bool) {m : Nat} (hL : ∀ j, Lof listed j = true ↔ j < m) : ∀ n, unl n listed = n - m
 | 0 => by simp [unl]
 | n + 1 => by
  have ih := unl_first listed hL n
  unfold unl at ih ⊢
  rw [List.range_succ, List.filter_append, List.length_append, ih]
  cases hc : Lof listed n with
  | true =>
   have := (hL n).1 hc
   simp [hc]
   omega
  | false =>
   have : ¬ n < m := fun h => by rw [(hL n).2 h] at hc; cases hc
   simp [hc]
   omega
theorem go_rest (hP : Plan E fn ops m nx fr h AA rs) (hs : listed.size = ops.size) (hp : ∀ j, Lof listed j = true → j < m) (hall : ∀ j, j < m → Lof listed j = true) (fuel t : Nat) (hf : unl ops.size listed ≤ fuel) : Region.linearise.go .any ops fuel t listed [] = restL ops.size m := by
 have hL : ∀ j, Lof listed j = true ↔ j < m := fun j => ⟨hp j, hall j⟩
 rw [unl_first listed hL] at hf
 exact go_chain hP (ops.size - m) m fuel t hs (Nat.le_refl _) hP.le hL rfl hf
theorem go_sound (hE : EOK E) (hP : Plan E fn ops m nx fr h AA rs) (b : Frame) (k : List Item) (fs : List Frame) : ∀ (fuel t : Nat) {listed : Array Bool} {a : Act} {w : World} {Z : Nat → Prop} {own : Own} {γ : Gst} {H : Heap}, unl ops.size listed ≤ fuel →
  Inv E ops m nx fr h AA rs w0 K listed a w Z own γ H → ∃ listed' a' w' Z' own' γ' H', Inv E ops m nx fr h AA rs w0 K listed' a' w' Z' own' γ' H' ∧ (∀ j, j < m → Lof listed' j = true) ∧ a'.defers = a.defers ∧ Stay w Z w' Z' ∧ γ.Le γ' ∧
   Steps E.P (lone (b.atR a (.inRegion ops (Region.linearise.go .any ops fuel t listed []) :: k)) fs w) (lone (b.atR a' (.inRegion ops (restL ops.size m) :: k)) fs w')
 | fuel, t, listed, a, w, Z, own, γ, H, hu, hI => by
  by_cases hall : ∀ j, j < m → Lof listed j = true
  ·rw [go_rest hP hI.size hI.part hall fuel t hu]
   exact ⟨listed, a, w, Z, own, γ, H, hI, hall, rfl, Stay.refl _ _, Gst.Le.refl _, .refl _ _⟩
  ·cases fuel with
   | zero =>
    exfalso
    refine hall fun j hj => ?_
    cases hL : Lof listed j with
    | true => rfl
    | false =>
     have hm : j ∈ (List.range ops.size).filter fun i => !Lof listed i := by
      have := hP.le
      rw [List.mem_filter]
      exact ⟨List.mem_range.2 (by omega), by rw [hL]; rfl⟩
     have : (List.range ops.size).filter (fun i => !Lof listed i) = [] := List.eq_nil_of_length_eq_zero (by unfold unl at hu; omega)
     rw [this] at hm
     cases hm
   | succ fuel =>
    simp only [Region.linearise.go]
    change ∃ listed' a' w' Z' own' γ' H', Inv E ops m nx fr h AA rs w0 K listed' a' w' Z' own' γ' H' ∧ (∀ j, j < m → Lof listed' j = true) ∧ a'.defers = a.defers ∧ Stay w Z w' Z' ∧ γ.Le γ' ∧
     Steps E.P (lone (b.atR a (.inRegion ops (match (Region.ready .any ops listed)[t % (Region.ready .any ops listed).length]? with
      | some i => Region.linearise.go .any ops fuel (t / (Region.ready .any ops listed).length) (listed.setIfInBounds i true) [i]
      | none => [].reverse) :: k)) fs w) (lone (b.atR a' (.inRegion ops (restL ops.size m) :: k)) fs w')
    cases hi : (Region.ready .any ops listed)[t % (Region.ready .any ops listed).length]? with
    | none =>
     have hnil : Region.ready .any ops listed = [] := by
      cases hr : Region.ready .any ops listed with
      | nil => rfl
      | cons x xs =>
       rw [hr] at hi
       have hlt : t % (x :: xs).length < (x :: xs).length := Nat.mod_lt _ (by simp)
       simp at hi
       simp at hlt
       omega
     exact absurd (fun j hj => ready_nil hP hI.size hnil j (by have := hP.le; omega)) hall
    | some i =>
     simp only []
     rw [linearise_go_acc, List.reverse_singleton, List.singleton_append]
     have hr := List.mem_of_getElem? hi
     have him : i < m := (ready_part hP hI.size hI.closed hr).resolve_right hall
     obtain ⟨a1, w1, Z1, own1, γ1, H1, hI1, hd1, hst1, hx1, hs1⟩ := inv_step hE hP hI him hr b k fs (Region.linearise.go .any ops fuel (t / (Region.ready .any ops listed).length) (listed.setIfInBounds i true) [])
     have hrdy := mem_ready.1 hr
     obtain ⟨hun, o, ho, _⟩ := hrdy
     have hlt : i < ops.size := (Array.getElem?_eq_some_iff.1 ho).1
     rw [Lof_true (by rw [hI.size]; exact hlt)] at hun
     have hlt2 := unl_lt (n := ops.size) (by rw [hI.size]; exact hlt) hlt hun
     obtain ⟨l2, a2, w2, Z2, own2, γ2, H2, hI2, hall2, hd2, hst2, hx2, hs2⟩ := go_sound hE hP b k fs fuel (t / (Region.ready .any ops listed).length) (by omega) hI1
     exact ⟨l2, a2, w2, Z2, own2, γ2, H2, hI2, hall2, hd2.trans hd1, hst1.trans hst2, hx1.trans hx2, hs1.trans hs2⟩
theorem tells_ok : ∀ {rs : List Rc}, (∀ (j : Nat) r, rs[j]? = some r → okAV r.val) → AllP (tells rs)
 | [], _ => trivial
 | r :: rs, h => by
  have := tells_ok (rs := rs) fun j q hq => h (j + 1) q (by simpa using hq)
  unfold tells
  split
  ·exact ⟨h 0 r rfl, this⟩
  ·exact this
theorem knows_wp {α : Type} {Q : α → Prop} {t : Tre α} : ∀ {l : List Prop}, AllP l → (knows l t).wp Q → t.wp Q
 | [], _, h => h
 | _ :: l, hl, h => knows_wp (l := l) hl.2 (h hl.1)
theorem allIn_ok {l : List Nat} : ∀ {n : Nat}, allIn l n = true → ∀ i, i < n → i ∈ l
 | 0, _, i, hi => absurd hi (Nat.not_lt_zero _)
 | n + 1, h, i, hi => by
  simp only [allIn, Bool.and_eq_true] at h
  rcases Nat.lt_or_eq_of_le (Nat.le_of_lt_succ hi) with h1 | rfl
  ·exact allIn_ok h.2 i h1
  ·simpa using h.1
theorem chainFrom_ok {A : List (List Nat)} : ∀ {k m : Nat}, chainFrom A m k = true → ∀ j, m ≤ j → j < m + k → ∀ i, i < j → i ∈ A.getD j []
 | 0, m, _, j, h1, h2, _, _ => by omega
 | k + 1, m, h, j, h1, h2, i, hi => by
  simp only [chainFrom, Bool.and_eq_true] at h
  rcases Nat.lt_or_eq_of_le h1 with h3 | rfl
  ·exact chainFrom_ok h.2 j h3 (by omega) i hi
  ·exact allIn_ok h.1 i hi
theorem adraw0_sound (hE : EOK E) (hm : MemR w0 K w Z own γ h (fun s => s < nx)) (hg : GlR E w Z) (hf : VRs w Z γ fr a.tmps.toList) {Q : List Rc × List AV × Heap → Prop} (he : (adraw0 E fn ops m fr h nx).wp Q)
  (b : Frame) (k : List Item) (fs : List Frame) (t : Nat) : ∃ x, Q x ∧ AllP (tells x.1) ∧ ∃ a' w' Z' own' γ', a'.defers = a.defers ∧ VRs w' Z' γ' x.2.1 a'.tmps.toList ∧ Stay w Z w' Z' ∧ γ.Le γ' ∧ MemR w0 K w' Z' own' γ' x.2.2 (fun s => s < nx + ops.size * qao) ∧
   Steps E.P (lone (b.atR a (.inRegion ops (Region.linearise .any ops t) :: k)) fs w) (lone (b.atR a' (.inRegion ops (restL ops.size m) :: k)) fs w') := by
 unfold adraw0 at he
 split at he
 ·rename_i AA hanc
  split at he
  ·rename_i hmm
   simp only [Bool.and_eq_true, decide_eq_true_eq] at hmm
   have hle : m ≤ ops.size := hmm.1
   rw [Tre.wp_bind] at he
   obtain ⟨rs, e0, e1, e4⟩ := drun_ok (Q := fun x => Tre.wp Q (if okAll AA 0 [] x.1 = true then .ok x else .bad)) (ops.toList.take m) 0 fr h he
   have hlen : (ops.toList.take m).length = m := by rw [List.length_take, Array.length_toList]; omega
   split at e0
   ·rename_i hok
    obtain ⟨_, a2⟩ := ancs_ok hanc
    have hP : Plan E fn ops m nx fr h AA rs := by
     refine ⟨hle, fun j h1 h2 i hi => ?_, by rw [e1, hlen], fun j o hjm ho => ?_, fun j o ho => ?_, fun i k q r hi hk hik hc => ?_⟩
     ·exact chainFrom_ok hmm.2 j h1 (by omega) i hi
     ·have := e4 j o (by rw [List.getElem?_take, if_pos hjm]; simpa using ho)
      rw [Nat.zero_add] at this
      exact this
     ·have := a2 j o (by simpa using ho)
      simpa using this
     ·exact okAll_ok (done := []) hok i k q r (by simpa using hi) (by simpa using hk) hik (Nat.zero_le _) hc
    have hL0 : Lof (Array.replicate ops.size false) = fun m => decide (m < 0 + 0) := by
     funext j
     simp only [Lof, Array.getD_eq_getD_getElem?, Array.getElem?_replicate]
     split <;> simp
    have hI : Inv E ops m nx fr h AA rs w0 K (Array.replicate ops.size false) a w Z own γ h := by
     refine ⟨by simp, fun j hj => ?_, fun j hj => ?_, ?_, fun x => ?_, hm.used_mono fun s hs => .inl hs, fun j r hj => ?_, hg⟩
     ·rw [hL0] at hj
      simp at hj
     ·rw [hL0] at hj
      simp at hj
     ·rw [hL0, ← foldF_sel rs 0 0]
      exact hf
     ·rw [hL0, ← foldH_sel rs 0 0]
      rfl
     ·rw [hL0] at hj
      simp at hj
    obtain ⟨l2, a2, w2, Z2, own2, γ2, H2, hI2, hall, hd2, hst2, hx2, hs2⟩ := go_sound hE hP b k fs ops.size t (by
     unfold unl
     exact Nat.le_trans (List.length_filter_le _ _) (by simp)) hI
    have hfull : ∀ m (r : Rc), rs[m]? = some r → Lof l2 (0 + m) = decide (0 + m < 0 + rs.length) := fun m r hr => by
     have := (List.getElem?_eq_some_iff.1 hr).1
     rw [Nat.zero_add, hall m (by rw [← hP.len]; exact this)]
     simpa using this
    refine ⟨_, e0, tells_ok fun j r hr => hI2.ok j r ?_ hr, a2, w2, Z2, own2, γ2, hd2, ?_, hst2, hx2, (hI2.mem.congr fun x => ?_).used_mono ?_, hs2⟩
    ·exact hall j (by rw [← hP.len]; exact (List.getElem?_eq_some_iff.1 hr).1)
    ·have : selF (Lof l2) 0 rs fr = foldF rs fr := by
      have h1 := foldF_sel rs rs.length 0 fr
      rw [List.take_length] at h1
      rw [h1]
      exact List.ext_getElem? fun t => selF_congr rs 0 fr fr rfl rfl fun m r hr _ => hfull m r hr
     have h2 := hI2.frame
     rw [this] at h2
     exact h2
    ·have h1 := foldH_sel rs rs.length 0 h x
     rw [List.take_length] at h1
     rw [hI2.heap x, h1]
     exact selH_congr rs 0 _ _ rfl fun m r hr _ => (hfull m r hr).symm
    ·rintro s (h | ⟨j, h1, h2, h3⟩)
     ·omega
     ·have hj : j < ops.size := by
       rcases Nat.lt_or_ge j l2.size with h | h
       ·rw [hI2.size] at h; exact h
       ·simp [Lof, Array.getD_eq_getD_getElem?, Array.getElem?_eq_none h] at h1
      simp only [qao] at *
      omega
   ·exact e0.elim
  ·exact he.elim
 ·exact he.elim
end
theorem AllP.mem {l : List Prop} (h : AllP l) : ∀ C ∈ l, C := by
 induction l with
 | nil => exact fun C hC => by cases hC
 | cons a l ih => exact fun C hC => (List.mem_cons.1 hC).elim (fun e => e ▸ h.1) (ih h.2 C)
theorem flat_wp {Q : Rc → Prop} : ∀ {t : Tre Rc} {C : List Prop} {q : Rc}, flat t = some (C, q) → AllP C → Q q → t.wp Q
 | .ok r, C, q, h, _, hq => by simp [flat] at h; obtain ⟨_, rfl⟩ := h; exact hq
 | .chk P t, C, q, h, hC, hq => by
  simp only [flat] at h
  split at h
  ·rename_i l r hl
   simp at h
   obtain ⟨rfl, rfl⟩ := h
   exact ⟨hC.1, fun _ => flat_wp hl hC.2 hq⟩
  ·cases h
 | .ite b t e, C, q, h, hC, hq => by
  cases b
  ·exact ⟨fun h => Bool.noConfusion h, fun _ => flat_wp (t := e) h hC hq⟩
  ·exact ⟨fun _ => flat_wp (t := t) h hC hq, fun h => Bool.noConfusion h⟩
 | .know .., _, _, h, _, _ => by simp [flat] at h
 | .any .., _, _, h, _, _ => by simp [flat] at h
 | .bad, _, _, h, _, _ => by simp [flat] at h
theorem whenP_all {b v : Bool} : ∀ {C : List Prop}, AllP (whenP b v C) → b = v → AllP C
 | [], _, _ => trivial
 | _ :: _, h, e => ⟨h.1 e, whenP_all h.2 e⟩
theorem splitPick_eq {l : List Nat} {t : Nat} : ∀ {os p : List Oper} {x : Oper} {d : Nat} {r : List Oper}, splitPick l t os = some (p, x, d, r) → os = p ++ x :: r ∧ x.dst = some d
 | [], _, _, _, _, h => by simp [splitPick] at h
 | o :: os, p, x, d, r, h => by
  have go : ∀ {p x d r}, (match splitPick l t os with | some (p, x, d, r) => some (o :: p, x, d, r) | none => none) = some (p, x, d, r) → o :: os = p ++ x :: r ∧ x.dst = some d := by
   intro p x d r h
   split at h
   ·rename_i p' x' d' r' hs
    simp at h
    obtain ⟨rfl, rfl, rfl, rfl⟩ := h
    have := splitPick_eq hs
    exact ⟨by rw [this.1]; rfl, this.2⟩
   ·cases h
  unfold splitPick at h
  split at h
  ·rename_i u y z d' ho hd
   split at h
   ·split at h
    ·simp at h
     obtain ⟨rfl, rfl, rfl, rfl⟩ := h
     exact ⟨rfl, hd⟩
    ·cases h
   ·exact go h
  ·exact go h
theorem mgroup_eq {l : List Nat} {ops : Array Oper} {o : Oper} {os : List Oper} {fr : List AV} {ex : List Nat} {g : Grp} (h : mgroup l ops o os fr ex = some g) : lget fr g.t = .val (.bool g.b) ∧ o :: os = g.p ++ g.x :: g.r ∧ g.x.dst = some g.d := by
 unfold mgroup at h
 repeat' split at h
 all_goals first | (cases h; done) | skip
 rename_i hs
 simp at h
 subst h
 exact ⟨by assumption, splitPick_eq hs⟩
def Ag (F : List Nat) (fr fr' : List AV) : Prop := fr.length = fr'.length ∧ ∀ u, lget fr u = lget fr' u ∨ (lget fr u = .bad ∧ u ∈ F)
theorem Ag.put {F : List Nat} {fr fr' : List AV} (h : Ag F fr fr') (d : Option Tmp) (a : AV) : Ag F (putT fr d a) (putT fr' d a) := by
 cases d with
 | none => exact h
 | some d =>
  refine ⟨by simp [putT, h.1], fun u => ?_⟩
  by_cases hu : u = d
  ·subst hu
   left
   simp only [putT, lget, List.getD_eq_getElem?_getD, List.getElem?_set_self']
   rcases Nat.lt_or_ge u fr'.length with h1 | h1
   ·rw [List.getElem?_eq_getElem (h.1 ▸ h1), List.getElem?_eq_getElem h1]; rfl
   ·rw [List.getElem?_eq_none (h.1 ▸ h1), List.getElem?_eq_none h1]
  ·have e : ∀ l : List AV, lget (l.set d a) u = lget l u := fun l => by simp only [lget, List.getD_eq_getElem?_getD, List.getElem?_set_ne (Ne.symm hu)]
   simp only [putT, e]
   exact h.2 u
theorem Ag.get {F : List Nat} {fr fr' : List AV} (h : Ag F fr fr') {u : Nat} (hu : u ∉ F) : fr[u]? = fr'[u]? := by
 have h2 : lget fr u = lget fr' u := (h.2 u).elim id fun h => absurd h.2 hu
 have h1 := h.1
 unfold lget at h2
 rw [List.getD_eq_getElem?_getD, List.getD_eq_getElem?_getD] at h2
 rcases Nat.lt_or_ge u fr.length with hl | hl
 ·rw [List.getElem?_eq_getElem hl, List.getElem?_eq_getElem (h1 ▸ hl)] at h2 ⊢
  exact congrArg some h2
 ·rw [List.getElem?_eq_none hl, List.getElem?_eq_none (h1 ▸ hl)]
theorem meets_not {l m : List Nat} (h : meets l m = false) {u : Nat} (hu : l.contains u = true) : u ∉ m := fun hm => by
 unfold meets at h
 rw [List.any_eq_false] at h
 exact h u (List.contains_iff_mem.1 hu) (List.contains_iff_mem.2 hm)
theorem dop_congr {E : Ctx} {fn : FuncId} {ops : Array Oper} {id : Nat} {o : Oper} {fr fr' : List AV} {h : Heap} {F : List Nat} (ha : Ag F fr fr') (hm : meets (names ops o) F = false) : dop E fn ops id o fr h = dop E fn ops id o fr' h := by
 have : maskF (names ops o) fr 0 = maskF (names ops o) fr' 0 := maskF_congr (fun u hu => ha.get (meets_not hm hu)) ha.1
 unfold dop
 simp only [this]
theorem set_lget {fr : List AV} {t : Nat} {a : AV} (h : lget fr t = a) (hb : a ≠ .bad) : fr.set t a = fr := by
 apply List.ext_getElem?
 intro u
 by_cases hu : t = u
 ·subst hu
  rcases Nat.lt_or_ge t fr.length with h1 | h1
  ·rw [List.getElem?_set_self h1, List.getElem?_eq_getElem h1]
   unfold lget at h
   rw [List.getD_eq_getElem?_getD, List.getElem?_eq_getElem h1] at h
   rw [← h]; rfl
  ·unfold lget at h
   rw [List.getD_eq_getElem?_getD, List.getElem?_eq_none h1] at h
   exact absurd h.symm hb
 ·rw [List.getElem?_set_ne hu]
theorem decide_iff {fr : List AV} {Q : List Rc × List AV × Heap → Prop} {k : List AV → Tre (List Rc × List AV × Heap)} : ∀ {g : Option Nat}, (decideT fr g k).wp Q ↔ (k fr).wp Q
 | none => Iff.rfl
 | some t => by
  show Tre.wp Q (match lget fr t with | .val (.bool b) => .ite b (k (fr.set t (abool true))) (k (fr.set t (abool false))) | _ => k fr) ↔ _
  split
  ·rename_i b hb
   have e : ∀ v, b = v → fr.set t (abool v) = fr := fun v hv => set_lget (by rw [hb, hv]; rfl) (by simp [abool])
   constructor
   ·intro h
    cases hv : b
    ·have := h.2 hv; rwa [e _ hv] at this
    ·have := h.1 hv; rwa [e _ hv] at this
   ·exact fun h => ⟨fun hv => by rw [e _ hv]; exact h, fun hv => by rw [e _ hv]; exact h⟩
  ·exact Iff.rfl
abbrev DR := List Rc × List AV × Heap
theorem drun_append {E : Ctx} {fn : FuncId} {ops : Array Oper} {base : Nat} : ∀ (a : List Oper) {c : List Oper} {i : Nat} {fr : List AV} {h : Heap} {Q : DR → Prop},
  (drun E fn ops base i a fr h).wp (fun x => (drun E fn ops base (i + a.length) c x.2.1 x.2.2).wp fun y => Q (x.1 ++ y.1, y.2.1, y.2.2)) → (drun E fn ops base i (a ++ c) fr h).wp Q
 | [], c, i, fr, h, Q, hw => by
  have hw' : (drun E fn ops base i c fr h).wp fun y => Q ([] ++ y.1, y.2.1, y.2.2) := hw
  exact Tre.wp_mono (fun _ h => h) hw'
 | o :: a, c, i, fr, h, Q, hw => by
  have go : ∀ fr, ((dop E fn ops (base + i * qao) o fr h).bind fun r => (drun E fn ops base (i + 1) a (putT fr r.dst r.val) (qaj h r.ws)).bind fun x => .ok (r :: x.1, x.2.1, x.2.2)).wp (fun x => (drun E fn ops base (i + (a.length + 1)) c x.2.1 x.2.2).wp fun y => Q (x.1 ++ y.1, y.2.1, y.2.2)) →
    ((dop E fn ops (base + i * qao) o fr h).bind fun r => (drun E fn ops base (i + 1) (a ++ c) (putT fr r.dst r.val) (qaj h r.ws)).bind fun x => .ok (r :: x.1, x.2.1, x.2.2)).wp Q := fun fr h1 => by
   rw [Tre.wp_bind] at h1 ⊢
   refine Tre.wp_mono (fun r h2 => ?_) h1
   rw [Tre.wp_bind] at h2 ⊢
   refine drun_append a (Tre.wp_mono (fun x h3 => ?_) h2)
   have h4 : (drun E fn ops base (i + 1 + a.length) c x.2.1 x.2.2).wp fun y => Q (r :: x.1 ++ y.1, y.2.1, y.2.2) := by
    rw [show i + 1 + a.length = i + (a.length + 1) by omega]; exact h3
   exact h4
  have hw' : (decideT fr (guardT ops o) fun fr => (dop E fn ops (base + i * qao) o fr h).bind fun r => (drun E fn ops base (i + 1) a (putT fr r.dst r.val) (qaj h r.ws)).bind fun x => .ok (r :: x.1, x.2.1, x.2.2)).wp _ := hw
  exact decide_iff.2 (go _ (decide_iff.1 hw'))
theorem lget_putT {fr : List AV} {d : Option Tmp} {a : AV} {u : Nat} (h : u ∉ d.toList) : lget (putT fr d a) u = lget fr u := by
 cases d with
 | none => rfl
 | some d =>
  have : d ≠ u := fun e => h (by simp [e])
  simp only [putT, lget, List.getD_eq_getElem?_getD, List.getElem?_set_ne this]
theorem dop_dst {E : Ctx} {fn : FuncId} {ops : Array Oper} {id : Nat} {o : Oper} {fr : List AV} {h : Heap} {Q : Rc → Prop} (hw : (dop E fn ops id o fr h).wp Q) : (dop E fn ops id o fr h).wp fun r => Q r ∧ r.dst = o.dst ∧ r.nm = names ops o := by
 have hc : ∀ {C : List Prop} {t : Tre Rc}, (t.wp Q → t.wp fun r => Q r ∧ r.dst = o.dst ∧ r.nm = names ops o) → (chks C t).wp Q → (chks C t).wp fun r => Q r ∧ r.dst = o.dst ∧ r.nm = names ops o := by
  intro C t ht
  induction C with
  | nil => exact ht
  | cons P l ih => exact fun h => ⟨h.1, fun hP => ih (h.2 hP)⟩
 have hd : ∀ {ro : Nat} {fm : List AV} {rd : List Nat} {hm : Heap}, (dval E ro id o (names ops o) fm rd hm).wp Q → (dval E ro id o (names ops o) fm rd hm).wp fun r => Q r ∧ r.dst = o.dst ∧ r.nm = names ops o := by
  intro ro fm rd hm hw
  revert hw
  unfold dval
  repeat' split
  all_goals intro hw
  all_goals first
   | exact hw.elim
   | exact ⟨fun e => ⟨hw.1 e, rfl, rfl⟩, fun e => ⟨hw.2 e, rfl, rfl⟩⟩
   | exact hc (fun h => ⟨h, rfl, rfl⟩) hw
 revert hw
 unfold dop
 dsimp only
 split
 ·exact hd
 ·split
  ·exact fun hw => hw.elim
  ·split
   ·split
    ·exact fun hw => ⟨fun e => hd (hw.1 e), fun e => ⟨hw.2 e, rfl, rfl⟩⟩
    ·exact fun hw => ⟨fun e => ⟨hw.1 e, rfl, rfl⟩, fun e => hd (hw.2 e)⟩
   ·exact fun hw => ⟨hw, rfl, rfl⟩
   ·exact fun hw => hw.elim
theorem drun_keep {E : Ctx} {fn : FuncId} {ops : Array Oper} {base : Nat} : ∀ (os : List Oper) {i : Nat} {fr : List AV} {h : Heap} {Q : DR → Prop},
  (drun E fn ops base i os fr h).wp Q → (drun E fn ops base i os fr h).wp fun x => Q x ∧ (∀ u, u ∉ dsts os → lget x.2.1 u = lget fr u) ∧ x.2.1.length = fr.length
 | [], _, _, _, _, hw => ⟨hw, fun _ _ => rfl, rfl⟩
 | o :: os, i, fr, h, Q, hw => by
  have go : ∀ fr, ((dop E fn ops (base + i * qao) o fr h).bind fun r => (drun E fn ops base (i + 1) os (putT fr r.dst r.val) (qaj h r.ws)).bind fun x => .ok (r :: x.1, x.2.1, x.2.2)).wp Q →
    ((dop E fn ops (base + i * qao) o fr h).bind fun r => (drun E fn ops base (i + 1) os (putT fr r.dst r.val) (qaj h r.ws)).bind fun x => .ok (r :: x.1, x.2.1, x.2.2)).wp (fun x => Q x ∧ (∀ u, u ∉ dsts (o :: os) → lget x.2.1 u = lget fr u) ∧ x.2.1.length = fr.length) := fun fr h1 => by
   rw [Tre.wp_bind] at h1 ⊢
   refine Tre.wp_mono (fun r h2 => ?_) (dop_dst h1)
   obtain ⟨h2, hd, _⟩ := h2
   rw [Tre.wp_bind] at h2 ⊢
   refine Tre.wp_mono (fun x h3 => ?_) (drun_keep os h2)
   refine ⟨h3.1, fun u hu => ?_, by rw [h3.2.2]; cases r.dst <;> simp [putT]⟩
   have hu' : u ∉ o.dst.toList ∧ u ∉ dsts os := by
    unfold dsts at hu
    exact ⟨fun h => hu (List.mem_append_left _ h), fun h => hu (List.mem_append_right _ h)⟩
   rw [h3.2.1 u hu'.2, lget_putT (by rw [hd]; exact hu'.1)]
  have hw' : (decideT fr (guardT ops o) fun fr => (dop E fn ops (base + i * qao) o fr h).bind fun r => (drun E fn ops base (i + 1) os (putT fr r.dst r.val) (qaj h r.ws)).bind fun x => .ok (r :: x.1, x.2.1, x.2.2)).wp Q := hw
  exact decide_iff.2 (go _ (decide_iff.1 hw'))
def RcLe (x m : Rc) : Prop := x.dst = m.dst ∧ x.nm = m.nm ∧ x.ws = m.ws ∧ (∀ u ∈ x.rd, u ∈ m.rd) ∧ (m.call = true → x.call = true ∧ x.val = m.val)
inductive RcsLe : List Rc → List Rc → Prop where
 | nil : RcsLe [] []
 | cons {x m xs ms} : RcLe x m → RcsLe xs ms → RcsLe (x :: xs) (m :: ms)
theorem RcLe.refl (x : Rc) : RcLe x x := ⟨rfl, rfl, rfl, fun _ h => h, fun h => ⟨h, rfl⟩⟩
theorem RcsLe.append {a b c d : List Rc} (h : RcsLe a b) (h' : RcsLe c d) : RcsLe (a ++ c) (b ++ d) := by
 induction h with
 | nil => exact h'
 | cons h _ ih => exact .cons h ih
def RcsOf (ops : Array Oper) : List Oper → List Rc → Prop
 | [], [] => True
 | o :: os, m :: ms => m.dst = o.dst ∧ m.nm = names ops o ∧ m.ws = [] ∧ RcsOf ops os ms
 | _, _ => False
theorem RcsOf.append {ops : Array Oper} : ∀ {a b : List Oper} {l m : List Rc}, RcsOf ops a l → RcsOf ops b m → RcsOf ops (a ++ b) (l ++ m)
 | [], _, [], _, _, h => h
 | _ :: _, _, _ :: _, _, h, h' => ⟨h.1, h.2.1, h.2.2.1, h.2.2.2.append h'⟩
 | [], _, _ :: _, _, h, _ => h.elim
 | _ :: _, _, [], _, h, _ => h.elim
theorem join_of {ops : Array Oper} : ∀ {os : List Oper} {l m : List Rc}, RcsOf ops os l → RcsOf ops os m → RcsOf ops os (joinRc l m)
 | [], [], [], _, _ => trivial
 | _ :: _, _ :: _, _ :: _, h, h' => ⟨h.1, h.2.1, rfl, join_of h.2.2.2 h'.2.2.2⟩
 | [], _ :: _, _, h, _ => h.elim
 | [], [], _ :: _, _, h => h.elim
 | _ :: _, [], _, h, _ => h.elim
 | _ :: _, _ :: _, [], _, h => h.elim
theorem join_le1 {ops : Array Oper} : ∀ {os : List Oper} {x l m : List Rc}, RcsOf ops os l → RcsOf ops os m → RcsLe x l → RcsLe x (joinRc l m)
 | [], _, [], [], _, _, h => h
 | _ :: _, _, _ :: _, _ :: _, h, h', .cons h1 h2 => .cons ⟨h1.1, h1.2.1, h1.2.2.1.trans h.2.2.1, fun u hu => List.mem_append_left _ (h1.2.2.2.1 u hu), fun h => Bool.noConfusion h⟩ (join_le1 h.2.2.2 h'.2.2.2 h2)
 | [], _, _ :: _, _, h, _, _ => h.elim
 | [], _, [], _ :: _, _, h, _ => h.elim
 | _ :: _, _, [], _, h, _, _ => h.elim
 | _ :: _, _, _ :: _, [], _, h, _ => h.elim
theorem join_le2 {ops : Array Oper} : ∀ {os : List Oper} {x l m : List Rc}, RcsOf ops os l → RcsOf ops os m → RcsLe x m → RcsLe x (joinRc l m)
 | [], _, [], [], _, _, h => h
 | _ :: _, _, _ :: _, _ :: _, h, h', .cons h1 h2 => .cons ⟨h1.1.trans (h'.1.trans h.1.symm), h1.2.1.trans (h'.2.1.trans h.2.1.symm), h1.2.2.1.trans h'.2.2.1, fun u hu => List.mem_append_right _ (h1.2.2.2.1 u hu), fun h => Bool.noConfusion h⟩ (join_le2 h.2.2.2 h'.2.2.2 h2)
 | [], _, _ :: _, _, h, _, _ => h.elim
 | [], _, [], _ :: _, _, h, _ => h.elim
 | _ :: _, _, [], _, h, _, _ => h.elim
 | _ :: _, _, _ :: _, [], _, h, _ => h.elim
theorem mergeT_inv {g : Grp} {F : List Nat} {fr : List AV} {A B : Option FRes} {C : List Prop} {rs : List Rc} {fr2 : List AV} {F2 : List Nat} (h : mergeT g F fr A B = some (C, rs, fr2, F2)) :
  ∃ C1 r1 f1 F1 C2 r2 f2 F3 v, A = some ⟨C1, r1, f1, F1⟩ ∧ B = some ⟨C2, r2, f2, F3⟩ ∧ joinV g.b (lget f1 g.d) (lget f2 g.d) = some v ∧ g.d < fr.length ∧ C = whenP g.b true C1 ++ whenP g.b false C2 ∧ rs = joinRc r1 r2 ∧ fr2 = (forgetF (dsts g.p) fr).set g.d v ∧ F2 = dsts g.p ++ F := by
 unfold mergeT at h
 split at h
 ·rename_i C1 r1 f1 F1 C2 r2 f2 F3
  split at h
  ·rename_i v hv hd
   simp at h
   obtain ⟨rfl, rfl, rfl, rfl⟩ := h
   exact ⟨C1, r1, f1, F1, C2, r2, f2, F3, v, rfl, rfl, hv, of_decide_eq_true hd, rfl, rfl, rfl, rfl⟩
  ·cases h
 ·cases h
theorem group_split {o : Oper} {os : List Oper} {g : Grp} (h : o :: os = g.p ++ g.x :: g.r) : o :: os = (g.p ++ [g.x]) ++ g.r := by rw [h, List.append_assoc]; rfl
section
variable {E : Ctx} {fn : FuncId} {ops : Array Oper} {base : Nat} {l : List Nat} {h : Heap}
theorem drunF_rcs : ∀ (n : Nat) {ex F : List Nat} {i : Nat} {os : List Oper} {fr : List AV} {res : FRes}, drunF E fn ops base l h n ex F i os fr = some res → RcsOf ops os res.rs
 | 0, _, _, _, _, _, _, hr => by simp [drunF] at hr
 | _ + 1, _, _, _, [], _, res, hr => by
  simp [drunF] at hr
  subst hr
  trivial
 | n + 1, ex, F, i, o :: os, fr, res, hr => by
  unfold drunF at hr
  split at hr
  ·rename_i g hg
   obtain ⟨_, hsp, _⟩ := mgroup_eq hg
   split at hr
   ·rename_i C rs fr2 F2 hm
    obtain ⟨C1, r1, f1, F1, C2, r2, f2, F3, v, hA, hB, _, _, _, rfl, _, _⟩ := mergeT_inv hm
    split at hr
    ·rename_i C' rs' fr' F' hn
     simp at hr
     subst hr
     rw [group_split hsp]
     exact (join_of (drunF_rcs n hA) (drunF_rcs n hB)).append (drunF_rcs n hn)
    ·cases hr
   ·cases hr
  ·split at hr
   ·cases hr
   ·split at hr
    ·rename_i C q hq
     split at hr
     ·split at hr
      ·rename_i C' rs fr' F' hn
       simp at hr
       subst hr
       exact ⟨rfl, rfl, rfl, drunF_rcs n hn⟩
      ·cases hr
     ·cases hr
    ·cases hr
theorem lget_forget {u : Nat} : ∀ {l : List Nat} {fr : List AV}, (u ∈ l → lget (forgetF l fr) u = .bad) ∧ (u ∉ l → lget (forgetF l fr) u = lget fr u) ∧ (forgetF l fr).length = fr.length
 | [], fr => ⟨fun h => (by cases h), fun _ => rfl, rfl⟩
 | t :: l, fr => by
  have ih := lget_forget (u := u) (l := l) (fr := fr.set t .bad)
  unfold forgetF
  have hs : t = u → lget (fr.set t .bad) u = .bad := fun e => by
   subst e
   simp only [lget, List.getD_eq_getElem?_getD]
   rcases Nat.lt_or_ge t fr.length with h1 | h1
   ·rw [List.getElem?_set_self h1]; rfl
   ·rw [List.getElem?_eq_none (by simpa using h1)]; rfl
  have hn : t ≠ u → lget (fr.set t .bad) u = lget fr u := fun e => by simp only [lget, List.getD_eq_getElem?_getD, List.getElem?_set_ne e]
  refine ⟨fun hu => ?_, fun hu => ?_, by rw [ih.2.2, List.length_set]⟩
  ·by_cases hl : u ∈ l
   ·exact ih.1 hl
   ·rw [ih.2.1 hl]
    exact hs ((List.mem_cons.1 hu).elim Eq.symm fun h => absurd h hl)
  ·rw [ih.2.1 fun h => hu (List.mem_cons_of_mem _ h)]
   exact hn fun e => hu (e ▸ List.mem_cons_self)
def FOk (E : Ctx) (fn : FuncId) (ops : Array Oper) (base : Nat) (h : Heap) (F : List Nat) (i : Nat) (os : List Oper) (fr : List AV) (res : FRes) : Prop :=
 AllP res.C → ∀ fr', Ag F fr fr' → (drun E fn ops base i os fr' h).wp fun x => RcsLe x.1 res.rs ∧ Ag res.F res.fr x.2.1 ∧ x.2.2 = h
theorem Ag.set1 {F : List Nat} {fr fr' : List AV} (ha : Ag F fr fr') {t : Nat} {b v : Bool} (h : lget fr t = .val (.bool b)) (e : b = v) : Ag F (fr.set t (abool v)) fr' := by
 rw [set_lget (a := abool v) (by rw [h, e]; rfl) (by simp [abool])]
 exact ha
theorem join_v {b : Bool} {a c v : AV} (h : joinV b a c = some v) : (b = true → v = a ∧ a ≠ .bad) ∧ (b = false → v = c ∧ c ≠ .bad) := by
 unfold joinV at h
 split at h
 ·simp at h
  subst h
  constructor
  ·intro e
   subst e
   exact ⟨rfl, by simp⟩
  ·intro e
   subst e
   exact ⟨rfl, by simp⟩
 ·cases h
theorem merge_ok {g : Grp} {o : Oper} {os : List Oper} {ex ex' F : List Nat} {i n : Nat} {fr fr' : List AV} {C : List Prop} {rs : List Rc} {fr2 : List AV} {F2 : List Nat} (hg : mgroup l ops o os fr ex = some g)
  (hm : mergeT g F fr (drunF E fn ops base l h n ex' F i (g.p ++ [g.x]) (fr.set g.t (abool true))) (drunF E fn ops base l h n ex' F i (g.p ++ [g.x]) (fr.set g.t (abool false))) = some (C, rs, fr2, F2))
  (ih : ∀ {v res}, drunF E fn ops base l h n ex' F i (g.p ++ [g.x]) (fr.set g.t (abool v)) = some res → FOk E fn ops base h F i (g.p ++ [g.x]) (fr.set g.t (abool v)) res)
  (hC : AllP C) (ha : Ag F fr fr') : (drun E fn ops base i (g.p ++ [g.x]) fr' h).wp fun x => RcsLe x.1 rs ∧ Ag F2 fr2 x.2.1 ∧ x.2.2 = h := by
 obtain ⟨ht, _, hxd⟩ := mgroup_eq hg
 obtain ⟨C1, r1, f1, F1, C2, r2, f2, F3, v, hA, hB, hv, hlt, rfl, rfl, rfl, rfl⟩ := mergeT_inv hm
 obtain ⟨hC1, hC2⟩ := AllP.append.1 hC
 have hjv := join_v hv
 have hR1 := drunF_rcs n hA
 have hR2 := drunF_rcs n hB
 have fin : ∀ {f : List AV} {Fx : List Nat} {y : List AV}, v = lget f g.d → lget f g.d ≠ .bad → Ag Fx f y → (∀ u, u ∉ dsts (g.p ++ [g.x]) → lget y u = lget fr' u) → fr.length = y.length → Ag (dsts g.p ++ F) ((forgetF (dsts g.p) fr).set g.d v) y := by
  intro f Fx y hvv hnb hf hk hlen
  refine ⟨by rw [List.length_set, lget_forget (u := 0).2.2, hlen], fun u => ?_⟩
  by_cases hd : u = g.d
  ·left
   have hl : g.d < (forgetF (dsts g.p) fr).length := by rw [lget_forget (u := 0).2.2]; exact hlt
   have e1 : lget ((forgetF (dsts g.p) fr).set g.d v) g.d = v := by
    simp only [lget, List.getD_eq_getElem?_getD, List.getElem?_set_self hl]; rfl
   rw [hd, e1, hvv]
   rcases hf.2 g.d with h1 | h1
   ·exact h1
   ·exact absurd h1.1 hnb
  ·have e1 : lget ((forgetF (dsts g.p) fr).set g.d v) u = lget (forgetF (dsts g.p) fr) u := by
    simp only [lget, List.getD_eq_getElem?_getD, List.getElem?_set_ne (Ne.symm hd)]
   rw [e1]
   by_cases hu : u ∈ dsts g.p
   ·right
    exact ⟨lget_forget.1 hu, List.mem_append_left _ hu⟩
   ·rw [lget_forget.2.1 hu]
    have hu2 : u ∉ dsts (g.p ++ [g.x]) := by
     have hds : ∀ (a : List Oper) (b : List Oper), dsts (a ++ b) = dsts a ++ dsts b := fun a b => by
      induction a with
      | nil => rfl
      | cons o a ih => simp only [List.cons_append, dsts, ih, List.append_assoc]
     rw [hds]
     intro hmem
     rcases List.mem_append.1 hmem with h1 | h1
     ·exact hu h1
     ·simp [dsts, hxd] at h1
      exact hd h1
    rw [hk u hu2]
    rcases ha.2 u with h1 | h1
    ·exact .inl h1
    ·exact .inr ⟨h1.1, List.mem_append_right _ h1.2⟩
 cases hb : g.b
 ·have hw := ih hB (whenP_all hC2 hb) fr' (ha.set1 ht hb)
  refine Tre.wp_mono (fun x hx => ?_) (drun_keep _ hw)
  obtain ⟨⟨q1, q2, q3⟩, q4, q5⟩ := hx
  obtain ⟨e1, e2⟩ := hjv.2 hb
  refine ⟨join_le2 hR1 hR2 q1, fin e1 e2 q2 q4 (ha.1.trans q5.symm), q3⟩
 ·have hw := ih hA (whenP_all hC1 hb) fr' (ha.set1 ht hb)
  refine Tre.wp_mono (fun x hx => ?_) (drun_keep _ hw)
  obtain ⟨⟨q1, q2, q3⟩, q4, q5⟩ := hx
  obtain ⟨e1, e2⟩ := hjv.1 hb
  refine ⟨join_le1 hR1 hR2 q1, fin e1 e2 q2 q4 (ha.1.trans q5.symm), q3⟩
theorem drunF_ok : ∀ (n : Nat) {ex F : List Nat} {i : Nat} {os : List Oper} {fr : List AV} {res : FRes}, drunF E fn ops base l h n ex F i os fr = some res → FOk E fn ops base h F i os fr res
 | 0, _, _, _, _, _, _, hr => by simp [drunF] at hr
 | _ + 1, _, _, _, [], _, res, hr => by
  simp [drunF] at hr
  subst hr
  exact fun _ fr' ha => ⟨.nil, ha, rfl⟩
 | n + 1, ex, F, i, o :: os, fr, res, hr => by
  unfold drunF at hr
  split at hr
  ·rename_i g hg
   obtain ⟨_, hsp, _⟩ := mgroup_eq hg
   split at hr
   ·rename_i C rs fr2 F2 hm
    split at hr
    ·rename_i C' rs' fr3 F3 hn
     simp at hr
     subst hr
     intro hC fr' ha
     obtain ⟨hC1, hC2⟩ := AllP.append.1 hC
     rw [group_split hsp]
     refine drun_append _ (Tre.wp_mono (fun x hx => ?_) (merge_ok hg hm (fun h => drunF_ok n h) hC1 ha))
     have h2 := drunF_ok n hn hC2 x.2.1 hx.2.1
     rw [show i + g.p.length + 1 = i + (g.p ++ [g.x]).length by simp; omega] at h2
     rw [hx.2.2]
     exact Tre.wp_mono (fun y hy => ⟨hx.1.append hy.1, hy.2.1, hy.2.2⟩) h2
    ·cases hr
   ·cases hr
  ·split at hr
   ·cases hr
   ·rename_i hmt
    split at hr
    ·rename_i C q hq
     split at hr
     ·rename_i hws
      split at hr
      ·rename_i C' rs fr2 F' hn
       simp at hr
       subst hr
       intro hC fr' ha
       obtain ⟨hC1, hC2⟩ := AllP.append.1 hC
       refine decide_iff.2 ?_
       rw [Tre.wp_bind]
       rw [dop_congr ha hmt] at hq
       refine Tre.wp_mono (fun r hr => ?_) (dop_dst (flat_wp (Q := fun r => r = q) hq hC1 rfl))
       obtain ⟨rfl, hd, hnm⟩ := hr
       rw [Tre.wp_bind, hws, hd]
       refine Tre.wp_mono (fun x hx => ?_) (drunF_ok n hn hC2 _ (ha.put o.dst r.val))
       exact ⟨.cons ⟨hd, hnm, hws, fun _ h => h, fun h => ⟨h, rfl⟩⟩ hx.1, hx.2.1, hx.2.2⟩
      ·cases hr
     ·cases hr
    ·cases hr
end
theorem drunM_ok {E : Ctx} {fn : FuncId} {ops : Array Oper} {base : Nat} {l : List Nat} {Q : DR → Prop} : ∀ (n : Nat) {F : List Nat} {i : Nat} {os : List Oper} {fr fr' : List AV} {h : Heap} {P : DR → Prop},
  (drunM E fn ops base l n F i os fr h).wp P → Ag F fr fr' → (drun E fn ops base i os fr' h).wp fun x => ∃ xm F', P xm ∧ RcsLe x.1 xm.1 ∧ Ag F' xm.2.1 x.2.1 ∧ x.2.2 = xm.2.2
 | 0, _, _, _, _, _, _, _, hw, _ => by simp [drunM] at hw; exact hw.elim
 | _ + 1, F, _, [], fr, fr', h, P, hw, ha => by
  have hw' : P ([], fr, h) := by simp only [drunM] at hw; exact hw
  exact ⟨_, F, hw', .nil, ha, rfl⟩
 | n + 1, F, i, o :: os, fr, fr', h, P, hw, ha => by
  unfold drunM at hw
  split at hw
  ·rename_i g hg
   obtain ⟨_, hsp, _⟩ := mgroup_eq hg
   split at hw
   ·rename_i C rs fr2 F2 hm
    obtain ⟨hC, hw⟩ := qds hw
    rw [Tre.wp_bind] at hw
    rw [group_split hsp]
    refine drun_append _ (Tre.wp_mono (fun x hx => ?_) (merge_ok hg hm (fun h => drunF_ok n h) hC ha))
    have h2 := drunM_ok (Q := Q) n hw hx.2.1
    rw [show i + g.p.length + 1 = i + (g.p ++ [g.x]).length by simp; omega] at h2
    rw [hx.2.2]
    refine Tre.wp_mono (fun y hy => ?_) h2
    obtain ⟨xm, F', h3, h4, h5, h6⟩ := hy
    exact ⟨_, F', h3, hx.1.append h4, h5, h6⟩
   ·exact hw.elim
  ·split at hw
   ·exact hw.elim
   ·rename_i hmt
    refine decide_iff.2 ?_
    have hw := decide_iff.1 hw
    rw [Tre.wp_bind] at hw ⊢
    rw [dop_congr ha hmt] at hw
    refine Tre.wp_mono (fun r hr => ?_) hw
    rw [Tre.wp_bind] at hr ⊢
    refine Tre.wp_mono (fun x hx => ?_) (drunM_ok (Q := Q) n hr (ha.put r.dst r.val))
    obtain ⟨xm, F', h3, h4, h5, h6⟩ := hx
    exact ⟨_, F', h3, .cons (.refl r) h4, h5, h6⟩
theorem meets_mono {a a' b b' : List Nat} (ha : ∀ u ∈ a, u ∈ a') (hb : ∀ u ∈ b, u ∈ b') (h : meets a b = true) : meets a' b' = true := by
 unfold meets at h ⊢
 obtain ⟨u, hu, hm⟩ := List.any_eq_true.1 h
 exact List.any_eq_true.2 ⟨u, ha u hu, List.contains_iff_mem.2 (hb u (List.contains_iff_mem.1 hm))⟩
theorem conf_mono {a a' b b' : Rc} (ha : RcLe a a') (hb : RcLe b b') (h : conf a b = true) : conf a' b' = true := by
 unfold conf wrs at h ⊢
 simp only [Bool.or_eq_true] at h ⊢
 rw [← ha.1, ← hb.1, ← ha.2.1, ← hb.2.1, ← ha.2.2.1, ← hb.2.2.1]
 have happ : ∀ {x y z : List Nat}, (∀ u ∈ y, u ∈ z) → ∀ u ∈ x ++ y, u ∈ x ++ z := fun hyz u hu => (List.mem_append.1 hu).elim (fun h => List.mem_append_left _ h) (fun h => List.mem_append_right _ (hyz u h))
 rcases h with ((h | h) | h) | h
 ·exact .inl (.inl (.inl h))
 ·exact .inl (.inl (.inr h))
 ·exact .inl (.inr (meets_mono (fun _ h => h) (happ hb.2.2.2.1) h))
 ·exact .inr (meets_mono (fun _ h => h) (happ ha.2.2.2.1) h)
theorem okAgainst_mono {anc : List Nat} {r r' : Rc} (hr : RcLe r r') : ∀ {qs qs' : List Rc} {i : Nat}, RcsLe qs qs' → okAgainst anc r' i qs' = true → okAgainst anc r i qs = true
 | [], _, _, .nil, _ => rfl
 | q :: qs, q' :: qs', i, .cons h hs, hk => by
  unfold okAgainst at hk ⊢
  simp only [Bool.and_eq_true, Bool.or_eq_true, Bool.not_eq_true'] at hk ⊢
  refine ⟨hk.1.imp (fun h1 => ?_) id, okAgainst_mono hr hs hk.2⟩
  cases hc : conf q r
  ·rfl
  ·rw [conf_mono h hr hc] at h1
   exact h1
theorem okAll_mono {A : List (List Nat)} : ∀ {rs rs' : List Rc} {j : Nat} {d d' : List Rc}, RcsLe rs rs' → RcsLe d d' → okAll A j d' rs' = true → okAll A j d rs = true
 | [], _, _, _, _, .nil, _, _ => rfl
 | r :: rs, r' :: rs', j, d, d', .cons h hs, hd, hk => by
  unfold okAll at hk ⊢
  simp only [Bool.and_eq_true] at hk ⊢
  exact ⟨okAgainst_mono h hd hk.1, okAll_mono hs (hd.append (.cons h .nil)) hk.2⟩
theorem tells_mono : ∀ {rs rs' : List Rc}, RcsLe rs rs' → AllP (tells rs) → AllP (tells rs')
 | [], _, .nil, _ => trivial
 | r :: rs, r' :: rs', .cons h hs, hk => by
  unfold tells at hk ⊢
  cases hc : r'.call
  ·rw [if_neg (by simp)]
   refine tells_mono hs ?_
   split at hk
   ·exact hk.2
   ·exact hk
  ·obtain ⟨h1, h2⟩ := h.2.2.2.2 hc
   rw [if_pos h1] at hk
   rw [if_pos rfl, ← h2]
   exact ⟨hk.1, tells_mono hs hk.2⟩
theorem VRs.weak {w : World} {Z : Nat → Prop} {γ : Gst} {F : List Nat} {fr fr' : List AV} {vs : List Value} (ha : Ag F fr fr') (h : VRs w Z γ fr' vs) : VRs w Z γ fr vs := by
 refine ⟨ha.1.trans h.1, fun j a v hj hv => ?_⟩
 rcases ha.2 j with h1 | ⟨h1, _⟩
 ·have hl : j < fr.length := (List.getElem?_eq_some_iff.1 hj).1
  have hl' : j < fr'.length := ha.1 ▸ hl
  refine h.2 j a v ?_ hv
  unfold lget at h1
  rw [List.getD_eq_getElem?_getD, List.getD_eq_getElem?_getD, hj, List.getElem?_eq_getElem hl'] at h1
  rw [List.getElem?_eq_getElem hl']
  exact congrArg some h1.symm
 ·unfold lget at h1
  rw [List.getD_eq_getElem?_getD, hj] at h1
  rw [show a = .bad from h1]
  exact .bad v
theorem adrawM_adraw {E : Ctx} {fn : FuncId} {ops : Array Oper} {m : Nat} {l : List Nat} {fr : List AV} {h : Heap} {nx : Nat} {Q : DR → Prop} (hw : (adrawM E fn ops m l fr h nx).wp Q) : (adraw0 E fn ops m fr h nx).wp fun x => ∃ xm F, Q xm ∧ RcsLe x.1 xm.1 ∧ Ag F xm.2.1 x.2.1 ∧ x.2.2 = xm.2.2 := by
 unfold adrawM at hw
 unfold adraw0
 split at hw
 ·rename_i A hA
  (try rw [hA])
  (try dsimp only)
  split at hw
  ·rename_i hc
   rw [if_pos hc]
   rw [Tre.wp_bind] at hw ⊢
   refine Tre.wp_mono (fun x hx => ?_) (drunM_ok (Q := Q) _ hw (F := []) (fr' := fr) ⟨rfl, fun u => .inl rfl⟩)
   obtain ⟨xm, F, h1, h2, h3, h4⟩ := hx
   split at h1
   ·rename_i hk
    rw [if_pos (okAll_mono h2 .nil hk)]
    exact ⟨xm, F, h1, h2, h3, h4⟩
   ·exact h1.elim
  ·exact hw.elim
 ·exact hw.elim
section
variable {P : Program} {E : Ctx} {w w' w0 : World} {Z Z' : Nat → Prop} {K : Kp} {own own' : Own} {γ γ' : Gst} {h h' H : Heap} {used used' : Nat → Prop} {s d id nx : Nat} {A B : AV} {v V U : Value} {cs ds : List AV} {vs us : List Value} {F fr fm : List AV} {a : Act} {fn : FuncId} {ops : Array Oper} {r : Rc} {rs : List Rc} {AA : List (List Nat)} {listed : Array Bool} {m : Nat}
theorem drun_text (hE : EOK E) {b : Frame} {k : List Item} {fs : List Frame} {nx : Nat} {rest : List Nat} : ∀ (os : List Oper) (i : Nat) {fr : List AV} {h : Heap} {a : Act} {w : World} {Z : Nat → Prop} {own : Own} {γ : Gst} {Q : DR → Prop}, (∀ (j : Nat) o, os[j]? = some o → ops[i + j]? = some o) →
  (drun E fn ops nx i os fr h).wp Q → MemR w0 K w Z own γ h (fun s => s < nx + i * qao) → GlR E w Z → VRs w Z γ fr a.tmps.toList →
  ∃ x, Q x ∧ AllP (tells x.1) ∧ ∃ a' w' Z' own' γ', a'.defers = a.defers ∧ VRs w' Z' γ' x.2.1 a'.tmps.toList ∧ Stay w Z w' Z' ∧ γ.Le γ' ∧ MemR w0 K w' Z' own' γ' x.2.2 (fun s => s < nx + (i + os.length) * qao) ∧
   Steps E.P (lone (b.atR a (.inRegion ops (List.range' i os.length ++ rest) :: k)) fs w) (lone (b.atR a' (.inRegion ops rest :: k)) fs w')
 | [], i, fr, h, a, w, Z, own, γ, Q, _, hw, hm, hg, hf => ⟨([], fr, h), hw, trivial, a, w, Z, own, γ, rfl, hf, Stay.refl _ _, Gst.Le.refl _, hm, Steps.refl _ _⟩
 | o :: os, i, fr, h, a, w, Z, own, γ, Q, ho, hw, hm, hg, hf => by
  have hw := decideT_wp (show (decideT fr (guardT ops o) fun fr => (dop E fn ops (nx + i * qao) o fr h).bind fun r => (drun E fn ops nx (i + 1) os (putT fr r.dst r.val) (qaj h r.ws)).bind fun x => .ok (r :: x.1, x.2.1, x.2.2)).wp Q from hw)
  rw [Tre.wp_bind] at hw
  obtain ⟨r, h1, h2⟩ := Tre.resolve dop_det hw
  rw [Tre.wp_bind] at h2
  obtain ⟨v, w1, Z1, own1, γ1, D, hs⟩ := dok_run (used' := fun s => s < nx + (i + 1) * qao) (b := b) (k := k) (fs := fs) (rest := List.range' (i + 1) os.length ++ rest) hE hm hg hf h1 (ho 0 o rfl) (fun j _ => by omega) (fun s h => by simp only [qao] at *; omega) (fun j hj => by simp only [qao]; omega)
  have hle := D.ext.le hm.fresh
  obtain ⟨x, q0, qt, a', w', Z', own', γ', q1, q2, q3, q4, q5, q6⟩ := drun_text hE os (i + 1) (a := a.put r.dst v) (fun j q hj => by
   have := ho (j + 1) q (by simpa using hj)
   rw [show i + 1 + j = i + (j + 1) by omega]
   exact this) h2 D.mem (hg.mono D.stay) ((hf.mono D.stay hle).putT r.dst D.val)
  have hok : okAV r.val := D.val.ok
  refine ⟨_, q0, ?_, a', w', Z', own', γ', q1.trans ?_, q2, D.stay.trans q3, hle.trans q4, ?_, hs.trans q6⟩
  ·show AllP (tells (r :: x.1))
   unfold tells
   split
   ·exact ⟨hok, qt⟩
   ·exact qt
  ·cases r.dst <;> rfl
  ·rw [show i + (o :: os).length = i + 1 + os.length by simp; omega]
   exact q5
theorem dtext_sound (hE : EOK E) (hm : MemR w0 K w Z own γ h (fun s => s < nx)) (hg : GlR E w Z) (hf : VRs w Z γ fr a.tmps.toList) {l : List Nat} {Q : DR → Prop} (he : (drunM E fn ops nx l 4000 [] 0 ops.toList fr h).wp Q)
  (b : Frame) (k : List Item) (fs : List Frame) : ∃ x, Q x ∧ AllP (tells x.1) ∧ ∃ a' w' Z' own' γ', a'.defers = a.defers ∧ VRs w' Z' γ' x.2.1 a'.tmps.toList ∧ Stay w Z w' Z' ∧ γ.Le γ' ∧ MemR w0 K w' Z' own' γ' x.2.2 (fun s => s < nx + ops.size * qao) ∧
   Steps E.P (lone (b.atR a (.inRegion ops (List.range ops.size) :: k)) fs w) (lone (b.atR a' (.inRegion ops [] :: k)) fs w') := by
 have h0 := drunM_ok (Q := Q) _ he (F := []) (fr' := fr) ⟨rfl, fun u => .inl rfl⟩
 obtain ⟨x, ⟨xm, F, h1, h2, h3, h4⟩, ht, a', w', Z', own', γ', q1, q2, q3, q4, q5, q6⟩ := drun_text hE (b := b) (k := k) (fs := fs) (rest := []) ops.toList 0 (a := a) (fun j o ho => by rw [Nat.zero_add]; simpa using ho) h0 (by rw [Nat.zero_mul]; exact hm) hg hf
 refine ⟨xm, h1, tells_mono h2 ht, a', w', Z', own', γ', q1, q2.weak h3, q3, q4, ?_, ?_⟩
 ·rw [← h4]
  rw [Nat.zero_add, Array.length_toList] at q5
  exact q5
 ·rw [List.append_nil, Array.length_toList, ← List.range_eq_range'] at q6
  exact q6
theorem adraw_sound (hE : EOK E) (hm : MemR w0 K w Z own γ h (fun s => s < nx)) (hg : GlR E w Z) (hf : VRs w Z γ fr a.tmps.toList) {Q : List Rc × List AV × Heap → Prop} (he : (adraw E fn ops m fr h nx).wp Q)
  (b : Frame) (k : List Item) (fs : List Frame) (t : Nat) : ∃ x, Q x ∧ AllP (tells x.1) ∧ ∃ a' w' Z' own' γ', a'.defers = a.defers ∧ VRs w' Z' γ' x.2.1 a'.tmps.toList ∧ Stay w Z w' Z' ∧ γ.Le γ' ∧ MemR w0 K w' Z' own' γ' x.2.2 (fun s => s < nx + ops.size * qao) ∧
   Steps E.P (lone (b.atR a (.inRegion ops (Region.linearise .any ops t) :: k)) fs w) (lone (b.atR a' (.inRegion ops (restL ops.size m) :: k)) fs w') := by
 unfold adraw at he
 split at he
 ·exact adraw0_sound hE hm hg hf he b k fs t
 ·obtain ⟨x, ⟨xm, F, h1, h2, h3, h4⟩, ht, a', w', Z', own', γ', q1, q2, q3, q4, q5, q6⟩ := adraw0_sound hE hm hg hf (adrawM_adraw he) b k fs t
  exact ⟨xm, h1, tells_mono h2 ht, a', w', Z', own', γ', q1, q2.weak h3, q3, q4, h4 ▸ q5, q6⟩
end
end Go.BE
namespace Go.BE
open Go.RowKit
section
variable {P : Program} {E : Ctx} {w w' w0 : World} {Z Z' : Nat → Prop} {K : Kp} {own own' : Own} {γ γ' : Gst} {h h' : Heap} {used used' : Nat → Prop} {r s d id : Nat} {R : Root} {A B : AV} {v V U : Value} {cs ds : List AV} {vs us : List Value} {F : AFr} {Fs : List AFr} {a : Act} {as : List Act} {c : Cfg}
theorem botFn_fn {G : AFr} (h : F.fn = G.fn) : botFn F Fs = botFn G Fs := by
 cases Fs with
 | nil => exact h
 | cons => rfl
theorem VR.yld_inv (h : VR w Z γ (.yld r) v) : ∃ l, γ.β r = some l ∧ v = .func (.yield l) #[] #[] := by
 cases h with
 | cr h => cases h
 | yld _ l h => exact ⟨l, h, rfl⟩
theorem findRng_ok {g : Rng} : ∀ {Fs : List AFr} {as : List Act}, findRng r Fs = some (F, g) → CsR w Z γ Fs as → ∃ b, FrR w Z γ F b ∧ F.rng = some g ∧ g.r = r
 | [], _, h, _ => by simp [findRng] at h
 | G :: Gs, [], _, hc => hc.elim
 | G :: Gs, b :: bs, h, hc => by
  simp only [findRng] at h
  split at h
  ·rename_i g' hg
   split at h
   ·rename_i hr
    injection h with h
    injection h with h1 h2
    subst h1; subst h2
    exact ⟨b, hc.1, hg, hr⟩
   ·exact findRng_ok h hc.2
  ·exact findRng_ok h hc.2
theorem setPs_rel : ∀ {ps : List Tmp} {cs : List AV} {vs : List Value} {fr : List AV} {arr : Array Value}, cs.length = ps.length → VRs w Z γ fr arr.toList → VRs w Z γ cs vs →
  VRs w Z γ (setPs fr ps cs) ((ps.zip vs).foldl (fun (tmps : Array Value) (x : Tmp × Value) => tmps.setIfInBounds x.1 x.2) arr).toList
 | [], _, _, _, _, _, hf, _ => by simpa [setPs] using hf
 | p :: ps, [], _, _, _, hl, _, _ => by simp at hl
 | p :: ps, c :: cs, [], _, _, _, _, hv => by simp [VRs] at hv
 | p :: ps, c :: cs, v :: vs, fr, arr, hl, hf, hv => by
  simp only [setPs, List.zip_cons_cons, List.foldl_cons]
  exact setPs_rel (by simpa using hl) (by rw [Array.toList_setIfInBounds]; exact hf.set p hv.head) hv.tail
theorem op_round {b : Frame} {k : List Item} {fs : List Frame} {ops : Array Oper} {i : Nat} {rest : List Nat} {o : Oper} {l : Nat} {f : FuncId} {tmps : Array Value} {as bd : Code} (ho : ops[i]? = some o) (hw : Region.wanted o (yielded ops a.tmps) = true)
  (hr : (execOp a.eval o).run P w = .ok (.round l f tmps as bd) w') : step P (lone (b.atR a (.inRegion ops (i :: rest) :: k)) fs w) = .next (lone (Frame.round l f tmps as bd .normal) (b.atR a (.inRegion ops (i :: rest) :: k) :: fs) w') := by
 have hg := stepGR_op (P := P) (b := b) (k := k) (cs := fs) (w := w) (rest := rest) ho hw
 refine step_lone_go ?_
 have hr := semAt_run (ro := b.roundOf) (fun d => by simp) hr
 rw [hg]
 simp [stepG.apply, hr, Frame.atR]
theorem yieldT_sound {base : List Frame} (hS : StOK E w0 K c a as w Z own γ) {ops : Array Oper} {i : Nat} {o : Oper} {rest : List Nat} {k : List Item} {Q : Fin → Prop}
  (ht : c.cur.todo = .inRegion ops (i :: rest) :: k) (ho : ops[i]? = some o) (hw : Region.wanted o (yielded ops a.tmps) = true)
  {args : List AV} (hy : yldOf (ev E c.cur.fr) o.op = some (r, args)) (he : (yieldT c r args).wp Q) : ∃ f, Q f ∧ FinOK E w0 K base c a as w Z f := by
 have hev : ∀ x, VR w Z γ (ev E c.cur.fr x) (a.eval x) := fun x => ev_rel' hS.gl hS.cur.tmps x
 have hmk : mkF c.cur a = (fb c.cur).atR a (.inRegion ops (i :: rest) :: k) := by simp [mkF, ht]
 unfold yldOf at hy
 split at hy
 ·rename_i f xs ats hop
  split at hy
  ·rename_i r' hf
   injection hy with hy
   injection hy with h1 h2
   subst h1; subst h2
   have hvf := hev f
   rw [hf] at hvf
   obtain ⟨l, hl, hval⟩ := hvf.yld_inv
   unfold yieldT at he
   split at he
   ·rename_i Qr F g hQ hF
    split at he
    ·rename_i R st pend hc
     split at he
     ·rename_i hlen
      obtain ⟨hRg, he1⟩ := he
      have he2 := he1 hRg
      clear he1
      obtain ⟨b0, o0, k1, k2, k3, k4, _, _⟩ := hS.mem.obj hQ hc
      rw [hl] at k1
      injection k1 with k1
      subst k1
      have k4 : o0 = .loop { R.base with state := st, pending := pend } := k4
      obtain ⟨b, hb, hrng, hgr⟩ := findRng_ok hF hS.callers
      obtain ⟨g1, g2, g3, g4, g5, g6, _⟩ := hb.link.rng g hrng
      rw [hgr, hl] at g1
      injection g1 with g1
      subst hRg
      have hsz : (xs.map a.eval).size = g.params.size := by simpa using hlen
      have hrun : (execOp a.eval o).run E.P w = .ok (.round l F.fn ((g.params.zip (xs.map a.eval)).foldl (fun tmps (x : Tmp × Value) => tmps.setIfInBounds x.1 x.2) b.tmps) g.assign g.body) w := by
       simp only [execOp, hop, resolve, hval, Deferred.ofValue, Sem.run_bind, Sem.run_pure, Result.andThen_ok, invoke, Array.empty_append]
       have := run_yield (P := E.P) (args := xs.map a.eval) (k3.trans (congrArg some k4)) (by show _ = g.R.base.params.size; rw [g4]; exact hsz)
       rw [this]
       simp only [g2, g3, g4, g5, g6]
      refine ⟨_, he2, { tmps := (g.params.zip (xs.map a.eval)).foldl (fun tmps (x : Tmp × Value) => tmps.setIfInBounds x.1 x.2) b.tmps, defers := [] }, a :: as, w, Z, own, γ, ⟨⟨rfl, ?_, ⟨fun g hg => (by cases hg), fun r0 R0 hr => ?_, fun r0 R0 hr => (by cases hr)⟩⟩, ⟨hS.cur, hS.callers⟩, hS.mem, hS.gl⟩, Stay.refl _ _, rfl, ?_⟩
      ·have := setPs_rel (ps := g.params.toList) (cs := xs.toList.map (ev E c.cur.fr)) (vs := xs.toList.map a.eval) (by simpa using hlen) hb.tmps ⟨by simp, fun j x y hx hy => by
        rw [List.getElem?_map] at hx hy
        cases hz : xs.toList[j]? with
        | none => rw [hz] at hx; simp at hx
        | some z =>
         rw [hz] at hx hy
         simp at hx hy
         subst hx; subst hy
         exact hev z⟩
       simp only
       rw [← Array.foldl_toList, Array.toList_zip, Array.toList_map]
       exact this
      ·injection hr with hr
       injection hr with hr1 hr2
       injection hr1 with hr1
       subst hr1; subst hr2
       rw [hl, g1]
      ·refine .one ?_
       rw [hmk, op_round ho hw hrun]
       have : mkF { fn := F.fn, todo := [.code g.assign, .beginRound, .code g.body], fr := setPs F.fr g.params.toList (xs.toList.map (ev E c.cur.fr)), rnd := some (some r', g.R) } { tmps := (g.params.zip (xs.map a.eval)).foldl (fun tmps (x : Tmp × Value) => tmps.setIfInBounds x.1 x.2) b.tmps, defers := [] } = Frame.round l F.fn ((g.params.zip (xs.map a.eval)).foldl (fun tmps (x : Tmp × Value) => tmps.setIfInBounds x.1 x.2) b.tmps) g.assign g.body .normal := by
        simp [mkF, fb, Frame.atR, Frame.round, g1]
       rw [this]
       simp only [frs, List.cons_append, hmk]
     ·exact he.elim
    ·exact he.elim
   ·exact he.elim
  ·cases hy
 ·cases hy
theorem runOp_sound {base : List Frame} (hE : EOK E) (hS : StOK E w0 K c a as w Z own γ) {ops : Array Oper} {i : Nat} {o : Oper} {rest : List Nat} {k : List Item} {Q : Fin → Prop}
  (ht : c.cur.todo = .inRegion ops (i :: rest) :: k) (ho : ops[i]? = some o) (hw : Region.wanted o (yielded ops a.tmps) = true)
  (he : (runOp E c ops o rest k).wp Q) : ∃ f, Q f ∧ FinOK E w0 K base c a as w Z f := by
 unfold runOp at he
 split at he
 ·rename_i r args hy
  exact yieldT_sound hS ht ho hw hy he
 ·exact runOp0_sound hE hS ht ho hw he
theorem hdel_hput : ∀ {h : Heap} {r : Nat} {R : Root}, hdel (hput h r R) r = hdel h r
 | [], r, R => by simp [hput, hdel]
 | (k, c) :: h, r, R => by
  simp only [hput]
  by_cases hk : k = r
  ·rw [if_pos hk]
   simp [hdel, hk]
  ·rw [if_neg hk]
   simp [hdel, hk, hdel_hput]
theorem MemR.end (hm : MemR w0 K w Z own γ h used) {x : AObj} {b : Nat} {o' : Obj} (hg : hget h r = some R) (hc : R.cont = .obj x) (hb : γ.β r = some b) :
  Stay w Z (w.putObj b o') Z ∧ MemR w0 K (w.putObj b o') Z own γ (hdel h r) used := by
 obtain ⟨h1, h2⟩ := hm.setObj (x' := .gone) (o' := o') hg hc hb trivial
 exact ⟨h1, by have := h2.del r; rw [hdel_hput] at this; exact this⟩
theorem dropMarks_sound : ∀ {ms : List (Option Nat × RgL)} {h h1 : Heap} {w : World} {fr : Frame}, dropMarks h ms = some h1 → (∀ r R, (some r, R) ∈ ms → γ.β r = some R.d) → MemR w0 K w Z own γ h used →
  fr.mode = .returning → fr.defers = ms.map markD → ∃ w', Stay w Z w' Z ∧ MemR w0 K w' Z own γ h1 used ∧ ∀ fs, Steps P (lone fr fs w) (lone { fr with defers := [] } fs w')
 | [], h, h1, w, fr, he, _, hm, hmode, hd => by
  simp only [dropMarks, Option.some.injEq] at he
  subst he
  refine ⟨w, Stay.refl _ _, hm, fun fs => ?_⟩
  have : ({ fr with defers := [] } : Frame) = fr := by
   have hd : fr.defers = [] := hd
   rw [← hd]
  rw [this]
  exact .refl _ _
 | (none, _) :: _, _, _, _, _, he, _, _, _, _ => by simp [dropMarks] at he
 | (some r, R) :: l, h, h1, w, fr, he, hβ, hm, hmode, hd => by
  simp only [dropMarks] at he
  split at he
  ·rename_i Q hQ
   split at he
   ·rename_i hc
    have hb := hβ r R List.mem_cons_self
    obtain ⟨b0, o0, k1, k2, k3, k4, _, _⟩ := hm.obj hQ hc
    rw [hb] at k1
    injection k1 with k1
    subst k1
    have k4 : o0 = .deferred (some []) := k4
    have hk := run_takeDeferred (P := P) (k3.trans (congrArg some k4))
    obtain ⟨m1, m2⟩ := hm.end (o' := .deferred none) hQ hc hb
    obtain ⟨w', n1, n2, n3⟩ := dropMarks_sound (fr := { fr with defers := l.map markD }) he (fun r' R' h' => hβ r' R' (List.mem_cons_of_mem _ h')) m2 hmode rfl
    refine ⟨w', m1.trans n1, n2, fun fs => .head ?_ (n3 fs)⟩
    have := step_collected (P := P) (fr := fr) (cs := fs) (d := markD (some r, R)) (r := R.d) (ds := l.map markD) (by rw [hmode]; simp) (by rw [hd]; rfl) rfl hk
    simpa using this
   ·cases he
  ·cases he
theorem endRnd_sound {base : List Frame} (hS : StOK E w0 K c a as w Z own γ) {Q : Fin → Prop} {jump : Option Code}
  (hst : ∀ (l : Nat) (v : Value) (w' : World) (x : Frame) (fs : List Frame), (fb c.cur).roundOf = some l → (Instr.endRound l jump).run E.P w = .ok v w' → step E.P (lone (mkF c.cur a) (x :: fs) w) = .next (lone (x.finish v) fs w'))
  (he : (endRnd c jump).wp Q) : ∃ f, Q f ∧ FinOK E w0 K base c a as w Z f := by
 unfold endRnd at he
 split at he
 ·rename_i r R0 hrnd
  have hb := hS.cur.link.rnd r R0 hrnd
  split at he
  ·rename_i Qr hQ
   split at he
   ·rename_i R st pend hc
    have hcs := hS.callers
    split at he
    ·rename_i F Fs hcl
     rw [hcl] at hcs
     cases as with
     | nil => exact hcs.elim
     | cons b bs =>
      obtain ⟨hF, hFs⟩ := hcs
      split at he
      ·rename_i ops i rest k htodo
       split at he
       ·rename_i o ho
        obtain ⟨b0, o0, k1, k2, k3, k4, _, _⟩ := hS.mem.obj hQ hc
        rw [hb] at k1
        injection k1 with k1
        subst k1
        have k4 : o0 = .loop { R.base with state := st, pending := pend } := k4
        have hrun := run_endRound (P := E.P) jump (k3.trans (congrArg some k4))
        obtain ⟨m1, m2⟩ := hS.mem.setObj (x' := .loop R (if jump.isNone then .ready else .done) jump) (o' := .loop { R.base with state := if jump.isNone then .ready else .done, pending := jump }) hQ hc hb rfl
        have hmk : mkF F b = (fb F).atR b (.inRegion ops (i :: rest) :: k) := by simp [mkF, htodo]
        refine ⟨_, he, b.put o.dst (.bool jump.isNone), bs, _, Z, own, γ, ⟨(hF.mono m1 (Gst.Le.refl _)).fin (.cr (.val _ trivial)), hFs.mono m1 (Gst.Le.refl _), m2, hS.gl.mono m1⟩, m1, ?_, .one ?_⟩
        ·rw [hcl]
         cases Fs <;> rfl
        ·rw [hcl, frs_cons, hmk, hst R0.l _ _ _ _ (by simp [fb, hrnd]) hrun, Frame.finish_atR, ho]
         rfl
       ·exact he.elim
      ·exact he.elim
    ·exact he.elim
   ·exact he.elim
  ·exact he.elim
 ·exact he.elim
theorem leave_sound {base : List Frame} (hE : EOK E) (hS : StOK E w0 K c a as w Z own γ) {Q : Fin → Prop} {todo : List Item} {jump : Option Code}
  (hst : (fb c.cur).roundOf = none → ∀ fs, Steps E.P (lone (mkF c.cur a) fs w) (lone { (fb c.cur).atR a todo with mode := .returning } fs w))
  (hst2 : ∀ (l : Nat) (v : Value) (w' : World) (x : Frame) (fs : List Frame), (fb c.cur).roundOf = some l → (Instr.endRound l jump).run E.P w = .ok v w' → step E.P (lone (mkF c.cur a) (x :: fs) w) = .next (lone (x.finish v) fs w'))
  (he : (leave E c jump).wp Q) : ∃ f, Q f ∧ FinOK E w0 K base c a as w Z f := by
 unfold leave at he
 split at he
 ·rename_i hrnd
  split at he
  ·rename_i h1 hd
   have hn : (fb c.cur).roundOf = none := by simp [fb, hrnd]
   obtain ⟨w', m1, m2, m3⟩ := dropMarks_sound (P := E.P) (fr := { (fb c.cur).atR a todo with mode := .returning }) hd hS.cur.link.marks hS.mem rfl hS.cur.defers
   exact leave0_sound (todo := todo) hE hS m1 m2 (fun fs => (hst hn fs).trans (m3 fs)) he
  ·exact he.elim
 ·exact endRnd_sound hS hst2 he
theorem beginRnd_sound {base : List Frame} (hS : StOK E w0 K c a as w Z own γ) {Q : Fin → Prop} {k : List Item} (ht : c.cur.todo = .beginRound :: k) (he : (beginRnd c k).wp Q) : ∃ f, Q f ∧ FinOK E w0 K base c a as w Z f := by
 unfold beginRnd at he
 split at he
 ·rename_i r R0 hrnd
  have hb := hS.cur.link.rnd r R0 hrnd
  split at he
  ·rename_i Qr hQ
   split at he
   ·rename_i R pend hc
    obtain ⟨b0, o0, k1, k2, k3, k4, _, _⟩ := hS.mem.obj hQ hc
    rw [hb] at k1
    injection k1 with k1
    subst k1
    have k4 : o0 = .loop { R.base with state := .ready, pending := pend } := k4
    have hrun := run_beginRound (P := E.P) (k3.trans (congrArg some k4)) rfl
    obtain ⟨m1, m2⟩ := hS.mem.setObj (x' := .loop R .busy pend) (o' := .loop { R.base with state := .busy, pending := pend }) hQ hc hb rfl
    refine ⟨_, he, a, as, _, Z, own, γ, ⟨(hS.cur.mono m1 (Gst.Le.refl _)).to k, hS.callers.mono m1 (Gst.Le.refl _), m2, hS.gl.mono m1⟩, m1, by cases c.callers <;> rfl, .one ?_⟩
    have hmk : mkF c.cur a = (fb c.cur).atR a (.beginRound :: k) := by simp [mkF, ht]
    rw [hmk, stepR_beginRound (l := R0.l) (by simp [fb, hrnd]) hrun]
    rfl
   ·exact he.elim
  ·exact he.elim
 ·exact he.elim
theorem endRng_sound {base : List Frame} (hS : StOK E w0 K c a as w Z own γ) {Q : Fin → Prop} {l : Nat} {k : List Item} (ht : c.cur.todo = .endRangeFunc l :: k) (he : (endRng c k).wp Q) : ∃ f, Q f ∧ FinOK E w0 K base c a as w Z f := by
 unfold endRng at he
 split at he
 ·rename_i g hrng
  obtain ⟨hb, _, _, _, _, _, k', hk'⟩ := hS.cur.link.rng g hrng
  have hl : l = g.R.l := by
   rw [ht] at hk'
   rcases hk' with hk' | hk'
   ·injection hk' with hk'
    cases hk'
   ·injection hk' with hk'
    injection hk' with hk'
  subst hl
  split at he
  ·rename_i Qr hQ
   split at he
   ·rename_i R st pend hc
    have hne : st ≠ .busy := by
     intro e
     subst e
     exact he.elim
    have he : Q (.at_ { c with cur := c.cur.to ((pend.map Item.code).toList ++ k), h := hdel c.h g.r }) := by
     cases st <;> first | exact absurd rfl hne | exact he
    obtain ⟨b0, o0, k1, k2, k3, k4, _, _⟩ := hS.mem.obj hQ hc
    rw [hb] at k1
    injection k1 with k1
    subst k1
    have k4 : o0 = .loop { R.base with state := st, pending := pend } := k4
    have hrun := run_endLoop (P := E.P) (k3.trans (congrArg some k4)) hne
    obtain ⟨m1, m2⟩ := hS.mem.end (o' := .loop { R.base with state := .exhausted, pending := pend }) hQ hc hb
    refine ⟨_, he, a, as, _, Z, own, γ, ⟨(hS.cur.mono m1 (Gst.Le.refl _)).to _, hS.callers.mono m1 (Gst.Le.refl _), m2, hS.gl.mono m1⟩, m1, by cases c.callers <;> rfl, .one ?_⟩
    have hmk : mkF c.cur a = (fb c.cur).atR a (.endRangeFunc g.R.l :: k) := by simp [mkF, ht]
    rw [hmk, stepR_endRangeFunc hrun]
    rfl
   ·exact he.elim
  ·exact he.elim
 ·exact he.elim
theorem rangeT_sound {base : List Frame} (hE : EOK E) (hS : StOK E w0 K c a as w Z own γ) {Q : Fin → Prop} {f : Operand} {params : Array Tmp} {assign body : Code} {k : List Item} (ht : c.cur.todo = .code (.rangeFunc f params assign body) :: k)
  (he : (rangeT E c f params assign body k).wp Q) : ∃ f, Q f ∧ FinOK E w0 K base c a as w Z f := by
 have hev : ∀ x, VR w Z γ (ev E c.cur.fr x) (a.eval x) := fun x => ev_rel' hS.gl hS.cur.tmps x
 unfold rangeT at he
 split at he
 ·rename_i g caps hg hrnd
  split at he
  ·rename_i hfn
   have hvf := hev f
   rw [hg] at hvf
   obtain ⟨us, hval, hus⟩ := hvf.fn_inv
   let L : Go.Loop := { state := .ready, pending := none, fn := c.cur.fn, tmps := a.tmps, params := params, assign := assign, body := body, defers := w.heap.size }
   let R : RgL := { l := w.heap.size + 1, d := w.heap.size, base := L }
   have he := he R
   split at he
   ·rename_i F hF
    obtain ⟨own1, γ1, s1, x1, m1, b1⟩ := hS.mem.newObj (id := c.nx) (used' := fun s => s < c.nx + 1) (by simp) (fun s hs => Nat.lt_succ_of_lt hs) (Nat.lt_succ_self _) (o := .deferred (some [])) (x := .defd) rfl
    obtain ⟨own2, γ2, s2, x2, m2, b2⟩ := m1.newObj (id := c.nx + 1) (used' := fun s => s < c.nx + qao) (by simp) (fun s hs => by simp only [qao]; omega) (by simp only [qao]; omega) (o := .loop L) (x := .loop R .ready none) rfl
    have l1 := x1.le hS.mem.fresh
    have l2 := x2.le m1.fresh
    have hs := s1.trans s2
    have hle := l1.trans l2
    have hb2 : γ2.β (c.nx + 1) = some (w.heap.size + 1) := by
     rw [b2]
     show some (w.heap.push _).size = _
     simp
    have hargs : VRs ((w.alloc (.deferred (some []))).alloc (.loop L)) Z γ2 (.yld (c.nx + 1) :: caps) (.func (.yield (w.heap.size + 1)) #[] #[] :: us.toList) := .cons (.yld _ _ hb2) (hus.mono hs hle)
    obtain ⟨b, e1, e2, e3⟩ := enter_ok hF hargs
    have hnone : (fb c.cur).roundOf = none := by simp [fb, hrnd]
    refine ⟨_, he, b, { a with defers := { target := .collected w.heap.size, args := #[] } :: a.defers } :: as, _, Z, own2, γ2, ⟨e2, ⟨⟨?_, hS.cur.tmps.mono hs hle, ⟨fun g' hg' => ?_, fun r' R' h' => ?_, fun r' R' h' => ?_⟩⟩, hS.callers.mono hs hle⟩, m2, hS.gl.mono hs⟩, hs, ?_, .one ?_⟩
    ·simp [hS.cur.defers, markD, R]
    ·injection hg' with hg'
     subst hg'
     exact ⟨hb2, rfl, rfl, rfl, rfl, rfl, k, .inl rfl⟩
    ·rw [show c.cur.rnd = _ from hrnd] at h'
     cases h'
    ·rcases List.mem_cons.1 h' with h' | h'
     ·injection h' with h1 h2
      injection h1 with h1
      subst h1; subst h2
      exact l2.β _ _ b1
     ·exact hle.β _ _ (hS.cur.link.marks r' R' h')
    ·refine (?_ : botFn { c.cur with todo := .inRangeFunc R.l :: k, rng := some { r := c.nx + 1, R := R, params := params, assign := assign, body := body }, marks := (some c.nx, R) :: c.cur.marks } c.callers = botFn c.cur c.callers)
     exact botFn_fn rfl
    ·have hmk : mkF c.cur a = (fb c.cur).atR a (.code (.rangeFunc f params assign body) :: k) := by simp [mkF, ht]
     have hin : (invoke (.fn (.func g) us) #[.func (.yield (w.heap.size + 1)) #[] #[]]).run E.P ((w.alloc (.deferred (some []))).alloc (.loop L)) = .ok (.enter g (.func (.yield (w.heap.size + 1)) #[] #[] :: us.toList).toArray) ((w.alloc (.deferred (some []))).alloc (.loop L)) := by
      have := hE.fns g hfn (#[.func (.yield (w.heap.size + 1)) #[] #[]] ++ us) ((w.alloc (.deferred (some []))).alloc (.loop L))
      simp only [invoke]
      rw [this]
      congr 2
      apply Array.ext'
      simp
     have hres : (resolve a.eval (rangeCall f (w.heap.size + 1)) 0).run E.P ((w.alloc (.deferred (some []))).alloc (.loop L)) = .ok { target := .fn (.func g) us, args := #[.func (.yield (w.heap.size + 1)) #[] #[]] } ((w.alloc (.deferred (some []))).alloc (.loop L)) := by
      have hc : a.eval (.const (.func (.yield (w.heap.size + 1)) #[] #[])) = .func (.yield (w.heap.size + 1)) #[] #[] := rfl
      simp [resolve, rangeCall, hval, Deferred.ofValue, hc]
     rw [hmk, stepR_rangeFunc (b := fb c.cur) (a := a) (ps := params) (assign := assign) (body := body) (by rw [hnone]; exact run_enterLoop_outer _ _ _ _ _) hres hin, e1]
     rfl
   ·exact he.elim
  ·exact he.elim
 ·exact he.elim
end
end Go.BE
namespace Go.BE
open Go.RowKit
section
variable {E : Ctx} {w w' w0 : World} {Z Z' : Nat → Prop} {K : Kp} {own own' : Own} {γ γ' : Gst} {h h' : Heap} {a : Act} {as : List Act} {c : Cfg}
theorem astep_sound {base : List Frame} (hE : EOK E) (hS : StOK E w0 K c a as w Z own γ) {Q : Fin → Prop} (he : (astep E c).wp Q) : ∃ f, Q f ∧ FinOK E w0 K base c a as w Z f := by
 have hev : ∀ x, VR w Z γ (ev E c.cur.fr x) (a.eval x) := fun x => ev_rel' hS.gl hS.cur.tmps x
 unfold astep at he
 split at he
 ·rename_i ht
  exact leave_sound (todo := []) hE hS (fun hn fs => by simp only [mkF, ht]; exact .one (stepR_end hn)) (fun l v w' x fs hl hr => by simp only [mkF, ht]; exact stepR_round_end hl rfl hr) he
 ·rename_i k ht
  exact leave_sound (todo := .code .ret :: k) hE hS (fun hn fs => by simp only [mkF, ht]; exact .one (stepR_ret hn)) (fun l v w' x fs hl hr => by simp only [mkF, ht]; exact stepR_round_ret hl rfl hr) he
 ·rename_i k ht
  exact qdb hS (fun fs => by simp only [mkF, ht]; exact stepR_skip) he
 ·rename_i l k ht
  exact qdb hS (fun fs => by simp only [mkF, ht]; exact stepR_label) he
 ·rename_i l k ht
  exact qdb hS (fun fs => by simp only [mkF, ht]; exact stepR_inBlock) he
 ·rename_i x y k ht
  exact qdb hS (fun fs => by simp only [mkF, ht]; exact stepR_seq) he
 ·rename_i x y z k ht
  split at he
  ·rename_i b hb
   have hv := asB_inv (hev x) hb
   cases hbb : b with
   | true =>
    refine ⟨_, he.1 hbb, a, as, w, Z, own, γ, ⟨⟨hS.cur.defers, ?_, hS.cur.link.next rfl rfl rfl⟩, hS.callers, hS.mem, hS.gl⟩, Stay.refl _ _, by cases c.callers <;> rfl, ?_⟩
    ·show VRs w Z γ (setB c.cur.fr (opTmp x) true) _
     rw [setB_eq hb hbb]
     exact hS.cur.tmps
    ·rw [hbb] at hv
     simp only [mkF, ht]
     exact .one (stepR_cond hv)
   | false =>
    refine ⟨_, he.2 hbb, a, as, w, Z, own, γ, ⟨⟨hS.cur.defers, ?_, hS.cur.link.next rfl rfl rfl⟩, hS.callers, hS.mem, hS.gl⟩, Stay.refl _ _, by cases c.callers <;> rfl, ?_⟩
    ·show VRs w Z γ (setB c.cur.fr (opTmp x) false) _
     rw [setB_eq hb hbb]
     exact hS.cur.tmps
    ·rw [hbb] at hv
     simp only [mkF, ht]
     exact .one (stepR_cond hv)
  ·exact he.elim
 ·rename_i l x k ht
  exact qdb hS (fun fs => by simp only [mkF, ht]; exact stepR_block) he
 ·rename_i x k ht
  exact qdb hS (fun fs => by simp only [mkF, ht]; exact stepR_loop) he
 ·rename_i x k ht
  exact qdb hS (fun fs => by simp only [mkF, ht]; exact stepR_inLoop) he
 ·rename_i l k ht
  split at he
  ·rename_i k' hk
   exact qdb hS (fun fs => by simp only [mkF, ht]; exact stepR_exit hk) he
  ·rename_i hk
   split at he
   ·exact endRnd_sound hS (fun l v w' x fs hl hr => by simp only [mkF, ht]; exact stepR_round_exit hl rfl hk hr) he
   ·exact he.elim
 ·rename_i l ops k ht
  split at he
  ·rw [Tre.wp_bind] at he
   obtain ⟨x, hq, htl, a', w', Z', own', γ', q1, q2, q3, q4, q5, q6⟩ := dtext_sound hE hS.mem hS.gl hS.cur.tmps he (fb c.cur) k (frs c.callers as ++ base)
   refine ⟨_, knows_wp htl hq, a', as, w', Z', own', γ', ⟨⟨q1.trans hS.cur.defers, q2, (hS.cur.link.mono q4).next rfl rfl rfl⟩, hS.callers.mono q3 q4, q5, hS.gl.mono q3⟩, q3, by cases c.callers <;> rfl, ?_⟩
   refine .head ?_ (q6.trans (.one stepR_region_end))
   simp only [mkF, ht]
   exact stepR_region
  ·exact qdb hS (fun fs => by simp only [mkF, ht]; exact stepR_region) he
 ·rename_i l ops k ht
  have hst : Stay w Z { w with drawn := w.drawn + 1 } Z := ⟨fun _ _ => rfl, fun _ h => h⟩
  have hm : MemR w0 K { w with drawn := w.drawn + 1 } Z own γ c.h (fun s => s < c.nx) :=
   hS.mem.step hst (Gst.Ext.refl _ γ) (fun _ h => h) rfl rfl rfl (Nat.le_refl _) (fun _ => False) (fun _ _ _ => rfl) (fun _ _ ho _ => ho) (fun _ _ ho => .inl ⟨ho, fun h => h⟩) (fun b hb => ⟨hS.mem.zlt b hb, .inl hb⟩) (fun x R hg => .inl ⟨hg, fun h => h⟩) hS.mem.fresh
  have hst0 := stepR_region_draw (P := E.P) (b := fb c.cur) (a := a) (k := k) (cs := frs c.callers as ++ base) (w := w) (ops := ops) (id := l)
  simp only [Region.schedule, hE.mixed, Bool.true_or, if_true] at hst0
  rw [Tre.wp_bind] at he
  obtain ⟨x, hq, htl, a', w', Z', own', γ', q1, q2, q3, q4, q5, q6⟩ := adraw_sound hE hm (hS.gl.mono hst) (hS.cur.tmps.mono hst (Gst.Le.refl _)) he (fb c.cur) k (frs c.callers as ++ base) (w.tape w.drawn (.order c.cur.fn l))
  refine ⟨_, knows_wp htl hq, a', as, w', Z', own', γ', ⟨⟨q1.trans hS.cur.defers, q2, (hS.cur.link.mono q4).next rfl rfl rfl⟩, (hS.callers.mono hst (Gst.Le.refl _)).mono q3 q4, q5, (hS.gl.mono hst).mono q3⟩, hst.trans q3, by cases c.callers <;> rfl, ?_⟩
  refine .head ?_ (q6.trans ?_)
  ·simp only [mkF, ht]
   exact hst0
  ·generalize cutIdx E ops = m
   unfold restL restI
   split
   ·rename_i hm2
    have hm2 : m = ops.size := Nat.eq_of_beq_eq_true hm2
    rw [hm2, Nat.sub_self]
    exact .one stepR_region_end
   ·exact .refl _ _
 ·rename_i f params assign body k ht
  exact rangeT_sound hE hS ht he
 ·rename_i k ht
  exact beginRnd_sound hS ht he
 ·rename_i l k ht
  exact endRng_sound hS ht he
 ·rename_i ops k ht
  exact qdb hS (fun fs => by simp only [mkF, ht]; exact stepR_region_end) he
 ·rename_i ops i rest k ht
  split at he
  ·exact he.elim
  ·rename_i o ho
   split at he
   ·rename_i hg
    exact runOp_sound hE hS ht ho (by simp [Region.wanted, hg]) he
   ·rename_i j want hg
    split at he
    ·exact he.elim
    ·rename_i t hj
     split at he
     ·rename_i b hb
      have hbt := lget_val hS.cur.tmps hb
      rw [Array.getElem?_toList] at hbt
      have hset : ∀ d, b = d → c.cur.fr.set t (abool d) = c.cur.fr := fun d hd => lget_set_self (by rw [hb, hd]; rfl) (by simp [abool])
      have hcfg : ∀ d, b = d → ({ c with cur := { c.cur with fr := c.cur.fr.set t (abool d) } } : Cfg) = c := fun d hd => by rw [hset d hd]
      have hyes : ∀ d, b = d → d = want → (runOp E { c with cur := { c.cur with fr := c.cur.fr.set t (abool d) } } ops o rest k).wp Q → ∃ f, Q f ∧ FinOK E w0 K base c a as w Z f := fun d hd hw hr => by
       rw [hcfg d hd] at hr
       refine runOp_sound hE hS ht ho ?_ hr
       simp only [Region.wanted, hg, yielded_at hj, hbt, hd, hw]
       simp
      have hno : ∀ d, b = d → d ≠ want → Q (.at_ { c with cur := { c.cur with fr := c.cur.fr.set t (abool d) }.fin ops o.dst rest k und }) → ∃ f, Q f ∧ FinOK E w0 K base c a as w Z f := fun d hd hw hr => by
       have hw : ((ops[i]?).map (Region.wanted · (yielded ops a.tmps))).getD false = false := by
        simp only [ho, Option.map_some, Option.getD_some, Region.wanted, hg, yielded_at hj, hbt, hd]
        simpa using hw
       rw [hset d hd] at hr
       refine ⟨_, hr, a.put o.dst undef, as, w, Z, own, γ, ⟨hS.cur.fin (.cr (.val _ trivial)), hS.callers, hS.mem, hS.gl⟩, Stay.refl _ _, by cases c.callers <;> rfl, ?_⟩
       have := stepR_op_skip (P := E.P) (b := fb c.cur) (a := a) (k := k) (cs := frs c.callers as ++ base) (w := w) (ops := ops) (i := i) (rest := rest) hw
       rw [ho] at this
       simp only [mkF, ht]
       exact .one this
      dsimp only at he
      split at he
      ·rename_i hwant
       cases hbb : b with
       | true => exact hyes true hbb hwant.symm (he.1 hbb)
       | false => exact hno false hbb (by rw [hwant]; simp) (he.2 hbb)
      ·rename_i hwant
       have hwant : want = false := by simpa using hwant
       cases hbb : b with
       | true => exact hno true hbb (by rw [hwant]; simp) (he.1 hbb)
       | false => exact hyes false hbb hwant.symm (he.2 hbb)
     ·rename_i vs hb
      have hbt := lget_val hS.cur.tmps hb
      rw [Array.getElem?_toList] at hbt
      have hw : ((ops[i]?).map (Region.wanted · (yielded ops a.tmps))).getD false = false := by
       simp only [ho, Option.map_some, Option.getD_some, Region.wanted, hg, yielded_at hj, hbt]
       rfl
      refine ⟨_, he, a.put o.dst undef, as, w, Z, own, γ, ⟨hS.cur.fin (.cr (.val _ trivial)), hS.callers, hS.mem, hS.gl⟩, Stay.refl _ _, by cases c.callers <;> rfl, ?_⟩
      have := stepR_op_skip (P := E.P) (b := fb c.cur) (a := a) (k := k) (cs := frs c.callers as ++ base) (w := w) (ops := ops) (i := i) (rest := rest) hw
      rw [ho] at this
      simp only [mkF, ht]
      exact .one this
     ·exact he.elim
 ·exact he.elim
end
end Go.BE
namespace Go.BE
open Go.RowKit
section
variable {E : Ctx} {w w' w0 : World} {Z Z' : Nat → Prop} {K : Kp} {own own' : Own} {γ γ' : Gst} {h h' : Heap} {used used' : Nat → Prop} {r s d id nx : Nat} {R : Root} {a : AV} {v : Value} {cs ds : List AV} {vs us : List Value} {roots : List (Nat × Nat)}
theorem LinkR.ren {f : Nat → Option Nat} {F : AFr} {a : Act} {l : List AV} (hr : Ren w Z own γ γ' h f) (hl : LinkR γ F a) : LinkR γ' { F.renX f with fr := l } a := by
 refine ⟨fun g hg => ?_, fun r R hg => ?_, fun r R hg => ?_⟩
 ·simp only [AFr.renX] at hg
  split at hg
  ·rename_i g0 hg0
   split at hg
   ·rename_i r' hr'
    injection hg with hg
    subst hg
    obtain ⟨q1, q2⟩ := hl.rng g0 hg0
    exact ⟨hr.β _ _ _ hr' q1, q2⟩
   ·cases hg
  ·cases hg
 ·simp only [AFr.renX] at hg
  split at hg
  ·rename_i r0 R0 hg0
   injection hg with hg
   injection hg with e1 e2
   subst e2
   exact hr.β _ _ _ e1 (hl.rnd r0 _ hg0)
  ·rename_i hne
   exact absurd hg (hne _ _)
 ·simp only [AFr.renX, List.mem_map] at hg
  obtain ⟨⟨o, R0⟩, hm, e⟩ := hg
  injection e with e1 e2
  simp only at e1 e2
  subst e2
  obtain ⟨r0, rfl, e1⟩ := Option.bind_eq_some_iff.1 e1
  exact hr.β _ _ _ e1 (hl.marks r0 _ hm)
theorem renX_marks (f : Nat → Option Nat) (F : AFr) : (F.renX f).marks.map markD = F.marks.map markD := by
 simp [AFr.renX, markD, Function.comp_def]
theorem fb_renX (f : Nat → Option Nat) (F : AFr) (l : List AV) : fb { F.renX f with fr := l } = fb F := by
 obtain ⟨fn, todo, fr, rng, rnd, marks⟩ := F
 cases rnd with
 | none => rfl
 | some x => obtain ⟨o, R⟩ := x; cases o <;> rfl
theorem mkF_renX (f : Nat → Option Nat) (F : AFr) (l : List AV) (a : Act) : mkF { F.renX f with fr := l } a = mkF F a := by
 unfold mkF
 rw [fb_renX]
 rfl
theorem CsR.ren {f : Nat → Option Nat} (hr : Ren w Z own γ γ' h f) (hn : ∀ A V, VR w Z γ A V → VR w Z γ (norm h A) V) : ∀ {Fs : List AFr} {as : List Act}, CsR w Z γ Fs as → CsR w Z γ' (renF h f Fs) as
 | [], [], _ => trivial
 | _ :: _, _ :: _, hc => ⟨⟨hc.1.defers.trans (renX_marks f _).symm, hc.1.tmps.ren hr hn, hc.1.link.ren hr⟩, CsR.ren hr hn hc.2⟩
theorem frs_renF (h : Heap) (f : Nat → Option Nat) : ∀ (Fs : List AFr) (as : List Act), frs (renF h f Fs) as = frs Fs as
 | [], [] => rfl
 | [], _ :: _ => rfl
 | _ :: _, [] => rfl
 | F :: Fs, a :: as => by simp only [renF, frs, mkF_renX, frs_renF h f Fs as]
theorem botFn_renF (h : Heap) (f : Nat → Option Nat) : ∀ (F : AFr) (G : AFr) (Fs : List AFr), F.fn = G.fn → botFn F (renF h f Fs) = botFn G Fs
 | _, _, [], h => h
 | _, _, H :: Hs, _ => botFn_renF h f { H.renX f with fr := renL h f H.fr } H Hs rfl
theorem CsR.keepF : ∀ {kc : List (List Nat)} {Fs : List AFr} {as : List Act}, CsR w Z γ Fs as → CsR w Z γ (keepF kc Fs) as
 | [], Fs, _, hc => hc
 | _ :: _, [], _, hc => hc
 | k :: ks, F :: Fs, [], hc => hc.elim
 | k :: ks, F :: Fs, a :: as, hc => ⟨⟨hc.1.defers, keepT_VRs k 0 hc.1.tmps, hc.1.link.fr⟩, CsR.keepF hc.2⟩
theorem frs_keepF : ∀ (kc : List (List Nat)) (Fs : List AFr) (as : List Act), frs (keepF kc Fs) as = frs Fs as
 | [], _, _ => rfl
 | _ :: _, [], _ => rfl
 | _ :: _, _ :: _, [] => rfl
 | k :: ks, F :: Fs, a :: as => by simp [Go.BE.keepF, frs, mkF, fb, frs_keepF ks Fs as]
theorem botFn_keepF : ∀ (kc : List (List Nat)) (F : AFr) (G : AFr) (Fs : List AFr), F.fn = G.fn → botFn F (keepF kc Fs) = botFn G Fs
 | [], _, _, [], h => h
 | [], _, _, _ :: _, _ => rfl
 | _ :: _, _, _, [], h => h
 | k :: ks, _, _, H :: Hs, _ => botFn_keepF ks { H with fr := keepT k H.fr 0 } H Hs rfl
theorem cut_ok {c : Cfg} {a : Act} {as : List Act} {keep : List Nat} {kc : List (List Nat)} {nx : Nat} (hr : qdc nx roots = true) (hS : StOK E w0 K c a as w Z own γ) : ∃ own' γ', StOK E w0 K (c.cut roots keep kc nx) a as w Z own' γ' := by
 obtain ⟨own', hR, hm⟩ := hS.mem.ren hr
 have hn : ∀ A V, VR w Z γ A V → VR w Z γ (norm c.h A) V := fun A V hv => norm_sound hS.mem hv
 exact ⟨own', _, ⟨hS.cur.defers.trans (renX_marks _ _).symm, (keepT_VRs keep 0 hS.cur.tmps).ren hR hn, hS.cur.link.ren hR⟩, (CsR.keepF hS.callers).ren hR hn, hm, hS.gl⟩
end
end Go.BE
namespace Go.BE
open Go.RowKit
inductive Fx where
 | own (b : Nat) (S : Sh) (m : Nat := 0)
 | dat (S : Sh)
inductive Wh where
 | t (t : Nat)
 | c (t off : Nat)
structure Hints where
 cut : List (Nat × Nat) → FuncId → Nat → List Nat × List (Wh × Fx) × List (List Nat)
 ret : FuncId → List (Option Fx)
 unr : FuncId → Nat → Bool := fun _ _ => false   -- loops that are unrolled
 join : FuncId → Nat → Bool := fun _ _ => false   -- questions ahead of which paths are joined
def firstDst : List Oper → Nat
 | [] => 0
 | o :: l => match o.dst with | some d => d | none => firstDst l
def sigOf (F : AFr) : Nat × Nat := match F.todo with
 | .inRegion ops (i :: _) :: _ => (F.fn, firstDst ops.toList * 64 + i)
 | .inRangeFunc _ :: _ => (F.fn, 2000000 + match F.rng with | some g => g.params.toList.headD 0 | none => 0)
 | _ => (F.fn, 0)
def denV (h : Heap) (S : Sh) : AV → Option (List Prop × Den S × List (Nat × Option Root))
 | .tv T x => (castD T S x).map fun y => ([], y, [])
 | .agg cs => if S.isAgg && cs.all AV.one then (match closeL h cs with
  | some (C, cs, ws) => match toDen S cs with
   | some (y, []) => some (C, y, ws)
   | _ => none
  | none => none) else none
 | a => if !S.isAgg then (match closeC h a with
  | some (C, a, ws) => match toDen S [a] with
   | some (y, []) => some (C, y, ws)
   | _ => none
  | none => none) else none
def isNil : AV → Bool
 | .val (.slice none 0 0) => true
 | _ => false
def fixV (h : Heap) (nx : Nat) (fx : Fx) (a : AV) : Option (List Prop × AV × List (Nat × Option Root)) :=
 match fx with
 | .own b S m => if isNil (norm h a) then some ([], .osl nx nx [] none, [(nx, some (qcr nx (.arr m b S [])))]) else (match norm h a with
  | .osl r s [] (some win) => (match rdata h r s 0 with
   | some (R, m', ⟨.sl b' S', xs⟩) => if m' == 0 || S'.flat then some ([], .osl r nx [] none, [(r, some (R.rep 0 nx (.arr m' b' S' (wins xs (some win)))))]) else none
   | _ => none)
  | a => some ([], a, []))
 | .dat S => match denV h S (norm h a) with
  | some (C, y, ws) => some (C, avOf S y, ws)
  | none => none
def fix1 (c : Cfg) : Wh × Fx → Option (List Prop × Cfg)
 | (.t t, fx) => match fixV c.h c.nx fx (lget c.cur.fr t) with
  | some (C, a, ws) => some (C, { c with cur := { c.cur with fr := c.cur.fr.set t a }, h := qaj c.h ws, nx := c.nx + 1 })
  | none => none
 | (.c t off, fx) => match lget c.cur.fr t with
  | .ref r 0 => match hget c.h r with
   | some R => match R.cont with
    | .cells cs => match cs[off]? with
     | some a => match fixV c.h c.nx fx a with
      | some (C, a, ws) => match hget (qaj c.h ws) r with
       | some R' => match R'.cont with
        | .cells cs' => some (C, { c with h := hput (qaj c.h ws) r { R' with cont := .cells (cs'.set off a) }, nx := c.nx + 1 })
        | _ => none
       | none => none
      | none => none
     | none => none
    | _ => none
   | none => none
  | _ => none
def fixes (c : Cfg) : List (Wh × Fx) → Option (List Prop × Cfg)
 | [] => some ([], c)
 | f :: l => match fix1 c f with
  | some (C, c) => match fixes c l with
   | some (C', c) => some (C ++ C', c)
   | none => none
  | none => none
inductive Leaf where
 | head (c : Cfg)
 | ret (v : AV) (h : Heap)
 | pan (v : AV)
def loopIx : List Item → Nat
 | .code _ :: .inLoop _ :: .inBlock id :: _ => id
 | _ => 0
def joinIx (H : Hints) (c : Cfg) : Option Nat := match c.cur.todo with
 | .code (.cond (.tmp n) _ _) :: _ => match H.join c.cur.fn n with | true => some (100000 + n) | false => none
 | _ => none
def cutC (H : Hints) (ix : Nat) (c : Cfg) : Option (List Prop × Cfg) :=
 let k := H.cut (c.callers.map sigOf) c.cur.fn ix
 match fixes c k.2.1 with
 | some (C, c) =>
  let rs := keepR c.h (liveL c.h (keepT k.1 c.cur.fr 0) ++ (c.cur.liveX ++ liveF c.h (keepF k.2.2 c.callers)))
  if qdc rs.length (number rs 0) then some (C, c.cut (number rs 0) k.1 k.2.2 rs.length) else none
 | none => none
def headT (H : Hints) (ix : Nat) (c : Cfg) : Tre Leaf := match cutC H ix c with
 | some (C, c) => chks C (.ok (.head c))
 | none => .bad
def fixR (h : Heap) (nx : Nat) : List (Option Fx) → List AV → Option (List Prop × List AV × Heap × Nat)
 | some S :: l, a :: as => match fixV h nx S a with
  | some (C, a, ws) => match fixR (qaj h ws) (nx + 1) l as with
   | some (C', as, h', nx') => some (C ++ C', a :: as, h', nx')
   | none => none
  | none => none
 | none :: l, a :: as => match fixR h nx l as with
  | some (C, as, h', nx') => some (C, a :: as, h', nx')
  | none => none
 | _, as => some ([], as, h, nx)
def retV : AV → List AV → AV
 | .tup _, l => .tup l
 | _, l => lget l 0
theorem retV_of {A : AV} {L : List AV} (h : ∀ l, A ≠ .tup l) : retV A L = lget L 0 := by
 cases A <;> first | rfl | exact absurd rfl (h _)
def retT (H : Hints) (f : FuncId) (v : AV) (h : Heap) (nx : Nat) : Tre Leaf :=
 match fixR h nx (H.ret f) (match v with | .tup l => l | a => [a]) with
 | some (C, vs, h, _) =>
  let rs := keepR h (liveL h vs)
  if qdc 16 (number rs 0) then chks C (.ok (.ret (retV v (renL h (alook (number rs 0)) vs)) (keepH h (alook (number rs 0)) (number rs 0)))) else .bad
 | none => .bad
def iteT {α : Type} (b : Bool) (t e : Tre α) : Tre α := match b with | true => t | false => e
def Tre.go {α β : Type} : Tre α → (α → Tre β) → Tre β
 | .ok a, f => f a
 | .ite b t e, f => iteT b (t.go f) (e.go f)
 | .chk C t, f => .chk C (t.go f)
 | .know K t, f => .know K (t.go f)
 | .any p k, f => .any p fun b => (k b).go f
 | .rg k, f => .rg fun R => (k R).go f
 | .bad, _ => .bad
def atLoop (c : Cfg) : Bool := match c.cur.todo with | .code (.loop _) :: _ => true | .inLoop _ :: _ => true | _ => false
def cutAt (H : Hints) (c c' : Cfg) : Option Nat := match joinIx H c' with
 | some ix => some ix
 | none => match atLoop c && !H.unr c'.cur.fn (loopIx c'.cur.todo) with | true => some (loopIx c'.cur.todo) | false => none
def run (E : Ctx) (H : Hints) (f : FuncId) : Nat → Cfg → Tre Leaf
 | 0, _ => .bad
 | n + 1, c => (astep E c).go fun x => match x with
  | .at_ c' => match cutAt H c c' with | some ix => headT H ix c' | none => run E H f n c'
  | .ret v h nx => retT H f v h nx
  | .pan v _ _ => .ok (.pan v)
def RunsP (E : Ctx) (c : Cfg) (Q : AV → Heap → Prop) (N : AV → Prop) : Prop := ∀ w0 K base a as w Z own γ, StOK E w0 K c a as w Z own γ → (∃ v h, Q v h ∧ FinOK E w0 K base c a as w Z (.ret v h 16)) ∨ ∃ v h nx, N v ∧ FinOK E w0 K base c a as w Z (.pan v h nx)
def Runs (E : Ctx) (c : Cfg) (Q : AV → Heap → Prop) : Prop := RunsP E c Q fun _ => False
def contP (E : Ctx) (Q : AV → Heap → Prop) (N : AV → Prop) : Leaf → Prop
 | .head c => RunsP E c Q N
 | .ret v h => Q v h
 | .pan v => N v
def contL (E : Ctx) (Q : AV → Heap → Prop) : Leaf → Prop
 | .head c => Runs E c Q
 | .ret v h => Q v h
 | .pan _ => False
theorem contL_eq (E : Ctx) (Q : AV → Heap → Prop) : contL E Q = contP E Q fun _ => False := by funext l; cases l <;> rfl
theorem Runs.ends {E : Ctx} {c : Cfg} {Q : AV → Heap → Prop} (h : Runs E c Q) (w0 : World) (K : Kp) (base : List Frame) (a : Act) (as : List Act) (w : World) (Z : Nat → Prop) (own : Own) (γ : Gst) (hS : StOK E w0 K c a as w Z own γ) : ∃ v h, Q v h ∧ FinOK E w0 K base c a as w Z (.ret v h 16) := by
 rcases h w0 K base a as w Z own γ hS with h | ⟨_, _, _, h, _⟩
 ·exact h
 ·exact h.elim
section
variable {E : Ctx} {w w' w0 : World} {Z Z' : Nat → Prop} {K : Kp} {own own' : Own} {γ γ' : Gst} {h h' : Heap} {used used' : Nat → Prop} {r s d id nx : Nat} {R : Root} {a A B : AV} {v V : Value} {cs ds : List AV} {vs us : List Value} {H : Hints} {Q : AV → Heap → Prop} {c : Cfg}
theorem CR.of_tv {S : Sh} {x : Den S} (h : CR w Z (.tv S x) v) : CR w Z (avOf S x) v := by
 generalize hA : AV.tv S x = A at h
 cases h with
 | tva S1 x1 vs hS h =>
  injection hA with e1 e2
  subst e1
  have e2 := eq_of_heq e2
  subst e2
  have := h.avOf
  rw [if_pos hS] at this
  simpa using this
 | tv1 S1 x1 v1 hS h =>
  injection hA with e1 e2
  subst e1
  have e2 := eq_of_heq e2
  subst e2
  have := h.avOf
  rw [if_neg (by simp [hS])] at this
  obtain ⟨u, hu, hc⟩ := this
  injection hu with hu
  subst hu
  exact hc
 | _ => cases hA
theorem denV_sound (hm : MemR w0 K w Z own γ h used) {S : Sh} {C : List Prop} {y : Den S} {ws : List (Nat × Option Root)} (he : denV h S A = some (C, y, ws)) (hC : AllP C) (hA : VR w Z γ A V) :
  ∃ Z' own', Closed w0 K w Z own γ (qaj h ws) used Z' own' ∧ CR w Z' (avOf S y) V := by
 unfold denV at he
 split at he
 ·rename_i T x
  obtain ⟨y', hy, he⟩ := Option.map_eq_some_iff.1 he
  injection he with e1 e2
  injection e2 with e2 e3
  subst e2; subst e3
  obtain ⟨e, rfl⟩ := qet hy
  subst e
  exact ⟨Z, own, ⟨Stay.refl _ _, hm, fun _ _ h => h, fun _ _ h => .inl h⟩, (hA.toCR rfl).of_tv⟩
 ·rename_i cs
  split at he
  ·rename_i hS
   simp only [Bool.and_eq_true] at hS
   split at he
   ·rename_i C1 cs1 ws1 hcl
    split at he
    ·rename_i y' hy
     injection he with he
     injection he with e1 e2
     injection e2 with e2 e3
     subst e2; subst e3
     obtain ⟨arr, rfl, hv⟩ := hA.agg_inv'
     obtain ⟨Z', own', k1, k2, k3⟩ := qdr hm hcl (by rw [e1]; exact hC) hv
     obtain ⟨us, ws', f1, f2, f3⟩ := toDen_sound hy (show CRs w Z' cs1 arr.toList from ⟨k2, k3⟩)
     have : ws' = [] := List.eq_nil_of_length_eq_zero (by have := f3.1; simpa using this.symm)
     subst this
     refine ⟨Z', own', k1, ?_⟩
     have := f2.avOf
     rw [if_pos hS.1] at this
     rw [List.append_nil] at f1
     rw [← f1] at this
     simpa using this
    ·cases he
   ·cases he
  ·cases he
 ·split at he
  ·rename_i hS
   split at he
   ·rename_i C1 a1 ws1 hcl
    split at he
    ·rename_i y' hy
     injection he with he
     injection he with e1 e2
     injection e2 with e2 e3
     subst e2; subst e3
     obtain ⟨Z', own', k1, k2⟩ := qes hm hcl (by rw [e1]; exact hC) hA
     obtain ⟨us, ws', f1, f2, f3⟩ := toDen_sound hy (show CRs w Z' [a1] [V] from ⟨rfl, fun j x z hx hz => by
      cases j with
      | zero => simp at hx hz; subst hx; subst hz; exact k2
      | succ j => simp at hx⟩)
     have : ws' = [] := List.eq_nil_of_length_eq_zero (by have := f3.1; simpa using this.symm)
     subst this
     refine ⟨Z', own', k1, ?_⟩
     have := f2.avOf
     rw [if_neg (by simpa using hS)] at this
     rw [List.append_nil] at f1
     obtain ⟨u, hu, hc⟩ := this
     rw [← f1] at hu
     injection hu with hu
     subst hu
     exact hc
    ·cases he
   ·cases he
  ·cases he
theorem MemR.retake (hm : MemR w0 K w Z own γ h used) (hid : ¬ used id) (hu : ∀ s, used s → used' s) (hid' : used' id) (hR : hget h r = some R) {m b : Nat} {S : Sh} {xs : List (Den S)} (hc : R.cont = .arr m b S xs) (hp : R.pend = none) (hf : R.fz = false) (hmf : m = 0 ∨ S.flat = true) (hv : R.valid s 0 = true)
  {lo n : Nat} (hA : VR w Z γ (.osl r s [] (some (lo, n))) V) : ∃ γ', Gst.Ext used γ γ' ∧ MemR w0 K w Z own γ' (hput h r (R.rep 0 id (.arr m b S (wins xs (some (lo, n)))))) used' ∧ VR w Z γ' (.osl r id [] none) V := by
 obtain ⟨hr, hroom, M0, own0, r0, ⟨hd0, n1, n2, n3, n4, n5⟩, hM0, _, ho0⟩ := hm.arr hR hc
 obtain ⟨rfl, rfl⟩ := ho0 hf
 have hM := hM0 hp
 subst hM
 obtain ⟨hd', o1, o2⟩ := hA.osl_inv
 have o1' := hr.valid_hd (q := []) hv o1
 rw [n1] at o1'
 injection o1' with o1'
 subst o1'
 obtain ⟨o3, ad, c, rfl, o4, o5, o6, o7⟩ := o2
 simp only [wlen, wlo] at o4 o5 o6 o7
 have n2 : hd0.S = S := n2
 have n4 : hd0.n = xs.length := n4
 obtain ⟨k1, k2, k3⟩ := hm.keys r0 R hR
 have hwl : (wins xs (some (lo, n))).length = n := by
  have := wins_length (xs := xs) (w := some (lo, n)) (by simp only [wlo, wlen]; omega)
  simpa [wlen] using this
 let blk : Option (Nat × Nat) := hd0.blk.map fun x => (x.1, x.2 + lo * S.size)
 let hd : Hd := { S := S, isPtr := false, n := n, c := c, blk := blk }
 let g : Pth → Option Hd := fun q => if q = [] then some hd else none
 have he := Gst.setG_ext (γ := γ) hid g
 have hG : (γ.setG id g).G id = g := by simp [Gst.setG, upd]
 refine ⟨γ.setG id g, he, ?_, .osl _ _ _ _ _ hd (by rw [hG]; rfl) ⟨rfl, ad, c, rfl, o4, by simp [wlo, wlen], by simp [wlo, hd], fun h => ?_⟩⟩
 ·refine hm.step (Stay.refl w Z) he hu rfl rfl rfl (Nat.le_refl _) (fun _ => False) (fun b hb _ => rfl) (fun b o ho _ => ho) (fun b o ho => .inl ⟨ho, fun h => h⟩) (fun b hb => ⟨hm.zlt b hb, .inl hb⟩) (fun r' R' hg => ?_) (fun s hs => ?_)
  ·rw [qbl] at hg
   split at hg
   ·rename_i hrr
    injection hg with hg
    subst hg; subst hrr
    refine .inr ⟨⟨fun e hmem q hd' f1 f2 f3 => ?_, ?_⟩, hu _ k1, hid', fun e hmem => ?_⟩
    ·have hmem' : e = (R.cur, [], 0) ∨ e ∈ oldCut 0 R.old := by simpa [Root.rep] using hmem
     rcases hmem' with rfl | hmem'
     ·exact absurd f1 (Nat.not_lt_zero _)
     ·obtain ⟨e0, g1, rfl⟩ := oldCut_mem hmem'
      have hlt : q.length < min e0.2.2 0 := f1
      omega
    ·unfold ContR
     simp only [Root.rep, hf, Bool.false_eq_true, if_false]
     refine ⟨⟨by rw [hwl]; exact room_le hroom (by omega), by rw [hG]; exact Dom.one _⟩, hd, by rw [hG]; rfl, rfl, rfl, hwl.symm, o4, by show n ≤ roomB; have := n5.lim; omega, fun hc' => ?_⟩
     have hc' : 0 < c := hc'
     obtain ⟨bb, o, row, e1, e2, e3, e4, e5⟩ := n5.elems (by omega)
     rw [n2] at e4 e5
     have hcs : (lo + c) * S.size ≤ hd0.c * S.size := Nat.mul_le_mul_right _ o6
     rw [Nat.add_mul] at hcs
     refine ⟨bb, o + lo * S.size, row, by simp [hd, blk, e1], e2, e3, by show o + lo * S.size + c * S.size ≤ row.length; omega, fun j hj => ?_⟩
     have hj : j < n := hj
     obtain ⟨y, hy, hor⟩ := e5 (lo + j) (by omega)
     refine ⟨y, ?_, OR.of_FR hmf ?_⟩
     ·show lat ((xs.drop lo).take n) j = some y
      unfold lat at hy ⊢
      rw [List.getElem?_take, if_pos hj, List.getElem?_drop]
      exact hy
     ·have := OR.to_FR hmf hor
      rw [Nat.add_mul, ← Nat.add_assoc] at this
      exact this
    ·have hmem' : e = (R.cur, [], 0) ∨ e ∈ oldCut 0 R.old := by simpa [Root.rep] using hmem
     rcases hmem' with rfl | hmem'
     ·exact hu _ k2
     ·obtain ⟨e0, g1, rfl⟩ := oldCut_mem hmem'
      exact hu _ (k3 e0 g1)
   ·exact .inl ⟨hg, fun h => h⟩
  ·have hns : ¬ used s := fun h => hs (hu s h)
   refine ⟨(hm.fresh s hns).1, fun q => ?_⟩
   simp only [Gst.setG, upd]
   rw [if_neg (by intro e; subst e; exact hs hid')]
   exact (hm.fresh s hns).2 q
 ·obtain ⟨bb, o, e1, e2⟩ := o7 h
  exact ⟨bb, o + lo * S.size, by simp [hd, blk, e1], by rw [e2, n2]; simp [wlo]⟩
theorem fixV_sound (hm : MemR w0 K w Z own γ h (fun s => s < nx)) {fx : Fx} {C : List Prop} {ws : List (Nat × Option Root)} (he : fixV h nx fx A = some (C, B, ws)) (hC : AllP C) (hA : VR w Z γ A V) :
  ∃ Z' own' γ', Stay w Z w Z' ∧ γ.Le γ' ∧ MemR w0 K w Z' own' γ' (qaj h ws) (fun s => s < nx + 1) ∧ VR w Z' γ' B V := by
 have hn := norm_sound hm hA
 have hu : ∀ s, s < nx → s < nx + 1 := fun s h => by omega
 unfold fixV at he
 split at he
 ·rename_i b S m
  split at he
  ·rename_i hnil
   injection he with he
   injection he with e1 e2
   injection e2 with e2 e3
   subst e2; subst e3
   have : norm h A = .val (.slice none 0 0) := by
    unfold isNil at hnil
    split at hnil
    ·assumption
    ·cases hnil
   rw [this] at hn
   have hV := hn.val_inv
   subst hV
   obtain ⟨γ', k1, k2, k3⟩ := hm.newEmpty (id := nx) (Nat.lt_irrefl _) hu (Nat.lt_succ_self nx) (m := m) (b := b) (S := S)
   exact ⟨Z, own, γ', Stay.refl _ _, k1.le hm.fresh, k2, k3⟩
  ·split at he
   ·rename_i r s win hnw
    rw [hnw] at hn
    split at he
    ·rename_i R m' b' S' xs hrd
     split at he
     ·rename_i hmf
      simp only [Bool.or_eq_true, beq_iff_eq] at hmf
      injection he with he
      injection he with e1 e2
      injection e2 with e2 e3
      subst e2; subst e3
      obtain ⟨b0, S0, xs0, h1, h2, h3, h4, h5, h6⟩ := rdata_spec hrd
      cases h3
      obtain ⟨lo, n⟩ := win
      obtain ⟨γ', k1, k2, k3⟩ := hm.retake (id := nx) (Nat.lt_irrefl _) hu (Nat.lt_succ_self nx) h1 h2 h5 h6 hmf h4 hn
      exact ⟨Z, own, γ', Stay.refl _ _, k1.le hm.fresh, k2, k3⟩
     ·cases he
    ·cases he
   ·injection he with he
    injection he with e1 e2
    injection e2 with e2 e3
    subst e2; subst e3
    exact ⟨Z, own, γ, Stay.refl _ _, Gst.Le.refl _, hm.used_mono hu, hn⟩
 ·rename_i S
  split at he
  ·rename_i C1 y ws1 hd
   injection he with he
   injection he with e1 e2
   injection e2 with e2 e3
   subst e2; subst e3
   obtain ⟨Z', own', k1, k2⟩ := denV_sound hm hd (by rw [e1]; exact hC) hn
   exact ⟨Z', own', γ, k1.stay, Gst.Le.refl _, k1.mem.used_mono hu, .cr k2⟩
  ·cases he
theorem MemR.recell (hm : MemR w0 K w Z own γ h used) (hg : hget h r = some R) (hc : R.cont = .cells cs) (hv : ∀ (b : Nat) (arr : Array Value) (e : TypeId), γ.β r = some b → w.heap[b]? = some (.cells arr e (0, 0)) → VRs w Z γ cs arr.toList → VRs w Z γ ds arr.toList) : MemR w0 K w Z own γ (hput h r { R with cont := .cells ds }) used := by
 refine hm.step (Stay.refl w Z) (Gst.Ext.refl used γ) (fun _ h => h) rfl rfl rfl (Nat.le_refl _) (fun _ => False) (fun _ _ _ => rfl) (fun _ _ ho _ => ho) (fun _ _ ho => .inl ⟨ho, fun h => h⟩) (fun b hb => ⟨hm.zlt b hb, .inl hb⟩) (fun x R' hg' => ?_) hm.fresh
 rw [qbl] at hg'
 split at hg'
 ·rename_i hx
  injection hg' with hg'
  subst hx
  obtain ⟨k1, k2, k3⟩ := hm.keys _ _ hg
  have hr := hm.root _ _ hg
  refine .inr ⟨?_, by subst hg'; exact ⟨k1, k2, k3⟩⟩
  subst hg'
  refine ⟨hr.old, ?_⟩
  have := hr.cont
  unfold ContR at this ⊢
  rw [hc] at this
  simp only
  obtain ⟨e1, e2, b, arr, e, q1, q2, q3, q4⟩ := this
  exact ⟨e1, e2, b, arr, e, q1, q2, q3, hv b arr e q1 q3 q4⟩
 ·exact .inl ⟨hg', fun h => h⟩
structure Same (c c' : Cfg) : Prop where
 fn : c'.cur.fn = c.cur.fn
 todo : c'.cur.todo = c.cur.todo
 fb : fb c'.cur = fb c.cur
 frs : ∀ as, frs c'.callers as = frs c.callers as
 bot : ∀ F G : AFr, F.fn = G.fn → botFn F c'.callers = botFn G c.callers
theorem botFn_eq : ∀ {Fs : List AFr} {F G : AFr}, F.fn = G.fn → botFn F Fs = botFn G Fs
 | [], _, _, h => h
 | _ :: _, _, _, _ => rfl
theorem fix1_ok {act : Act} {as : List Act} {f : Wh × Fx} {C : List Prop} {c' : Cfg} (hS : StOK E w0 K c act as w Z own γ) (he : fix1 c f = some (C, c')) (hC : AllP C) : ∃ Z' own' γ', Stay w Z w Z' ∧ StOK E w0 K c' act as w Z' own' γ' ∧ Same c c' := by
 unfold fix1 at he
 split at he
 ·rename_i t fx
  split at he
  ·rename_i C1 b ws hf
   injection he with he
   injection he with e1 e2
   subst e2
   obtain ⟨Z', own', γ', k1, k2, k3, k4⟩ := fixV_sound hS.mem hf (by rw [e1]; exact hC) (lget_rel (t := t) hS.cur.tmps)
   refine ⟨Z', own', γ', k1, ⟨⟨hS.cur.defers, ?_, (hS.cur.link.mono k2).fr⟩, hS.callers.mono k1 k2, k3, hS.gl.mono k1⟩, rfl, rfl, rfl, fun _ => rfl, fun F G h => botFn_eq h⟩
   have h1 := (hS.cur.tmps.mono k1 k2).set t k4
   have : act.tmps.toList.set t (act.tmps.getD t undef) = act.tmps.toList := by
    rcases Nat.lt_or_ge t act.tmps.size with hlt | hge
    ·apply List.ext_getElem?
     intro i
     rw [List.getElem?_set]
     by_cases hi : t = i
     ·subst hi
      simp [hlt, Array.getD_eq_getD_getElem?]
     ·rw [if_neg hi]
    ·rw [List.set_eq_of_length_le (by simpa using hge)]
   rw [this] at h1
   exact h1
  ·cases he
 ·rename_i t off fx
  split at he
  ·rename_i r hr
   split at he
   ·rename_i R hR
    split at he
    ·rename_i cs hcs
     split at he
     ·rename_i b hb
      split at he
      ·rename_i C1 b' ws hf
       split at he
       ·rename_i R' hR'
        split at he
        ·rename_i cs' hcs'
         injection he with he
         injection he with e1 e2
         subst e2
         obtain ⟨blk, q1, q2, q3, q4, arr, e, q5, q6⟩ := hS.mem.cells hR hcs
         obtain ⟨V, hV, hbV⟩ := q6.get hb
         obtain ⟨Z', own', γ', k1, k2, k3, k4⟩ := fixV_sound hS.mem hf (by rw [e1]; exact hC) hbV
         refine ⟨Z', own', γ', k1, ⟨⟨hS.cur.defers, hS.cur.tmps.mono k1 k2, hS.cur.link.mono k2⟩, hS.callers.mono k1 k2, ?_, hS.gl.mono k1⟩, rfl, rfl, rfl, fun _ => rfl, fun F G h => botFn_eq h⟩
         refine k3.recell hR' hcs' fun blk2 arr2 e2 f1 f2 f3 => ?_
         rw [k2.β _ _ q1] at f1
         injection f1 with f1
         subst f1
         rw [q5] at f2
         injection f2 with f2
         injection f2 with f2 _
         subst f2
         have h1 := f3.set off k4
         have : arr.toList.set off V = arr.toList := by
          apply List.ext_getElem?
          intro i
          rw [List.getElem?_set]
          by_cases hi : off = i
          ·subst hi
           rw [if_pos rfl, hV, if_pos (List.getElem?_eq_some_iff.1 hV).1]
          ·rw [if_neg hi]
         rw [this] at h1
         exact h1
        ·cases he
       ·cases he
      ·cases he
     ·cases he
    ·cases he
   ·cases he
  ·cases he
theorem Same.trans {c1 c2 c3 : Cfg} (h : Same c1 c2) (k : Same c2 c3) : Same c1 c3 := ⟨k.fn.trans h.fn, k.todo.trans h.todo, k.fb.trans h.fb, fun as => (k.frs as).trans (h.frs as), fun F G e => (k.bot F F rfl).trans (h.bot F G e)⟩
theorem fixes_ok {act : Act} {as : List Act} : ∀ {l : List (Wh × Fx)} {c c' : Cfg} {C : List Prop} {Z : Nat → Prop} {own : Own} {γ : Gst}, StOK E w0 K c act as w Z own γ → fixes c l = some (C, c') → AllP C → ∃ Z' own' γ', Stay w Z w Z' ∧ StOK E w0 K c' act as w Z' own' γ' ∧ Same c c'
 | [], c, c', C, Z, own, γ, hS, he, _ => by
  simp only [fixes, Option.some.injEq, Prod.mk.injEq] at he
  obtain ⟨_, rfl⟩ := he
  exact ⟨Z, own, γ, Stay.refl _ _, hS, rfl, rfl, rfl, fun _ => rfl, fun F G h => botFn_eq h⟩
 | f :: l, c, c', C, Z, own, γ, hS, he, hC => by
  simp only [fixes] at he
  split at he
  ·rename_i C1 c1 h1
   split at he
   ·rename_i C2 c2 h2
    injection he with he
    injection he with e1 e2
    subst e2
    rw [← e1, AllP.append] at hC
    obtain ⟨Z1, own1, γ1, k1, k2, k3⟩ := fix1_ok hS h1 hC.1
    obtain ⟨Z2, own2, γ2, j1, j2, j3⟩ := fixes_ok k2 h2 hC.2
    exact ⟨Z2, own2, γ2, k1.trans j1, j2, k3.trans j3⟩
   ·cases he
  ·cases he
theorem cutC_ok {ix : Nat} {act : Act} {as : List Act} {c' : Cfg} {C : List Prop} (hS : StOK E w0 K c act as w Z own γ) (he : cutC H ix c = some (C, c')) (hC : AllP C) : ∃ Z' own' γ', Stay w Z w Z' ∧ StOK E w0 K c' act as w Z' own' γ' ∧ Same c c' := by
 unfold cutC at he
 dsimp only at he
 split at he
 ·rename_i C1 c1 h1
  split at he
  ·rename_i hr
   injection he with he
   injection he with e1 e2
   subst e2
   obtain ⟨Z1, own1, γ1, k1, k2, k3⟩ := fixes_ok hS h1 (by rw [e1]; exact hC)
   obtain ⟨own2, γ2, k4⟩ := cut_ok (keep := (H.cut (c.callers.map sigOf) c.cur.fn ix).1) (kc := (H.cut (c.callers.map sigOf) c.cur.fn ix).2.2) hr k2
   refine ⟨Z1, own2, γ2, k1, k4, k3.trans ⟨rfl, rfl, fb_renX _ _ _, fun as => (frs_renF _ _ _ _).trans (frs_keepF _ _ _), fun F G h => (botFn_renF _ _ F F _ rfl).trans (botFn_keepF _ _ _ _ h)⟩⟩
  ·cases he
 ·cases he
theorem FinOK.of_same {base : List Frame} {act : Act} {as : List Act} {c' : Cfg} {f : Fin} (hs : Stay w Z w Z') (h : Same c c') (hf : FinOK E w0 K base c' act as w Z' f) : FinOK E w0 K base c act as w Z f := by
 have hmk : mkF c'.cur act = mkF c.cur act := by unfold mkF; rw [h.fb, h.todo]
 cases f with
 | at_ c2 =>
  obtain ⟨a2, as2, w2, Z2, own2, γ2, k1, k2, k3, k4⟩ := hf
  rw [hmk, h.frs] at k4
  exact ⟨a2, as2, w2, Z2, own2, γ2, k1, hs.trans k2, k3.trans (h.bot _ _ h.fn), k4⟩
 | ret A h2 nx =>
  obtain ⟨V, w2, Z2, own2, γ2, fr, k1, k2, k3, k4, k5, k6⟩ := hf
  rw [hmk, h.frs] at k4
  exact ⟨V, w2, Z2, own2, γ2, fr, k1, hs.trans k2, k3, k4, k5.trans (h.bot _ _ h.fn), k6⟩
 | pan A h2 nx =>
  obtain ⟨V, w2, Z2, own2, γ2, fr, k1, k2, ⟨Z3, k7, k3⟩, k4, k5, k6⟩ := hf
  rw [hmk, h.frs] at k4
  exact ⟨V, w2, Z2, own2, γ2, fr, k1, hs.trans k2, ⟨Z3, hs.trans k7, k3⟩, k4, k5.trans (h.bot _ _ h.fn), k6⟩
theorem FinOK.trans {base : List Frame} {act : Act} {as : List Act} {c1 : Cfg} {f : Fin} (h1 : FinOK E w0 K base c act as w Z (.at_ c1)) (h2 : ∀ act1 as1 w1 Z1 own1 γ1, StOK E w0 K c1 act1 as1 w1 Z1 own1 γ1 → FinOK E w0 K base c1 act1 as1 w1 Z1 f) : FinOK E w0 K base c act as w Z f := by
 obtain ⟨a1, as1, w1, Z1, own1, γ1, k1, k2, k3, k4⟩ := h1
 have := h2 a1 as1 w1 Z1 own1 γ1 k1
 cases f with
 | at_ c2 =>
  obtain ⟨a2, as2, w2, Z2, own2, γ2, j1, j2, j3, j4⟩ := this
  exact ⟨a2, as2, w2, Z2, own2, γ2, j1, k2.trans j2, j3.trans k3, k4.trans j4⟩
 | ret A h nx =>
  obtain ⟨V, w2, Z2, own2, γ2, fr, j1, j2, j3, j4, j5, j6⟩ := this
  exact ⟨V, w2, Z2, own2, γ2, fr, j1, k2.trans j2, j3, k4.trans j4, j5.trans k3, j6⟩
 | pan A h nx =>
  obtain ⟨V, w2, Z2, own2, γ2, fr, j1, j2, ⟨Z3, j7, j3⟩, j4, j5, j6⟩ := this
  exact ⟨V, w2, Z2, own2, γ2, fr, j1, k2.trans j2, ⟨Z3, k2.trans j7, j3⟩, k4.trans j4, j5.trans k3, j6⟩
theorem fixR_ok : ∀ {l : List (Option Fx)} {cs : List AV} {vs : List Value} {h h' : Heap} {nx nx' : Nat} {C : List Prop} {ds : List AV} {Z : Nat → Prop} {own : Own} {γ : Gst}, MemR w0 K w Z own γ h (fun s => s < nx) → fixR h nx l cs = some (C, ds, h', nx') → AllP C → VRs w Z γ cs vs →
  ∃ Z' own' γ', Stay w Z w Z' ∧ γ.Le γ' ∧ MemR w0 K w Z' own' γ' h' (fun s => s < nx') ∧ VRs w Z' γ' ds vs
 | some S :: l, a :: as, vs, h, h', nx, nx', C, ds, Z, own, γ, hm, he, hC, hv => by
  simp only [fixR] at he
  split at he
  ·rename_i C1 b ws hf
   split at he
   ·rename_i C2 bs h2 nx2 hr
    simp only [Option.some.injEq, Prod.mk.injEq] at he
    obtain ⟨rfl, rfl, rfl, rfl⟩ := he
    rw [AllP.append] at hC
    cases vs with
    | nil => simp [VRs] at hv
    | cons v vs =>
     obtain ⟨Z1, own1, γ1, k1, k2, k3, k4⟩ := fixV_sound hm hf hC.1 hv.head
     obtain ⟨Z2, own2, γ2, j1, j2, j3, j4⟩ := fixR_ok k3 hr hC.2 (hv.tail.mono k1 k2)
     exact ⟨Z2, own2, γ2, k1.trans j1, k2.trans j2, j3, .cons (k4.mono j1 j2) j4⟩
   ·cases he
  ·cases he
 | none :: l, a :: as, vs, h, h', nx, nx', C, ds, Z, own, γ, hm, he, hC, hv => by
  simp only [fixR] at he
  split at he
  ·rename_i C2 bs h2 nx2 hr
   simp only [Option.some.injEq, Prod.mk.injEq] at he
   obtain ⟨rfl, rfl, rfl, rfl⟩ := he
   cases vs with
   | nil => simp [VRs] at hv
   | cons v vs =>
    obtain ⟨Z2, own2, γ2, j1, j2, j3, j4⟩ := fixR_ok hm hr hC hv.tail
    exact ⟨Z2, own2, γ2, j1, j2, j3, .cons (hv.head.mono j1 j2) j4⟩
  ·cases he
 | [], cs, vs, h, h', nx, nx', C, ds, Z, own, γ, hm, he, _, hv => by
  simp only [fixR, Option.some.injEq, Prod.mk.injEq] at he
  obtain ⟨_, rfl, rfl, rfl⟩ := he
  exact ⟨Z, own, γ, Stay.refl _ _, Gst.Le.refl _, hm, hv⟩
 | o :: l, [], vs, h, h', nx, nx', C, ds, Z, own, γ, hm, he, _, hv => by
  cases o <;>
  ·simp only [fixR, Option.some.injEq, Prod.mk.injEq] at he
   obtain ⟨_, rfl, rfl, rfl⟩ := he
   exact ⟨Z, own, γ, Stay.refl _ _, Gst.Le.refl _, hm, hv⟩
theorem retT_ok {base : List Frame} {act : Act} {as : List Act} {f : FuncId} {A : AV} {Ql : Leaf → Prop} (hf : FinOK E w0 K base c act as w Z (.ret A h nx)) (he : (retT H f A h nx).wp Ql) : ∃ v h', Ql (.ret v h') ∧ FinOK E w0 K base c act as w Z (.ret v h' 16) := by
 obtain ⟨V, w2, Z2, own2, γ2, fr, k1, k2, k3, k4, k5, k6⟩ := hf
 unfold retT at he
 split at he
 ·rename_i C vs h2 nx2 hr
  dsimp only at he
  split at he
  ·rename_i hok
   obtain ⟨hC, he⟩ := qds he
   refine ⟨_, _, he, ?_⟩
   have fin : ∀ {cs us}, VRs w2 Z2 γ2 cs us → fixR h nx (H.ret f) cs = some (C, vs, h2, nx2) → ∃ Z3 own3 γ3, Stay w2 Z2 w2 Z3 ∧ MemR w0 K w2 Z3 own3 γ3 (keepH h2 (alook (number (keepR h2 (liveL h2 vs)) 0)) (number (keepR h2 (liveL h2 vs)) 0)) (fun s => s < 16) ∧ VRs w2 Z3 γ3 (renL h2 (alook (number (keepR h2 (liveL h2 vs)) 0)) vs) us := fun {cs us} hv hr => by
    obtain ⟨Z3, own3, γ3, j1, j2, j3, j4⟩ := fixR_ok k3 hr hC hv
    obtain ⟨own4, hR, hm⟩ := j3.ren hok
    exact ⟨Z3, own4, _, j1, hm, j4.ren hR (fun A V hv => norm_sound j3 hv)⟩
   clear he
   split at hr
   ·rename_i l
    obtain ⟨us, rfl, hl, hus⟩ : ∃ us : Array Value, V = .tuple us ∧ l.length = us.size ∧ ∀ (j : Nat) a v, l[j]? = some a → us[j]? = some v → VR w2 Z2 γ2 a v := by
     generalize hA : AV.tup l = A' at k1
     cases k1 with
     | tup cs vs hl hrel => injection hA with hA; subst hA; exact ⟨vs, rfl, hl, hrel⟩
     | cr hc =>
      cases hc with
      | tup cs vs hl hrel => injection hA with hA; subst hA; exact ⟨vs, rfl, hl, fun j a v ha hv => .cr (hrel j a v ha hv)⟩
      | _ => cases hA
     | _ => cases hA
    obtain ⟨Z3, own3, γ3, j1, j2, j3⟩ := fin (us := us.toList) ⟨by simpa using hl, fun j x y hx hy => hus j x y hx (by simpa using hy)⟩ hr
    exact ⟨_, w2, Z3, own3, γ3, fr, .tup _ us (by simpa using j3.1) (fun j x y hx hy => j3.2 j x y hx (by simpa using hy)), k2.trans j1, j2, k4, k5, k6⟩
   ·rename_i hnt
    obtain ⟨Z3, own3, γ3, j1, j2, j3⟩ := fin (cs := [A]) (us := [V]) (.cons k1 .nil) hr
    refine ⟨V, w2, Z3, own3, γ3, fr, ?_, k2.trans j1, j2, k4, k5, k6⟩
    have hl := j3.1
    rw [retV_of fun l e => hnt l e]
    generalize renL h2 (alook (number (keepR h2 (liveL h2 vs)) 0)) vs = L at j3 hl
    cases L with
    | nil => simp at hl
    | cons b L => exact j3.head
  ·exact he.elim
 ·exact he.elim
theorem Tre.go_wp {α β : Type} {f : α → Tre β} {Q : β → Prop} : ∀ {t : Tre α}, (t.go f).wp Q → t.wp fun a => (f a).wp Q
 | .ok a, h => h
 | .ite b t e, h => by
  cases b with
  | true => exact ⟨fun _ => Tre.go_wp h, fun h => (nomatch h)⟩
  | false => exact ⟨fun h => (nomatch h), fun _ => Tre.go_wp h⟩
 | .chk C t, h => ⟨h.1, fun hc => Tre.go_wp (h.2 hc)⟩
 | .know K t, h => fun hk => Tre.go_wp (h hk)
 | .any p k, h => fun b hb => Tre.go_wp (h b hb)
 | .rg k, h => fun R => Tre.go_wp (h R)
 | .bad, h => h.elim
theorem RunsP.of_run {N : AV → Prop} (hE : EOK E) {f : FuncId} : ∀ {n : Nat} {c : Cfg}, (run E H f n c).wp (contP E Q N) → RunsP E c Q N
 | 0, c, h => h.elim
 | n + 1, c, h => by
  intro w0 K base a as w Z own γ hS
  obtain ⟨fin, h1, h2⟩ := astep_sound (base := base) hE hS (Tre.go_wp (t := astep E c) h)
  cases fin with
  | at_ c' =>
   simp only at h1
   split at h1
   ·unfold headT at h1
    split at h1
    ·rename_i C c'' hc
     obtain ⟨hC, h1⟩ := qds h1
     have h1 : RunsP E c'' Q N := h1
     obtain ⟨a1, as1, w1, Z1, own1, γ1, k1, k2, k3, k4⟩ := h2
     obtain ⟨Z2, own2, γ2, j1, j2, j3⟩ := cutC_ok k1 hc hC
     rcases h1 w0 K base a1 as1 w1 Z2 own2 γ2 j2 with ⟨v, hh, q1, q2⟩ | ⟨v, hh, nx, q1, q2⟩
     ·obtain ⟨V, w3, Z3, own3, γ3, fr, l1, l2, l3, l4, l5, l6⟩ := FinOK.of_same j1 j3 q2
      exact .inl ⟨v, hh, q1, V, w3, Z3, own3, γ3, fr, l1, k2.trans l2, l3, k4.trans l4, l5.trans k3, l6⟩
     ·obtain ⟨V, w3, Z3, own3, γ3, fr, l1, l2, ⟨Z4, l7, l3⟩, l4, l5, l6⟩ := FinOK.of_same j1 j3 q2
      exact .inr ⟨v, hh, nx, q1, V, w3, Z3, own3, γ3, fr, l1, k2.trans l2, ⟨Z4, k2.trans l7, l3⟩, k4.trans l4, l5.trans k3, l6⟩
    ·exact h1.elim
   ·have h1 : RunsP E c' Q N := RunsP.of_run hE h1
    obtain ⟨a1, as1, w1, Z1, own1, γ1, k1, k2, k3, k4⟩ := h2
    rcases h1 w0 K base a1 as1 w1 Z1 own1 γ1 k1 with ⟨v, hh, q1, q2⟩ | ⟨v, hh, nx, q1, q2⟩
    ·obtain ⟨V, w3, Z3, own3, γ3, fr, l1, l2, l3, l4, l5, l6⟩ := q2
     exact .inl ⟨v, hh, q1, V, w3, Z3, own3, γ3, fr, l1, k2.trans l2, l3, k4.trans l4, l5.trans k3, l6⟩
    ·obtain ⟨V, w3, Z3, own3, γ3, fr, l1, l2, ⟨Z4, l7, l3⟩, l4, l5, l6⟩ := q2
     exact .inr ⟨v, hh, nx, q1, V, w3, Z3, own3, γ3, fr, l1, k2.trans l2, ⟨Z4, k2.trans l7, l3⟩, k4.trans l4, l5.trans k3, l6⟩
  | ret A h nx =>
   obtain ⟨v, h', q1, q2⟩ := retT_ok h2 h1
   exact .inl ⟨v, h', q1, q2⟩
  | pan A h nx => exact .inr ⟨A, h, nx, h1, h2⟩
theorem Runs.of_run (hE : EOK E) {f : FuncId} {n : Nat} {c : Cfg} (h : (run E H f n c).wp (contL E Q)) : Runs E c Q := RunsP.of_run hE (by rw [contL_eq] at h; exact h)
def firsts : Heap → List Nat → Heap
 | [], _ => []
 | (r, R) :: h, l => if l.contains r then firsts h l else (r, R) :: firsts h (r :: l)
theorem firsts_get : ∀ {h : Heap} {l : List Nat} {r : Nat} {R : Root}, (r, R) ∈ firsts h l → l.contains r = false ∧ hget h r = some R
 | [], l, r, R, hm => by cases hm
 | (k, R') :: h, l, r, R, hm => by
  simp only [firsts] at hm
  split at hm
  ·rename_i hk
   obtain ⟨h1, h2⟩ := firsts_get hm
   refine ⟨h1, ?_⟩
   simp only [hget]
   rw [if_neg (fun e => by rw [e, h1] at hk; cases hk)]
   exact h2
  ·rename_i hk
   rcases List.mem_cons.1 hm with e | hm
   ·injection e with e1 e2
    subst e1; subst e2
    exact ⟨by simpa using hk, by simp [hget]⟩
   ·obtain ⟨h1, h2⟩ := firsts_get hm
    simp only [List.contains_cons, Bool.or_eq_false_iff, beq_eq_false_iff_ne] at h1
    refine ⟨h1.2, ?_⟩
    simp only [hget]
    rw [if_neg (Ne.symm h1.1)]
    exact h2
theorem StOK.ok {act : Act} {as : List Act} (hS : StOK E w0 K c act as w Z own γ) : okAVs c.cur.fr ∧ okHeap (firsts c.h []) :=
 ⟨hS.cur.tmps.ok, okHeap_of fun _ _ hm => (hS.mem.root _ _ (firsts_get hm).2).ok⟩
theorem RunsP.imp {Q' : AV → Heap → Prop} {N N' : AV → Prop} (hq : ∀ v h, Q v h → Q' v h) (hn : ∀ v, N v → N' v) (h : RunsP E c Q N) : RunsP E c Q' N' := by
 intro w0 K base a as w Z own γ hS
 rcases h w0 K base a as w Z own γ hS with ⟨v, hh, h1, h2⟩ | ⟨v, hh, nx, h1, h2⟩
 ·exact .inl ⟨v, hh, hq _ _ h1, h2⟩
 ·exact .inr ⟨v, hh, nx, hn _ h1, h2⟩
theorem Runs.imp {Q' : AV → Heap → Prop} (hq : ∀ v h, Q v h → Q' v h) (h : Runs E c Q) : Runs E c Q' := RunsP.imp hq (fun _ h => h) h
end
end Go.BE
namespace Go.BE
open Go.RowKit
abbrev FSpec := List AV → Option SRes
def qas (E : Ctx) (f : FuncId) (s : FSpec) : Prop := ∀ args r, qbz args = true → s args = some r → r.pre → ∀ (w : World) (Z : Nat → Prop) (vs : List Value), GlR E w Z → (∀ b, Z b → b < w.heap.size) → CRs w Z args vs → Promise E.P f vs.toArray w Z r
def start (E : Ctx) (f : FuncId) (args : List AV) : Cfg := { cur := (enter E f args).getD { fn := 0, todo := [], fr := [] }, callers := [], h := [], nx := 0 }
def argD (S : Sh) : AV → Option (Den S)
 | .tv T x => castD T S x
 | .agg cs => if S.isAgg then (match toDen S cs with | some (y, []) => some y | _ => none) else none
 | a => if S.isAgg then none else (match toDen S [a] with | some (y, []) => some y | _ => none)
def DenL : List Sh → Type
 | [] => Unit
 | S :: l => Den S × DenL l
inductive Par where
 | d (S : Sh)
 | fn (g : FuncId) (caps : List Sh)
 | cap (S : Sh)
 | capfn (g : FuncId) (caps : List Sh)
def DenP : Par → Type
 | .d S => Den S
 | .fn _ l => DenL l
 | .cap S => Den S
 | .capfn _ l => DenL l
def Args : List Par → Type
 | [] => Unit
 | p :: l => DenP p × Args l
def capAV : (S : Sh) → Den S → AV
 | .int k, x => .rop [aint k x] 0
 | .bool, x => .rop [abool x] 0
 | .str, x => .rop [.val (.string x)] 0
 | S, x => .rtp S x
def capD (S : Sh) : AV → Option (Den S)
 | .rtp T x => castD T S x
 | .rop cs 0 => match S with
  | .int k => one1 (toDen (.int k) cs)
  | .bool => one1 (toDen .bool cs)
  | .str => one1 (toDen .str cs)
  | S => one1 (toDen S cs)
 | _ => none
where one1 {α : Type} : Option (α × List AV) → Option α
 | some (y, []) => some y
 | _ => none
def capsAV : (l : List Sh) → DenL l → List AV
 | [], _ => []
 | S :: l, x => capAV S x.1 :: capsAV l x.2
def capsD : (l : List Sh) → List AV → Option (DenL l)
 | [], [] => some ()
 | S :: l, a :: as => match capD S a, capsD l as with
  | some x, some y => some (x, y)
  | _, _ => none
 | _, _ => none
def parAV : (p : Par) → DenP p → AV
 | .d S, x => avOf S x
 | .fn g l, x => .fn g (capsAV l x)
 | .cap S, x => capAV S x
 | .capfn g l, x => .rop [.fn g (capsAV l x)] 0
def capfnD : AV → Option (FuncId × List AV)
 | .rop [.fn g cs] 0 => some (g, cs)
 | _ => none
theorem capfnD_eq {a : AV} {x : FuncId × List AV} (h : capfnD a = some x) : a = .rop [.fn x.1 x.2] 0 := by
 unfold capfnD at h
 split at h
 ·injection h with h
  subst h
  rfl
 ·cases h
def parD : (p : Par) → AV → Option (DenP p)
 | .d S, a => argD S a
 | .fn g l, .fn g' cs => if g = g' then capsD l cs else none
 | .fn _ _, _ => none
 | .cap S, a => capD S a
 | .capfn g l, a => match capfnD a with
  | some x => if g = x.1 then capsD l x.2 else none
  | none => none
def argsAV : (l : List Par) → Args l → List AV
 | [], _ => []
 | p :: l, x => parAV p x.1 :: argsAV l x.2
def argsD : (l : List Par) → List AV → Option (Args l)
 | [], [] => some ()
 | p :: l, a :: as => match parD p a, argsD l as with
  | some x, some y => some (x, y)
  | _, _ => none
 | _, _ => none
def okL : (l : List Sh) → DenL l → Prop
 | [], _ => True
 | S :: l, x => okD S x.1 ∧ okL l x.2
def okP : (p : Par) → DenP p → Prop
 | .d S, x => okD S x
 | .fn _ l, x => okL l x
 | .cap S, x => okD S x
 | .capfn _ l, x => okL l x
def okArgs : (l : List Par) → Args l → Prop
 | [], _ => True
 | p :: l, x => okP p x.1 ∧ okArgs l x.2
structure Con where
 ps : List Par
 pre : Args ps → Prop
 res : Args ps → AV
 roots : Args ps → List (Nat × Root)
def Con.spec (s : Con) : FSpec := fun args => match argsD s.ps args with
 | some x => some ⟨s.pre x, s.res x, s.roots x, none⟩
 | none => none
structure ConP where
 ps : List Par
 pre : Args ps → Prop
 err : Args ps → Bool
 val : Args ps → AV
def ConP.spec (s : ConP) : FSpec := fun args => match argsD s.ps args with
 | some x => some ⟨s.pre x, .tup [], [], some (s.err x, s.val x)⟩
 | none => none
def con (ps : List Par) (R : Sh) (pre : Args ps → Prop) (f : Args ps → Den R) : Con := ⟨ps, pre, fun x => avOf R (f x), fun _ => []⟩
section
variable {E : Ctx} {w w' w0 : World} {Z Z' : Nat → Prop} {K : Kp} {own own' : Own} {γ γ' : Gst} {h h' : Heap} {used used' : Nat → Prop} {a A B : AV} {v V : Value} {cs ds : List AV} {vs us : List Value}
theorem CRs.one (h : CR w Z a v) : CRs w Z [a] [v] := ⟨rfl, fun j x z hx hz => by
 cases j with
 | zero => simp at hx hz; subst hx; subst hz; exact h
 | succ j => simp at hx⟩
theorem CRs.cons (h : CR w Z a v) (k : CRs w Z cs vs) : CRs w Z (a :: cs) (v :: vs) := ⟨by simp [k.1], fun j x z hx hz => by
 cases j with
 | zero => simp at hx hz; subst hx; subst hz; exact h
 | succ j => exact k.2 j x z (by simpa using hx) (by simpa using hz)⟩
theorem CR.agg_inv (h : CR w Z (.agg cs) v) : ∃ arr, v = .agg arr ∧ CRs w Z cs arr.toList := by
 cases h with
 | agg _ vs hl hrel => exact ⟨vs, rfl, by simpa using hl, fun j x y hx hy => hrel j x y hx (by simpa using hy)⟩
theorem CR.fn_inv {g : FuncId} (h : CR w Z (.fn g cs) v) : ∃ arr : Array Value, v = .func (.func g) #[] arr ∧ CRs w Z cs arr.toList := by
 cases h with
 | fn _ _ vs hl hrel => exact ⟨vs, rfl, by simpa using hl, fun j x y hx hy => hrel j x y hx (by simpa using hy)⟩
theorem toDen_all {S : Sh} {y : Den S} (h : toDen S cs = some (y, [])) (hc : CRs w Z cs vs) : FR w Z S y vs := by
 obtain ⟨us, ws, f1, f2, f3⟩ := toDen_sound h hc
 have : ws = [] := List.eq_nil_of_length_eq_zero (by have := f3.1; simpa using this.symm)
 subst this
 rw [List.append_nil] at f1
 exact f1 ▸ f2
theorem argD_sound {S : Sh} {y : Den S} (h : argD S A = some y) (hA : CR w Z A v) : CR w Z (avOf S y) v := by
 unfold argD at h
 split at h
 ·obtain ⟨e, rfl⟩ := qet h
  subst e
  exact hA.of_tv
 ·split at h
  ·rename_i hS
   split at h
   ·rename_i y' hy
    injection h with h
    subst h
    obtain ⟨arr, rfl, hc⟩ := hA.agg_inv
    have := (toDen_all hy hc).avOf
    rw [if_pos hS] at this
    simpa using this
   ·cases h
  ·cases h
 ·split at h
  ·cases h
  ·rename_i hS
   split at h
   ·rename_i y' hy
    injection h with h
    subst h
    have := (toDen_all hy (CRs.one hA)).avOf
    rw [if_neg hS] at this
    obtain ⟨u, hu, hc⟩ := this
    injection hu with hu
    subst hu
    exact hc
   ·cases h
theorem capD_one {S : Sh} {y : Den S} {cs : List AV} (hS : ∀ x, capAV S x = .rop (qdh S x) 0) (h1 : S.size = 1) (h : capD.one1 (toDen S cs) = some y) (hA : CR w Z (.rop cs 0) v) : CR w Z (capAV S y) v := by
 unfold capD.one1 at h
 split at h
 ·rename_i y' hy
  injection h with h
  subst h
  cases hA with
  | rop _ _ b o u hz hc hr =>
   have hcs : CRs w Z cs ((List.range cs.length).map u) := ⟨by simp, fun j x z hx hz => by
    rw [List.getElem?_map] at hz
    obtain ⟨i, hi, rfl⟩ := Option.map_eq_some_iff.1 hz
    rw [List.getElem?_range (List.getElem?_eq_some_iff.1 hx).1] at hi
    injection hi with hi
    subst hi
    exact hr _ x hx⟩
   have hF := toDen_all hy hcs
   have hv : VRs w Z ⟨fun _ => none, fun _ _ => none⟩ (qdh S y') ((List.range cs.length).map u) := hF.cells
   rw [hS]
   refine .rop _ _ _ _ u hz (fun j x hx => ?_) (fun j x hx => ?_)
   ·have hl : j < cs.length := by
     have := (List.getElem?_eq_some_iff.1 hx).1
     rw [hv.1] at this
     simpa using this
    exact hc j cs[j] (List.getElem?_eq_getElem hl)
   ·have hl : j < cs.length := by
     have := (List.getElem?_eq_some_iff.1 hx).1
     rw [hv.1] at this
     simpa using this
    have := hv.2 j x (u j) hx (by simp [hl])
    refine this.toCR ?_
    clear this hl
    have : ∀ {S : Sh} {x : Den S} (j : Nat) (a : AV), (qdh S x)[j]? = some a → S.size = 1 → (∀ x, capAV S x = .rop (qdh S x) 0) → a.closed = true := by
     intro S x j a ha _ hc
     cases S with
     | int k => cases j <;> simp [qdh] at ha; subst ha; rfl
     | bool => cases j <;> simp [qdh] at ha; subst ha; rfl
     | str => cases j <;> simp [qdh] at ha; subst ha; rfl
     | unit => simp [qdh] at ha
     | pair a b => have := hc (dz _); simp [capAV] at this
     | arr n a => have := hc (dz _); simp [capAV] at this
     | sl b a => have := hc (dz _); simp [capAV] at this
     | ptr a => have := hc (dz _); simp [capAV] at this
    exact this j x hx h1 hS
 ·cases h
theorem capD_rop {S : Sh} {y : Den S} {cs : List AV} (hS : ∀ x, capAV S x = .rtp S x) (h : capD.one1 (toDen S cs) = some y) (hA : CR w Z (.rop cs 0) v) : CR w Z (capAV S y) v := by
 unfold capD.one1 at h
 split at h
 ·rename_i y' hy
  injection h with h
  subst h
  cases hA with
  | rop _ _ b o u hz hc hr =>
   have hcs : CRs w Z cs ((List.range cs.length).map u) := ⟨by simp, fun j x z hx hz => by
    rw [List.getElem?_map] at hz
    obtain ⟨i, hi, rfl⟩ := Option.map_eq_some_iff.1 hz
    rw [List.getElem?_range (List.getElem?_eq_some_iff.1 hx).1] at hi
    injection hi with hi
    subst hi
    exact hr _ x hx⟩
   have hF := toDen_all hy hcs
   rw [hS]
   refine .rtp S y' b (o + 0) _ hz (fun j v hj => ?_) hF
   rw [List.getElem?_map] at hj
   obtain ⟨i, hi, rfl⟩ := Option.map_eq_some_iff.1 hj
   have hlt : j < cs.length := by
    have := (List.getElem?_eq_some_iff.1 hi).1
    simpa using this
   rw [List.getElem?_range hlt] at hi
   injection hi with hi
   subst hi
   exact hc j cs[j] (List.getElem?_eq_getElem hlt)
 ·cases h
theorem capD_sound {S : Sh} {y : Den S} (h : capD S A = some y) (hA : CR w Z A v) : CR w Z (capAV S y) v := by
 unfold capD at h
 split at h
 ·rename_i T x
  obtain ⟨e, rfl⟩ := qet h
  subst e
  cases hA with
  | rtp _ _ b o us hz hr hf =>
   have key : ∀ x (hx : capAV T x = .rop (qdh T x) 0) (_ : FR w Z T x us) (_ : ∀ (j : Nat) a, (qdh T x)[j]? = some a → a.closed = true), CR w Z (capAV T x) (.pointer (some ⟨b, o, none⟩)) := fun x hx hf hcl => by
    have hv : VRs w Z ⟨fun _ => none, fun _ _ => none⟩ (qdh T x) us := hf.cells
    rw [hx]
    refine .rop _ 0 b o (fun j => us.getD j undef) hz (fun j a ha => ?_) (fun j a ha => ?_)
    ·obtain ⟨u, hu, hr'⟩ := hv.get ha
     have := hr j u hu
     simpa [List.getD_eq_getElem?_getD, hu] using this
    ·obtain ⟨u, hu, hr'⟩ := hv.get ha
     have := hr'.toCR (hcl j a ha)
     simpa [List.getD_eq_getElem?_getD, hu] using this
   cases T with
   | int k => exact key x rfl hf fun j a ha => by cases j <;> simp [qdh] at ha; subst ha; rfl
   | bool => exact key x rfl hf fun j a ha => by cases j <;> simp [qdh] at ha; subst ha; rfl
   | str => exact key x rfl hf fun j a ha => by cases j <;> simp [qdh] at ha; subst ha; rfl
   | unit => exact .rtp _ _ b o us hz hr hf
   | pair a b' => exact .rtp _ _ b o us hz hr hf
   | arr n a => exact .rtp _ _ b o us hz hr hf
   | sl b' a => exact .rtp _ _ b o us hz hr hf
   | ptr a => exact .rtp _ _ b o us hz hr hf
 ·split at h
  ·exact capD_one (fun _ => rfl) rfl h hA
  ·exact capD_one (fun _ => rfl) rfl h hA
  ·exact capD_one (fun _ => rfl) rfl h hA
  ·rename_i S' h1 h2 h3
   exact capD_rop (fun x => by
    cases S with
    | int k => exact absurd rfl (h1 k)
    | bool => exact absurd rfl h2
    | str => exact absurd rfl h3
    | _ => rfl) h hA
 ·cases h
theorem capsD_sound : ∀ {l : List Sh} {cs : List AV} {vs : List Value} {x : DenL l}, capsD l cs = some x → CRs w Z cs vs → CRs w Z (capsAV l x) vs
 | [], [], vs, x, _, h => h
 | S :: l, a :: as, [], x, _, h => by simp [CRs] at h
 | S :: l, a :: as, v :: vs, x, he, h => by
  simp only [capsD] at he
  split at he
  ·rename_i y z hy hz
   injection he with he
   subst he
   exact .cons (capD_sound hy (h.2 0 a v rfl rfl)) (capsD_sound hz h.tail)
  ·cases he
 | [], _ :: _, _, _, he, _ => by simp [capsD] at he
 | _ :: _, [], _, _, he, _ => by simp [capsD] at he
theorem parD_sound {p : Par} {x : DenP p} (he : parD p A = some x) (h : CR w Z A v) : CR w Z (parAV p x) v := by
 cases p with
 | d S => exact argD_sound he h
 | fn g l =>
  cases A with
  | fn g' cs =>
   have he' : g = g' ∧ capsD l cs = some x := by
    have he1 : (if g = g' then capsD l cs else none : Option (DenL l)) = some x := he
    by_cases hg : g = g'
    ·rw [if_pos hg] at he1
     exact ⟨hg, he1⟩
    ·rw [if_neg hg] at he1
     cases he1
   obtain ⟨rfl, he'⟩ := he'
   obtain ⟨arr, rfl, hc⟩ := h.fn_inv
   have := capsD_sound he' hc
   exact .fn _ _ arr (by simpa using this.1) fun j a v ha hv => this.2 j a v ha (by simpa using hv)
  | _ => simp [parD] at he
 | cap S => exact capD_sound he h
 | capfn g l =>
  have key : ∃ g' cs, A = .rop [.fn g' cs] 0 ∧ g = g' ∧ capsD l cs = some x := by
   have he' : (match capfnD A with | some x => if g = x.1 then capsD l x.2 else none | none => none : Option (DenL l)) = some x := he
   cases hq : capfnD A with
   | none => rw [hq] at he'; cases he'
   | some y =>
    rw [hq] at he'
    by_cases hg : g = y.1
    ·have he2 : (if g = y.1 then capsD l y.2 else none) = some x := he'
     rw [if_pos hg] at he2
     exact ⟨y.1, y.2, capfnD_eq hq, hg, he2⟩
    ·have he2 : (if g = y.1 then capsD l y.2 else none) = some x := he'
     rw [if_neg hg] at he2
     cases he2
  obtain ⟨g', cs, rfl, rfl, hx⟩ := key
  cases h with
  | rop _ _ b o u hz hcell hrel =>
   refine .rop [.fn g (capsAV l x)] 0 b o u hz (fun j a ha => ?_) (fun j a ha => ?_)
   ·cases j with
    | zero => exact hcell 0 _ rfl
    | succ j => simp at ha
   ·cases j with
    | zero =>
     simp at ha
     subst ha
     have h0 := hrel 0 _ rfl
     obtain ⟨arr, e, hc⟩ := h0.fn_inv
     have := capsD_sound hx hc
     rw [e]
     exact .fn _ _ _ (by simpa using this.1) (fun j a v ha hv => this.2 j a v ha (by simpa using hv))
    | succ j => simp at ha
theorem argsD_sound : ∀ {l : List Par} {cs : List AV} {vs : List Value} {x : Args l}, argsD l cs = some x → CRs w Z cs vs → CRs w Z (argsAV l x) vs
 | [], [], vs, x, _, h => h
 | S :: l, a :: as, [], x, _, h => by simp [CRs] at h
 | S :: l, a :: as, v :: vs, x, he, h => by
  simp only [argsD] at he
  split at he
  ·rename_i y z hy hz
   injection he with he
   subst he
   exact .cons (parD_sound hy (h.2 0 a v rfl rfl)) (argsD_sound hz h.tail)
  ·cases he
 | [], _ :: _, _, _, he, _ => by simp [argsD] at he
 | _ :: _, [], _, _, he, _ => by simp [argsD] at he
theorem okAV_avOf : ∀ {S : Sh} {x : Den S}, okAV (avOf S x) → okD S x := by
 intro S x h
 cases S <;> first | exact h | trivial
theorem okAV_capAV : ∀ {S : Sh} {x : Den S}, okAV (capAV S x) → okD S x := by
 intro S x h
 cases S <;> first | exact h | exact h.1 | trivial
theorem okAVs_caps : ∀ {l : List Sh} {x : DenL l}, okAVs (capsAV l x) → okL l x
 | [], _, _ => trivial
 | _ :: _, _, h => ⟨okAV_capAV h.1, okAVs_caps h.2⟩
theorem okAV_par {p : Par} {x : DenP p} (h : okAV (parAV p x)) : okP p x := by
 cases p with
 | d S => exact okAV_avOf h
 | fn g l => exact okAVs_caps h
 | cap S => exact okAV_capAV h
 | capfn g l => exact okAVs_caps h.1
theorem okAVs_args : ∀ {l : List Par} {x : Args l}, okAVs (argsAV l x) → okArgs l x
 | [], _, _ => trivial
 | _ :: _, _, h => ⟨okAV_par h.1, okAVs_args h.2⟩
theorem qbg {f : FuncId} {s : Con} (h : ∀ x, okArgs s.ps x → s.pre x → (enter E f (argsAV s.ps x)).isSome = true ∧ Runs E (start E f (argsAV s.ps x)) fun v h => v = s.res x ∧ h = s.roots x) : qas E f s.spec := by
 intro args r _ hs hp w Z vs hg hz hvs
 unfold Con.spec at hs
 split at hs
 ·rename_i x hx
  injection hs with hs
  subst hs
  have hc := argsD_sound hx hvs
  have hv : VRs w Z ⟨fun _ => none, fun _ _ => none⟩ (argsAV s.ps x) vs := ⟨hc.1, fun j a v ha hv => .cr (hc.2 j a v ha hv)⟩
  obtain ⟨h1, h2⟩ := h x (okAVs_args hv.ok) hp
  refine Promise.of_r ?_ rfl
  intro cs
  cases he : enter E f (argsAV s.ps x) with
  | none => rw [he] at h1; cases h1
  | some F =>
   obtain ⟨b, e1, e2, e3⟩ := enter_ok he hv
   have hm : MemR w ⟨fun _ => True, Z⟩ w Z (fun _ => none) ⟨fun _ => none, fun _ _ => none⟩ [] (fun s => s < 0) :=
    ⟨rfl, rfl, rfl, Nat.le_refl _, fun _ _ _ => rfl, fun b hb _ _ => hb, hz, fun b o ho => by simp at ho, fun b o ho => by simp at ho, fun b o ho => by simp at ho, fun r R hg => by simp [hget] at hg, fun r R hg => by simp [hget] at hg, fun _ _ => ⟨rfl, fun _ => rfl⟩⟩
   have hS : StOK E w ⟨fun _ => True, Z⟩ (start E f (argsAV s.ps x)) b [] w Z (fun _ => none) ⟨fun _ => none, fun _ _ => none⟩ := by
    refine ⟨?_, trivial, hm, hg⟩
    simp only [start, he, Option.getD_some]
    exact e2
   obtain ⟨A, hh, ⟨rfl, rfl⟩, V, w', Z', own', γ', fr, k1, k2, k3, k4, k5, k6⟩ := h2.ends w _ cs b [] w Z _ _ hS
   refine ⟨.returned V, w', fr, ⟨V, Z', own', γ', rfl, k2, k3, k1⟩, ?_, ?_, k6⟩
   ·rw [e1]
    have : mkF (start E f (argsAV s.ps x)).cur b = mkF F b := by simp [start, he]
    rw [← this]
    exact k4
   ·rw [k5]
    simp [start, he, botFn, e3]
 ·cases hs
def envOf : List (FuncId × FSpec) → Env
 | [], _, _ => none
 | (f, s) :: l, g, args => match (if f = g then s args else none) with
  | some r => some r
  | none => envOf l g args
theorem envOK_of {l : List (FuncId × FSpec)} (he : E.env = envOf l) (h : ∀ x ∈ l, qas E x.1 x.2) : EnvOK E := by
 intro f args r hc hr hp
 rw [he] at hr
 clear he
 induction l with
 | nil => simp [envOf] at hr
 | cons x l ih =>
  simp only [envOf] at hr
  split at hr
  ·rename_i r' hx
   injection hr with hr
   subst hr
   split at hx
   ·rename_i hf
    subst hf
    exact h x List.mem_cons_self args r' hc hx hp
   ·cases hx
  ·exact ih (fun y hy => h y (List.mem_cons_of_mem _ hy)) hr
end
end Go.BE
namespace Go.BE
open Go.RowKit
def eqV : Value → Value → Bool
 | .bool a, .bool b => a == b
 | .int k a, .int l b => decide (k = l) && decide (a = b)
 | .string a, .string b => decide (a.data.toList = b.data.toList)
 | .pointer none, .pointer none => true
 | .slice none a b, .slice none c d => decide (a = c) && decide (b = d)
 | .map none, .map none => true
 | .chan none, .chan none => true
 | .nilFunc, .nilFunc => true
 | .nilIface, .nilIface => true
 | _, _ => false
theorem eqV_ok {a b : Value} (h : eqV a b = true) : a = b := by
 unfold eqV at h
 split at h
 case h_3 a b =>
  cases a; cases b
  simp only [decide_eq_true_eq] at h
  have := Array.ext' h
  rw [this]
 all_goals simp_all
def eqVs : List Value → List Value → Bool
 | [], [] => true
 | a :: l, b :: m => eqV a b && eqVs l m
 | _, _ => false
theorem eqVs_ok : ∀ {l m : List Value}, eqVs l m = true → l = m
 | [], [], _ => rfl
 | a :: l, b :: m, h => by
  simp only [eqVs, Bool.and_eq_true] at h
  rw [eqV_ok h.1, eqVs_ok h.2]
 | [], _ :: _, h => by simp [eqVs] at h
 | _ :: _, [], h => by simp [eqVs] at h
def chkF (P : Program) (f : FI) (g : Field) : Bool :=
 decide (g.offset = f.off) && (match P.info? g.type with | some ti => decide (ti.size = f.size) | none => false) &&
  (match P.underlying g.type with | some d => isAggD d == f.agg | none => false)
theorem chkF_ok {P : Program} {f : FI} {g : Field} (h : chkF P f g = true) : FIOK P f g := by
 simp only [chkF, Bool.and_eq_true, decide_eq_true_eq] at h
 obtain ⟨⟨h1, h2⟩, h3⟩ := h
 refine ⟨h1, ?_, ?_⟩
 ·split at h2
  ·rename_i ti hti
   exact ⟨ti, hti, by simpa using h2⟩
  ·cases h2
 ·split at h3
  ·rename_i d hd
   exact ⟨d, hd, by simpa using h3⟩
  ·cases h3
def chkFs (P : Program) : List FI → List Field → Bool
 | [], [] => true
 | f :: fs, g :: gs => chkF P f g && chkFs P fs gs
 | _, _ => false
theorem chkFs_ok {P : Program} : ∀ {fs : List FI} {gs : List Field}, chkFs P fs gs = true → fs.length = gs.length ∧ ∀ (j : Nat) f, fs[j]? = some f → ∃ g, gs[j]? = some g ∧ FIOK P f g
 | [], [], _ => ⟨rfl, fun j f h => by simp at h⟩
 | f :: fs, g :: gs, h => by
  simp only [chkFs, Bool.and_eq_true] at h
  obtain ⟨h1, h2⟩ := chkFs_ok h.2
  refine ⟨by simp [h1], fun j f' hj => ?_⟩
  cases j with
  | zero => simp at hj; subst hj; exact ⟨g, rfl, chkF_ok h.1⟩
  | succ j => exact h2 j f' (by simpa using hj)
 | [], _ :: _, h => by simp [chkFs] at h
 | _ :: _, [], h => by simp [chkFs] at h
def chkK (P : Program) : TK → TypeDesc → Bool
 | .int k, .int k' => decide (k = k')
 | .bool, .bool => true
 | .str, .string => true
 | .ptr e, .pointer e' => decide (e = e')
 | .slice e, .slice e' => decide (e = e')
 | .arr n e, .array n' e' => decide (n = n') && decide (e = e')
 | .struct fs, .struct gs => chkFs P fs gs.toList
 | .other, d => !isAggD d
 | _, _ => false
theorem chkK_ok {P : Program} {k : TK} {d : TypeDesc} (h : chkK P k d = true) : TKOK P k d := by
 unfold chkK at h
 split at h
 ·simp only [decide_eq_true_eq] at h; subst h; rfl
 ·rfl
 ·rfl
 ·simp only [decide_eq_true_eq] at h; subst h; rfl
 ·simp only [decide_eq_true_eq] at h; subst h; rfl
 ·simp only [Bool.and_eq_true, decide_eq_true_eq] at h; obtain ⟨rfl, rfl⟩ := h; rfl
 ·obtain ⟨h1, h2⟩ := chkFs_ok h
  exact ⟨_, rfl, by simpa using h1, fun j f hj => by simpa using h2 j f hj⟩
 ·simpa [TKOK] using h
 ·cases h
def chkS (i : TI) : Bool := match i.sh with
 | none => true
 | some S => decide (S.size = i.size) && eqVs (zvals S) i.zero && (S.isAgg == i.isAgg)
theorem chkS_ok {i : TI} (h : chkS i = true) : ∀ S, i.sh = some S → S.size = i.size ∧ zvals S = i.zero ∧ S.isAgg = i.isAgg := by
 intro S hS
 unfold chkS at h
 rw [hS] at h
 simp only [Bool.and_eq_true, decide_eq_true_eq, beq_iff_eq] at h
 exact ⟨h.1.1, eqVs_ok h.1.2, h.2⟩
def chkT (P : Program) (t : TypeId) (i : TI) : Bool :=
  (match P.info? t with
   | some ti => decide (ti.size = i.size) && decide (ti.bytes = i.bytes) && (match ti.zero with | some z => eqVs z.cells.toList i.zero | none => false)
   | none => false) &&
  (match P.underlying t with | some d => chkK P i.tk d | none => false) && chkS i
theorem chkT_ok {P : Program} {t : TypeId} {i : TI} (h : chkT P t i = true) : TIOK P t i := by
 simp only [chkT, Bool.and_eq_true] at h
 obtain ⟨⟨h1, h2⟩, h3⟩ := h
 refine ⟨?_, ?_, chkS_ok h3⟩
 ·split at h1
  ·rename_i ti hti
   simp only [Bool.and_eq_true, decide_eq_true_eq] at h1
   obtain ⟨⟨a, b⟩, c⟩ := h1
   split at c
   ·rename_i z hz
    exact ⟨ti, hti, a, b, z, hz, eqVs_ok c⟩
   ·cases c
  ·cases h1
 ·split at h2
  ·rename_i d hd
   exact ⟨d, hd, chkK_ok h2⟩
  ·cases h2
def tyOf (n : Nat) (tr : Tr TI) : Ty := fun t => if t < n then tr.get t else none
def chkTy (P : Program) (tr : Tr TI) : Nat → Bool
 | 0 => true
 | n + 1 => chkTy P tr n && (match tr.get n with | some i => chkT P n i | none => true)
theorem chkTy_ok {P : Program} {tr : Tr TI} : ∀ {n : Nat}, chkTy P tr n = true → TyOK P (tyOf n tr)
 | 0, _, t, i, h => by simp [tyOf] at h
 | n + 1, hc, t, i, h => by
  simp only [chkTy, Bool.and_eq_true] at hc
  simp only [tyOf] at h
  split at h
  ·rename_i ht
   rcases Nat.lt_or_ge t n with hlt | hge
   ·exact chkTy_ok hc.1 t i (by simp only [tyOf]; rw [if_pos hlt]; exact h)
   ·obtain rfl : t = n := Nat.le_antisymm (Nat.lt_succ_iff.1 ht) hge
    have h2 := hc.2
    rw [h] at h2
    exact chkT_ok h2
  ·cases h
def chkFn (P : Program) (f : Nat) : Bool :=
 match P.funcs[f]? with
 | some fn => fn.body.isSome && !(fn.name == "runtime.NumGoroutine")
 | none => false
theorem chkFn_ok {P : Program} {f : Nat} (h : chkFn P f = true) : ∀ args w, (callFunc f args).run P w = .ok (.enter f args) w := by
 intro args w
 unfold chkFn at h
 split at h
 ·rename_i fn hfn
  simp only [Bool.and_eq_true, Bool.not_eq_true'] at h
  obtain ⟨h1, h2⟩ := h
  have h3 : fn.body.isNone = false := by cases hb : fn.body <;> simp_all
  simp only [callFunc, Sem.run_bind, run_program, Result.andThen_ok, hfn, h2, h3, Bool.false_eq_true, if_false, Sem.run_pure]
 ·cases h
def fnsOf (l : List Nat) : Nat → Bool := fun f => l.contains f
theorem chkFns_ok {P : Program} {l : List Nat} (h : (l.all fun f => chkFn P f) = true) : ∀ f, fnsOf l f = true → ∀ args w, (callFunc f args).run P w = .ok (.enter f args) w := by
 intro f hf
 rw [List.all_eq_true] at h
 exact chkFn_ok (h f (by simpa [fnsOf] using hf))
end Go.BE

/- A part of the proofs over this program: an abstract machine that the kernel evaluates, its soundness, and what the functions compute (Path). -/
import Derived.Test.YthdkgphnleibmaaDoorAeDrawB
namespace Go.AE
open Go.RowKit
section
variable {E : Ctx} {w w0 w' : World} {Z Z0 Z' : Nat → Prop} {β β' : Nat → Option Nat} {nx : Nat} {A B : AV} {v V U : Value} {a : Act} {as : List Act} {c : Cfg}
theorem frs_cons {F : AFr} {Fs : List AFr} {b : Act} {bs : List Act} {base : List Frame} : frs (F :: Fs) (b :: bs) ++ base = mkF F b :: (frs Fs bs ++ base) := rfl
theorem Below.trans' {w w1 w2 : World} (h : Below w.heap.size w w1) (k : Below w1.heap.size w1 w2) : Below w.heap.size w w2 :=
  h.trans ⟨k.os, k.tape, k.output, k.size, fun i hi => k.block i (Nat.lt_of_lt_of_le hi h.size)⟩
theorem replicate_und (n : Nat) : VRs w Z β (List.replicate n und) (List.replicate n undef) := by
  refine ⟨by simp, fun j x y hx hy => ?_⟩
  rw [List.getElem?_replicate] at hx hy
  split at hx
  · rename_i hj
    rw [if_pos hj] at hy
    injection hx with hx; injection hy with hy
    subst hx; subst hy
    exact .cr (.val _)
  · cases hx
/-- the frame that a call enters -/
theorem enter_ok {f : FuncId} {args : List AV} {vs : List Value} {F : AFr} (he : enter E f args = some F) (hr : VRs w Z β args vs) :
    ∃ b, Frame.enter E.P f vs.toArray .normal = mkF F b ∧ FrR w Z β F b ∧ F.fn = f := by
  unfold enter at he
  split at he
  · rename_i fn hfn
    split at he
    · rename_i code hb
      split at he
      · rename_i hl
        injection he with he
        subst he
        refine ⟨{ tmps := vs.toArray ++ Array.replicate (fn.ntmps - vs.toArray.size) undef, defers := [] }, ?_, ⟨rfl, ?_, fun t d h => by simp [dlook] at h⟩, rfl⟩
        · simp [Frame.enter, mkF, fb, Frame.at, hfn, hb]
        · simp only [Array.toList_append, Array.toList_replicate, List.size_toArray]
          rw [← hr.1]
          exact hr.append (replicate_und _)
      · cases he
    · cases he
  · cases he
theorem runOp_sound {base : List Frame} (hE : EOK E) (hS : StOK E w0 Z0 c a as w Z β) {ops : Array Oper} {i : Nat} {o : Oper} {rest : List Nat} {k : List Item} {dec : List (Nat × Bool)} {ds ds' : List Bool} {C : List Prop} {f : Fin}
    (ht : c.cur.todo = .inRegion ops (i :: rest) :: k) (ho : ops[i]? = some o) (hw : Region.wanted o (yielded ops a.tmps) = true) (hdec : ∀ t d, dlook dec t = some d → a.tmps[t]? = some (.bool d))
    (he : runOp E c ops o rest k dec ds = some (C, f, ds')) (hC : AllP C) : FinOK E w0 Z0 base c a as w Z f := by
  have hev : ∀ x, VR w Z β (ev E c.cur.fr x) (a.eval x) := fun x => ev_rel hS.gl hS.cur x
  have hmk : mkF c.cur a = (fb c.cur.fn).at a (.inRegion ops (i :: rest) :: k) := by simp [mkF, ht]
  unfold runOp at he
  split at he
  · rename_i x y z hop
    split at he
    · rename_i b hb
      split at he
      · rename_i d C' dec' ds'' hd
        simp only [Option.some.injEq, Prod.mk.injEq] at he
        obtain ⟨rfl, rfl, rfl⟩ := he
        obtain ⟨rfl, hdec'⟩ := decide1_ok hdec (asB_key hS.cur hb) hd hC
        have hv := asB_inv (hev x) hb
        have hrun : (execOp a.eval o).run E.P w = .ok (.value (a.eval (if b then y else z))) w := by
          simp only [execOp, hop, hv, asBool, Sem.run_bind, Sem.run_pure, Result.andThen_ok]
          cases b <;> rfl
        refine ⟨a.put o.dst (a.eval (if b then y else z)), as, w, Z, β, ⟨hS.cur.fin hdec' (hev _), hS.callers, hS.mem, hS.gl⟩, Stay.refl _ _, by first | rfl | (cases c.callers <;> rfl), ?_⟩
        rw [hmk]
        exact .one (op_value ho hw hrun)
      · cases he
    · cases he
  · rename_i hnp
    have hop := aop_sound (Z0 := Z0) hE.ty hS.mem hev o
    split at he
    · rename_i C' x hx
      simp only [Option.some.injEq, Prod.mk.injEq] at he
      obtain ⟨rfl, rfl, rfl⟩ := he
      rw [hx] at hop
      obtain ⟨v, h1, h2⟩ := hop hC
      refine ⟨a.put o.dst v, as, w, Z, β, ⟨hS.cur.fin hdec h2, hS.callers, hS.mem, hS.gl⟩, Stay.refl _ _, by first | rfl | (cases c.callers <;> rfl), ?_⟩
      rw [hmk]
      exact .one (op_value ho hw h1)
    · rename_i C' h' hx
      simp only [Option.some.injEq, Prod.mk.injEq] at he
      obtain ⟨rfl, rfl, rfl⟩ := he
      rw [hx] at hop
      obtain ⟨w', h1, h2, h3⟩ := hop hC
      refine ⟨a.put o.dst undef, as, w', Z, β, ⟨(hS.cur.mono h2 (fun _ _ h => h)).fin hdec (.cr (.val _)), hS.callers.mono h2 (fun _ _ h => h), h3, hS.gl.mono h2⟩, h2, by cases c.callers <;> rfl, ?_⟩
      rw [hmk]
      exact .one (op_skipv ho hw h1)
    · rename_i cs mk hx
      simp only [Option.some.injEq, Prod.mk.injEq] at he
      obtain ⟨rfl, rfl, rfl⟩ := he
      rw [hx] at hop
      obtain ⟨arr, e, v, h1, h2, h3⟩ := hop
      obtain ⟨h4, h5⟩ := hS.mem.new arr e h2
      have hβ := βnew_old (b := w.heap.size) hS.mem.heap.fresh
      refine ⟨a.put o.dst v, as, _, Z, _, ⟨(hS.cur.mono h4 hβ).fin hdec (h3 _ _ _ (by simp [βnew])), hS.callers.mono h4 hβ, h5, hS.gl.mono h4⟩, h4, by cases c.callers <;> rfl, ?_⟩
      rw [hmk]
      exact .one (op_value ho hw h1)
    · rename_i g args hx
      rw [hx] at hop
      obtain ⟨vs, h1, h2⟩ := hop
      split at he
      · rename_i hg
        have hrun : (execOp a.eval o).run E.P w = .ok (.enter g vs.toArray) w := by rw [h1]; exact hE.fns g hg _ w
        split at he
        · rename_i r hr
          simp only [Option.some.injEq, Prod.mk.injEq] at he
          obtain ⟨rfl, rfl, rfl⟩ := he
          split at hr
          · rename_i hcl
            have hvs : VRs w Z (fun _ => none) args vs := ⟨h2.1, fun j x y hx hy => .cr ((h2.2 j x y hx hy).toCR (closedAll_at hcl j x hx))⟩
            have hcall := hE.env g args r hcl hr (by simpa [AllP] using hC) w Z vs hS.gl hS.mem.zlt hvs
            obtain ⟨e, w', fr, ⟨v, Z', rfl, q1, q2, q3, q4, q5⟩, hcomes, hfn, hleave⟩ := hcall (mkF c.cur a :: (frs c.callers as ++ base))
            obtain ⟨h3, h4⟩ := hS.mem.call q1 q2 q3 q4
            refine ⟨a.put o.dst v, as, w', Z', β, ⟨(hS.cur.mono h3 (fun _ _ h => h)).fin hdec (.cr q5), hS.callers.mono h3 (fun _ _ h => h), h4, hS.gl.mono h3⟩, h3, by cases c.callers <;> rfl, ?_⟩
            rw [hmk] at hcomes ⊢
            exact .head (op_enter ho hw hrun) (Steps.trans hcomes (.one (op_back ho hleave)))
          · cases hr
        · split at he
          · rename_i F hF
            simp only [Option.some.injEq, Prod.mk.injEq] at he
            obtain ⟨rfl, rfl, rfl⟩ := he
            obtain ⟨b, e1, e2, e3⟩ := enter_ok hF h2
            refine ⟨b, a :: as, w, Z, β, ⟨e2, ⟨⟨hS.cur.defers, hS.cur.tmps, hdec⟩, hS.callers⟩, hS.mem, hS.gl⟩, Stay.refl _ _, by first | rfl | (cases c.callers <;> rfl), ?_⟩
            rw [frs_cons, ← e1]
            have : mkF { c.cur with dec := dec } a = mkF c.cur a := rfl
            rw [this, hmk]
            exact .one (op_enter ho hw hrun)
          · cases he
      · cases he
    · cases he
theorem aload_addr {h : Heap} {t : TypeId} {x : AV} (he : aload E h t A = some x) (hA : VR w Z β A V) : ∃ ad, V = .pointer (some ad) := by
  unfold aload at he
  split at he
  · obtain ⟨b, o, hv, _⟩ := hA.rop_inv
    exact ⟨_, hv⟩
  · obtain ⟨b, _, hv⟩ := hA.ref_inv
    exact ⟨_, hv⟩
  · cases he
def resOne (arr : Array Value) : ResultVar → Sem Value
  | .tmp t => pure (arr.getD t undef)
  | .cell a t => do loadVar t (← asAddr (arr.getD a undef))
theorem results_eq (fn : Func) (arr : Array Value) : results fn arr = (do let vs ← fn.results.mapM (resOne arr); pure (if h : vs.size = 1 then vs[0] else .tuple vs)) := by
  unfold results
  have : (fun (x : ResultVar) => match x with | .tmp t => (pure (arr.getD t undef) : Sem Value) | .cell a t => do loadVar t (← asAddr (arr.getD a undef))) = resOne arr := by funext x; cases x <;> rfl
  rw [← this]
  rfl
theorem aresults_sound (hT : TyOK E.P E.ty) {h : Heap} (hm : MemR w0 Z0 w Z β h nx) {fr : List AV} {arr : Array Value} (hf : VRs w Z β fr arr.toList) : ∀ {rs : List ResultVar} {vs : List AV}, aresults E h fr rs = some vs →
    ∃ us : List Value, (rs.mapM (resOne arr)).run E.P w = .ok us w ∧ VRs w Z β vs us
  | [], vs, he => by
    simp only [aresults, Option.some.injEq] at he
    subst he
    exact ⟨[], rfl, .nil⟩
  | .tmp t :: rs, vs, he => by
    simp only [aresults] at he
    split at he
    · rename_i l hl
      injection he with he
      subst he
      obtain ⟨us, h1, h2⟩ := aresults_sound hT hm hf hl
      exact ⟨arr.getD t undef :: us, by simp only [List.mapM_cons, resOne, Sem.run_bind, Sem.run_pure, Result.andThen_ok, h1], .cons (lget_rel hf) h2⟩
    · cases he
  | .cell x t :: rs, vs, he => by
    simp only [aresults] at he
    split at he
    · rename_i v l hv hl
      injection he with he
      subst he
      obtain ⟨us, h1, h2⟩ := aresults_sound hT hm hf hl
      obtain ⟨ad, had⟩ := aload_addr hv (lget_rel (t := x) hf)
      obtain ⟨u, h3, h4⟩ := aload_sound hT hm.heap hv (lget_rel (t := x) hf)
      rw [had] at h3
      simp only [Instr.loadAt, Instr.sureAddr, Sem.run_bind, Sem.run_pure, Result.andThen_ok] at h3
      exact ⟨u :: us, by simp only [List.mapM_cons, resOne, Sem.run_bind, Sem.run_pure, Result.andThen_ok, had, asAddr, h3, h1], .cons h4 h2⟩
    · cases he
theorem results_sound (hT : TyOK E.P E.ty) {h : Heap} (hm : MemR w0 Z0 w Z β h nx) {fr : List AV} {arr : Array Value} (hf : VRs w Z β fr arr.toList) {fn : Func} {vs : List AV} (he : aresults E h fr fn.results.toList = some vs) :
    ∃ V, (results fn arr).run E.P w = .ok V w ∧ VR w Z β (retv vs) V := by
  obtain ⟨us, h1, h2⟩ := aresults_sound hT hm hf he
  refine ⟨if h : us.toArray.size = 1 then us.toArray[0] else .tuple us.toArray, ?_, ?_⟩
  · rw [results_eq, Sem.run_bind, Array.mapM_eq_mapM_toList, Sem.run_map, h1]
    rfl
  · cases us with
    | nil =>
      have : vs = [] := List.eq_nil_of_length_eq_zero (by simpa using h2.1)
      subst this
      exact .tup _ _ rfl (fun j x y hx => by simp at hx)
    | cons u us =>
      cases vs with
      | nil => simp [VRs] at h2
      | cons x vs =>
        cases us with
        | nil =>
          have : vs = [] := List.eq_nil_of_length_eq_zero (by have := h2.1; simp at this; simpa using this)
          subst this
          exact h2.head
        | cons u' us =>
          cases vs with
          | nil => simp [VRs] at h2
          | cons x' vs => exact .tup _ _ (by simpa using h2.1) (fun j p q hp hq => h2.2 j p q hp (by simpa using hq))
theorem leave_sound {base : List Frame} (hE : EOK E) (hS : StOK E w0 Z0 c a as w Z β) {ds ds' : List Bool} {C : List Prop} {f : Fin} {todo : List Item}
    (hst : ∀ fs, Steps E.P (lone (mkF c.cur a) fs w) (lone { (fb c.cur.fn).at a todo with mode := .returning } fs w)) (he : leave E c ds = some (C, f, ds')) : FinOK E w0 Z0 base c a as w Z f := by
  unfold leave at he
  split at he
  · cases he
  · rename_i fn hfn
    split at he
    · cases he
    · rename_i vs hvs
      obtain ⟨V, h1, h2⟩ := results_sound hE.ty hS.mem hS.cur.tmps hvs
      have hl : ({ (fb c.cur.fn).at a todo with mode := .returning } : Frame).leaving E.P w (.returned V) := ⟨rfl, hS.cur.defers, rfl, fn, hfn, h1⟩
      have hcs := hS.callers
      split at he
      · rename_i hc
        simp only [Option.some.injEq, Prod.mk.injEq] at he
        obtain ⟨rfl, rfl, rfl⟩ := he
        rw [hc] at hcs
        cases as with
        | cons => exact hcs.elim
        | nil =>
          refine ⟨V, w, Z, β, _, h2, Stay.refl _ _, ⟨_, hS.mem⟩, ?_, ?_, hl⟩
          · rw [hc]
            exact hst base
          · rw [hc]
            rfl
      · rename_i F Fs hc
        rw [hc] at hcs
        cases as with
        | nil => exact hcs.elim
        | cons b bs =>
          obtain ⟨hF, hFs⟩ := hcs
          split at he
          · rename_i ops i rest k htodo
            split at he
            · rename_i o ho
              simp only [Option.some.injEq, Prod.mk.injEq] at he
              obtain ⟨rfl, rfl, rfl⟩ := he
              have hmk : mkF F b = (fb F.fn).at b (.inRegion ops (i :: rest) :: k) := by simp [mkF, htodo]
              refine ⟨b.put o.dst V, bs, w, Z, β, ⟨hF.fin hF.dec h2, hFs, hS.mem, hS.gl⟩, Stay.refl _ _, ?_, ?_⟩
              · rw [hc]
                cases Fs <;> rfl
              · rw [hc, frs_cons, hmk]
                exact (hst _).trans (.one (op_back ho hl))
            · cases he
          · cases he
theorem todo_sound {base : List Frame} (hS : StOK E w0 Z0 c a as w Z β) {t : List Item} (hst : ∀ fs, step E.P (lone (mkF c.cur a) fs w) = .next (lone ((fb c.cur.fn).at a t) fs w)) {ds ds' : List Bool} {C : List Prop} {f : Fin} (he : todoC c t ds = some (C, f, ds')) : FinOK E w0 Z0 base c a as w Z f := by
  unfold todoC at he
  simp only [Option.some.injEq, Prod.mk.injEq] at he
  obtain ⟨rfl, rfl, rfl⟩ := he
  exact ⟨a, as, w, Z, β, ⟨⟨hS.cur.defers, hS.cur.tmps, hS.cur.dec⟩, hS.callers, hS.mem, hS.gl⟩, Stay.refl _ _, by cases c.callers <;> rfl, .one (hst _)⟩
theorem yielded_at {ops : Array Oper} {j t : Nat} (hj : (ops[j]?).bind (·.dst) = some t) : yielded ops a.tmps j = match a.tmps[t]? with | some (.bool b) => some b | _ => none := by
  unfold yielded
  rw [hj]
  rfl
theorem astep_sound {base : List Frame} (hE : EOK E) (hS : StOK E w0 Z0 c a as w Z β) {ds ds' : List Bool} {C : List Prop} {f : Fin} (he : astep E ds c = some (C, f, ds')) (hC : AllP C) : FinOK E w0 Z0 base c a as w Z f := by
  have hev : ∀ x, VR w Z β (ev E c.cur.fr x) (a.eval x) := fun x => ev_rel hS.gl hS.cur x
  unfold astep at he
  split at he
  · rename_i ht
    exact leave_sound (todo := []) hE hS (fun fs => by simp only [mkF, ht]; exact .one step_end) he
  · rename_i k ht
    exact leave_sound (todo := .code .ret :: k) hE hS (fun fs => by simp only [mkF, ht]; exact .one step_ret) he
  · rename_i k ht
    exact todo_sound hS (fun fs => by simp only [mkF, ht]; exact step_skip) he
  · rename_i l k ht
    exact todo_sound hS (fun fs => by simp only [mkF, ht]; exact step_label) he
  · rename_i l k ht
    exact todo_sound hS (fun fs => by simp only [mkF, ht]; exact step_inBlock) he
  · rename_i x y k ht
    exact todo_sound hS (fun fs => by simp only [mkF, ht]; exact step_seq) he
  · rename_i x y z k ht
    split at he
    · rename_i b hb
      split at he
      · rename_i d C' dec' ds'' hd
        simp only [Option.some.injEq, Prod.mk.injEq] at he
        obtain ⟨rfl, rfl, rfl⟩ := he
        obtain ⟨rfl, hdec'⟩ := decide1_ok hS.cur.dec (asB_key hS.cur hb) hd hC
        have hv := asB_inv (hev x) hb
        refine ⟨a, as, w, Z, β, ⟨⟨hS.cur.defers, hS.cur.tmps, hS.cur.dec⟩, hS.callers, hS.mem, hS.gl⟩, Stay.refl _ _, by cases c.callers <;> rfl, ?_⟩
        simp only [mkF, ht]
        exact .one (step_cond hv)
      · cases he
    · cases he
  · rename_i l x k ht
    exact todo_sound hS (fun fs => by simp only [mkF, ht]; exact step_block) he
  · rename_i x k ht
    exact todo_sound hS (fun fs => by simp only [mkF, ht]; exact step_loop) he
  · rename_i x k ht
    exact todo_sound hS (fun fs => by simp only [mkF, ht]; exact step_inLoop) he
  · rename_i l k ht
    split at he
    · rename_i k' hk
      exact todo_sound hS (fun fs => by simp only [mkF, ht]; exact step_exit hk) he
    · cases he
  · rename_i l ops k ht
    simp only [Option.some.injEq, Prod.mk.injEq] at he
    obtain ⟨rfl, rfl, rfl⟩ := he
    refine ⟨a, as, w, Z, β, ⟨⟨hS.cur.defers, hS.cur.tmps, fun t d h => by simp [dlook] at h⟩, hS.callers, hS.mem, hS.gl⟩, Stay.refl _ _, by cases c.callers <;> rfl, ?_⟩
    simp only [mkF, ht]
    exact .one step_region
  · rename_i l ops k ht
    split at he
    · rename_i C' fr' h' ds'' hd
      simp only [Option.some.injEq, Prod.mk.injEq] at he
      obtain ⟨rfl, rfl, rfl⟩ := he
      have hst : Stay w Z { w with drawn := w.drawn + 1 } Z := ⟨fun _ _ => rfl, fun _ h => h⟩
      have hm : MemR w0 Z0 { w with drawn := w.drawn + 1 } Z β c.h c.nx := ⟨⟨fun r cs hg => by
        obtain ⟨b, h1, h2⟩ := hS.mem.heap.row r cs hg
        obtain ⟨arr, e, h3, h4⟩ := h2.row
        exact ⟨b, h1, h2.lo, h2.nz, arr, e, h3, h4.mono hst (fun _ _ h => h)⟩, hS.mem.heap.inj, hS.mem.heap.fresh, hS.mem.heap.keys⟩, hS.mem.zlt, hS.mem.zin, ⟨hS.mem.below.os, hS.mem.below.tape, hS.mem.below.output, hS.mem.below.size, hS.mem.below.block⟩⟩
      obtain ⟨a', w', Z', β', q1, q2, q3, q4, q5, q6⟩ := adraw_sound hE hm (hS.gl.mono hst) (hS.cur.tmps.mono hst (fun _ _ h => h)) hd hC (fb c.cur.fn) k (frs c.callers as ++ base) (w.tape w.drawn (.order c.cur.fn l))
      refine ⟨a', as, w', Z', β', ⟨⟨q1.trans hS.cur.defers, q2, fun t d h => by simp [dlook] at h⟩, (hS.callers.mono hst (fun _ _ h => h)).mono q3 q4, q5, (hS.gl.mono hst).mono q3⟩, hst.trans q3, by cases c.callers <;> rfl, ?_⟩
      refine .head ?_ q6
      have := step_region_draw (P := E.P) (b := fb c.cur.fn) (a := a) (k := k) (cs := frs c.callers as ++ base) (w := w) (ops := ops) (id := l)
      simp only [Region.schedule, hE.mixed, Bool.true_or, if_true] at this
      simp only [mkF, ht]
      exact this
    · cases he
  · rename_i ops k ht
    exact todo_sound hS (fun fs => by simp only [mkF, ht]; exact step_region_end) he
  · rename_i ops i rest k ht
    split at he
    · cases he
    · rename_i o ho
      split at he
      · rename_i hg
        exact runOp_sound hE hS ht ho (by simp [Region.wanted, hg]) hS.cur.dec he hC
      · rename_i j want hg
        split at he
        · cases he
        · rename_i t hj
          have hskip : (((ops[i]?).map (Region.wanted · (yielded ops a.tmps))).getD false = false) → FinOK E w0 Z0 base c a as w Z (.at_ { c with cur := c.cur.fin ops o.dst rest k und c.cur.dec }) := by
            intro hw
            refine ⟨a.put o.dst undef, as, w, Z, β, ⟨hS.cur.fin hS.cur.dec (.cr (.val _)), hS.callers, hS.mem, hS.gl⟩, Stay.refl _ _, by cases c.callers <;> rfl, ?_⟩
            have := step_op_skip (P := E.P) (b := fb c.cur.fn) (a := a) (k := k) (cs := frs c.callers as ++ base) (w := w) (ops := ops) (i := i) (rest := rest) hw
            rw [ho] at this
            simp only [mkF, ht]
            exact .one this
          split at he
          · rename_i b hb
            have hbt := lget_val hS.cur.tmps hb
            rw [Array.getElem?_toList] at hbt
            split at he
            · rename_i d C1 dec1 ds1 hd
              split at he
              · rename_i hdw
                split at he
                · rename_i C2 f2 ds2 hr
                  simp only [Option.some.injEq, Prod.mk.injEq] at he
                  obtain ⟨rfl, rfl, rfl⟩ := he
                  rw [AllP.append] at hC
                  obtain ⟨rfl, hdec'⟩ := decide1_ok hS.cur.dec (fun u hu => by injection hu with hu; subst hu; exact hbt) hd hC.1
                  refine runOp_sound hE hS ht ho ?_ hdec' hr hC.2
                  simp only [Region.wanted, hg, yielded_at hj, hbt, hdw]
                  simp
                · cases he
              · rename_i hdw
                simp only [Option.some.injEq, Prod.mk.injEq] at he
                obtain ⟨rfl, rfl, rfl⟩ := he
                obtain ⟨rfl, hdec'⟩ := decide1_ok hS.cur.dec (fun u hu => by injection hu with hu; subst hu; exact hbt) hd hC
                have hw : ((ops[i]?).map (Region.wanted · (yielded ops a.tmps))).getD false = false := by
                  simp only [ho, Option.map_some, Option.getD_some, Region.wanted, hg, yielded_at hj, hbt]
                  simpa using hdw
                refine ⟨a.put o.dst undef, as, w, Z, β, ⟨hS.cur.fin hdec' (.cr (.val _)), hS.callers, hS.mem, hS.gl⟩, Stay.refl _ _, by cases c.callers <;> rfl, ?_⟩
                have := step_op_skip (P := E.P) (b := fb c.cur.fn) (a := a) (k := k) (cs := frs c.callers as ++ base) (w := w) (ops := ops) (i := i) (rest := rest) hw
                rw [ho] at this
                simp only [mkF, ht]
                exact .one this
            · cases he
          · rename_i vs hb
            simp only [Option.some.injEq, Prod.mk.injEq] at he
            obtain ⟨rfl, rfl, rfl⟩ := he
            have hbt := lget_val hS.cur.tmps hb
            rw [Array.getElem?_toList] at hbt
            refine hskip ?_
            simp only [ho, Option.map_some, Option.getD_some, Region.wanted, hg, yielded_at hj, hbt]
            rfl
          · cases he
  · cases he
theorem apath_sound {base : List Frame} (hE : EOK E) : ∀ (n : Nat) {c : Cfg} {a : Act} {as : List Act} {w : World} {Z : Nat → Prop} {β : Nat → Option Nat} {ds ds' : List Bool} {C : List Prop} {f : Fin}, StOK E w0 Z0 c a as w Z β →
    apath E n ds c = some (C, f, ds') → AllP C → FinOK E w0 Z0 base c a as w Z f
  | 0, c, a, as, w, Z, β, ds, ds', C, f, hS, he, _ => by
    simp only [apath, Option.some.injEq, Prod.mk.injEq] at he
    obtain ⟨rfl, rfl, rfl⟩ := he
    exact ⟨a, as, w, Z, β, hS, Stay.refl _ _, rfl, .refl _ _⟩
  | n + 1, c, a, as, w, Z, β, ds, ds', C, f, hS, he, hC => by
    simp only [apath] at he
    split at he
    · rename_i C1 c1 ds1 h1
      split at he
      · rename_i C2 f2 ds2 h2
        simp only [Option.some.injEq, Prod.mk.injEq] at he
        obtain ⟨rfl, rfl, rfl⟩ := he
        rw [AllP.append] at hC
        obtain ⟨a1, as1, w1, Z1, β1, hS1, hst1, hb1, hs1⟩ := astep_sound (base := base) hE hS h1 hC.1
        have h3 := apath_sound (base := base) hE n hS1 h2 hC.2
        cases f2 with
        | at_ c2 =>
          obtain ⟨a2, as2, w2, Z2, β2, hS2, hst2, hb2, hs2⟩ := h3
          exact ⟨a2, as2, w2, Z2, β2, hS2, hst1.trans hst2, hb2.trans hb1, hs1.trans hs2⟩
        | ret x h =>
          obtain ⟨V, w2, Z2, β2, fr, k1, k2, k3, k4, k5, k6⟩ := h3
          exact ⟨V, w2, Z2, β2, fr, k1, hst1.trans k2, k3, hs1.trans k4, k5.trans hb1, k6⟩
      · cases he
    · rename_i C1 v h ds1 h1
      simp only [Option.some.injEq, Prod.mk.injEq] at he
      obtain ⟨rfl, rfl, rfl⟩ := he
      exact astep_sound hE hS h1 hC
    · cases he
end
end Go.AE

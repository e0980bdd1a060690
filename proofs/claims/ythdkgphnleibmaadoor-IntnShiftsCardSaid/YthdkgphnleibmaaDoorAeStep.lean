/- A part of the proofs over this program: an abstract machine that the kernel evaluates, its soundness, and what the functions compute (Step). -/
import Derived.Test.YthdkgphnleibmaaDoorAeOps5
namespace Go.AE
open Go.RowKit
def fb (f : FuncId) : Frame := { (default : Frame) with fn := f, kind := .normal }
def mkF (F : AFr) (a : Act) : Frame := (fb F.fn).at a F.todo
def frs : List AFr → List Act → List Frame
  | F :: Fs, a :: as => mkF F a :: frs Fs as
  | _, _ => []
structure FrR (w : World) (Z : Nat → Prop) (β : Nat → Option Nat) (F : AFr) (a : Act) : Prop where
  defers : a.defers = []
  tmps : VRs w Z β F.fr a.tmps.toList
  dec : ∀ t d, dlook F.dec t = some d → a.tmps[t]? = some (.bool d)
def CsR (w : World) (Z : Nat → Prop) (β : Nat → Option Nat) : List AFr → List Act → Prop
  | [], [] => True
  | F :: Fs, a :: as => FrR w Z β F a ∧ CsR w Z β Fs as
  | _, _ => False
def GlR (E : Ctx) (w : World) (Z : Nat → Prop) : Prop := ∀ g cs, E.gl g = some cs → CR w Z (.rop cs 0) (.pointer (some ⟨g, 0, none⟩))
structure StOK (E : Ctx) (w0 : World) (Z0 : Nat → Prop) (c : Cfg) (a : Act) (as : List Act) (w : World) (Z : Nat → Prop) (β : Nat → Option Nat) : Prop where
  cur : FrR w Z β c.cur a
  callers : CsR w Z β c.callers as
  mem : MemR w0 Z0 w Z β c.h c.nx
  gl : GlR E w Z
def EnvOK (E : Ctx) : Prop := ∀ f args r, closedAll args = true → E.env f args = some r → r.pre → ∀ (w : World) (Z : Nat → Prop) (vs : List Value), GlR E w Z → (∀ b, Z b → b < w.heap.size) →
  VRs w Z (fun _ => none) args vs → Calls E.P f vs.toArray w fun e w' => ∃ v Z', e = .returned v ∧ Below w.heap.size w w' ∧ (∀ b, Z b → Z' b) ∧ (∀ b, Z' b → Z b ∨ w.heap.size ≤ b) ∧ (∀ b, Z' b → b < w'.heap.size) ∧ CR w' Z' r.res v
def FnsOK (E : Ctx) : Prop := ∀ f, E.fns f = true → ∀ args w, (callFunc f args).run E.P w = .ok (.enter f args) w
structure EOK (E : Ctx) : Prop where
  ty : TyOK E.P E.ty
  env : EnvOK E
  fns : FnsOK E
  mixed : E.P.follows .mixedOrders = true
section
variable {P : Program} {E : Ctx} {w w0 w' : World} {Z Z0 Z' : Nat → Prop} {β β' : Nat → Option Nat} {N0 nx : Nat} {h : Heap} {A B : AV} {v V U : Value} {cs ds : List AV} {vs us : List Value} {F : AFr} {Fs : List AFr} {a : Act} {as : List Act}
theorem FrR.mono (hs : Stay w Z w' Z') (hβ : ∀ r b, β r = some b → β' r = some b) (h : FrR w Z β F a) : FrR w' Z' β' F a := ⟨h.defers, h.tmps.mono hs hβ, h.dec⟩
theorem CsR.mono (hs : Stay w Z w' Z') (hβ : ∀ r b, β r = some b → β' r = some b) : ∀ {Fs : List AFr} {as : List Act}, CsR w Z β Fs as → CsR w' Z' β' Fs as
  | [], [], _ => trivial
  | _ :: _, _ :: _, h => ⟨h.1.mono hs hβ, CsR.mono hs hβ h.2⟩
theorem GlR.mono (hs : Stay w Z w' Z') (h : GlR E w Z) : GlR E w' Z' := fun g cs hg => (h g cs hg).mono hs
theorem lget_val {t : Nat} {u : Value} {l : List AV} {vs : List Value} (h : VRs w Z β l vs) (hl : lget l t = .val u) : vs[t]? = some u := by
  unfold lget at hl
  rw [List.getD_eq_getElem?_getD] at hl
  cases hx : l[t]? with
  | none => rw [hx] at hl; simp at hl
  | some x =>
    rw [hx] at hl
    simp only [Option.getD_some] at hl
    subst hl
    obtain ⟨v, h1, h2⟩ := h.get hx
    rw [h1, h2.val_inv]
theorem lget_rel {t : Nat} {l : List AV} {arr : Array Value} (h : VRs w Z β l arr.toList) : VR w Z β (lget l t) (arr.getD t undef) := by
  unfold lget
  rw [List.getD_eq_getElem?_getD]
  cases hx : l[t]? with
  | none => exact .bad _
  | some x =>
    obtain ⟨v, h1, h2⟩ := h.get hx
    rw [Array.getElem?_toList] at h1
    rw [Array.getD_eq_getD_getElem?, h1]
    exact h2
theorem ev_rel (hg : GlR E w Z) (hf : FrR w Z β F a) (x : Operand) : VR w Z β (ev E F.fr x) (a.eval x) := by
  cases x with
  | tmp t => exact lget_rel hf.tmps
  | const v =>
    simp only [ev, Act.eval]
    unfold cval
    split
    · rename_i cs
      exact .agg _ _ (by simp) (fun j x y hx hy => (VRs.vals cs.toList).2 j x y hx (by simpa using hy))
    · exact .cr (.val _)
  | global g =>
    simp only [ev, Act.eval]
    split
    · rename_i cs hcs
      exact .cr (hg g cs hcs)
    · exact .bad _
  | func f => exact .cr (.fn f [] #[] rfl (fun j a v h => by simp at h))

/-! ### one operation in the machine -/
theorem op_value {b : Frame} {k : List Item} {fs : List Frame} {ops : Array Oper} {i : Nat} {rest : List Nat} {o : Oper} (ho : ops[i]? = some o) (hw : Region.wanted o (yielded ops a.tmps) = true)
    (hr : (execOp a.eval o).run P w = .ok (.value v) w') : step P (lone (b.at a (.inRegion ops (i :: rest) :: k)) fs w) = .next (lone (b.at (a.put o.dst v) (.inRegion ops rest :: k)) fs w') := by
  have hg := stepG_op (P := P) (b := b) (k := k) (cs := fs) (w := w) (rest := rest) ho hw
  have hfin : (b.at a (.inRegion ops (i :: rest) :: k)).finish v = b.at (a.put o.dst v) (.inRegion ops rest :: k) := by rw [Frame.finish_at, ho]; rfl
  refine step_lone_go ?_
  rw [hg, ← hfin]
  simp [stepG.apply, hr]
theorem op_skipv {b : Frame} {k : List Item} {fs : List Frame} {ops : Array Oper} {i : Nat} {rest : List Nat} {o : Oper} (ho : ops[i]? = some o) (hw : Region.wanted o (yielded ops a.tmps) = true)
    (hr : (execOp a.eval o).run P w = .ok .skip w') : step P (lone (b.at a (.inRegion ops (i :: rest) :: k)) fs w) = .next (lone (b.at (a.put o.dst undef) (.inRegion ops rest :: k)) fs w') := by
  have hg := stepG_op (P := P) (b := b) (k := k) (cs := fs) (w := w) (rest := rest) ho hw
  have hfin : (b.at a (.inRegion ops (i :: rest) :: k)).finish undef = b.at (a.put o.dst undef) (.inRegion ops rest :: k) := by rw [Frame.finish_at, ho]; rfl
  refine step_lone_go ?_
  rw [hg, ← hfin]
  simp [stepG.apply, hr]
theorem op_enter {b : Frame} {k : List Item} {fs : List Frame} {ops : Array Oper} {i : Nat} {rest : List Nat} {o : Oper} {f : FuncId} {args : Array Value} (ho : ops[i]? = some o) (hw : Region.wanted o (yielded ops a.tmps) = true)
    (hr : (execOp a.eval o).run P w = .ok (.enter f args) w') : step P (lone (b.at a (.inRegion ops (i :: rest) :: k)) fs w) = .next (lone (Frame.enter P f args .normal) (b.at a (.inRegion ops (i :: rest) :: k) :: fs) w') := by
  have hg := stepG_op (P := P) (b := b) (k := k) (cs := fs) (w := w) (rest := rest) ho hw
  refine step_lone_go ?_
  rw [hg]
  simp [stepG.apply, hr, Frame.at]
theorem op_back {b : Frame} {k : List Item} {fs : List Frame} {ops : Array Oper} {i : Nat} {rest : List Nat} {o : Oper} {fr : Frame} (ho : ops[i]? = some o) (hl : fr.leaving P w (.returned v)) :
    step P (lone fr (b.at a (.inRegion ops (i :: rest) :: k) :: fs) w) = .next (lone (b.at (a.put o.dst v) (.inRegion ops rest :: k)) fs w) := by
  have hfin : (b.at a (.inRegion ops (i :: rest) :: k)).finish v = b.at (a.put o.dst v) (.inRegion ops rest :: k) := by rw [Frame.finish_at, ho]; rfl
  rw [← hfin]
  exact step_leave_returned hl

theorem dlook_dropD {l : List (Nat × Bool)} {t u : Nat} {d : Bool} (h : dlook (dropD l t) u = some d) : u ≠ t ∧ dlook l u = some d := by
  induction l with
  | nil => simp [dropD, dlook] at h
  | cons x l ih =>
    obtain ⟨k, b⟩ := x
    simp only [dropD] at h
    split at h
    · rename_i hk
      obtain ⟨h1, h2⟩ := ih h
      refine ⟨h1, ?_⟩
      simp only [dlook]
      rw [if_neg (by omega)]
      exact h2
    · rename_i hk
      simp only [dlook] at h ⊢
      split at h
      · rename_i hu
        subst hu
        exact ⟨fun h => hk h, by simpa using h⟩
      · rename_i hu
        obtain ⟨h1, h2⟩ := ih h
        exact ⟨h1, by rw [if_neg hu]; exact h2⟩
/-- the frame behind an operation's value -/
theorem FrR.fin (hf : FrR w Z β F a) {ops : Array Oper} {dst : Option Tmp} {rest : List Nat} {k : List Item} {dec : List (Nat × Bool)} (hd : ∀ t d, dlook dec t = some d → a.tmps[t]? = some (.bool d)) (hv : VR w Z β A v) :
    FrR w Z β (F.fin ops dst rest k A dec) (a.put dst v) := by
  cases dst with
  | none => exact ⟨hf.defers, hf.tmps, hd⟩
  | some t =>
    refine ⟨hf.defers, ?_, fun u d hu => ?_⟩
    · simp only [AFr.fin, putT, Act.put, Array.toList_setIfInBounds]
      exact hf.tmps.set t hv
    · simp only [AFr.fin] at hu
      obtain ⟨h1, h2⟩ := dlook_dropD hu
      simp only [Act.put]
      rw [Array.getElem?_setIfInBounds_ne (Ne.symm h1)]
      exact hd u d h2

def botFn : AFr → List AFr → FuncId
  | F, [] => F.fn
  | _, G :: Gs => botFn G Gs
def FinOK (E : Ctx) (w0 : World) (Z0 : Nat → Prop) (base : List Frame) (c : Cfg) (a : Act) (as : List Act) (w : World) (Z : Nat → Prop) : Fin → Prop
  | .at_ c' => ∃ a' as' w' Z' β', StOK E w0 Z0 c' a' as' w' Z' β' ∧ Stay w Z w' Z' ∧ botFn c'.cur c'.callers = botFn c.cur c.callers ∧ Steps E.P (lone (mkF c.cur a) (frs c.callers as ++ base) w) (lone (mkF c'.cur a') (frs c'.callers as' ++ base) w')
  | .ret A h => ∃ V w' Z' β' fr, VR w' Z' β' A V ∧ Stay w Z w' Z' ∧ (∃ nx, MemR w0 Z0 w' Z' β' h nx) ∧ Steps E.P (lone (mkF c.cur a) (frs c.callers as ++ base) w) (lone fr base w') ∧ fr.fn = botFn c.cur c.callers ∧ fr.leaving E.P w' (.returned V)

theorem decide1_ok {dec dec' : List (Nat × Bool)} {key : Option Nat} {b d : Bool} {ds ds' : List Bool} {C : List Prop} (hdec : ∀ t d, dlook dec t = some d → a.tmps[t]? = some (.bool d)) (hkey : ∀ t, key = some t → a.tmps[t]? = some (.bool b))
    (he : decide1 dec key b ds = some (d, C, dec', ds')) (hC : AllP C) : b = d ∧ ∀ t d, dlook dec' t = some d → a.tmps[t]? = some (.bool d) := by
  unfold decide1 at he
  split at he
  · rename_i d' hd
    simp only [Option.some.injEq, Prod.mk.injEq] at he
    obtain ⟨rfl, rfl, rfl, rfl⟩ := he
    refine ⟨?_, hdec⟩
    cases key with
    | none => simp at hd
    | some t =>
      simp only [Option.bind_some] at hd
      have h1 := hdec t d' hd
      rw [hkey t rfl] at h1
      injection h1 with h1
      injection h1
  · split at he
    · rename_i d' ds''
      simp only [Option.some.injEq, Prod.mk.injEq] at he
      obtain ⟨rfl, rfl, rfl, rfl⟩ := he
      simp only [AllP, and_true] at hC
      refine ⟨hC, ?_⟩
      cases key with
      | none => exact hdec
      | some t =>
        intro u e hu
        simp only [dlook] at hu
        split at hu
        · rename_i hut
          injection hu with hu
          subst hut
          subst hu
          rw [hkey _ rfl, hC]
        · exact hdec u e hu
    · cases he
theorem asB_key {x : Operand} {b : Bool} (hf : FrR w Z β F a) (hb : asB (ev E F.fr x) = some b) : ∀ t, opTmp x = some t → a.tmps[t]? = some (.bool b) := by
  intro t ht
  cases x with
  | tmp u =>
    simp only [opTmp, Option.some.injEq] at ht
    subst ht
    simp only [ev] at hb
    have : lget F.fr u = .val (.bool b) := by
      unfold asB at hb
      split at hb
      · rename_i heq
        injection hb with hb
        subst hb
        exact heq
      · cases hb
    have := lget_val hf.tmps this
    rwa [Array.getElem?_toList] at this
  | _ => simp [opTmp] at ht
end
end Go.AE

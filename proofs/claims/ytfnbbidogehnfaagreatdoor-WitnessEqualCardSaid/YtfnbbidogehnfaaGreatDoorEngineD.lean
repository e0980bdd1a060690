/- A part of the proofs over this program: an abstract machine that the kernel evaluates, and its soundness. No conditions. -/
import Derived.Test.YtfnbbidogehnfaaGreatDoorEngineC
import Derived.Laws.RangeAny
import Derived.AtR
import Derived.RangeFuncRecord
import Derived.Orders
namespace Go.BE
open Go.RowKit
theorem Tre.wp_bind {α β : Type} {f : α → Tre β} {Q : β → Prop} : ∀ {t : Tre α}, (t.bind f).wp Q ↔ t.wp fun a => (f a).wp Q
 | .ok a => Iff.rfl
 | .ite b t e => by simp only [Tre.bind, Tre.wp, Tre.wp_bind]
 | .chk C t => by simp only [Tre.bind, Tre.wp, Tre.wp_bind]
 | .know K t => by simp only [Tre.bind, Tre.wp, Tre.wp_bind]
 | .any p k => by simp only [Tre.bind, Tre.wp, Tre.wp_bind]
 | .rg k => by simp only [Tre.bind, Tre.wp, Tre.wp_bind]
 | .bad => Iff.rfl
theorem Tre.wp_mono {α : Type} {Q Q' : α → Prop} (h : ∀ a, Q a → Q' a) : ∀ {t : Tre α}, t.wp Q → t.wp Q'
 | .ok a, ht => h a ht
 | .ite b t e, ht => ⟨fun hb => Tre.wp_mono h (ht.1 hb), fun hb => Tre.wp_mono h (ht.2 hb)⟩
 | .chk C t, ht => ⟨ht.1, fun hc => Tre.wp_mono h (ht.2 hc)⟩
 | .know K t, ht => fun hk => Tre.wp_mono h (ht hk)
 | .any p k, ht => fun b hb => Tre.wp_mono h (ht b hb)
 | .rg k, ht => fun R => Tre.wp_mono h (ht R)
 | .bad, ht => ht.elim
theorem qfi {α : Type} {Q : α → Prop} {t : Tre α} : ∀ {C : List Prop}, (chks C t).wp Q → AllP C ∧ t.wp Q
 | [], h => ⟨trivial, h⟩
 | C :: l, h => by
  have := qfi (h.2 h.1)
  exact ⟨⟨h.1, this.1⟩, this.2⟩
theorem okAVs_at : ∀ {l : List AV}, (∀ (j : Nat) a, l[j]? = some a → okAV a) → okAVs l
 | [], _ => trivial
 | a :: l, h => ⟨h 0 a rfl, okAVs_at fun j x hx => h (j + 1) x (by simpa using hx)⟩
section
variable {w w' w0 : World} {Z Z' : Nat → Prop} {K : Kp} {own own' : Own} {γ γ' : Gst} {h h' : Heap} {used used' : Nat → Prop} {r s d id : Nat} {R : Root} {a A B : AV} {v V U : Value} {cs ds : List AV} {vs us : List Value}
theorem okAV_val {u : Value} (h : okV u) : okAV (.val u) := by cases u <;> first | trivial | exact h
theorem CR.ok (h : CR w Z a v) : okAV a := by
 induction h with
 | val v h => exact okAV_val h
 | tva S x vs hS h => exact h.ok
 | tv1 S x v hS h => exact h.ok
 | rtp S x b o us hz hr h => exact h.ok
 | rop cs off b o u hz hc hr ih => exact okAVs_at fun j a ha => ih j a ha
 | agg cs vs hl hr ih => exact okAVs_at fun j a ha => ih j a _ ha (Array.getElem?_eq_getElem (by rw [← hl]; exact (List.getElem?_eq_some_iff.1 ha).1))
 | tup cs vs hl hr ih => exact okAVs_at fun j a ha => ih j a _ ha (Array.getElem?_eq_getElem (by rw [← hl]; exact (List.getElem?_eq_some_iff.1 ha).1))
 | fn f cs vs hl hr ih => exact okAVs_at fun j a ha => ih j a _ ha (Array.getElem?_eq_getElem (by rw [← hl]; exact (List.getElem?_eq_some_iff.1 ha).1))
theorem VR.ok (h : VR w Z γ a v) : okAV a := by
 induction h with
 | bad => trivial
 | cr h => exact h.ok
 | ref => trivial
 | tref => trivial
 | osl => trivial
 | optr => trivial
 | csl => trivial
 | yld => trivial
 | mp => trivial
 | refx => trivial
 | agg cs vs hl hr ih => exact okAVs_at fun j a ha => ih j a _ ha (Array.getElem?_eq_getElem (by rw [← hl]; exact (List.getElem?_eq_some_iff.1 ha).1))
 | tup cs vs hl hr ih => exact okAVs_at fun j a ha => ih j a _ ha (Array.getElem?_eq_getElem (by rw [← hl]; exact (List.getElem?_eq_some_iff.1 ha).1))
 | fn f cs vs hl hr ih => exact okAVs_at fun j a ha => ih j a _ ha (Array.getElem?_eq_getElem (by rw [← hl]; exact (List.getElem?_eq_some_iff.1 ha).1))
theorem VRs.ok (h : VRs w Z γ cs vs) : okAVs cs := okAVs_at fun j a ha => by
 obtain ⟨v, _, hr⟩ := h.get ha
 exact hr.ok
theorem RootR.ok (h : RootR w Z own γ r R) : okCont R.cont := by
 have hc := h.cont
 unfold ContR at hc
 unfold okCont
 split at hc
 ·rename_i cs hcs
  simp only [hcs]
  obtain ⟨_, _, b, arr, e, _, _, _, hv⟩ := hc
  exact hv.ok
 ·rename_i x hcs
  simp only [hcs]
 ·rename_i m by_ S xs hcs
  simp only [hcs]
  refine ⟨hc.1.1, ?_⟩
  have hc := hc.2
  split at hc
  ·obtain ⟨_, own0, h1, h2⟩ := hc
   exact h2.ok
  ·split at hc
   ·exact hc.ok
   ·obtain ⟨p0, i, st, hd0, b0, o0, so, T, hd, v, row, e1, e2, e3, e4, e5, e6, e7, e8, e9, e10, e11⟩ := hc
    exact (e11 v e7).ok
 ·rename_i l hcs
  simp only [hcs]
theorem okHeap_of : ∀ {h : Heap}, (∀ r R, (r, R) ∈ h → okCont R.cont) → okHeap h
 | [], _ => trivial
 | (r, R) :: h, hh => ⟨hh r R List.mem_cons_self, okHeap_of fun r R hm => hh r R (List.mem_cons_of_mem _ hm)⟩

theorem plainAll_at : ∀ {l : List AV}, plainAll l = true → ∀ (j : Nat) (a : AV), l[j]? = some a → a.plain = true
 | [], _, j, a, ha => by simp at ha
 | x :: l, h, j, a, ha => by
  simp only [plainAll, Bool.and_eq_true] at h
  cases j with
  | zero => simp at ha; subst ha; exact h.1
  | succ j => exact plainAll_at h.2 j a (by simpa using ha)
theorem CR.plain (h : CR w Z a v) : a.plain = true → CR w' Z' a v := by
 induction h with
 | val v h => exact fun _ => .val v h
 | tva S x vs hS h => exact fun hp => .tva S x vs hS (h.plain hp)
 | tv1 S x v hS h => exact fun hp => .tv1 S x v hS (h.plain hp)
 | rtp => intro hp; simp [AV.plain] at hp
 | rop => intro hp; simp [AV.plain] at hp
 | agg cs vs hl hr ih => exact fun hp => .agg cs vs hl fun j a v ha hv => ih j a v ha hv (plainAll_at (by simpa [AV.plain] using hp) j a ha)
 | tup cs vs hl hr ih => exact fun hp => .tup cs vs hl fun j a v ha hv => ih j a v ha hv (plainAll_at (by simpa [AV.plain] using hp) j a ha)
 | fn => intro hp; simp [AV.plain] at hp
mutual
theorem plain_closed : ∀ {a : AV}, a.plain = true → a.closed = true
 | .bad, h => by simp [AV.plain] at h
 | .val _, _ => rfl
 | .tv _ _, _ => rfl
 | .rtp _ _, _ => rfl
 | .agg cs, h => by simp only [AV.plain] at h; simp only [AV.closed]; exact plainAll_closed h
 | .tup cs, h => by simp only [AV.plain] at h; simp only [AV.closed]; exact plainAll_closed h
 | .fn _ _, h => by simp [AV.plain] at h
 | .rop _ _, _ => rfl
 | .ref _ _, h => by simp [AV.plain] at h
 | .tref .., h => by simp [AV.plain] at h
 | .osl .., h => by simp [AV.plain] at h
 | .optr .., h => by simp [AV.plain] at h
 | .csl .., h => by simp [AV.plain] at h
theorem plainAll_closed : ∀ {l : List AV}, plainAll l = true → qcm l = true
 | [], _ => rfl
 | a :: l, h => by
  simp only [plainAll, Bool.and_eq_true] at h
  simp only [qcm, Bool.and_eq_true]
  exact ⟨plain_closed h.1, plainAll_closed h.2⟩
end
end

def GlR (E : Ctx) (w : World) (Z : Nat → Prop) : Prop := ∀ g a, E.gl g = some a → CR w Z a (.pointer (some ⟨g, 0, none⟩))
theorem GlR.mono {E : Ctx} {w w' : World} {Z Z' : Nat → Prop} (hs : Stay w Z w' Z') (h : GlR E w Z) : GlR E w' Z' := fun g cs hg => (h g cs hg).mono hs
def PromiseR (P : Program) (f : FuncId) (vs : Array Value) (w : World) (Z : Nat → Prop) (r : SRes) : Prop :=
 Calls P f vs w fun e w' => ∃ v Z' own' γ', e = .returned v ∧ Stay w Z w' Z' ∧ MemR w ⟨fun _ => True, Z⟩ w' Z' own' γ' r.roots (fun s => s < 16) ∧ VR w' Z' γ' r.res v
def PromiseP (P : Program) (f : FuncId) (vs : Array Value) (w : World) (Z : Nat → Prop) (r : SRes) (b : Bool) (pv : AV) : Prop :=
 Calls P f vs w fun e w' => ∃ Z' own' γ' h' used', Stay w Z w' Z' ∧ MemR w ⟨fun _ => True, Z⟩ w' Z' own' γ' h' used' ∧
  ((b = true ∧ ∃ V, e = .panicked [{ v := V, recovered := false }] ∧ ∃ Z2, Stay w Z w' Z2 ∧ CR w' Z2 pv V) ∨ (b = false ∧ ∃ V, e = .returned V ∧ VR w' Z' γ' r.res V))
def qfj (P : Program) (f : FuncId) (vs : Array Value) (w : World) (Z : Nat → Prop) (r : SRes) : Prop :=
 match r.pan with
 | none => PromiseR P f vs w Z r
 | some (b, pv) => PromiseP P f vs w Z r b pv
theorem qfj.r {P : Program} {f : FuncId} {vs : Array Value} {w : World} {Z : Nat → Prop} {r : SRes} (h : qfj P f vs w Z r) (hp : r.pan = none) : PromiseR P f vs w Z r := by
 unfold qfj at h
 rw [hp] at h
 exact h
theorem qfj.p {P : Program} {f : FuncId} {vs : Array Value} {w : World} {Z : Nat → Prop} {r : SRes} {b : Bool} {pv : AV} (h : qfj P f vs w Z r) (hp : r.pan = some (b, pv)) : PromiseP P f vs w Z r b pv := by
 unfold qfj at h
 rw [hp] at h
 exact h
theorem qfj.of_r {P : Program} {f : FuncId} {vs : Array Value} {w : World} {Z : Nat → Prop} {r : SRes} (h : PromiseR P f vs w Z r) (hp : r.pan = none) : qfj P f vs w Z r := by
 unfold qfj
 rw [hp]
 exact h
theorem qfj.of_p {P : Program} {f : FuncId} {vs : Array Value} {w : World} {Z : Nat → Prop} {r : SRes} {b : Bool} {pv : AV} (h : PromiseP P f vs w Z r b pv) (hp : r.pan = some (b, pv)) : qfj P f vs w Z r := by
 unfold qfj
 rw [hp]
 exact h
def EnvOK (E : Ctx) : Prop := ∀ f args r, qcm args = true → E.env f args = some r → r.pre → ∀ (w : World) (Z : Nat → Prop) (vs : List Value), GlR E w Z → (∀ b, Z b → b < w.heap.size) → CRs w Z args vs → qfj E.P f vs.toArray w Z r
section
variable {E : Ctx} {w w' w0 : World} {Z Z' : Nat → Prop} {K : Kp} {own own' own2 : Own} {γ γ' γ2 : Gst} {h h' : Heap} {used used' : Nat → Prop} {r s d id : Nat} {R : Root} {a A B : AV} {v V U : Value} {cs ds : List AV} {vs us : List Value}
theorem shL_get (base : Nat) : ∀ (l : List AV) (j : Nat), (shL base l)[j]? = (l[j]?).map (AV.sh base)
 | [], j => by simp [shL]
 | a :: l, 0 => by simp [shL]
 | a :: l, j + 1 => by simpa [shL] using shL_get base l j
theorem qga (base : Nat) : ∀ l : List AV, (shL base l).length = l.length
 | [] => rfl
 | _ :: l => by simp [shL, qga base l]
structure Shift (base : Nat) (γ γ' : Gst) : Prop where
 β : ∀ r b, γ.β r = some b → γ'.β (base + r) = some b
 G : ∀ s p hd, γ.G s p = some hd → γ'.G (base + s) p = some hd
theorem CR.sh {base : Nat} (h : CR w Z a v) : CR w Z (a.sh base) v := by
 induction h with
 | val v h => exact .val v h
 | tva S x vs hS h => exact .tva S x vs hS h
 | tv1 S x v hS h => exact .tv1 S x v hS h
 | rtp S x b o us hz hr h => exact .rtp S x b o us hz hr h
 | rop cs off b o u hz hc hr ih => exact .rop cs off b o u hz hc hr
 | agg cs vs hl hr ih =>
  refine .agg _ vs (by rw [qga]; exact hl) fun j x y hx hy => ?_
  rw [shL_get] at hx
  obtain ⟨x', hx', rfl⟩ := Option.map_eq_some_iff.1 hx
  exact ih j x' y hx' hy
 | tup cs vs hl hr ih =>
  refine .tup _ vs (by rw [qga]; exact hl) fun j x y hx hy => ?_
  rw [shL_get] at hx
  obtain ⟨x', hx', rfl⟩ := Option.map_eq_some_iff.1 hx
  exact ih j x' y hx' hy
 | fn f cs vs hl hr ih =>
  refine .fn f _ vs (by rw [qga]; exact hl) fun j x y hx hy => ?_
  rw [shL_get] at hx
  obtain ⟨x', hx', rfl⟩ := Option.map_eq_some_iff.1 hx
  exact ih j x' y hx' hy
theorem VR.sh {base : Nat} (hs : Shift base γ γ') (h : VR w Z γ a v) : VR w Z γ' (a.sh base) v := by
 induction h with
 | bad v => exact .bad v
 | cr h => exact .cr h.sh
 | ref r off b h => exact .ref _ off b (hs.β _ _ h)
 | tref r s p i st hd b o so T h hi hb hst => exact .tref _ _ p i st hd b o so T (hs.G _ _ _ h) hi hb hst
 | osl r s p win v hd h hv => exact .osl _ _ p win v hd (hs.G _ _ _ h) hv
 | optr r s p v hd h hp hv => exact .optr _ _ p v hd (hs.G _ _ _ h) hp hv
 | csl r off n b c h hc hr => exact .csl _ off n b c (hs.β _ _ h) hc hr
 | yld r l h => exact .yld _ l (hs.β _ _ h)
 | mp r b h => exact .mp _ b (hs.β _ _ h)
 | refx r off n i b h hi => exact .refx _ off n i b (hs.β _ _ h) hi
 | agg cs vs hl hr ih =>
  refine .agg _ vs (by rw [qga]; exact hl) fun j x y hx hy => ?_
  rw [shL_get] at hx
  obtain ⟨x', hx', rfl⟩ := Option.map_eq_some_iff.1 hx
  exact ih j x' y hx' hy
 | tup cs vs hl hr ih =>
  refine .tup _ vs (by rw [qga]; exact hl) fun j x y hx hy => ?_
  rw [shL_get] at hx
  obtain ⟨x', hx', rfl⟩ := Option.map_eq_some_iff.1 hx
  exact ih j x' y hx' hy
 | fn f cs vs hl hr ih =>
  refine .fn f _ vs (by rw [qga]; exact hl) fun j x y hx hy => ?_
  rw [shL_get] at hx
  obtain ⟨x', hx', rfl⟩ := Option.map_eq_some_iff.1 hx
  exact ih j x' y hx' hy
theorem VRs.sh {base : Nat} (hs : Shift base γ γ') (h : VRs w Z γ cs vs) : VRs w Z γ' (shL base cs) vs := by
 refine ⟨by rw [qga]; exact h.1, fun j x y hx hy => ?_⟩
 rw [shL_get] at hx
 obtain ⟨x', hx', rfl⟩ := Option.map_eq_some_iff.1 hx
 exact (h.2 j x' y hx' hy).sh hs
theorem qbv.moveR {M M' : Rows} {r' : Nat} {g g' : Pth → Option Hd} {n : Node} {m : Nat} {p : Pth} (hs : Stay w Z w' Z') (hg : ∀ q hd, g q = some hd → g' q = some hd) (hb : ∀ b q row, own b = some (r, q) → M b = some row → own' b = some (r', q) ∧ M' b = some row)
  (h : qbv w Z M own r g n m p) : qbv w' Z' M' own' r' g' n m p := by
 obtain ⟨hd, h1, h2, h3, h4, hle, hlim, hel⟩ := h
 refine ⟨hd, hg _ _ h1, h2, h3, h4, hle, hlim, fun hc => ?_⟩
 obtain ⟨b, o, row, e1, e2, e3, e4, e5⟩ := hel hc
 obtain ⟨k1, k2⟩ := hb _ _ _ e2 e3
 refine ⟨b, o, row, e1, k1, k2, e4, fun j hj => ?_⟩
 obtain ⟨y, hy, hor⟩ := e5 j hj
 exact ⟨y, hy, OR.move (r' := r') hs [] (fun q hd _ => hg q hd) (fun b q row _ => hb b q row) hor⟩
theorem RootR.sh {base : Nat} (hs : Shift base γ γ') (hGe : γ'.G (base + R.cur) = γ.G R.cur) (ho : ∀ b p, own b = some (r, p) → own' b = some (base + r, p)) (hp : R.pend = none) (h : RootR w Z own γ r R) : RootR w Z own' γ' (base + r) (R.sh base) := by
 refine ⟨fun e he => by simp [Root.sh] at he, ?_⟩
 have hc := h.cont
 unfold ContR at hc ⊢
 split at hc
 ·rename_i cs hcs
  simp only [Root.sh, hcs, Cont.sh]
  obtain ⟨e1, e2, b, arr, e, k1, k2, k3, k4⟩ := hc
  exact ⟨e1, e2, b, arr, e, hs.β _ _ k1, ho _ _ k2, k3, k4.sh hs⟩
 ·rename_i x hcs
  simp only [Root.sh, hcs, Cont.sh]
  obtain ⟨e1, e2, b, o, k1, k2, k3, k4⟩ := hc
  exact ⟨e1, e2, b, o, hs.β _ _ k1, ho _ _ k2, k3, k4⟩
 ·rename_i m by_ S xs hcs
  simp only [Root.sh, hcs, Cont.sh, hp]
  refine ⟨⟨hc.1.1, by rw [hGe]; exact hc.1.2⟩, ?_⟩
  have hc := hc.2
  split at hc
  ·rename_i hf
   rw [if_pos hf]
   obtain ⟨_, own0, h1, h2⟩ := hc
   exact ⟨trivial, own0, h1, h2.moveR (Stay.refl _ _) (fun q hd hq => hs.G _ _ _ hq) fun b q row hob hM => ⟨hob, hM⟩⟩
  ·rename_i hf
   rw [if_neg hf]
   simp only [hp] at hc
   exact hc.moveR (Stay.refl _ _) (fun q hd hq => hs.G _ _ _ hq) fun b q row hob hM => ⟨ho b q hob, hM⟩
 ·rename_i l hcs
  simp only [Root.sh, hcs, Cont.sh]
  exact ⟨hc.1, hc.2.1, fun p hp => by simp at hp⟩
theorem hget_newRoots (base : Nat) : ∀ (l : List (Nat × Root)) (h : Heap) (x : Nat), hget (qav h (newRoots base l)) x = if base ≤ x ∧ (hget l (x - base)).isSome then (hget l (x - base)).map (Root.sh base) else hget h x
 | [], h, x => by simp [newRoots, qav, hget]
 | (r, R) :: l, h, x => by
  rw [newRoots, qce]
  show hget (hput _ _ _) x = _
  rw [qbr, hget_newRoots base l h x]
  by_cases hx : x = base + r
  ·subst hx
   simp [hget]
  ·rw [if_neg hx]
   by_cases hb : base ≤ x
   ·have hr : ¬ r = x - base := by omega
    simp only [hget, hr, if_false]
   ·rw [if_neg (by omega), if_neg (by omega)]
theorem hget_mem {l : List (Nat × Root)} (h : hget l r = some R) : (r, R) ∈ l := by
 induction l with
 | nil => simp [hget] at h
 | cons x l ih =>
  obtain ⟨k, c⟩ := x
  simp only [hget] at h
  split at h
  ·rename_i hk
   injection h with h
   subst hk; subst h
   exact List.mem_cons_self
  ·exact List.mem_cons_of_mem _ (ih h)
theorem closeC0_closed {C : List Prop} {ws : List (Nat × Option Root)} {h : Heap} (he : closeC0 h A = some (C, B, ws)) : B.closed = true := by
 unfold closeC0 at he
 split at he
 ·split at he
  ·split at he
   ·simp only [Option.some.injEq, Prod.mk.injEq] at he
    obtain ⟨_, rfl, _⟩ := he
    rfl
   ·cases he
  ·cases he
 ·split at he
  ·split at he
   ·simp only [Option.some.injEq, Prod.mk.injEq] at he
    obtain ⟨_, rfl, _⟩ := he
    rfl
   ·cases he
  ·cases he
 ·split at he
  ·split at he
   ·rename_i hx
    simp only [Option.some.injEq, Prod.mk.injEq] at he
    obtain ⟨_, rfl, _⟩ := he
    obtain ⟨S, x, ip, _, rfl⟩ := oneV_eq hx
    rfl
   ·cases he
  ·cases he
 ·split at he
  ·rename_i hc
   simp only [Option.some.injEq, Prod.mk.injEq] at he
   obtain ⟨_, rfl, _⟩ := he
   exact hc
  ·cases he
theorem closeL0_closed : ∀ {cs : List AV} {C : List Prop} {ds : List AV} {ws : List (Nat × Option Root)} {h : Heap}, closeL0 h cs = some (C, ds, ws) → qcm ds = true := by
 intro cs
 induction cs with
 | nil => intro C ds ws h he; simp only [closeL0, Option.some.injEq, Prod.mk.injEq] at he; obtain ⟨_, rfl, _⟩ := he; rfl
 | cons c cs ih =>
  intro C ds ws h he
  simp only [closeL0] at he
  split at he
  ·rename_i h1
   split at he
   ·rename_i h2
    simp only [Option.some.injEq, Prod.mk.injEq] at he
    obtain ⟨_, rfl, _⟩ := he
    simp only [qcm, Bool.and_eq_true]
    exact ⟨closeC0_closed h1, ih h2⟩
   ·cases he
  ·cases he
theorem closeC_closed {C : List Prop} {ws : List (Nat × Option Root)} {h : Heap} (he : closeC h A = some (C, B, ws)) : B.closed = true := by
 unfold closeC at he
 split at he
 ·split at he
  ·split at he
   ·split at he
    ·split at he
     ·simp only [Option.some.injEq, Prod.mk.injEq] at he; obtain ⟨_, rfl, _⟩ := he; rfl
     ·cases he
    ·cases he
   ·cases he
  ·cases he
 ·split at he
  ·rename_i hcl
   simp only [Option.some.injEq, Prod.mk.injEq] at he
   obtain ⟨_, rfl, _⟩ := he
   exact closeL0_closed hcl
  ·cases he
 ·exact closeC0_closed he
theorem closeL_closed : ∀ {cs : List AV} {C : List Prop} {ds : List AV} {ws : List (Nat × Option Root)} {h : Heap}, closeL h cs = some (C, ds, ws) → qcm ds = true := by
 intro cs
 induction cs with
 | nil => intro C ds ws h he; simp only [closeL, Option.some.injEq, Prod.mk.injEq] at he; obtain ⟨_, rfl, _⟩ := he; rfl
 | cons c cs ih =>
  intro C ds ws h he
  simp only [closeL] at he
  split at he
  ·rename_i h1
   split at he
   ·rename_i h2
    simp only [Option.some.injEq, Prod.mk.injEq] at he
    obtain ⟨_, rfl, _⟩ := he
    simp only [qcm, Bool.and_eq_true]
    exact ⟨closeC_closed h1, ih h2⟩
   ·cases he
  ·cases he
theorem acall_sound (hE : EnvOK E) (hm : MemR w0 K w Z own γ h used) (hgl : GlR E w Z) {f : FuncId} {args : List AV} {C : List Prop} {Kn : Prop} {ws : List (Nat × Option Root)} (he : acall E h id f args = some (C, Kn, a, ws)) (hC : AllP C) (hv : VRs w Z γ args vs)
  (hid : ∀ j, j < 16 → ¬ used (id + j)) (hu : ∀ s, used s → used' s) (hid' : ∀ j, j < 16 → used' (id + j)) :
  Calls E.P f vs.toArray w fun e w' => ∃ v Z' own' γ', e = .returned v ∧ Kn ∧ Stay w Z w' Z' ∧ Gst.Ext used γ γ' ∧ MemR w0 K w' Z' own' γ' (qav h ws) used' ∧ VR w' Z' γ' a v := by
 unfold acall at he
 split at he
 ·rename_i C1 args' ws1 hcl
  split at he
  ·rename_i r hr
   split at he
   ·rename_i hfit0
    simp only [Bool.and_eq_true, Option.isNone_iff_eq_none] at hfit0
    obtain ⟨hpn, hfit⟩ := hfit0
    have hclosed : qcm args' = true := closeL_closed hcl
    have hpre : AllP C1 ∧ r.pre ∧ (C = C1 ++ [r.pre]) ∧ Kn = okAV r.res := by
     have fin : AllP (C1 ++ [r.pre]) → AllP C1 ∧ r.pre := fun h => by rw [AllP.append] at h; exact ⟨h.1, h.2.1⟩
     split at he
     ·simp only [Option.some.injEq, Prod.mk.injEq] at he
      obtain ⟨rfl, rfl, _⟩ := he
      exact ⟨(fin hC).1, (fin hC).2, rfl, rfl⟩
     ·split at he <;>
      ·simp only [Option.some.injEq, Prod.mk.injEq] at he
       obtain ⟨rfl, rfl, _⟩ := he
       exact ⟨(fin hC).1, (fin hC).2, rfl, rfl⟩
    obtain ⟨hC1, hpre, _, rfl⟩ := hpre
    obtain ⟨Z1, own1, k1, k2, k3⟩ := qfh hm hcl hC1 hv
    refine ((hE f args' r hclosed hr hpre w Z1 vs (hgl.mono k1.stay) k1.mem.zlt ⟨k2, k3⟩).r hpn).mono fun e w' ⟨v, Z2, own2, γ2, e1, e2, e3, e4⟩ => ?_
    have hall : ∀ b, b < w.heap.size → w'.heap[b]? = w.heap[b]? := fun b hb => e3.kept b hb trivial
    split at he
    ·rename_i hpl
     simp only [Bool.and_eq_true] at hpl
     simp only [Option.some.injEq, Prod.mk.injEq] at he
     obtain ⟨_, _, rfl, rfl⟩ := he
     have hst : Stay w Z w' Z := ⟨fun b hb => hall b (hm.zlt b hb), fun _ h => h⟩
     refine ⟨v, Z, own, γ, e1, e4.ok, hst, Gst.Ext.refl _ _, ?_, .cr ((e4.toCR (plain_closed hpl.1)).plain hpl.1)⟩
     refine hm.step hst (Gst.Ext.refl used γ) hu e3.os e3.tape e3.output e3.size (fun _ => False) (fun b hb _ => hall b hb) (fun b o ho _ => ho) (fun b o ho => .inl ⟨ho, fun h => h⟩) (fun b hb => ⟨Nat.lt_of_lt_of_le (hm.zlt b hb) e3.size, .inl hb⟩) (fun r R hg => .inl ⟨hg, fun h => h⟩) (fun s hs => hm.fresh s (fun h => hs (hu s h)))
    ·classical
     let γ3 : Gst := { β := fun s => if used s then γ.β s else if id ≤ s then γ2.β (s - id) else none, G := fun s => if used s then γ.G s else if id ≤ s then γ2.G (s - id) else fun _ => none }
     let own3 : Own := fun b => if b < w.heap.size then own1 b else (own2 b).map fun o => (id + o.1, o.2)
     have hext : Gst.Ext used γ γ3 := fun s hs => ⟨by simp only [γ3, if_pos hs], by simp only [γ3, if_pos hs]⟩
     have hsh : Shift id γ2 γ3 := by
      refine ⟨fun r b hb => ?_, fun s p hd hp => ?_⟩
      ·have hr : r < 16 := by
        rcases Nat.lt_or_ge r 16 with h | h
        ·exact h
        ·rw [(e3.fresh r (by omega)).1] at hb; cases hb
       simp only [γ3]
       rw [if_neg (hid r hr), if_pos (by omega), Nat.add_sub_cancel_left]
       exact hb
      ·have hr : s < 16 := by
        rcases Nat.lt_or_ge s 16 with h | h
        ·exact h
        ·rw [(e3.fresh s (by omega)).2] at hp; cases hp
       simp only [γ3]
       rw [if_neg (hid s hr), if_pos (by omega), Nat.add_sub_cancel_left]
       exact hp
     have hge : ∀ b o, own2 b = some o → w.heap.size ≤ b := fun b o ho => by
      rcases Nat.lt_or_ge b w.heap.size with h | h
      ·exact absurd trivial (e3.ownK b o ho h)
      ·exact h
     have h5 : MemR w0 K w' Z2 own3 γ3 (qav (qav h ws1) (newRoots id r.roots)) used' := by
      refine k1.mem.step e2 hext hu e3.os e3.tape e3.output e3.size (fun _ => False) (fun b hb _ => hall b hb) (fun b o ho _ => ?_) (fun b o ho => ?_) (fun b hb => ⟨e3.zlt b hb, ?_⟩) (fun r' R' hg => ?_) (fun s hs => ?_)
      ·simp only [own3]
       rw [if_pos (k1.mem.ownlt b o ho)]
       exact ho
      ·simp only [own3] at ho
       split at ho
       ·exact .inl ⟨ho, fun h => h⟩
       ·rename_i hb
        obtain ⟨o', ho', rfl⟩ := Option.map_eq_some_iff.1 ho
        exact .inr ⟨e3.ownlt b _ ho', e3.ownZ b _ ho', .inr (by omega)⟩
      ·rcases Nat.lt_or_ge b w.heap.size with h | h
       ·exact .inl (e3.zin b hb h trivial)
       ·exact .inr (.inr h)
      ·rw [hget_newRoots] at hg
       split at hg
       ·rename_i hcond
        obtain ⟨R0, hR0, rfl⟩ := Option.map_eq_some_iff.1 hg
        have hmem := hget_mem hR0
        have hf := List.all_eq_true.1 hfit _ hmem
        simp only [Bool.and_eq_true, decide_eq_true_eq, Option.isNone_iff_eq_none] at hf
        obtain ⟨⟨f1, f2⟩, f3⟩ := hf
        have hr' : r' = id + (r' - id) := by omega
        refine .inr ⟨?_, by rw [hr']; exact hid' _ f1, hid' _ f2, fun e he => by simp [Root.sh] at he⟩
        rw [hr']
        refine (e3.root _ _ hR0).sh hsh (by
         simp only [γ3]
         rw [if_neg (hid _ f2), if_pos (by omega), Nat.add_sub_cancel_left]) (fun b p ho => ?_) f3
        simp only [own3]
        rw [if_neg (by have := hge b _ ho; omega), ho]
        simp
       ·exact .inl ⟨hg, fun h => h⟩
      ·have hns : ¬ used s := fun h => hs (hu s h)
       have key : ∀ {k}, id ≤ s → s - id = k → ¬ k < 16 := fun h1 h2 h3 => hs (by have := hid' _ h3; rwa [← h2, show id + (s - id) = s from by omega] at this)
       simp only [γ3]
       rw [if_neg hns, if_neg hns]
       by_cases h1 : id ≤ s
       ·rw [if_pos h1, if_pos h1]
        exact e3.fresh _ (key h1 rfl)
       ·rw [if_neg h1, if_neg h1]
        exact ⟨rfl, fun _ => rfl⟩
     split at he
     ·rename_i hthin
      simp only [Bool.and_eq_true] at hthin
      simp only [Option.some.injEq, Prod.mk.injEq] at he
      obtain ⟨_, _, rfl, rfl⟩ := he
      obtain ⟨own6, Z6, t1, t2⟩ := hm.thaw k1 e2 hext hu e3.size h5 (fun b o ho _ => ⟨by simp only [own3]; rw [if_pos (k1.mem.ownlt b o ho)]; exact ho, hall b (k1.mem.ownlt b o ho)⟩) hthin.2
      exact ⟨v, Z6, own6, γ3, e1, e4.ok, t1, hext, t2, (e4.sh hsh).thin hthin.1⟩
     ·simp only [Option.some.injEq, Prod.mk.injEq] at he
      obtain ⟨_, _, rfl, rfl⟩ := he
      exact ⟨v, Z2, own3, γ3, e1, e4.ok, k1.stay.trans e2, hext, by rw [qce]; exact h5, e4.sh hsh⟩
   ·cases he
  ·cases he
 ·cases he
theorem acallP_sound (hE : EnvOK E) (hm : MemR w0 K w Z own γ h used) (hgl : GlR E w Z) {f : FuncId} {args : List AV} {C : List Prop} {bb : Bool} {pv : AV} (he : acallP E h f args = some (C, bb, pv, a)) (hC : AllP C) (hv : VRs w Z γ args vs) (hu : ∀ s, used s → used' s) :
  Calls E.P f vs.toArray w fun e w' => ∃ Z', Stay w Z w' Z' ∧ MemR w0 K w' Z' own γ h used' ∧
   ((bb = true ∧ ∃ V, e = .panicked [{ v := V, recovered := false }] ∧ ∃ Z2, Stay w Z w' Z2 ∧ CR w' Z2 pv V) ∨ (bb = false ∧ ∃ V, e = .returned V ∧ VR w' Z' γ a V)) := by
 unfold acallP at he
 split at he
 ·rename_i C1 args' ws1 hcl
  split at he
  ·rename_i r hr
   split at he
   ·rename_i b v hpan
    split at he
    ·rename_i hpl
     simp only [Bool.and_eq_true] at hpl
     simp only [Option.some.injEq, Prod.mk.injEq] at he
     obtain ⟨rfl, rfl, rfl, rfl⟩ := he
     rw [AllP.append] at hC
     have hclosed : qcm args' = true := closeL_closed hcl
     obtain ⟨Z1, own1, k1, k2, k3⟩ := qfh hm hcl hC.1 hv
     refine ((hE f args' r hclosed hr hC.2.1 w Z1 vs (hgl.mono k1.stay) k1.mem.zlt ⟨k2, k3⟩).p hpan).mono fun e w' ⟨Z2, own2, γ2, h2, u2, e2, e3, e4⟩ => ?_
     have hall : ∀ b, b < w.heap.size → w'.heap[b]? = w.heap[b]? := fun b hb => e3.kept b hb trivial
     have hst : Stay w Z w' Z := ⟨fun b hb => hall b (hm.zlt b hb), fun _ h => h⟩
     refine ⟨Z, hst, hm.step hst (Gst.Ext.refl used γ) hu e3.os e3.tape e3.output e3.size (fun _ => False) (fun b hb _ => hall b hb) (fun b o ho _ => ho) (fun b o ho => .inl ⟨ho, fun h => h⟩) (fun b hb => ⟨Nat.lt_of_lt_of_le (hm.zlt b hb) e3.size, .inl hb⟩) (fun r R hg => .inl ⟨hg, fun h => h⟩) (fun s hs => hm.fresh s (fun h => hs (hu s h))), ?_⟩
     rcases e4 with ⟨hb, V, q1, Z3, q3, q2⟩ | ⟨hb, V, q1, q2⟩
     ·exact .inl ⟨hb, V, q1, Z3, k1.stay.trans q3, q2⟩
     ·exact .inr ⟨hb, V, q1, .cr ((q2.toCR (plain_closed hpl.1)).plain hpl.1)⟩
    ·cases he
   ·cases he
  ·cases he
 ·cases he
end
end Go.BE
namespace Go.BE
open Go.RowKit
section
variable {E : Ctx} {w w' w0 : World} {Z Z' : Nat → Prop} {K : Kp} {own own' : Own} {γ γ' : Gst} {h h' : Heap} {used used' : Nat → Prop} {r s d id nx : Nat} {R : Root} {a : AV} {v : Value} {cs ds : List AV} {vs us : List Value} {roots : List (Nat × Nat)}
theorem alook_mem {l : List (Nat × Nat)} {r r' : Nat} (h : alook l r = some r') : (r, r') ∈ l := by
 induction l with
 | nil => simp [alook] at h
 | cons x l ih =>
  obtain ⟨k, q⟩ := x
  simp only [alook] at h
  split at h
  ·rename_i hk
   injection h with h
   subst hk; subst h
   exact List.mem_cons_self
  ·exact List.mem_cons_of_mem _ (ih h)
theorem rootsOK_inj {nx : Nat} : ∀ {l : List (Nat × Nat)}, qeq nx l = true → ∀ r r' s s', (r, r') ∈ l → (s, s') ∈ l → (r = s ∨ r' = s') → r = s ∧ r' = s'
 | [], _, r, r', s, s', h, _, _ => by cases h
 | (p, q) :: l, h, r, r', s, s', h1, h2, hor => by
  simp only [qeq, Bool.and_eq_true, decide_eq_true_eq] at h
  obtain ⟨⟨_, hall⟩, hrest⟩ := h
  rw [List.all_eq_true] at hall
  rcases List.mem_cons.1 h1 with e1 | m1
  ·rcases List.mem_cons.1 h2 with e2 | m2
   ·injection e1 with a1 b1; injection e2 with a2 b2
    subst a1; subst b1; subst a2; subst b2
    exact ⟨rfl, rfl⟩
   ·injection e1 with a1 b1
    subst a1; subst b1
    have := hall _ m2
    simp at this
    rcases hor with rfl | rfl
    ·exact absurd rfl this.1
    ·exact absurd rfl this.2
  ·rcases List.mem_cons.1 h2 with e2 | m2
   ·injection e2 with a2 b2
    subst a2; subst b2
    have := hall _ m1
    simp at this
    rcases hor with rfl | rfl
    ·exact absurd rfl this.1
    ·exact absurd rfl this.2
   ·exact rootsOK_inj hrest r r' s s' m1 m2 hor
theorem rootsOK_lt {nx : Nat} : ∀ {l : List (Nat × Nat)}, qeq nx l = true → ∀ r r', (r, r') ∈ l → r' < nx
 | [], _, r, r', h => by cases h
 | (p, q) :: l, h, r, r', hm => by
  simp only [qeq, Bool.and_eq_true, decide_eq_true_eq] at h
  rcases List.mem_cons.1 hm with e | m
  ·injection e with a b
   subst b
   exact h.1.1
  ·exact rootsOK_lt h.2 r r' m
theorem rootsOK_look {nx : Nat} {l : List (Nat × Nat)} (h : qeq nx l = true) {r r' : Nat} (hm : (r, r') ∈ l) : alook l r = some r' := by
 have : ∃ q, alook l r = some q := by
  clear h
  induction l with
  | nil => cases hm
  | cons x l ih =>
   obtain ⟨k, q⟩ := x
   simp only [alook]
   split
   ·exact ⟨_, rfl⟩
   ·rename_i hk
    rcases List.mem_cons.1 hm with e | m
    ·injection e with e1 _; exact absurd e1.symm hk
    ·exact ih m
 obtain ⟨q, hq⟩ := this
 rw [hq, (rootsOK_inj h r r' r q hm (alook_mem hq) (.inl rfl)).2]
def γcut (γ : Gst) (h : Heap) (roots : List (Nat × Nat)) : Gst :=
  { β := fun r' => (roots.find? (fun x => x.2 == r')).bind fun x => γ.β x.1,
    G := fun r' => match roots.find? (fun x => x.2 == r') with
      | some x => (match hget h x.1 with | some R => γ.G R.cur | none => fun _ => none)
      | none => fun _ => none }
theorem find_at (hr : qeq nx roots = true) {r r' : Nat} (hm : (r, r') ∈ roots) : roots.find? (fun x => x.2 == r') = some (r, r') := by
 cases hf : roots.find? (fun x => x.2 == r') with
 | none => exact absurd (List.find?_eq_none.1 hf _ hm) (by simp)
 | some x =>
  have h1 := List.mem_of_find?_eq_some hf
  have h2 := List.find?_some hf
  simp only [beq_iff_eq] at h2
  obtain ⟨h3, h4⟩ := rootsOK_inj hr x.1 x.2 r r' h1 hm (.inr h2)
  cases x
  simp at h3 h4
  rw [h3, h4]
theorem find_none (hr : qeq nx roots = true) {r' : Nat} (h : nx ≤ r') : roots.find? (fun x => x.2 == r') = none := by
 cases hf : roots.find? (fun x => x.2 == r') with
 | none => rfl
 | some x =>
  have h1 := List.mem_of_find?_eq_some hf
  have h2 := List.find?_some hf
  simp only [beq_iff_eq] at h2
  have := rootsOK_lt hr x.1 x.2 h1
  omega
structure Ren (w : World) (Z : Nat → Prop) (own : Own) (γ γ' : Gst) (h : Heap) (f : Nat → Option Nat) : Prop where
 β : ∀ r r' b, f r = some r' → γ.β r = some b → γ'.β r' = some b
 G : ∀ r r' R, f r = some r' → hget h r = some R → ∀ q hd, γ.G R.cur q = some hd → γ'.G r' q = some hd
 root : ∀ r R, hget h r = some R → RootR w Z own γ r R
theorem qez (h : Heap) (f : Nat → Option Nat) : ∀ l : List AV, (renL h f l).length = l.length
 | [] => rfl
 | _ :: l => by simp [renL, qez h f l]
theorem renL_get (h : Heap) (f : Nat → Option Nat) : ∀ (l : List AV) (j : Nat), (renL h f l)[j]? = (l[j]?).map (AV.ren h f)
 | [], j => by simp [renL]
 | a :: l, 0 => by simp [renL]
 | a :: l, j + 1 => by simpa [renL] using renL_get h f l j
theorem CR.ren {f : Nat → Option Nat} (hc : CR w Z a v) : CR w Z (a.ren h f) v := by
 induction hc with
 | val v h => exact .val v h
 | tva S x vs hS h => exact .tva S x vs hS h
 | tv1 S x v hS h => exact .tv1 S x v hS h
 | rtp S x b o us hz hr h => exact .rtp S x b o us hz hr h
 | rop cs off b o u hz hc hr ih => exact .rop cs off b o u hz hc hr
 | agg cs vs hl hr ih =>
  refine .agg _ vs (by rw [qez]; exact hl) fun j x y hx hy => ?_
  rw [renL_get] at hx
  obtain ⟨x', hx', rfl⟩ := Option.map_eq_some_iff.1 hx
  exact ih j x' y hx' hy
 | tup cs vs hl hr ih =>
  refine .tup _ vs (by rw [qez]; exact hl) fun j x y hx hy => ?_
  rw [renL_get] at hx
  obtain ⟨x', hx', rfl⟩ := Option.map_eq_some_iff.1 hx
  exact ih j x' y hx' hy
 | fn g cs vs hl hr ih =>
  refine .fn g _ vs (by rw [qez]; exact hl) fun j x y hx hy => ?_
  rw [renL_get] at hx
  obtain ⟨x', hx', rfl⟩ := Option.map_eq_some_iff.1 hx
  exact ih j x' y hx' hy
theorem Ren.hd {f : Nat → Option Nat} (hr : Ren w Z own γ γ' h f) {p : Pth} {hd : Hd} {r' : Nat} (he : renO h f r s p = some r') (hg : γ.G s p = some hd) : γ'.G r' p = some hd := by
 unfold renO at he
 split at he
 ·rename_i r1 R hf hR
  split at he
  ·rename_i hv
   injection he with he
   subst he
   exact hr.G _ _ _ hf hR _ _ ((hr.root _ _ hR).valid_hd hv hg)
  ·cases he
 ·cases he
theorem PinR.ren {f : Nat → Option Nat} (hr : Ren w Z own γ γ' h f) {p : Pin} (hp : PinR γ p) : PinR γ' (p.ren h f) := by
 cases p with
 | b r v =>
  simp only [Pin.ren]
  split
  ·rename_i r' hr'
   exact hr.β _ _ _ hr' hp
  ·trivial
 | g r s hd =>
  simp only [Pin.ren]
  split
  ·rename_i r' hr'
   exact hr.hd hr' hp
  ·trivial
 | dead => trivial
theorem renH_osl {f : Nat → Option Nat} (hr : Ren w Z own γ γ' h f) {p : Pth} {win : Option (Nat × Nat)} (hv : VR w Z γ (.osl r s p win) v) : VR w Z γ' (renH h f (.osl r s p win)) v := by
 simp only [renH]
 split
 ·rename_i r' hr'
  generalize hA : AV.osl r s p win = A at hv
  cases hv with
  | osl r1 s1 p1 win1 v1 hd hg hs =>
   injection hA with e1 e2 e3 e4
   subst e1; subst e2; subst e3; subst e4
   exact .osl _ _ _ _ _ hd (hr.hd hr' hg) hs
  | cr hc => subst hA; cases hc
  | _ => cases hA
 ·exact .bad _
theorem VR.ren {f : Nat → Option Nat} (hr : Ren w Z own γ γ' h f) (hn : ∀ A V, VR w Z γ A V → VR w Z γ (norm h A) V) (hv : VR w Z γ a v) : VR w Z γ' (a.ren h f) v := by
 induction hv with
 | bad v => exact .bad v
 | cr h => exact .cr h.ren
 | ref r off b h =>
  simp only [AV.ren]
  split
  ·rename_i r' hr'
   exact .ref _ _ _ (hr.β _ _ _ hr' h)
  ·exact .bad _
 | tref r s p i st hd b o so T h hi hb hst =>
  simp only [AV.ren]
  split
  ·rename_i r' hr'
   exact .tref _ _ _ _ _ hd b o so T (hr.hd hr' h) hi hb hst
  ·exact .bad _
 | osl r s p win v hd hg hs =>
  simp only [AV.ren]
  have h1 := hn _ _ (VR.osl r s p win v hd hg hs)
  have h2 : norm h (.osl r s p win) = .osl r s p win ∨ ∃ S x, norm h (.osl r s p win) = .tv S x := by
   unfold norm
   split
   ·rename_i heq
    split
    ·split
     ·exact .inr ⟨_, _, rfl⟩
     ·exact .inl heq.symm
    ·exact .inl heq.symm
   ·exact .inl rfl
  rcases h2 with h2 | ⟨S, x, h2⟩
  ·rw [h2] at h1 ⊢
   exact renH_osl hr h1
  ·rw [h2] at h1 ⊢
   exact .cr (h1.toCR rfl)
 | optr r s p v hd h hp hv =>
  simp only [AV.ren]
  split
  ·rename_i r' hr'
   exact .optr _ _ _ _ hd (hr.hd hr' h) hp hv
  ·exact .bad _
 | csl r off n b c h hc hl =>
  simp only [AV.ren]
  split
  ·rename_i r' hr'
   exact .csl _ _ _ b c (hr.β _ _ _ hr' h) hc hl
  ·exact .bad _
 | yld r l h =>
  simp only [AV.ren]
  split
  ·rename_i r' hr'
   exact .yld _ l (hr.β _ _ _ hr' h)
  ·exact .bad _
 | mp r b h =>
  simp only [AV.ren]
  split
  ·rename_i r' hr'
   exact .mp _ b (hr.β _ _ _ hr' h)
  ·exact .bad _
 | refx r off n i b h hi =>
  simp only [AV.ren]
  split
  ·rename_i r' hr'
   exact .refx _ _ _ _ b (hr.β _ _ _ hr' h) hi
  ·exact .bad _
 | agg cs vs hl hrel ih =>
  refine .agg _ vs (by rw [qez]; exact hl) fun j x y hx hy => ?_
  rw [renL_get] at hx
  obtain ⟨x', hx', rfl⟩ := Option.map_eq_some_iff.1 hx
  exact ih j x' y hx' hy
 | tup cs vs hl hrel ih =>
  refine .tup _ vs (by rw [qez]; exact hl) fun j x y hx hy => ?_
  rw [renL_get] at hx
  obtain ⟨x', hx', rfl⟩ := Option.map_eq_some_iff.1 hx
  exact ih j x' y hx' hy
 | fn g cs vs hl hrel ih =>
  refine .fn g _ vs (by rw [qez]; exact hl) fun j x y hx hy => ?_
  rw [renL_get] at hx
  obtain ⟨x', hx', rfl⟩ := Option.map_eq_some_iff.1 hx
  exact ih j x' y hx' hy
theorem VRs.ren {f : Nat → Option Nat} (hr : Ren w Z own γ γ' h f) (hn : ∀ A V, VR w Z γ A V → VR w Z γ (norm h A) V) (hv : VRs w Z γ cs vs) : VRs w Z γ' (renL h f cs) vs := by
 refine ⟨by rw [qez]; exact hv.1, fun j x y hx hy => ?_⟩
 rw [renL_get] at hx
 obtain ⟨x', hx', rfl⟩ := Option.map_eq_some_iff.1 hx
 exact (hv.2 j x' y hx' hy).ren hr hn
theorem keepT_VRs (keep : List Nat) : ∀ {cs : List AV} {vs : List Value} (i : Nat), VRs w Z γ cs vs → VRs w Z γ (keepT keep cs i) vs
 | [], vs, _, h => ⟨by simpa [keepT] using h.1, fun j a v ha => by simp [keepT] at ha⟩
 | _ :: _, [], _, h => by simp [VRs] at h
 | a :: _, _ :: _, i, h => by
  simp only [keepT]
  split
  ·exact .cons h.head (keepT_VRs keep (i + 1) h.tail)
  ·exact .cons (.bad _) (keepT_VRs keep (i + 1) h.tail)
theorem keepH_get {f : Nat → Option Nat} : ∀ {l : List (Nat × Nat)} {r' : Nat} {R' : Root}, hget (keepH h f l) r' = some R' → ∃ r R, (r, r') ∈ l ∧ hget h r = some R ∧ R.pend = none ∧ R.fz = false ∧ R' = { cont := R.cont.ren h f, cur := r', old := [], fz := false, pend := none }
 | [], r', cs, hg => by simp [keepH, hget] at hg
 | (p, q) :: l, r', R', hg => by
  simp only [keepH] at hg
  have next : hget (keepH h f l) r' = some R' → ∃ r R, (r, r') ∈ (p, q) :: l ∧ hget h r = some R ∧ R.pend = none ∧ R.fz = false ∧ R' = { cont := R.cont.ren h f, cur := r', old := [], fz := false, pend := none } := fun hg => by
   obtain ⟨r, R, h1, h2⟩ := keepH_get hg
   exact ⟨r, R, List.mem_cons_of_mem _ h1, h2⟩
  split at hg
  ·rename_i R hR
   split at hg
   ·exact next hg
   ·rename_i hc
    simp only [Bool.not_eq_true, Bool.or_eq_false_iff, Option.isSome_eq_false_iff, Option.isNone_iff_eq_none] at hc
    simp only [hget] at hg
    split at hg
    ·rename_i hq
     injection hg with hg
     subst hq
     exact ⟨p, R, List.mem_cons_self, hR, hc.1, hc.2, hg.symm⟩
    ·exact next hg
  ·exact next hg
theorem MemR.ren (hr : qeq nx roots = true) (hm : MemR w0 K w Z own γ h used) : ∃ own', Ren w Z own γ (γcut γ h roots) h (alook roots) ∧ MemR w0 K w Z own' (γcut γ h roots) (keepH h (alook roots) roots) (fun s => s < nx) := by
 have hR : Ren w Z own γ (γcut γ h roots) h (alook roots) := by
  refine ⟨fun r r' b hf hb => ?_, fun r r' R hf hg q hd hq => ?_, hm.root⟩
  ·simp only [γcut, find_at hr (alook_mem hf), Option.bind_some]
   exact hb
  ·simp only [γcut, find_at hr (alook_mem hf), hg]
   exact hq
 let own' : Own := fun b => match own b with | some (r, q) => (alook roots r).map fun r' => (r', q) | none => none
 have hown : ∀ b o, own' b = some o → ∃ o', own b = some o' := fun b o ho => by
  simp only [own'] at ho
  split at ho
  ·rename_i heq; exact ⟨_, heq⟩
  ·cases ho
 have hown' : ∀ b r r' q, alook roots r = some r' → own b = some (r, q) → own' b = some (r', q) := fun b r r' q hf ho => by
  simp only [own', ho, hf, Option.map_some]
 refine ⟨own', hR, hm.os, hm.tape, hm.output, hm.size, hm.kept, hm.zin, hm.zlt, fun b o ho => ?_, fun b o ho => ?_, fun b o ho => ?_, fun r' R' hg => ?_, fun r' R' hg => ?_, fun s hs => ?_⟩
 ·obtain ⟨o', ho'⟩ := hown b o ho; exact hm.ownlt b o' ho'
 ·obtain ⟨o', ho'⟩ := hown b o ho; exact hm.ownZ b o' ho'
 ·obtain ⟨o', ho'⟩ := hown b o ho; exact hm.ownK b o' ho'
 ·obtain ⟨r, R, h1, h2, h3, h4, rfl⟩ := keepH_get hg
  have hf := rootsOK_look hr h1
  refine ⟨fun e he => by simp at he, ?_⟩
  have hc := (hm.root r R h2).cont
  unfold ContR at hc ⊢
  split at hc
  ·rename_i cs hcs
   simp only [hcs, Cont.ren]
   obtain ⟨e1, e2, b, arr, e, k1, k2, k3, k4⟩ := hc
   exact ⟨trivial, trivial, b, arr, e, hR.β _ _ _ hf k1, hown' _ _ _ _ hf k2, k3, k4.ren hR (fun A V hv => norm_sound hm hv)⟩
  ·rename_i x hcs
   simp only [hcs, Cont.ren]
   obtain ⟨e1, e2, b, o, k1, k2, k3, k4⟩ := hc
   exact ⟨trivial, trivial, b, o, hR.β _ _ _ hf k1, hown' _ _ _ _ hf k2, k3, k4⟩
  ·rename_i m by_ S xs hcs
   simp only [hcs, Cont.ren]
   refine ⟨⟨hc.1.1, by
    have : (γcut γ h roots).G r' = γ.G R.cur := by simp only [γcut, find_at hr h1, h2]
    rw [this]; exact hc.1.2⟩, ?_⟩
   have hc := hc.2
   rw [if_neg (by simp [h4])] at hc
   simp only [h3] at hc
   rw [if_neg (by simp)]
   exact hc.moveR (Stay.refl _ _) (fun q hd hq => hR.G _ _ _ hf h2 _ _ hq) fun b q row hob hM => ⟨hown' _ _ _ _ hf hob, hM⟩
  ·rename_i l hcs
   simp only [hcs, Cont.ren]
   exact ⟨trivial, trivial, fun p hp => by
    obtain ⟨q, hq, rfl⟩ := List.mem_map.1 hp
    exact (hc.2.2 q hq).ren hR⟩
 ·obtain ⟨r, R, h1, h2, h3, h4, rfl⟩ := keepH_get hg
  have := rootsOK_lt hr _ _ h1
  exact ⟨this, this, fun e he => by simp at he⟩
 ·exact ⟨by simp [γcut, find_none hr (Nat.le_of_not_lt hs)], fun q => by simp [γcut, find_none hr (Nat.le_of_not_lt hs)]⟩
end
section
variable {E : Ctx} {w w' w0 : World} {Z Z' : Nat → Prop} {K : Kp} {own own' : Own} {γ γ' : Gst} {h h' H : Heap} {used used' : Nat → Prop}
theorem qfk {x : Nat} : ∀ {l : List Nat}, hget (maskH H l) x = if x ∈ l then hget H x else none
 | [] => by simp [maskH, hget]
 | r :: l => by
  simp only [maskH]
  split
  ·rename_i R hR
   simp only [hget]
   by_cases hx : r = x
   ·subst hx; simp [hR]
   ·rw [if_neg hx, qfk]
    simp [Ne.symm hx]
  ·rename_i hR
   rw [qfk]
   by_cases hx : x = r
   ·subst hx; simp [hR]
   ·simp [hx]
theorem MemR.congr (hm : MemR w0 K w Z own γ H used) (hh : ∀ x, hget h' x = hget H x) : MemR w0 K w Z own γ h' used :=
 hm.step (Stay.refl w Z) (Gst.Ext.refl used γ) (fun _ h => h) rfl rfl rfl (Nat.le_refl _) (fun _ => False) (fun _ _ _ => rfl) (fun _ _ ho _ => ho) (fun _ _ ho => .inl ⟨ho, fun h => h⟩) (fun b hb => ⟨hm.zlt b hb, .inl hb⟩) (fun x R hg => .inl ⟨by rw [← hh]; exact hg, fun h => h⟩) hm.fresh
def ownM (own : Own) (hm : Heap) : Own := fun b => match own b with | some o => if (hget hm o.1).isSome then some o else none | none => none
def KM (Z : Nat → Prop) (own : Own) (hm : Heap) : Kp := ⟨fun b => ∀ o, own b = some o → (hget hm o.1).isSome = false, Z⟩
theorem ownM_some {hm : Heap} {b : Nat} {o : Nat × Pth} (h : ownM own hm b = some o) : own b = some o ∧ (hget hm o.1).isSome = true := by
 unfold ownM at h
 split at h
 ·rename_i o' ho
  split at h
  ·rename_i hi
   injection h with h
   subst h
   exact ⟨ho, hi⟩
  ·cases h
 ·cases h
theorem MemR.masked (hm : MemR w0 K w Z own γ H used) (l : List Nat) : MemR w (KM Z own (maskH H l)) w Z (ownM own (maskH H l)) γ (maskH H l) used := by
 refine ⟨rfl, rfl, rfl, Nat.le_refl _, fun _ _ _ => rfl, fun b hb _ _ => hb, hm.zlt, fun b o ho => hm.ownlt b o (ownM_some ho).1, fun b o ho => hm.ownZ b o (ownM_some ho).1, fun b o ho _ hk => ?_, fun x R hg => ?_, fun x R hg => ?_, hm.fresh⟩
 ·obtain ⟨h1, h2⟩ := ownM_some ho
  rw [hk o h1] at h2
  cases h2
 ·have hg' := hg
  rw [qfk] at hg
  split at hg
  ·refine RootR.frame (used := used) (Stay.refl w Z) (Gst.Le.refl γ) (Gst.Ext.refl used γ) (hm.keys x R hg).2 (fun b q ho => ⟨?_, rfl⟩) (hm.root x R hg)
   simp only [ownM, ho]
   rw [if_pos (by rw [hg']; rfl)]
  ·cases hg
 ·rw [qfk] at hg
  split at hg
  ·exact hm.keys x R hg
  ·cases hg
theorem MemR.framed (hm : MemR w0 K w Z own γ H used) {l : List Nat} {ws : List (Nat × Option Root)} (hs : Stay w Z w' Z') (he : Gst.Ext used γ γ') (hu : ∀ s, used s → used' s)
  (hr : MemR w (KM Z own (maskH H l)) w' Z' own' γ' (qav (maskH H l) ws) used') : (∃ own2, MemR w0 K w' Z' own2 γ' (qav H ws) used' ∧ ∀ b o, own b = some o → (hget (maskH H l) o.1).isSome = false → own2 b = some o ∧ w'.heap[b]? = w.heap[b]?) := by
 let own2 : Own := fun b => match own' b with | some o => some o | none => match own b with | some o => if (hget (maskH H l) o.1).isSome then none else some o | none => none
 have hk : ∀ b, b < w.heap.size → (∀ o, own b = some o → ¬ (hget (maskH H l) o.1).isSome = true) → (KM Z own (maskH H l)).k b := fun b _ h o ho => by
  have := h o ho
  simpa using this
 have hsome : ∀ b o, own' b = some o → b < w.heap.size → ∃ o', own b = some o' ∧ (hget (maskH H l) o'.1).isSome = true := fun b o ho hb => by
  have := hr.ownK b o ho hb
  simp only [KM] at this
  rcases Classical.em (∃ o', own b = some o' ∧ (hget (maskH H l) o'.1).isSome = true) with h | h
  ·exact h
  ·refine absurd (fun o' ho' => ?_) this
   cases hh : (hget (maskH H l) o'.1).isSome with
   | false => rfl
   | true => exact absurd ⟨o', ho', hh⟩ h
 have hkeep : ∀ b o, own b = some o → (hget (maskH H l) o.1).isSome = false → own2 b = some o ∧ w'.heap[b]? = w.heap[b]? := fun b o ho hno => by
  have hb := hm.ownlt b o ho
  have hnone : own' b = none := by
   cases h : own' b with
   | none => rfl
   | some o2 =>
    obtain ⟨o', h1, h2⟩ := hsome b o2 h hb
    rw [ho] at h1
    injection h1 with h1
    subst h1
    rw [hno] at h2
    cases h2
  refine ⟨?_, hr.kept b hb (hk b hb fun o' ho' => ?_)⟩
  ·simp only [own2, hnone, ho]
   rw [if_neg (by rw [hno]; simp)]
  ·rw [ho] at ho'
   injection ho' with ho'
   subst ho'
   rw [hno]
   simp
 refine ⟨own2, ?_, hkeep⟩
 refine hm.step hs he hu hr.os hr.tape hr.output hr.size (fun x => (hget (maskH H l) x).isSome = true) (fun b hb hno => hr.kept b hb (hk b hb hno)) (fun b o ho hno => ?_) (fun b o ho => ?_) (fun b hb => ⟨hr.zlt b hb, ?_⟩) (fun x R hg => ?_) hr.fresh
 ·have hb := hm.ownlt b o ho
  have hnone : own' b = none := by
   cases h : own' b with
   | none => rfl
   | some o2 =>
    obtain ⟨o', h1, h2⟩ := hsome b o2 h hb
    rw [ho] at h1
    injection h1 with h1
    subst h1
    exact absurd h2 hno
  simp only [own2, hnone, ho]
  rw [if_neg hno]
 ·simp only [own2] at ho
  split at ho
  ·rename_i o2 ho2
   injection ho with ho
   subst ho
   refine .inr ⟨hr.ownlt b _ ho2, hr.ownZ b _ ho2, ?_⟩
   rcases Nat.lt_or_ge b w.heap.size with hb | hb
   ·exact .inl (hsome b _ ho2 hb)
   ·exact .inr hb
  ·split at ho
   ·rename_i o2 ho2
    split at ho
    ·cases ho
    ·rename_i hno
     injection ho with ho
     subst ho
     exact .inl ⟨ho2, hno⟩
   ·cases ho
 ·rcases Nat.lt_or_ge b w.heap.size with hb' | hb'
  ·rcases Classical.em (∃ o, own b = some o ∧ (hget (maskH H l) o.1).isSome = true) with h | h
   ·exact .inr (.inl h)
   ·exact .inl (hr.zin b hb hb' (hk b hb' fun o ho hh => h ⟨o, ho, hh⟩))
  ·exact .inr (.inr hb')
 ·rw [qcw] at hg
  by_cases hin : x ∈ ws.map (·.1) ∨ hget H x = hget (maskH H l) x
  ·rw [upW_in hin, ← qcw] at hg
   by_cases hch : (hget (maskH H l) x).isSome = true ∨ x ∈ ws.map (·.1)
   ·obtain ⟨k1, k2, k3⟩ := hr.keys x R hg
    refine .inr ⟨RootR.frame (used := used') (Stay.refl w' Z') (Gst.Le.refl γ') (Gst.Ext.refl used' γ') ⟨k2, k3⟩ (fun b q ho => ⟨?_, rfl⟩) (hr.root x R hg), k1, k2, k3⟩
    simp only [own2, ho]
   ·simp only [not_or] at hch
    rw [qcw, upW_not hch.2] at hg
    rw [hg] at hch
    exact absurd rfl hch.1
  ·simp only [not_or] at hin
   rw [upW_not hin.1] at hg
   refine .inl ⟨hg, fun hh => hin.2 ?_⟩
   rw [qfk]
   rw [qfk] at hh
   split
   ·rfl
   ·rename_i hx
    rw [if_neg hx] at hh
    cases hh
end
end Go.BE
namespace Go.BE
open Go.RowKit
def qfx (l : List Pin) : Root := { cont := .pins l, cur := 0, old := [], fz := false, pend := none }
def PinsOf (as : List Nat) : Heap → List Pin → Prop
 | [], l => l = []
 | (j, R) :: h, l => match R.cont with
  | .cells _ => ∃ v l', l = .b j v :: l' ∧ PinsOf as h l'
  | .arr .. => if as.contains j then ∃ hd l', l = .g j j hd :: l' ∧ PinsOf as h l' else PinsOf as h l
  | _ => PinsOf as h l
def IoOK (E : Ctx) : Prop := ∀ f args h r, E.io f args h = some r → r.pre → ∀ l, PinsOf (E.iopin f) h l → ∀ (w0 : World) (K : Kp) (w : World) (Z : Nat → Prop) (own : Own) (γ : Gst) (vs : List Value), GlR E w Z →
 MemR w0 K w Z own γ ((0, qfx l) :: h) (fun s => s < 16) → VRs w Z γ args vs →
 Calls E.P f vs.toArray w fun e w' => ∃ v Z' own' γ', e = .returned v ∧ Stay w Z w' Z' ∧ MemR w0 K w' Z' own' γ' ((0, qfx l) :: r.roots) (fun s => s < 16) ∧ VR w' Z' γ' r.res v
section
variable {E : Ctx} {w w' w0 : World} {Z Z' : Nat → Prop} {K : Kp} {own own' own2 : Own} {γ γ' γ2 : Gst} {h h' : Heap} {used used' : Nat → Prop} {r s d id : Nat} {R : Root} {a A B : AV} {v V U : Value} {cs ds : List AV} {vs us : List Value} {m : List (Nat × Nat)}
theorem closeM_sound : ∀ {bs : List Bool} {cs : List AV} {vs : List Value} {C : List Prop} {ds : List AV} {ws : List (Nat × Option Root)} {h : Heap} {Z : Nat → Prop} {own : Own}, MemR w0 K w Z own γ h used → closeM h bs cs = some (C, ds, ws) → AllP C → VRs w Z γ cs vs →
  ∃ Z' own', Closed w0 K w Z own γ (qav h ws) used Z' own' ∧ VRs w Z' γ ds vs
 | [], [], vs, C, ds, ws, h, Z, own, hm, he, _, hv => by
  simp only [closeM, Option.some.injEq, Prod.mk.injEq] at he
  obtain ⟨rfl, rfl, rfl⟩ := he
  exact ⟨Z, own, ⟨Stay.refl _ _, hm, fun _ _ h => h, fun _ _ h => .inl h⟩, hv⟩
 | [], _ :: _, _, _, _, _, _, _, _, _, he, _, _ => by simp [closeM] at he
 | true :: _, [], _, _, _, _, _, _, _, _, he, _, _ => by simp [closeM] at he
 | false :: _, [], _, _, _, _, _, _, _, _, he, _, _ => by simp [closeM] at he
 | true :: bs, c :: cs, [], _, _, _, _, _, _, _, _, _, hv => by simp [VRs] at hv
 | false :: bs, c :: cs, [], _, _, _, _, _, _, _, _, _, hv => by simp [VRs] at hv
 | true :: bs, c :: cs, v :: vs, C, ds, ws, h, Z, own, hm, he, hC, hv => by
  simp only [closeM] at he
  split at he
  ·rename_i C1 l1 ws1 h1
   simp only [Option.some.injEq, Prod.mk.injEq] at he
   obtain ⟨rfl, rfl, rfl⟩ := he
   obtain ⟨Z2, own2, q1, q2⟩ := closeM_sound hm h1 hC hv.tail
   exact ⟨Z2, own2, q1, .cons (hv.head.mono q1.stay (Gst.Le.refl γ)) q2⟩
  ·cases he
 | false :: bs, c :: cs, v :: vs, C, ds, ws, h, Z, own, hm, he, hC, hv => by
  simp only [closeM] at he
  split at he
  ·rename_i C1 a1 ws1 h1
   split at he
   ·rename_i C2 l2 ws2 h2
    simp only [Option.some.injEq, Prod.mk.injEq] at he
    obtain ⟨rfl, rfl, rfl⟩ := he
    obtain ⟨Z1, own1, k1, k2⟩ := qgg hm h1 (AllP.append.1 hC).1 hv.head
    obtain ⟨Z2, own2, q1, q2⟩ := closeM_sound k1.mem h2 (AllP.append.1 hC).2 (hv.tail.mono k1.stay (Gst.Le.refl γ))
    exact ⟨Z2, own2, ⟨k1.stay.trans q1.stay, by rw [qce]; exact q1.mem, fun b o ho => k1.own b o (q1.own b o ho), k1.blk2 q1⟩, .cons (.cr (k2.mono q1.stay)) q2⟩
   ·cases he
  ·cases he
theorem pinsOf_ex (as : List Nat) : ∀ {h : Heap}, (∀ j R, (j, R) ∈ h → RootR w Z own γ j R ∧ R.cur = j ∧ R.fz = false ∧ R.pend = none) → ∃ l, PinsOf as h l ∧ ∀ p ∈ l, PinR γ p
 | [], _ => ⟨[], rfl, fun p hp => by simp at hp⟩
 | (j, R) :: h, hh => by
  obtain ⟨l, h1, h2⟩ := pinsOf_ex as (h := h) fun j R hm => hh j R (List.mem_cons_of_mem _ hm)
  obtain ⟨hr, hcur, hfz, hpd⟩ := hh j R List.mem_cons_self
  have hc := hr.cont
  unfold ContR at hc
  simp only [PinsOf]
  split at hc
  ·rename_i cs hcs
   obtain ⟨_, _, b, arr, e, k1, k2, k3, k4⟩ := hc
   simp only [hcs]
   exact ⟨.b j b :: l, ⟨b, l, rfl, h1⟩, fun p hp => by
    rcases List.mem_cons.1 hp with rfl | hp
    ·exact k1
    ·exact h2 p hp⟩
  ·rename_i x hcs
   simp only [hcs]
   exact ⟨l, h1, h2⟩
  ·rename_i m by_ S xs hcs
   simp only [hcs]
   have hc := hc.2
   rw [if_neg (by simp [hfz])] at hc
   simp only [hpd] at hc
   obtain ⟨hd, n1, _⟩ := hc
   split
   ·exact ⟨.g j j hd :: l, ⟨hd, l, rfl, h1⟩, fun p hp => by
     rcases List.mem_cons.1 hp with rfl | hp
     ·show γ.G j [] = some hd
      rw [← hcur]
      exact n1
     ·exact h2 p hp⟩
   ·exact ⟨l, h1, h2⟩
  ·rename_i l0 hcs
   simp only [hcs]
   exact ⟨l, h1, h2⟩
theorem pinsOf_b {as : List Nat} {j : Nat} : ∀ {h : Heap} {l : List Pin}, PinsOf as h l → isCells h j = true → ∃ v, .b j v ∈ l
 | [], _, _, hi => by simp [isCells, hget] at hi
 | (k, R) :: h, l, hp, hi => by
  simp only [isCells, hget] at hi
  simp only [PinsOf] at hp
  by_cases hk : k = j
  ·subst hk
   simp only [if_true] at hi
   split at hi
   ·rename_i cs hcs
    simp only [hcs] at hp
    obtain ⟨v, l', rfl, _⟩ := hp
    exact ⟨v, List.mem_cons_self⟩
   ·cases hi
  ·rw [if_neg hk] at hi
   have ih := fun l' (hp : PinsOf as h l') => pinsOf_b (as := as) (j := j) (h := h) (l := l') hp (by simp only [isCells]; exact hi)
   split at hp
   ·obtain ⟨v, l', rfl, h1⟩ := hp
    obtain ⟨u, hu⟩ := ih _ h1
    exact ⟨u, List.mem_cons_of_mem _ hu⟩
   ·split at hp
    ·obtain ⟨hd, l', rfl, h1⟩ := hp
     obtain ⟨u, hu⟩ := ih _ h1
     exact ⟨u, List.mem_cons_of_mem _ hu⟩
    ·exact ih _ hp
   ·exact ih _ hp
theorem pinsOf_g {as : List Nat} {j : Nat} (ha : as.contains j = true) : ∀ {h : Heap} {l : List Pin} {R : Root} {m b : Nat} {S : Sh} {xs : List (Den S)}, PinsOf as h l → hget h j = some R → R.cont = .arr m b S xs → ∃ hd, .g j j hd ∈ l
 | [], _, _, _, _, _, _, _, hi, _ => by simp [hget] at hi
 | (k, R0) :: h, l, R, m, b, S, xs, hp, hi, hc => by
  simp only [hget] at hi
  simp only [PinsOf] at hp
  by_cases hk : k = j
  ·subst hk
   simp only [if_true] at hi
   injection hi with hi
   subst hi
   simp only [hc] at hp
   rw [if_pos ha] at hp
   obtain ⟨hd, l', rfl, _⟩ := hp
   exact ⟨hd, List.mem_cons_self⟩
  ·rw [if_neg hk] at hi
   have ih := fun l' (hp : PinsOf as h l') => pinsOf_g ha (h := h) (l := l') hp hi hc
   split at hp
   ·obtain ⟨v, l', rfl, h1⟩ := hp
    obtain ⟨u, hu⟩ := ih _ h1
    exact ⟨u, List.mem_cons_of_mem _ hu⟩
   ·split at hp
    ·obtain ⟨hd, l', rfl, h1⟩ := hp
     obtain ⟨u, hu⟩ := ih _ h1
     exact ⟨u, List.mem_cons_of_mem _ hu⟩
    ·exact ih _ hp
   ·exact ih _ hp
theorem shML_get (m : List (Nat × Nat)) (base : Nat) : ∀ (l : List AV) (j : Nat), (shML m base l)[j]? = (l[j]?).map (AV.shM m base)
 | [], j => by simp [shML]
 | a :: l, 0 => by simp [shML]
 | a :: l, j + 1 => by simpa [shML] using shML_get m base l j
theorem qex (m : List (Nat × Nat)) (base : Nat) : ∀ l : List AV, (shML m base l).length = l.length
 | [] => rfl
 | _ :: l => by simp [shML, qex m base l]
theorem CR.shM {base : Nat} (h : CR w Z a v) : CR w Z (a.shM m base) v := by
 induction h with
 | val v h => exact .val v h
 | tva S x vs hS h => exact .tva S x vs hS h
 | tv1 S x v hS h => exact .tv1 S x v hS h
 | rtp S x b o us hz hr h => exact .rtp S x b o us hz hr h
 | rop cs off b o u hz hc hr ih => exact .rop cs off b o u hz hc hr
 | agg cs vs hl hr ih =>
  refine .agg _ vs (by rw [qex]; exact hl) fun j x y hx hy => ?_
  rw [shML_get] at hx
  obtain ⟨x', hx', rfl⟩ := Option.map_eq_some_iff.1 hx
  exact ih j x' y hx' hy
 | tup cs vs hl hr ih =>
  refine .tup _ vs (by rw [qex]; exact hl) fun j x y hx hy => ?_
  rw [shML_get] at hx
  obtain ⟨x', hx', rfl⟩ := Option.map_eq_some_iff.1 hx
  exact ih j x' y hx' hy
 | fn f cs vs hl hr ih =>
  refine .fn f _ vs (by rw [qex]; exact hl) fun j x y hx hy => ?_
  rw [shML_get] at hx
  obtain ⟨x', hx', rfl⟩ := Option.map_eq_some_iff.1 hx
  exact ih j x' y hx' hy
structure ShiftM (m : List (Nat × Nat)) (base : Nat) (ok : Nat → Prop) (γ γ' : Gst) : Prop where
 β : ∀ j b, ok j → γ.β j = some b → γ'.β (shG m base j) = some b
 G : ∀ s p hd, γ.G s p = some hd → γ'.G (base + s) p = some hd
theorem refsL_at {j k : Nat} : ∀ {l : List AV}, l[j]? = some a → k ∈ a.refs → k ∈ refsL l
 | [], h, _ => by simp at h
 | x :: l, h, hk => by
  simp only [refsL, List.mem_append]
  cases j with
  | zero => simp at h; subst h; exact .inl hk
  | succ j => exact .inr (refsL_at (j := j) (by simpa using h) hk)
theorem VR.shM {base : Nat} {ok : Nat → Prop} (hs : ShiftM m base ok γ γ') (h : VR w Z γ a v) : (∀ j ∈ a.refs, ok j) → VR w Z γ' (a.shM m base) v := by
 induction h with
 | bad v => exact fun _ => .bad v
 | cr h => exact fun _ => .cr h.shM
 | ref r off b h => exact fun hr => .ref _ off b (hs.β _ _ (hr r (by simp [AV.refs])) h)
 | tref r s p i st hd b o so T h hi hb hst => exact fun _ => .tref _ _ p i st hd b o so T (hs.G _ _ _ h) hi hb hst
 | osl r s p win v hd h hv => exact fun _ => .osl _ _ p win v hd (hs.G _ _ _ h) hv
 | optr r s p v hd h hp hv => exact fun _ => .optr _ _ p v hd (hs.G _ _ _ h) hp hv
 | csl r off n b c h hc hr => exact fun hq => .csl _ off n b c (hs.β _ _ (hq r (by simp [AV.refs])) h) hc hr
 | yld r l h => exact fun hq => .yld _ l (hs.β _ _ (hq r (by simp [AV.refs])) h)
 | mp r b h => exact fun hq => .mp _ b (hs.β _ _ (hq r (by simp [AV.refs])) h)
 | refx r off n i b h hi => exact fun hq => .refx _ off n i b (hs.β _ _ (hq r (by simp [AV.refs])) h) hi
 | agg cs vs hl hr ih =>
  intro hq
  refine .agg _ vs (by rw [qex]; exact hl) fun j x y hx hy => ?_
  rw [shML_get] at hx
  obtain ⟨x', hx', rfl⟩ := Option.map_eq_some_iff.1 hx
  exact ih j x' y hx' hy fun k hk => hq k (by simp only [AV.refs]; exact refsL_at hx' hk)
 | tup cs vs hl hr ih =>
  intro hq
  refine .tup _ vs (by rw [qex]; exact hl) fun j x y hx hy => ?_
  rw [shML_get] at hx
  obtain ⟨x', hx', rfl⟩ := Option.map_eq_some_iff.1 hx
  exact ih j x' y hx' hy fun k hk => hq k (by simp only [AV.refs]; exact refsL_at hx' hk)
 | fn f cs vs hl hr ih =>
  intro hq
  refine .fn f _ vs (by rw [qex]; exact hl) fun j x y hx hy => ?_
  rw [shML_get] at hx
  obtain ⟨x', hx', rfl⟩ := Option.map_eq_some_iff.1 hx
  exact ih j x' y hx' hy fun k hk => hq k (by simp only [AV.refs]; exact refsL_at hx' hk)
theorem VRs.shM {base : Nat} {ok : Nat → Prop} (hs : ShiftM m base ok γ γ') (h : VRs w Z γ cs vs) (hq : ∀ j ∈ refsL cs, ok j) : VRs w Z γ' (shML m base cs) vs := by
 refine ⟨by rw [qex]; exact h.1, fun j x y hx hy => ?_⟩
 rw [shML_get] at hx
 obtain ⟨x', hx', rfl⟩ := Option.map_eq_some_iff.1 hx
 exact (h.2 j x' y hx' hy).shM hs fun k hk => hq k (refsL_at hx' hk)
theorem ContR.shM {base j : Nat} {ok : Nat → Prop} {R' : Root} (hs : ShiftM m base ok γ γ') (hGe : γ'.G (base + R.cur) = γ.G R.cur) (ho : ∀ b p, own b = some (j, p) → own' b = some (shG m base j, p)) (hp : R.pend = none) (hok : ∀ k ∈ rootRefs j R.cont, ok k)
  (e1 : R'.cont = R.cont.shM m base) (e2 : R'.cur = base + R.cur) (e3 : R'.fz = R.fz) (e4 : R'.pend = R.pend) (h : ContR w Z own γ j R) : ContR w Z own' γ' (shG m base j) R' := by
 have hc := h
 unfold ContR at hc ⊢
 split at hc
 ·rename_i cs hcs
  simp only [e1, e3, e4, hcs, Cont.shM]
  rw [hcs] at hok
  obtain ⟨q1, q2, b, arr, e, k1, k2, k3, k4⟩ := hc
  exact ⟨q1, q2, b, arr, e, hs.β _ _ (hok j (by simp [rootRefs])) k1, ho _ _ k2, k3, k4.shM hs fun k hk => hok k (by simp [rootRefs, hk])⟩
 ·rename_i x hcs
  simp only [e1, e3, e4, hcs, Cont.shM]
  rw [hcs] at hok
  obtain ⟨q1, q2, b, o, k1, k2, k3, k4⟩ := hc
  exact ⟨q1, q2, b, o, hs.β _ _ (hok j (by simp [rootRefs])) k1, ho _ _ k2, k3, k4⟩
 ·rename_i m0 by_ S xs hcs
  simp only [e1, e2, e3, e4, hcs, Cont.shM, hp]
  refine ⟨⟨hc.1.1, by rw [hGe]; exact hc.1.2⟩, ?_⟩
  have hc := hc.2
  split at hc
  ·rename_i hf
   rw [if_pos hf]
   obtain ⟨_, own0, h1, h2⟩ := hc
   exact ⟨trivial, own0, h1, h2.moveR (Stay.refl _ _) (fun q hd hq => hs.G _ _ _ hq) fun b q row hob hM => ⟨hob, hM⟩⟩
  ·rename_i hf
   rw [if_neg hf]
   simp only [hp] at hc
   exact hc.moveR (Stay.refl _ _) (fun q hd hq => hs.G _ _ _ hq) fun b q row hob hM => ⟨ho b q hob, hM⟩
 ·rename_i l hcs
  simp only [e1, e3, e4, hcs, Cont.shM]
  exact ⟨hc.1, hc.2.1, fun p hp => by simp at hp⟩
theorem hget_ioPuts {h0 : Heap} {as : List Nat} {base x : Nat} : ∀ {l : List (Nat × Root)} {h : Heap}, hget (qav h (ioPuts h0 as m base l)) x = some R → (∃ j R0, hget l j = some R0 ∧ x = shG m base j ∧ R = R0.shM h0 as m base j) ∨ hget h x = some R
 | [], h, hg => .inr hg
 | (k, R0) :: l, h, hg => by
  rw [ioPuts, qce] at hg
  have hg' : hget (hput (qav h (ioPuts h0 as m base l)) (shG m base k) (R0.shM h0 as m base k)) x = some R := hg
  rw [qbr] at hg'
  split at hg'
  ·rename_i hx
   injection hg' with hg'
   exact .inl ⟨k, R0, by simp [hget], hx, hg'.symm⟩
  ·rename_i hx
   rcases hget_ioPuts (l := l) hg' with ⟨j, R1, h1, h2, h3⟩ | h1
   ·have hkj : ¬ k = j := fun e => hx (by rw [e]; exact h2)
    exact .inl ⟨j, R1, by simp only [hget]; rw [if_neg hkj]; exact h1, h2, h3⟩
   ·exact .inr h1
theorem keepH_num {f : Nat → Option Nat} {j : Nat} : ∀ {l : List (Nat × Nat)}, (j, R) ∈ keepH h f l → ∃ r, (r, j) ∈ l
 | [], hm => by simp [keepH] at hm
 | (r, r') :: l, hm => by
  have next : (j, R) ∈ keepH h f l → ∃ r0, (r0, j) ∈ (r, r') :: l := fun hm => by
   obtain ⟨r0, h0⟩ := keepH_num (l := l) hm
   exact ⟨r0, List.mem_cons_of_mem _ h0⟩
  simp only [keepH] at hm
  split at hm
  ·split at hm
   ·exact next hm
   ·rcases List.mem_cons.1 hm with e | hm
    ·injection e with e1 _
     subst e1
     exact ⟨r, List.mem_cons_self⟩
    ·exact next hm
  ·exact next hm
theorem keepH_in {f : Nat → Option Nat} {nx j : Nat} : ∀ {l : List (Nat × Nat)}, qeq nx l = true → (j, R) ∈ keepH h f l → hget (keepH h f l) j = some R
 | [], _, hm => by simp [keepH] at hm
 | (r, r') :: l, hr, hm => by
  have hr2 : qeq nx l = true := by
   simp only [qeq, Bool.and_eq_true] at hr
   exact hr.2
  simp only [keepH] at hm ⊢
  split at hm
  ·split at hm
   ·rename_i hc
    simp only [hc, if_true]
    exact keepH_in hr2 hm
   ·rename_i hc
    rw [if_neg hc]
    simp only [hget]
    rcases List.mem_cons.1 hm with e | hm
    ·injection e with e1 e2
     subst e1; subst e2
     simp
    ·obtain ⟨r0, h0⟩ := keepH_num hm
     have hne : ¬ r' = j := fun e => by
      simp only [qeq, Bool.and_eq_true, List.all_eq_true] at hr
      have := hr.1.2 _ h0
      simp only [bne_iff_ne, ne_eq] at this
      exact this.2 e.symm
     rw [if_neg hne]
     exact keepH_in hr2 hm
  ·exact keepH_in hr2 hm
theorem keepH_has {f : Nat → Option Nat} {r j : Nat} (hg : hget h r = some R) (hp : R.pend = none) (hf : R.fz = false) : ∀ {l : List (Nat × Nat)}, (r, j) ∈ l → (j, { cont := R.cont.ren h f, cur := j, old := [], fz := false, pend := none }) ∈ keepH h f l
 | [], hm => by cases hm
 | (k, k') :: l, hm => by
  simp only [keepH]
  rcases List.mem_cons.1 hm with e | hm
  ·injection e with e1 e2
   subst e1; subst e2
   simp only [hg, hp, hf]
   exact List.mem_cons_self
  ·have ih := keepH_has hg hp hf (f := f) hm
   split
   ·split
    ·exact ih
    ·exact List.mem_cons_of_mem _ ih
   ·exact ih
theorem number_mem {r j : Nat} : ∀ {l : List Nat} {i : Nat}, (r, j) ∈ number l i → r ∈ l
 | [], _, h => by simp [number] at h
 | x :: l, i, h => by
  simp only [number] at h
  rcases List.mem_cons.1 h with e | h
  ·injection e with e1 _
   subst e1
   exact List.mem_cons_self
  ·exact List.mem_cons_of_mem _ (number_mem h)
theorem oldCut_mem' {d : Nat} : ∀ {l : List (Nat × List Nat × Nat)} {e : Nat × List Nat × Nat}, e ∈ oldCut d l → ∃ e0 ∈ l, e = (e0.1, e0.2.1, min e0.2.2 d)
 | [], e, he => by cases he
 | (k, bad, cut) :: l, e, he => by
  simp only [oldCut, List.mem_cons] at he
  rcases he with rfl | he
  ·exact ⟨_, List.mem_cons_self, rfl⟩
  ·obtain ⟨e0, q1, q2⟩ := oldCut_mem' he
   exact ⟨e0, List.mem_cons_of_mem _ q1, q2⟩
theorem MemR.pin {l : List Pin} (hm : MemR w0 K w Z own γ h (fun s => s < 16)) (hl : ∀ p ∈ l, PinR γ p) : MemR w0 K w Z own γ ((0, qfx l) :: h) (fun s => s < 16) := by
 refine ⟨hm.os, hm.tape, hm.output, hm.size, hm.kept, hm.zin, hm.zlt, hm.ownlt, hm.ownZ, hm.ownK, fun x R hg => ?_, fun x R hg => ?_, hm.fresh⟩
 ·simp only [hget] at hg
  split at hg
  ·rename_i hx
   injection hg with hg
   subst hx; subst hg
   refine ⟨fun e he => by simp [qfx] at he, ?_⟩
   unfold ContR
   exact ⟨rfl, rfl, hl⟩
  ·exact hm.root x R hg
 ·simp only [hget] at hg
  split at hg
  ·rename_i hx
   injection hg with hg
   subst hx; subst hg
   exact ⟨by omega, by show 0 < 16; omega, fun e he => by simp [qfx] at he⟩
  ·exact hm.keys x R hg
theorem shG_old {nx base r j : Nat} (hr : qeq nx m = true) (hm : (r, j) ∈ m) : shG m base j = r := by simp only [shG, find_at hr hm]
theorem thinW_dels {ws : List (Nat × Option Root)} : ∀ rs : List Nat, thinW (mvDel rs ++ ws) = thinW ws
 | [] => rfl
 | _ :: rs => thinW_dels rs
theorem acallIO_sound (hE : IoOK E) (hm : MemR w0 K w Z own γ h used) (hgl : GlR E w Z) {bs : List Bool} {f : FuncId} {args : List AV} {C : List Prop} {Kn : Prop} {ws : List (Nat × Option Root)} (he : acallIO E h id bs f args = some (C, Kn, a, ws)) (hC : AllP C) (hv : VRs w Z γ args vs)
  (hid : ∀ j, j < 16 → ¬ used (id + j)) (hu : ∀ s, used s → used' s) (hid' : ∀ j, j < 16 → used' (id + j)) :
  Calls E.P f vs.toArray w fun e w' => ∃ v Z' own' γ', e = .returned v ∧ Kn ∧ Stay w Z w' Z' ∧ Gst.Ext used γ γ' ∧ MemR w0 K w' Z' own' γ' (qav h ws) used' ∧ VR w' Z' γ' a v := by
 unfold acallIO at he
 split at he
 ·rename_i C1 args1 ws1 hcl
  dsimp only at he
  split at he
  ·rename_i as has
   split at he
   ·rename_i hcond
    split at he
    ·rename_i r hr
     split at he
     ·rename_i hfit
      have hpre0 : C = C1 ++ [r.pre] ∧ Kn = okAV r.res ∧ a = r.res.shM (number (closeR (qav h ws1) 100 as []) 1) id := by
       split at he <;> (simp only [Option.some.injEq, Prod.mk.injEq] at he; obtain ⟨rfl, rfl, rfl, _⟩ := he; exact ⟨rfl, rfl, rfl⟩)
      obtain ⟨rfl, rfl, rfl⟩ := hpre0
      simp only [Bool.and_eq_true] at hcond
      obtain ⟨hrok, hall⟩ := hcond
      obtain ⟨hC1, hpre⟩ := AllP.append.1 hC
      obtain ⟨Z1, own1, k1, k2⟩ := closeM_sound hm hcl hC1 hv
      generalize hh1 : qav h ws1 = h1 at *
      generalize closeR h1 100 as [] = rs at *
      generalize hmd : number rs 1 = m at *
      have hmm := k1.mem.masked rs
      obtain ⟨own2, hR, hm2⟩ := hmm.ren hrok
      have hv2 := k2.ren hR (fun A V hv => norm_sound hmm hv)
      have hroots : ∀ j R, (j, R) ∈ keepH (maskH h1 rs) (alook m) m → RootR w Z1 own2 (γcut γ (maskH h1 rs) m) j R ∧ R.cur = j ∧ R.fz = false ∧ R.pend = none := fun j R hmem => by
       have hg := keepH_in hrok hmem
       refine ⟨hm2.root j R hg, ?_⟩
       obtain ⟨r0, R0, q1, q2, q3, q4, rfl⟩ := keepH_get hg
       exact ⟨rfl, rfl, rfl⟩
      obtain ⟨l, hl1, hl2⟩ := pinsOf_ex (E.iopin f) hroots
      refine (hE f _ _ r hr hpre.1 l hl1 w _ w Z1 own2 _ vs (hgl.mono k1.stay) (hm2.pin hl2) hv2).mono fun e w' ⟨v, Z2, own3, γ2, e1, e2, e3, e4⟩ => ?_
      simp only [ioFits, Bool.and_eq_true, Option.isNone_iff_eq_none] at hfit
      obtain ⟨⟨⟨hpn, hfit⟩, hrefs⟩, hrts⟩ := hfit
      have hpin : ∀ p ∈ l, PinR γ2 p := by
       have := (e3.root 0 (qfx l) (by simp [hget])).cont
       unfold ContR at this
       exact this.2.2
      classical
      let γ3 : Gst := { β := fun s => if used s then γ.β s else if id ≤ s then γ2.β (s - id) else none, G := fun s => if used s then γ.G s else if id ≤ s then γ2.G (s - id) else fun _ => none }
      let own4 : Own := fun b => (own3 b).map fun o => (shG m id o.1, o.2)
      have hext : Gst.Ext used γ γ3 := fun s hs => ⟨by simp only [γ3, if_pos hs], by simp only [γ3, if_pos hs]⟩
      have hβ : ∀ j, j < 16 → γ3.β (id + j) = γ2.β j := fun j hj => by
       simp only [γ3]
       rw [if_neg (hid j hj), if_pos (by omega), Nat.add_sub_cancel_left]
      have hG : ∀ j, j < 16 → γ3.G (id + j) = γ2.G j := fun j hj => by
       simp only [γ3]
       rw [if_neg (hid j hj), if_pos (by omega), Nat.add_sub_cancel_left]
      have hlt : ∀ j b, γ2.β j = some b → j < 16 := fun j b hb => by
       rcases Nat.lt_or_ge j 16 with h | h
       ·exact h
       ·rw [(e3.fresh j (by omega)).1] at hb; cases hb
      have hltG : ∀ j p hd, γ2.G j p = some hd → j < 16 := fun j p hd hb => by
       rcases Nat.lt_or_ge j 16 with h | h
       ·exact h
       ·rw [(e3.fresh j (by omega)).2] at hb; cases hb
      have hsh : ShiftM m id (fun j => (m.find? fun x => x.2 == j).isNone = true ∨ isCells (keepH (maskH h1 rs) (alook m) m) j = true) γ2 γ3 := by
       refine ⟨fun j b hj hb => ?_, fun s p hd hp => by rw [hG s (hltG s p hd hp)]; exact hp⟩
       rcases hj with hj | hj
       ·have : shG m id j = id + j := by
         unfold shG
         cases hf : m.find? (fun x => x.2 == j) with
         | none => rfl
         | some x => rw [hf] at hj; cases hj
        rw [this, hβ j (hlt j b hb)]
        exact hb
       ·obtain ⟨v', hv'⟩ := pinsOf_b hl1 hj
        have hb2 : γ2.β j = some v' := hpin _ hv'
        have hb1 : (γcut γ (maskH h1 rs) m).β j = some v' := hl2 _ hv'
        rw [hb] at hb2
        injection hb2 with hb2
        subst hb2
        unfold isCells at hj
        split at hj
        ·rename_i R hR
         obtain ⟨r0, R0, q1, q2, q3, q4, rfl⟩ := keepH_get hR
         rw [shG_old hrok q1]
         have hu0 : used r0 := (hmm.keys r0 R0 q2).1
         simp only [γcut, find_at hrok q1, Option.bind_some] at hb1
         simp only [γ3, if_pos hu0]
         exact hb1
        ·cases hj
      have hcase : ∀ x R, hget (qav (maskH h1 rs) (mvDel rs ++ ioPuts h1 (E.iopin f) m id r.roots)) x = some R → ∃ j R0, hget r.roots j = some R0 ∧ x = shG m id j ∧ R = R0.shM h1 (E.iopin f) m id j := by
       intro x R hg
       rw [qce] at hg
       rcases hget_ioPuts hg with h | h
       ·exact h
       ·rw [hget_mvDel, qfk] at h
        split at h
        ·cases h
        ·cases h
      have hfacts : ∀ j R0, hget r.roots j = some R0 → j < 16 ∧ 0 < j ∧ R0.cur = j ∧ R0.pend = none ∧ ∀ k ∈ rootRefs j R0.cont, (m.find? fun x => x.2 == k).isNone = true ∨ isCells (keepH (maskH h1 rs) (alook m) m) k = true := by
       intro j R0 hR0
       have hmem := hget_mem hR0
       have f1 := List.all_eq_true.1 hfit _ hmem
       have f2 := List.all_eq_true.1 hrts _ hmem
       simp only [Bool.and_eq_true, decide_eq_true_eq, Option.isNone_iff_eq_none, beq_iff_eq] at f1 f2
       refine ⟨f1.1.1, f2.1.1, f2.1.2, f1.2, fun k hk => ?_⟩
       have := List.all_eq_true.1 f2.2 _ hk
       simpa using this
      have hkept : ∀ j R0, hget r.roots j = some R0 → ∀ e ∈ keptOld h1 (E.iopin f) j (shG m id j), used e.1 ∧ ∀ q hd', q.length < e.2.2 → e.2.1.contains q.length = false → γ3.G e.1 q = some hd' → γ3.G (id + R0.cur) q = some hd' := by
       intro j R0 hR0 e hmem
       obtain ⟨j1, j2, j3, j4, j5⟩ := hfacts j R0 hR0
       unfold keptOld at hmem
       split at hmem
       ·rename_i Rk hps hRk
        split at hmem
        ·rename_i mk bk Sk xk hck
         split at hmem
         ·rename_i hpf
          simp only [Bool.and_eq_true, Option.isNone_iff_eq_none, Bool.not_eq_true'] at hpf
          obtain ⟨u1, u2, u3⟩ := k1.mem.keys _ _ hRk
          have hjm : (shG m id j, j) ∈ m := by
           cases hf : m.find? (fun x => x.2 == j) with
           | none =>
            have : shG m id j = id + j := by simp only [shG, hf]
            rw [this] at u1
            exact absurd u1 (hid j j1)
           | some x =>
            have q1 := List.mem_of_find?_eq_some hf
            have q2 := List.find?_some hf
            simp only [beq_iff_eq] at q2
            simp only [shG, hf]
            rw [← q2]
            exact q1
          have hin : shG m id j ∈ rs := by
           rw [← hmd] at hjm ⊢
           exact number_mem hjm
          have hmk : hget (maskH h1 rs) (shG m id j) = some Rk := by
           rw [qfk, if_pos hin]
           exact hRk
          have hkh := keepH_in hrok (keepH_has (f := alook m) hmk hpf.1 hpf.2 hjm)
          obtain ⟨hd, hpd⟩ := pinsOf_g (m := mk) (b := bk) (S := Sk) (xs := xk) hps hl1 hkh (show Cont.ren _ _ Rk.cont = _ by rw [hck]; rfl)
          have g1 : (γcut γ (maskH h1 rs) m).G j [] = some hd := hl2 _ hpd
          have g2 : γ2.G j [] = some hd := hpin _ hpd
          simp only [γcut, find_at hrok hjm, hmk] at g1
          have fin : ∀ hd', γ.G Rk.cur [] = some hd' → γ3.G (id + R0.cur) [] = some hd' := fun hd' h => by
           rw [j3, hG j j1, g2, ← g1]
           exact h
          rcases List.mem_cons.1 hmem with rfl | hmem
          ·refine ⟨u2, fun q hd' q1 q2 q3 => ?_⟩
           have hq : q = [] := List.eq_nil_of_length_eq_zero (by have : q.length < 1 := q1; omega)
           subst hq
           simp only [γ3, if_pos u2] at q3
           exact fin _ q3
          ·obtain ⟨e0, h0, rfl⟩ := oldCut_mem' hmem
           have u4 := u3 e0 h0
           refine ⟨u4, fun q hd' q1 q2 q3 => ?_⟩
           have q1 : q.length < min e0.2.2 1 := q1
           have hq : q = [] := List.eq_nil_of_length_eq_zero (by omega)
           subst hq
           simp only [γ3, if_pos u4] at q3
           exact fin _ ((k1.mem.root _ _ hRk).old e0 h0 [] hd' (by simp only [List.length_nil] at q1 ⊢; omega) q2 q3)
         ·cases hmem
        ·cases hmem
       ·cases hmem
      have hm4 : MemR w (KM Z1 own1 (maskH h1 rs)) w' Z2 own4 γ3 (qav (maskH h1 rs) (mvDel rs ++ ioPuts h1 (E.iopin f) m id r.roots)) used' := by
       refine ⟨e3.os, e3.tape, e3.output, e3.size, e3.kept, e3.zin, e3.zlt, fun b o ho => ?_, fun b o ho => ?_, fun b o ho => ?_, fun x R hg => ?_, fun x R hg => ?_, fun s hs => ?_⟩
       ·obtain ⟨o', ho', rfl⟩ := Option.map_eq_some_iff.1 ho
        exact e3.ownlt b o' ho'
       ·obtain ⟨o', ho', rfl⟩ := Option.map_eq_some_iff.1 ho
        exact e3.ownZ b o' ho'
       ·obtain ⟨o', ho', rfl⟩ := Option.map_eq_some_iff.1 ho
        exact e3.ownK b o' ho'
       ·obtain ⟨j, R0, hR0, rfl, rfl⟩ := hcase x R hg
        obtain ⟨j1, j2, j3, j4, j5⟩ := hfacts j R0 hR0
        have hj0 : hget ((0, qfx l) :: r.roots) j = some R0 := by
         simp only [hget]
         rw [if_neg (by omega)]
         exact hR0
        refine ⟨fun e he q hd' => (hkept j R0 hR0 e he).2 q hd', ?_⟩
        exact ContR.shM hsh (hG _ (by omega)) (fun b p ho => by simp only [own4, ho, Option.map_some]) j4 j5 rfl rfl rfl rfl (e3.root j R0 hj0).cont
       ·obtain ⟨j, R0, hR0, rfl, rfl⟩ := hcase x R hg
        obtain ⟨j1, j2, j3, j4, j5⟩ := hfacts j R0 hR0
        refine ⟨?_, hid' _ (by omega), fun e he => hu _ (hkept j R0 hR0 e he).1⟩
        cases hf : m.find? (fun x => x.2 == j) with
        | none =>
         have : shG m id j = id + j := by simp only [shG, hf]
         rw [this]
         exact hid' j j1
        | some x =>
         have q1 := List.mem_of_find?_eq_some hf
         have q2 := List.find?_some hf
         simp only [beq_iff_eq] at q2
         have : shG m id j = x.1 := by simp only [shG, hf]
         rw [this]
         have hxr : x.1 ∈ rs := by
          rw [← hmd] at q1
          exact number_mem q1
         have hsm := List.all_eq_true.1 hall _ hxr
         cases hg1 : hget h1 x.1 with
         | none => rw [hg1] at hsm; cases hsm
         | some Rx => exact hu _ (k1.mem.keys _ _ hg1).1
       ·have hns : ¬ used s := fun h => hs (hu s h)
        simp only [γ3]
        rw [if_neg hns, if_neg hns]
        by_cases h1 : id ≤ s
        ·rw [if_pos h1, if_pos h1]
         exact e3.fresh _ fun h3 => hs (by have := hid' _ h3; rwa [show id + (s - id) = s from by omega] at this)
        ·rw [if_neg h1, if_neg h1]
         exact ⟨rfl, fun _ => rfl⟩
      obtain ⟨own5, hm5, hk5⟩ := k1.mem.framed e2 hext hu hm4
      have hv5 : VR w' Z2 γ3 (r.res.shM m id) v := e4.shM hsh fun k hk => by
       have := List.all_eq_true.1 hrefs _ hk
       simpa using this
      split at he
      ·rename_i hthin
       simp only [Bool.and_eq_true] at hthin
       simp only [Option.some.injEq, Prod.mk.injEq, true_and] at he
       subst he
       obtain ⟨own6, Z6, t1, t2⟩ := hm.thaw k1 e2 hext hu e3.size hm5 (fun b o ho hno => hk5 b o ho (by
        rw [qfk]
        simp only [List.map_append, List.mem_append, not_or] at hno
        have : o.1 ∉ rs := by simpa [mvDel] using hno.1
        rw [if_neg this]
        rfl)) (by
        rw [show thinW (mvDel rs ++ ioPuts h1 (E.iopin f) m id r.roots) = thinW (ioPuts h1 (E.iopin f) m id r.roots) from thinW_dels rs]
        exact hthin.2)
       exact ⟨v, Z6, own6, γ3, e1, e4.ok, t1, hext, t2, hv5.thin hthin.1⟩
      ·simp only [Option.some.injEq, Prod.mk.injEq, true_and] at he
       subst he
       exact ⟨v, Z2, own5, γ3, e1, e4.ok, k1.stay.trans e2, hext, by rw [qce, hh1]; exact hm5, hv5⟩
     ·cases he
    ·cases he
   ·cases he
  ·cases he
 ·cases he
theorem acallB_sound (hE : EnvOK E) (hI : IoOK E) (hm : MemR w0 K w Z own γ h used) (hgl : GlR E w Z) {f : FuncId} {args : List AV} {C : List Prop} {Kn : Prop} {ws : List (Nat × Option Root)} (he : acallB E h id f args = some (C, Kn, a, ws)) (hC : AllP C) (hv : VRs w Z γ args vs)
  (hid : ∀ j, j < 16 → ¬ used (id + j)) (hu : ∀ s, used s → used' s) (hid' : ∀ j, j < 16 → used' (id + j)) :
  Calls E.P f vs.toArray w fun e w' => ∃ v Z' own' γ', e = .returned v ∧ Kn ∧ Stay w Z w' Z' ∧ Gst.Ext used γ γ' ∧ MemR w0 K w' Z' own' γ' (qav h ws) used' ∧ VR w' Z' γ' a v := by
 unfold acallB at he
 split at he
 ·exact acallIO_sound hI hm hgl he hC hv hid hu hid'
 ·exact acall_sound hE hm hgl he hC hv hid hu hid'
theorem unpA_sound (hC : AllP (unpA a).1) (h : VR w Z γ a v) : VR w Z γ (unpA a).2 v := by
 unfold unpA at hC ⊢
 split at hC
 ·rename_i S z
  rcases CR.ptr_inv (h.toCR rfl) with ⟨rfl, _⟩ | ⟨y, b, o, us, rfl, rfl, hz, _, hr, hf⟩
  ·have h : true = false := hC.1
   cases h
  ·exact .cr (.rtp S y b o us hz hr hf)
 ·exact h
theorem unpL_sound : ∀ {args : List AV} {vs : List Value}, AllP (unpL args).1 → VRs w Z γ args vs → VRs w Z γ (unpL args).2 vs
 | [], _, _, h => h
 | a :: l, vs, hC, h => by
  obtain ⟨v, vs', rfl, h1, h2⟩ := h.uncons
  have hC' : AllP ((unpA a).1 ++ (unpL l).1) := hC
  rw [AllP.append] at hC'
  exact .cons (unpA_sound hC'.1 h1) (unpL_sound hC'.2 h2)
theorem acallA_sound (hE : EnvOK E) (hI : IoOK E) (hm : MemR w0 K w Z own γ h used) (hgl : GlR E w Z) {f : FuncId} {args : List AV} {C : List Prop} {Kn : Prop} {ws : List (Nat × Option Root)} (he : acallA E h id f args = some (C, Kn, a, ws)) (hC : AllP C) (hv : VRs w Z γ args vs)
  (hid : ∀ j, j < 16 → ¬ used (id + j)) (hu : ∀ s, used s → used' s) (hid' : ∀ j, j < 16 → used' (id + j)) :
  Calls E.P f vs.toArray w fun e w' => ∃ v Z' own' γ', e = .returned v ∧ Kn ∧ Stay w Z w' Z' ∧ Gst.Ext used γ γ' ∧ MemR w0 K w' Z' own' γ' (qav h ws) used' ∧ VR w' Z' γ' a v := by
 unfold acallA at he
 split at he
 ·rename_i r hr
  injection he with he
  subst he
  exact acallB_sound hE hI hm hgl hr hC hv hid hu hid'
 ·split at he
  ·rename_i hr
   simp only [Option.some.injEq, Prod.mk.injEq] at he
   obtain ⟨rfl, rfl, rfl, rfl⟩ := he
   rw [AllP.append] at hC
   exact acallB_sound hE hI hm hgl hr hC.2 (unpL_sound hC.1 hv) hid hu hid'
  ·cases he
end
end Go.BE
namespace Go.BE
open Go.RowKit
def fb (F : AFr) : Frame := { (default : Frame) with fn := F.fn, kind := .normal, roundOf := F.rnd.map (·.2.l) }
def mkF (F : AFr) (a : Act) : Frame := (fb F).atR a F.todo
def frs : List AFr → List Act → List Frame
 | F :: Fs, a :: as => mkF F a :: frs Fs as
 | _, _ => []
def markD (x : Option Nat × RgL) : Deferred := { target := .collected x.2.d, args := #[] }
structure LinkR (γ : Gst) (F : AFr) (a : Act) : Prop where
 rng : ∀ g, F.rng = some g → γ.β g.r = some g.R.l ∧ g.R.base.fn = F.fn ∧ g.R.base.tmps = a.tmps ∧ g.R.base.params = g.params ∧ g.R.base.assign = g.assign ∧ g.R.base.body = g.body ∧ ∃ k, F.todo = .inRangeFunc g.R.l :: k ∨ F.todo = .endRangeFunc g.R.l :: k
 rnd : ∀ r R, F.rnd = some (some r, R) → γ.β r = some R.l
 marks : ∀ r R, (some r, R) ∈ F.marks → γ.β r = some R.d
structure FrR (w : World) (Z : Nat → Prop) (γ : Gst) (F : AFr) (a : Act) : Prop where
 defers : a.defers = F.marks.map markD
 tmps : VRs w Z γ F.fr a.tmps.toList
 link : LinkR γ F a
def CsR (w : World) (Z : Nat → Prop) (γ : Gst) : List AFr → List Act → Prop
 | [], [] => True
 | F :: Fs, a :: as => FrR w Z γ F a ∧ CsR w Z γ Fs as
 | _, _ => False
structure StOK (E : Ctx) (w0 : World) (K : Kp) (c : Cfg) (a : Act) (as : List Act) (w : World) (Z : Nat → Prop) (own : Own) (γ : Gst) : Prop where
 cur : FrR w Z γ c.cur a
 callers : CsR w Z γ c.callers as
 mem : MemR w0 K w Z own γ c.h (fun s => s < c.nx)
 gl : GlR E w Z
def FnsOK (E : Ctx) : Prop := ∀ f, E.fns f = true → ∀ args w, (callFunc f args).run E.P w = .ok (.enter f args) w
structure EOK (E : Ctx) : Prop where
 ty : TyOK E.P E.ty
 env : EnvOK E
 io : IoOK E
 fns : FnsOK E
 mixed : E.P.follows .mixedOrders = true
def botFn : AFr → List AFr → FuncId
 | F, [] => F.fn
 | _, G :: Gs => botFn G Gs
def FinOK (E : Ctx) (w0 : World) (K : Kp) (base : List Frame) (c : Cfg) (a : Act) (as : List Act) (w : World) (Z : Nat → Prop) : Fin → Prop
 | .at_ c' => ∃ a' as' w' Z' own' γ', StOK E w0 K c' a' as' w' Z' own' γ' ∧ Stay w Z w' Z' ∧ botFn c'.cur c'.callers = botFn c.cur c.callers ∧ Steps E.P (lone (mkF c.cur a) (frs c.callers as ++ base) w) (lone (mkF c'.cur a') (frs c'.callers as' ++ base) w')
 | .ret A h nx => ∃ V w' Z' own' γ' fr, VR w' Z' γ' A V ∧ Stay w Z w' Z' ∧ MemR w0 K w' Z' own' γ' h (fun s => s < nx) ∧ Steps E.P (lone (mkF c.cur a) (frs c.callers as ++ base) w) (lone fr base w') ∧ fr.fn = botFn c.cur c.callers ∧ fr.leaving E.P w' (.returned V)
 | .pan A h nx => ∃ V w' Z' own' γ' fr, CR w' Z' A V ∧ Stay w Z w' Z' ∧ (∃ Z'', Stay w Z w' Z'' ∧ MemR w0 K w' Z'' own' γ' h (fun s => s < nx)) ∧ Steps E.P (lone (mkF c.cur a) (frs c.callers as ++ base) w) (lone fr base w') ∧ fr.fn = botFn c.cur c.callers ∧ fr.leaving E.P w' (.panicked [{ v := V, recovered := false }])
section
variable {P : Program} {E : Ctx} {w w' w0 : World} {Z Z' : Nat → Prop} {K : Kp} {own own' : Own} {γ γ' : Gst} {h h' : Heap} {used used' : Nat → Prop} {r s d id : Nat} {R : Root} {A B : AV} {v V U : Value} {cs ds : List AV} {vs us : List Value} {F : AFr} {Fs : List AFr} {a : Act} {as : List Act} {c : Cfg}
theorem LinkR.mono (hγ : γ.Le γ') (h : LinkR γ F a) : LinkR γ' F a :=
 ⟨fun g hg => ⟨hγ.β _ _ (h.rng g hg).1, (h.rng g hg).2⟩, fun r R hr => hγ.β _ _ (h.rnd r R hr), fun r R hr => hγ.β _ _ (h.marks r R hr)⟩
theorem LinkR.next {G : AFr} {b : Act} (h : LinkR γ F a) (e1 : G.rng = none) (e2 : G.rnd = F.rnd) (e3 : G.marks = F.marks) : LinkR γ G b :=
 ⟨fun g hg => (by rw [e1] at hg; cases hg), fun r R hr => h.rnd r R (e2 ▸ hr), fun r R hr => h.marks r R (e3 ▸ hr)⟩
theorem LinkR.fr {l : List AV} (h : LinkR γ F a) : LinkR γ { F with fr := l } a := ⟨h.rng, h.rnd, h.marks⟩
theorem LinkR.new {f : FuncId} {t : List Item} {l : List AV} {b : Act} : LinkR γ { fn := f, todo := t, fr := l } b :=
 ⟨fun g hg => (by cases hg), fun r R hr => (by cases hr), fun r R hr => (by cases hr)⟩
theorem FrR.mono (hs : Stay w Z w' Z') (hγ : γ.Le γ') (h : FrR w Z γ F a) : FrR w' Z' γ' F a := ⟨h.defers, h.tmps.mono hs hγ, h.link.mono hγ⟩
theorem CsR.mono (hs : Stay w Z w' Z') (hγ : γ.Le γ') : ∀ {Fs : List AFr} {as : List Act}, CsR w Z γ Fs as → CsR w' Z' γ' Fs as
 | [], [], _ => trivial
 | _ :: _, _ :: _, h => ⟨h.1.mono hs hγ, CsR.mono hs hγ h.2⟩
theorem lget_val {t : Nat} {u : Value} {l : List AV} {vs : List Value} (h : VRs w Z γ l vs) (hl : lget l t = .val u) : vs[t]? = some u := by
 unfold lget at hl
 rw [List.getD_eq_getElem?_getD] at hl
 cases hx : l[t]? with
 | none => rw [hx] at hl; simp at hl
 | some x =>
  rw [hx] at hl
  simp only [Option.getD_some] at hl
  subst hl
  obtain ⟨v, h1, h2⟩ := h.get hx
  rw [h1, h2.val_inv]
theorem lget_rel {t : Nat} {l : List AV} {arr : Array Value} (h : VRs w Z γ l arr.toList) : VR w Z γ (lget l t) (arr.getD t undef) := by
 unfold lget
 rw [List.getD_eq_getElem?_getD]
 cases hx : l[t]? with
 | none => exact .bad _
 | some x =>
  obtain ⟨v, h1, h2⟩ := h.get hx
  rw [Array.getElem?_toList] at h1
  rw [Array.getD_eq_getD_getElem?, h1]
  exact h2
theorem ev_rel (hg : GlR E w Z) (hf : VRs w Z γ F.fr a.tmps.toList) (x : Operand) : VR w Z γ (ev E F.fr x) (a.eval x) := by
 cases x with
 | tmp t => exact lget_rel hf
 | const v => exact cval_rel v
 | global g =>
  simp only [ev, Act.eval]
  split
  ·rename_i cs hcs
   exact .cr (hg g cs hcs)
  ·exact .bad _
 | func f =>
  simp only [ev, Act.eval]
  split
  ·rename_i h
   have h1 : VR w Z γ (.fn f []) (fnV f #[]) := .cr (.fn f [] #[] rfl (fun j a v h => by simp at h))
   rw [fnV_lt h] at h1
   exact h1
  ·exact .bad _
theorem ev_rel' {fr : List AV} (hg : GlR E w Z) (hf : VRs w Z γ fr a.tmps.toList) (x : Operand) : VR w Z γ (ev E fr x) (a.eval x) := ev_rel (F := { fn := 0, todo := [], fr := fr }) hg hf x
theorem semAt_run {ro : Option Nat} {ρ : Operand → Value} {o : Oper} {n : Next} (hn : ∀ d, n ≠ .defer d) (hr : (execOp ρ o).run P w = .ok n w') : (o.semAt ro ρ).run P w = .ok n w' := by
 by_cases h : ∃ c, o.op = .defer c
 ·obtain ⟨c, hc⟩ := h
  exfalso
  simp only [execOp, hc, Sem.run_bind] at hr
  cases hres : (resolve ρ c o.type).run P w with
  | ok d w1 =>
   rw [hres] at hr
   simp only [Result.andThen_ok, Sem.run_pure] at hr
   injection hr with hr
   exact hn _ hr.symm
  | halt x w1 =>
   rw [hres] at hr
   simp [Result.andThen] at hr
 ·rw [Oper.semAt_eq _ _ _ fun c hc => h ⟨c, hc⟩]
  exact hr
theorem op_value {b : Frame} {k : List Item} {fs : List Frame} {ops : Array Oper} {i : Nat} {rest : List Nat} {o : Oper} (ho : ops[i]? = some o) (hw : Region.wanted o (yielded ops a.tmps) = true)
  (hr : (execOp a.eval o).run P w = .ok (.value v) w') : step P (lone (b.atR a (.inRegion ops (i :: rest) :: k)) fs w) = .next (lone (b.atR (a.put o.dst v) (.inRegion ops rest :: k)) fs w') := by
 have hg := stepGR_op (P := P) (b := b) (k := k) (cs := fs) (w := w) (rest := rest) ho hw
 have hfin : (b.atR a (.inRegion ops (i :: rest) :: k)).finish v = b.atR (a.put o.dst v) (.inRegion ops rest :: k) := by rw [Frame.finish_atR, ho]; rfl
 refine step_lone_go ?_
 have hr := semAt_run (ro := b.roundOf) (fun d => by simp) hr
 rw [hg, ← hfin]
 simp [stepG.apply, hr]
theorem op_skipv {b : Frame} {k : List Item} {fs : List Frame} {ops : Array Oper} {i : Nat} {rest : List Nat} {o : Oper} (ho : ops[i]? = some o) (hw : Region.wanted o (yielded ops a.tmps) = true)
  (hr : (execOp a.eval o).run P w = .ok .skip w') : step P (lone (b.atR a (.inRegion ops (i :: rest) :: k)) fs w) = .next (lone (b.atR (a.put o.dst undef) (.inRegion ops rest :: k)) fs w') := by
 have hg := stepGR_op (P := P) (b := b) (k := k) (cs := fs) (w := w) (rest := rest) ho hw
 have hfin : (b.atR a (.inRegion ops (i :: rest) :: k)).finish undef = b.atR (a.put o.dst undef) (.inRegion ops rest :: k) := by rw [Frame.finish_atR, ho]; rfl
 refine step_lone_go ?_
 have hr := semAt_run (ro := b.roundOf) (fun d => by simp) hr
 rw [hg, ← hfin]
 simp [stepG.apply, hr]
theorem op_enter {b : Frame} {k : List Item} {fs : List Frame} {ops : Array Oper} {i : Nat} {rest : List Nat} {o : Oper} {f : FuncId} {args : Array Value} (ho : ops[i]? = some o) (hw : Region.wanted o (yielded ops a.tmps) = true)
  (hr : (execOp a.eval o).run P w = .ok (.enter f args) w') : step P (lone (b.atR a (.inRegion ops (i :: rest) :: k)) fs w) = .next (lone (Frame.enter P f args .normal) (b.atR a (.inRegion ops (i :: rest) :: k) :: fs) w') := by
 have hg := stepGR_op (P := P) (b := b) (k := k) (cs := fs) (w := w) (rest := rest) ho hw
 refine step_lone_go ?_
 have hr := semAt_run (ro := b.roundOf) (fun d => by simp) hr
 rw [hg]
 simp [stepG.apply, hr, Frame.atR]
theorem op_back {b : Frame} {k : List Item} {fs : List Frame} {ops : Array Oper} {i : Nat} {rest : List Nat} {o : Oper} {fr : Frame} (ho : ops[i]? = some o) (hl : fr.leaving P w (.returned v)) :
  step P (lone fr (b.atR a (.inRegion ops (i :: rest) :: k) :: fs) w) = .next (lone (b.atR (a.put o.dst v) (.inRegion ops rest :: k)) fs w) := by
 have hfin : (b.atR a (.inRegion ops (i :: rest) :: k)).finish v = b.atR (a.put o.dst v) (.inRegion ops rest :: k) := by rw [Frame.finish_atR, ho]; rfl
 rw [← hfin]
 exact step_leave_returned hl

theorem VRs.putT {fr : List AV} (hf : VRs w Z γ fr a.tmps.toList) (dst : Option Tmp) (hv : VR w Z γ A v) : VRs w Z γ (putT fr dst A) (a.put dst v).tmps.toList := by
 cases dst with
 | none => exact hf
 | some t =>
  simp only [BE.putT, Act.put, Array.toList_setIfInBounds]
  exact hf.set t hv
theorem FrR.fin (hf : FrR w Z γ F a) {ops : Array Oper} {dst : Option Tmp} {rest : List Nat} {k : List Item} (hv : VR w Z γ A v) : FrR w Z γ (F.fin ops dst rest k A) (a.put dst v) :=
 ⟨by cases dst <;> exact hf.defers, hf.tmps.putT dst hv, hf.link.next rfl rfl rfl⟩
theorem FrR.to (hf : FrR w Z γ F a) (t : List Item) : FrR w Z γ (F.to t) a := ⟨hf.defers, hf.tmps, hf.link.next rfl rfl rfl⟩
theorem set_self {fr : List AV} {t : Nat} {y : AV} (h : fr[t]? = some y) : fr.set t y = fr := by
 apply List.ext_getElem?
 intro i
 rw [List.getElem?_set]
 by_cases hi : t = i
 ·subst hi
  have := (List.getElem?_eq_some_iff.1 h).1
  rw [if_pos rfl, if_pos this, h]
 ·rw [if_neg hi]
theorem lget_set_self {fr : List AV} {t : Nat} {x : AV} (h : lget fr t = x) (hx : x ≠ .bad) : fr.set t x = fr := by
 unfold lget at h
 rw [List.getD_eq_getElem?_getD] at h
 cases ht : fr[t]? with
 | none => rw [ht] at h; exact absurd h.symm hx
 | some y =>
  rw [ht] at h
  simp only [Option.getD_some] at h
  subst h
  exact set_self ht
theorem setB_eq {fr : List AV} {x : Operand} {b d : Bool} (hb : asB (ev E fr x) = some b) (hd : b = d) : setB fr (opTmp x) d = fr := by
 subst hd
 cases x with
 | tmp t =>
  simp only [opTmp, setB]
  refine lget_set_self ?_ (by simp [abool])
  simp only [ev] at hb
  unfold asB at hb
  split at hb
  ·rename_i heq
   injection hb with hb
   subst hb
   exact heq
  ·cases hb
 | _ => rfl
theorem frs_cons {F : AFr} {Fs : List AFr} {b : Act} {bs : List Act} {base : List Frame} : frs (F :: Fs) (b :: bs) ++ base = mkF F b :: (frs Fs bs ++ base) := rfl
theorem replicate_und (n : Nat) : VRs w Z γ (List.replicate n und) (List.replicate n undef) := by
 refine ⟨by simp, fun j x y hx hy => ?_⟩
 rw [List.getElem?_replicate] at hx hy
 split at hx
 ·rename_i hj
  rw [if_pos hj] at hy
  injection hx with hx; injection hy with hy
  subst hx; subst hy
  exact .cr (.val _ trivial)
 ·cases hx
theorem enter_ok {f : FuncId} {args : List AV} {vs : List Value} {F : AFr} (he : enter E f args = some F) (hr : VRs w Z γ args vs) :
  ∃ b, Frame.enter E.P f vs.toArray .normal = mkF F b ∧ FrR w Z γ F b ∧ F.fn = f := by
 unfold enter at he
 split at he
 ·rename_i fn hfn
  split at he
  ·rename_i code hb
   split at he
   ·rename_i hl
    injection he with he
    subst he
    refine ⟨{ tmps := vs.toArray ++ Array.replicate (fn.ntmps - vs.toArray.size) undef, defers := [] }, ?_, ⟨rfl, ?_, .new⟩, rfl⟩
    ·simp [Frame.enter, mkF, fb, Frame.atR, hfn, hb]
    ·simp only [Array.toList_append, Array.toList_replicate, List.size_toArray]
     rw [← hr.1]
     exact hr.append (replicate_und _)
   ·cases he
  ·cases he
 ·cases he
theorem aop_sound (hT : TyOK E.P E.ty) (hm : MemR w0 K w Z own γ h used) (hid : ¬ used id) (hu : ∀ s, used s → used' s) (hid' : used' id) {ro : Nat} {ρa : Operand → AV} {ρ : Operand → Value} (hρ : ∀ x, VR w Z γ (ρa x) (ρ x)) (o : Oper) : OutOK E w0 K w Z γ h used used' ρ o (aop E h id ro ρa o.op) :=
 aop1_sound hT hm hid hu hid' (fun x => norm_sound hm (hρ x)) o
theorem raise_up {base : List Frame} {chain : List PanicEntry} : ∀ {Fs : List AFr} {as : List Act} {F : AFr} {b : Act}, b.defers = [] → CsR w Z γ Fs as → (E.P.funcs[F.fn]?).isSome = true → (Fs.all fun F => F.marks.isEmpty && (E.P.funcs[F.fn]?).isSome) = true →
  ∃ fr, Steps E.P (lone ((mkF F b).raise chain) (frs Fs as ++ base) w) (lone fr base w) ∧ fr.fn = botFn F Fs ∧ fr.leaving E.P w (.panicked chain)
 | [], [], F, b, hd, _, hf, _ => by
  obtain ⟨fn, hfn⟩ := Option.isSome_iff_exists.1 hf
  exact ⟨(mkF F b).raise chain, .refl _ _, rfl, rfl, hd, fn, hfn⟩
 | G :: Gs, c :: cs, F, b, hd, hc, hf, hs => by
  obtain ⟨fn, hfn⟩ := Option.isSome_iff_exists.1 hf
  simp only [List.all_cons, Bool.and_eq_true] at hs
  obtain ⟨fr, h1, h2, h3⟩ := raise_up (base := base) (chain := chain) (F := G) (b := c) (by rw [hc.1.defers, List.isEmpty_iff.1 hs.1.1]; rfl) hc.2 hs.1.2 hs.2
  refine ⟨fr, .head ?_ h1, h2, h3⟩
  rw [frs_cons]
  exact step_leave_panicked (fr := (mkF F b).raise chain) ⟨rfl, hd, fn, hfn⟩
 | [], _ :: _, _, _, _, hc, _, _ => hc.elim
 | _ :: _, [], _, _, _, hc, _, _ => hc.elim
theorem panT_sound {base : List Frame} (hS : StOK E w0 K c a as w Z own γ) {A : AV} {Q : Fin → Prop} (he : (panT E c A).wp Q) {V : Value} {w' : World} {Z' Z2 : Nat → Prop} (hv : CR w' Z2 A V) (h2 : Stay w Z w' Z2) (h3 : Stay w Z w' Z') (hm : MemR w0 K w' Z' own γ c.h (fun s => s < c.nx))
  (hst : Steps E.P (lone (mkF c.cur a) (frs c.callers as ++ base) w) (lone ((mkF c.cur a).raise [{ v := V, recovered := false }]) (frs c.callers as ++ base) w')) : ∃ f, Q f ∧ FinOK E w0 K base c a as w Z f := by
 unfold panT at he
 split at he
 ·rename_i hok
  simp only [okFns, Bool.and_eq_true] at hok
  obtain ⟨fr, k1, k2, k3⟩ := raise_up (base := base) (w := w') (Z := Z') (γ := γ) (chain := [{ v := V, recovered := false }]) (F := c.cur) (b := a) (by rw [hS.cur.defers, List.isEmpty_iff.1 hok.1.1]; rfl) (hS.callers.mono h3 (Gst.Le.refl _)) hok.1.2 hok.2
  exact ⟨_, he, V, w', Z2, own, γ, fr, hv, h2, ⟨Z', h3, hm⟩, hst.trans k1, k2, k3⟩
 ·exact he.elim
theorem runOp0_sound {base : List Frame} (hE : EOK E) (hS : StOK E w0 K c a as w Z own γ) {ops : Array Oper} {i : Nat} {o : Oper} {rest : List Nat} {k : List Item} {Q : Fin → Prop}
  (ht : c.cur.todo = .inRegion ops (i :: rest) :: k) (ho : ops[i]? = some o) (hw : Region.wanted o (yielded ops a.tmps) = true)
  (he : (runOp0 E c ops o rest k).wp Q) : ∃ f, Q f ∧ FinOK E w0 K base c a as w Z f := by
 have hev : ∀ x, VR w Z γ (ev E c.cur.fr x) (a.eval x) := fun x => ev_rel' hS.gl hS.cur.tmps x
 have hmk : mkF c.cur a = (fb c.cur).atR a (.inRegion ops (i :: rest) :: k) := by simp [mkF, ht]
 have hu : ∀ s, s < c.nx → s < c.nx + qba := fun s h => by omega
 unfold runOp0 at he
 split at he
 ·rename_i x y z hop
  split at he
  ·rename_i b hb
   have hv := asB_inv (hev x) hb
   have hrun : (execOp a.eval o).run E.P w = .ok (.value (a.eval (if b then y else z))) w := by
    simp only [execOp, hop, hv, asBool, Sem.run_bind, Sem.run_pure, Result.andThen_ok]
    cases b <;> rfl
   cases hbb : b with
   | true =>
    refine ⟨_, he.1 hbb, a.put o.dst (a.eval y), as, w, Z, own, γ, ⟨?_, hS.callers, hS.mem, hS.gl⟩, Stay.refl _ _, by first | rfl | (cases c.callers <;> rfl), ?_⟩
    ·have : setB c.cur.fr (opTmp x) true = c.cur.fr := setB_eq hb hbb
     rw [this]
     exact hS.cur.fin (hev y)
    ·rw [hmk]
     rw [hbb] at hrun
     exact .one (op_value ho hw hrun)
   | false =>
    refine ⟨_, he.2 hbb, a.put o.dst (a.eval z), as, w, Z, own, γ, ⟨?_, hS.callers, hS.mem, hS.gl⟩, Stay.refl _ _, by first | rfl | (cases c.callers <;> rfl), ?_⟩
    ·have : setB c.cur.fr (opTmp x) false = c.cur.fr := setB_eq hb hbb
     rw [this]
     exact hS.cur.fin (hev z)
    ·rw [hmk]
     rw [hbb] at hrun
     exact .one (op_value ho hw hrun)
  ·exact he.elim
 ·rename_i x hop
  split at he
  ·rename_i t v hv
   have hx := hev x
   rw [hv] at hx
   have hval := hx.val_inv
   have hrun : (execOp a.eval o).run E.P w = .halt (.panic (.iface t v)) w := by
    simp only [execOp, hop, hval]
    rfl
   refine panT_sound hS he (V := .iface t v) (.val _ hx.val_ok) (Stay.refl _ _) (Stay.refl _ _) hS.mem ?_
   rw [hmk]
   have hg := stepGR_op (P := E.P) (b := fb c.cur) (k := k) (cs := frs c.callers as ++ base) (w := w) (rest := rest) ho hw
   rw [Oper.semAt_eq _ _ _ (fun c' hc' => by rw [hop] at hc'; cases hc')] at hg
   refine .one (step_lone_go ?_)
   rw [hg]
   simp [stepG.apply, hrun]
  ·exact he.elim
 ·rename_i x hop
  split at he
  ·rename_i r hv
   have hx := hev x
   rw [hv] at hx
   obtain ⟨b, hb, hval⟩ := hx.ref_inv
   split at he
   ·rename_i R hR
    split at he
    ·rename_i s pos hc
     obtain ⟨b0, o0, k1, k2, k3, ⟨k4, k4'⟩, k5, k6⟩ := hS.mem.obj hR hc
     rw [hb] at k1
     injection k1 with k1
     subst k1
     subst k4
     have hobj : ∀ {u : World}, u.heap = w.heap → (getObj b).run E.P u = .ok (.stringIter s pos) u := fun {u} hu => by simp [getObj, Sem.run, hu, k3]
     cases hpos : decide (pos < s.size) with
     | true =>
      have hp := of_decide_eq_true hpos
      obtain ⟨m1, m2⟩ := hS.mem.setObj (x' := .iter s (pos + runeW s pos)) (o' := .stringIter s (pos + runeW s pos)) hR hc hb ⟨rfl, k4'⟩
      have hrun : (execOp a.eval o).run E.P w = .ok (.value (.tuple #[.bool true, goInt pos, .int .i32 (runeAt s pos)])) { w with heap := w.heap.setIfInBounds b (.stringIter s (pos + runeW s pos)) } := by
       simp only [execOp, hop, hval]
       simp [Instr.next, getObj, setObj, Sem.run, k3, hp, runeAt, runeW]
      refine ⟨_, he.1 hpos, a.put o.dst (.tuple #[.bool true, goInt pos, .int .i32 (runeAt s pos)]), as, _, Z, own, γ, ⟨(hS.cur.mono m1 (Gst.Le.refl _)).fin ?_, hS.callers.mono m1 (Gst.Le.refl _), m2, hS.gl.mono m1⟩, m1, by cases c.callers <;> rfl, ?_⟩
      ·refine .tup _ _ rfl fun j x y hx hy => ?_
       have hd := decode_le s pos
       match j, hx, hy with
       | 0, hx, hy => simp at hx hy; subst hx; subst hy; exact .cr (.val _ trivial)
       | 1, hx, hy => simp at hx hy; subst hx; subst hy; exact .cr (.val _ (by
         show IntKind.i64.has _
         unfold roomB at k4'
         exact ⟨by simp [IntKind.min, IntKind.signed, IntKind.bits] <;> omega, by simp [IntKind.max, IntKind.signed, IntKind.bits] <;> omega⟩))
       | 2, hx, hy => simp at hx hy; subst hx; subst hy; exact .cr (.val _ (by
         show IntKind.i32.has _
         unfold runeAt
         exact ⟨by simp [IntKind.min, IntKind.signed, IntKind.bits] <;> omega, by simp [IntKind.max, IntKind.signed, IntKind.bits] <;> omega⟩))
       | j + 3, hx, hy => simp at hx
      ·rw [hmk]
       exact .one (op_value ho hw hrun)
     | false =>
      have hp := of_decide_eq_false hpos
      have hrun : (execOp a.eval o).run E.P w = .ok (.value (.tuple #[.bool false])) w := by
       simp only [execOp, hop, hval]
       simp [Instr.next, getObj, Sem.run, k3, hp]
      refine ⟨_, he.2 hpos, a.put o.dst (.tuple #[.bool false]), as, w, Z, own, γ, ⟨hS.cur.fin ?_, hS.callers, hS.mem, hS.gl⟩, Stay.refl _ _, by cases c.callers <;> rfl, ?_⟩
      ·exact .tup _ _ rfl fun j x y hx hy => by
        cases j with
        | zero => simp at hx hy; subst hx; subst hy; exact .cr (.val _ trivial)
        | succ j => simp at hx
      ·rw [hmk]
       exact .one (op_value ho hw hrun)
    ·exact he.elim
   ·exact he.elim
  ·exact he.elim
 ·rename_i hnp1 hnp2 hnp3
  have hop := aop_sound (K := K) (used' := fun s => s < c.nx + qba) hE.ty hS.mem (id := c.nx) (Nat.lt_irrefl _) hu (by show c.nx < c.nx + 16; omega) (ro := siteOp E c.cur.fn o.dst) hev o
  split at he
  ·rename_i C' A' hv
   rw [hv] at hop
   obtain ⟨hC, he⟩ := qfi he
   obtain ⟨v, e1, e2⟩ := hop hC
   refine ⟨_, he, a.put o.dst v, as, w, Z, own, γ, ⟨hS.cur.fin e2, hS.callers, hS.mem.used_mono hu, hS.gl⟩, Stay.refl _ _, by cases c.callers <;> rfl, ?_⟩
   rw [hmk]
   exact .one (op_value ho hw e1)
  ·rename_i C' A' ws sk hv
   rw [hv] at hop
   obtain ⟨hC, he⟩ := qfi he
   obtain ⟨n, v, w', Z', own', γ', e1, e2, e3, e4, e5, e6⟩ := hop hC
   have hle := e4.le hS.mem.fresh
   refine ⟨_, he, a.put o.dst v, as, w', Z', own', γ', ⟨(hS.cur.mono e3 hle).fin e6, hS.callers.mono e3 hle, e5, hS.gl.mono e3⟩, e3, by cases c.callers <;> rfl, ?_⟩
   rw [hmk]
   split at e2
   ·obtain ⟨rfl, rfl⟩ := e2
    exact .one (op_skipv ho hw e1)
   ·subst e2
    exact .one (op_value ho hw e1)
  ·rename_i p hv
   rw [hv] at hop
   obtain ⟨b, e1, e2⟩ := hop
   refine ⟨_, he b e1, a.put o.dst (.bool b), as, w, Z, own, γ, ⟨hS.cur.fin (.cr (.val _ trivial)), hS.callers, hS.mem.used_mono hu, hS.gl⟩, Stay.refl _ _, by cases c.callers <;> rfl, ?_⟩
   rw [hmk]
   exact .one (op_value ho hw e2)
  ·rename_i f args hv
   rw [hv] at hop
   obtain ⟨vs, e1, e2⟩ := hop
   split at he
   ·rename_i hfn
    rw [hE.fns f hfn] at e1
    split at he
    ·rename_i C' Kn A' ws hcall
     obtain ⟨hC, he⟩ := qfi he
     have hcl := acallA_sound (used' := fun s => s < c.nx + qba) hE.env hE.io hS.mem hS.gl hcall hC e2 (fun j hj => by omega) hu (fun j hj => by show c.nx + j < c.nx + 16; omega)
     obtain ⟨e, w', fr, ⟨v, Z', own', γ', rfl, k1, k2, k3, k4, k5⟩, q1, q2, q3⟩ := hcl (mkF c.cur a :: (frs c.callers as ++ base))
     have hle := k3.le hS.mem.fresh
     refine ⟨_, he k1, a.put o.dst v, as, w', Z', own', γ', ⟨(hS.cur.mono k2 hle).fin k5, hS.callers.mono k2 hle, k4, hS.gl.mono k2⟩, k2, by cases c.callers <;> rfl, ?_⟩
     have hst := op_enter (P := E.P) (b := fb c.cur) (k := k) (rest := rest) (fs := frs c.callers as ++ base) ho hw e1
     rw [← hmk] at hst
     refine .head hst (Steps.trans q1 ?_)
     rw [hmk]
     exact .one (op_back ho q3)
    ·split at he
     ·rename_i C' bb pv A' hcall
      obtain ⟨hC, he⟩ := qfi he
      have hcl := acallP_sound (used' := fun s => s < c.nx + qba) hE.env hS.mem hS.gl hcall hC e2 hu
      have hcl2 := acallP_sound (used' := fun s => s < c.nx) hE.env hS.mem hS.gl hcall hC e2 (fun _ h => h)
      have hst := op_enter (P := E.P) (b := fb c.cur) (k := k) (rest := rest) (fs := frs c.callers as ++ base) ho hw e1
      rw [← hmk] at hst
      cases hbb : bb with
      | true =>
       obtain ⟨e, w', fr, ⟨Z', k1, k2, k3⟩, q1, q2, q3⟩ := hcl2 (mkF c.cur a :: (frs c.callers as ++ base))
       rcases k3 with ⟨_, V, rfl, Z2, j1, j2⟩ | ⟨h0, _⟩
       ·exact panT_sound hS (he.1 hbb) j2 j1 k1 k2 (.head hst (Steps.trans q1 (.one (step_leave_panicked q3))))
       ·rw [hbb] at h0; cases h0
      | false =>
       obtain ⟨e, w', fr, ⟨Z', k1, k2, k3⟩, q1, q2, q3⟩ := hcl (mkF c.cur a :: (frs c.callers as ++ base))
       rcases k3 with ⟨h0, _⟩ | ⟨_, V, rfl, j1⟩
       ·rw [hbb] at h0; cases h0
       ·refine ⟨_, he.2 hbb, a.put o.dst V, as, w', Z', own, γ, ⟨(hS.cur.mono k1 (Gst.Le.refl _)).fin j1, hS.callers.mono k1 (Gst.Le.refl _), k2, hS.gl.mono k1⟩, k1, by cases c.callers <;> rfl, ?_⟩
        refine .head hst (Steps.trans q1 ?_)
        rw [hmk]
        exact .one (op_back ho q3)
     ·split at he
      ·rename_i F' hF
       obtain ⟨b, q1, q2, q3⟩ := enter_ok hF e2
       refine ⟨_, he, b, a :: as, w, Z, own, γ, ⟨q2, ⟨hS.cur, hS.callers⟩, hS.mem, hS.gl⟩, Stay.refl _ _, rfl, ?_⟩
       rw [frs_cons, ← q1]
       have hst := op_enter (P := E.P) (b := fb c.cur) (k := k) (rest := rest) (fs := frs c.callers as ++ base) ho hw e1
       rw [← hmk] at hst
       exact .one hst
      ·exact he.elim
   ·exact he.elim
  ·exact he.elim
def resOne (arr : Array Value) : ResultVar → Sem Value
 | .tmp t => pure (arr.getD t undef)
 | .cell a t => do loadVar t (← asAddr (arr.getD a undef))
theorem results_eq (fn : Func) (arr : Array Value) : results fn arr = (do let vs ← fn.results.mapM (resOne arr); pure (if h : vs.size = 1 then vs[0] else .tuple vs)) := by
 unfold results
 have : (fun (x : ResultVar) => match x with | .tmp t => (pure (arr.getD t undef) : Sem Value) | .cell a t => do loadVar t (← asAddr (arr.getD a undef))) = resOne arr := by funext x; cases x <;> rfl
 rw [← this]
 rfl
theorem aload_addr {C : List Prop} {t : TypeId} (he : aload E h t A = some (C, B)) (hA : VR w Z γ A V) : ∃ ad, V = .pointer (some ad) := by
 unfold aload at he
 split at he
 ·obtain ⟨b, o, rfl, _⟩ := hA.rop_inv; exact ⟨_, rfl⟩
 ·obtain ⟨b, o, us, rfl, _⟩ := hA.rtp_inv; exact ⟨_, rfl⟩
 ·obtain ⟨b, _, rfl⟩ := hA.ref_inv; exact ⟨_, rfl⟩
 ·obtain ⟨hd, b, o, so, T, _, _, _, _, rfl⟩ := hA.tref_inv; exact ⟨_, rfl⟩
 ·cases he
theorem aresults_sound (hT : TyOK E.P E.ty) (hm : MemR w0 K w Z own γ h used) {fr : List AV} {arr : Array Value} (hf : VRs w Z γ fr arr.toList) : ∀ {rs : List ResultVar} {C : List Prop} {vs : List AV}, aresults E h fr rs = some (C, vs) → AllP C →
  ∃ us : List Value, (rs.mapM (resOne arr)).run E.P w = .ok us w ∧ VRs w Z γ vs us
 | [], C, vs, he, _ => by
  simp only [aresults, Option.some.injEq, Prod.mk.injEq] at he
  obtain ⟨_, rfl⟩ := he
  exact ⟨[], rfl, .nil⟩
 | .tmp t :: rs, C, vs, he, hC => by
  simp only [aresults] at he
  split at he
  ·rename_i C1 l hl
   injection he with he
   injection he with he1 he2
   subst he1; subst he2
   obtain ⟨us, h1, h2⟩ := aresults_sound hT hm hf hl hC
   exact ⟨arr.getD t undef :: us, by simp only [List.mapM_cons, resOne, Sem.run_bind, Sem.run_pure, Result.andThen_ok, h1], .cons (lget_rel hf) h2⟩
  ·cases he
 | .cell x t :: rs, C, vs, he, hC => by
  simp only [aresults] at he
  split at he
  ·rename_i C1 v C2 l hv hl
   injection he with he
   injection he with he1 he2
   subst he1; subst he2
   rw [AllP.append] at hC
   obtain ⟨us, h1, h2⟩ := aresults_sound hT hm hf hl hC.2
   obtain ⟨ad, had⟩ := aload_addr hv (lget_rel (t := x) hf)
   obtain ⟨u, h3, h4⟩ := aload_sound hT hm hv hC.1 (lget_rel (t := x) hf)
   rw [had] at h3
   simp only [Instr.loadAt, Instr.sureAddr, Sem.run_bind, Sem.run_pure, Result.andThen_ok] at h3
   exact ⟨u :: us, by simp only [List.mapM_cons, resOne, Sem.run_bind, Sem.run_pure, Result.andThen_ok, had, asAddr, h3, h1], .cons h4 h2⟩
  ·cases he
theorem results_sound (hT : TyOK E.P E.ty) (hm : MemR w0 K w Z own γ h used) {fr : List AV} {arr : Array Value} (hf : VRs w Z γ fr arr.toList) {fn : Func} {C : List Prop} {vs : List AV} (he : aresults E h fr fn.results.toList = some (C, vs)) (hC : AllP C) :
  ∃ V, (results fn arr).run E.P w = .ok V w ∧ VR w Z γ (retv vs) V := by
 obtain ⟨us, h1, h2⟩ := aresults_sound hT hm hf he hC
 refine ⟨if h : us.toArray.size = 1 then us.toArray[0] else .tuple us.toArray, ?_, ?_⟩
 ·rw [results_eq, Sem.run_bind, Array.mapM_eq_mapM_toList, Sem.run_map, h1]
  rfl
 ·cases us with
  | nil =>
   have : vs = [] := List.eq_nil_of_length_eq_zero (by simpa using h2.1)
   subst this
   exact .tup _ _ rfl (fun j x y hx => by simp at hx)
  | cons u us =>
   cases vs with
   | nil => simp [VRs] at h2
   | cons x vs =>
    cases us with
    | nil =>
     have : vs = [] := List.eq_nil_of_length_eq_zero (by have := h2.1; simp at this; simpa using this)
     subst this
     exact h2.head
    | cons u' us =>
     cases vs with
     | nil => simp [VRs] at h2
     | cons x' vs => exact .tup _ _ (by simpa using h2.1) (fun j p q hp hq => h2.2 j p q hp (by simpa using hq))
theorem leave0_sound {base : List Frame} (hE : EOK E) (hS : StOK E w0 K c a as w Z own γ) {Q : Fin → Prop} {todo : List Item} (h2s : Stay w Z w' Z') (hm : MemR w0 K w' Z' own' γ h (fun s => s < c.nx))
  (hst : ∀ fs, Steps E.P (lone (mkF c.cur a) fs w) (lone { (fb c.cur).atR { a with defers := [] } todo with mode := .returning } fs w')) (he : (leave0 E c h).wp Q) : ∃ f, Q f ∧ FinOK E w0 K base c a as w Z f := by
 have hfr := hS.cur.tmps.mono h2s (Gst.Le.refl γ)
 unfold leave0 at he
 split at he
 ·exact he.elim
 ·rename_i fn hfn
  split at he
  ·exact he.elim
  ·rename_i C vs hvs
   have hcs := hS.callers.mono h2s (Gst.Le.refl γ)
   split at he
   ·rename_i hc
    obtain ⟨hC, he⟩ := qfi he
    obtain ⟨V, h1, h2⟩ := results_sound hE.ty hm hfr hvs hC
    have hl : ({ (fb c.cur).atR { a with defers := [] } todo with mode := .returning } : Frame).leaving E.P w' (.returned V) := ⟨rfl, rfl, rfl, fn, hfn, h1⟩
    rw [hc] at hcs
    cases as with
    | cons => exact hcs.elim
    | nil =>
     refine ⟨_, he, V, w', Z', own', γ, _, h2, h2s, hm, ?_, ?_, hl⟩
     ·rw [hc]
      exact hst base
     ·rw [hc]
      rfl
   ·rename_i F Fs hc
    rw [hc] at hcs
    cases as with
    | nil => exact hcs.elim
    | cons b bs =>
     obtain ⟨hF, hFs⟩ := hcs
     split at he
     ·rename_i ops i rest k htodo
      split at he
      ·rename_i o ho
       obtain ⟨hC, he⟩ := qfi he
       obtain ⟨V, h1, h2⟩ := results_sound hE.ty hm hfr hvs hC
       have hl : ({ (fb c.cur).atR { a with defers := [] } todo with mode := .returning } : Frame).leaving E.P w' (.returned V) := ⟨rfl, rfl, rfl, fn, hfn, h1⟩
       have hmk : mkF F b = (fb F).atR b (.inRegion ops (i :: rest) :: k) := by simp [mkF, htodo]
       refine ⟨_, he, b.put o.dst V, bs, w', Z', own', γ, ⟨hF.fin h2, hFs, hm, hS.gl.mono h2s⟩, h2s, ?_, ?_⟩
       ·rw [hc]
        cases Fs <;> rfl
       ·rw [hc, frs_cons, hmk]
        exact (hst _).trans (.one (op_back ho hl))
      ·exact he.elim
     ·rename_i l k htodo
      obtain ⟨hC, he⟩ := qfi he
      obtain ⟨V, h1, h2⟩ := results_sound hE.ty hm hfr hvs hC
      have hl : ({ (fb c.cur).atR { a with defers := [] } todo with mode := .returning } : Frame).leaving E.P w' (.returned V) := ⟨rfl, rfl, rfl, fn, hfn, h1⟩
      have hmk : mkF F b = (fb F).atR b (.inRangeFunc l :: k) := by simp [mkF, htodo]
      refine ⟨_, he, b, bs, w', Z', own', γ, ⟨⟨hF.defers, hF.tmps, ⟨fun g hg => ?_, hF.link.rnd, hF.link.marks⟩⟩, hFs, hm, hS.gl.mono h2s⟩, h2s, ?_, ?_⟩
      ·obtain ⟨g1, g2, g3, g4, g5, g6, k', g7⟩ := hF.link.rng g hg
       refine ⟨g1, g2, g3, g4, g5, g6, k, .inr ?_⟩
       rw [htodo] at g7
       rcases g7 with g7 | g7
       ·injection g7 with g7
        injection g7 with g7
        rw [g7]
       ·injection g7 with g7
        cases g7
      ·rw [hc]
       cases Fs <;> rfl
      ·rw [hc, frs_cons, hmk]
       refine (hst _).trans (.one ?_)
       have := step_leave_returned (c := (fb F).atR b (.inRangeFunc l :: k)) (cs := frs Fs bs ++ base) hl
       rw [finish_atR_inRangeFunc] at this
       exact this
     ·exact he.elim
theorem qda {base : List Frame} (hS : StOK E w0 K c a as w Z own γ) {t : List Item} (hst : ∀ fs, step E.P (lone (mkF c.cur a) fs w) = .next (lone ((fb c.cur).atR a t) fs w)) {Q : Fin → Prop} (he : (todoC c t).wp Q) : ∃ f, Q f ∧ FinOK E w0 K base c a as w Z f :=
 ⟨_, he, a, as, w, Z, own, γ, ⟨hS.cur.to t, hS.callers, hS.mem, hS.gl⟩, Stay.refl _ _, by cases c.callers <;> rfl, .one (hst _)⟩
theorem yielded_at {ops : Array Oper} {j t : Nat} (hj : (ops[j]?).bind (·.dst) = some t) : yielded ops a.tmps j = match a.tmps[t]? with | some (.bool b) => some b | _ => none := by
 unfold yielded
 rw [hj]
 rfl
end
end Go.BE
namespace Go.BE
open Go.RowKit
theorem putT_length (F : List AV) (d : Option Tmp) (v : AV) : (putT F d v).length = F.length := by cases d <;> simp [putT]
theorem putT_get (F : List AV) (d : Option Tmp) (v : AV) (t : Nat) : (putT F d v)[t]? = if d = some t ∧ t < F.length then some v else F[t]? := by
 cases d with
 | none => simp [putT]
 | some d =>
  simp only [putT, List.getElem?_set, Option.some.injEq]
  by_cases h : d = t
  ·subst h
   by_cases h2 : d < F.length
   ·simp [h2]
   ·simp [h2, List.getElem?_eq_none (Nat.le_of_not_lt h2)]
  ·simp [h]

def selF (L : Nat → Bool) : Nat → List Rc → List AV → List AV
 | _, [], F => F
 | i, r :: rs, F => selF L (i + 1) rs (if L i then putT F r.dst r.val else F)
def selH (L : Nat → Bool) : Nat → List Rc → (Nat → Option Root) → Nat → Option Root
 | _, [], g => g
 | i, r :: rs, g => selH L (i + 1) rs (if L i then upW r.ws g else g)
theorem selF_length (L : Nat → Bool) : ∀ (rs : List Rc) (i : Nat) (F : List AV), (selF L i rs F).length = F.length
 | [], i, F => rfl
 | r :: rs, i, F => by
  simp only [selF]
  rw [selF_length L rs]
  split
  ·exact putT_length _ _ _
  ·rfl
theorem selF_congr {L L' : Nat → Bool} {t : Nat} : ∀ (rs : List Rc) (i : Nat) (F F' : List AV), F.length = F'.length → F[t]? = F'[t]? →
  (∀ (m : Nat) r, rs[m]? = some r → r.dst = some t → L (i + m) = L' (i + m)) → (selF L i rs F)[t]? = (selF L' i rs F')[t]?
 | [], i, F, F', hl, ht, h => ht
 | r :: rs, i, F, F', hl, ht, h => by
  simp only [selF]
  refine selF_congr rs (i + 1) _ _ ?_ ?_ fun m q hm hq => ?_
  ·split <;> split <;> simp [putT_length, hl]
  ·have h0 := h 0 r rfl
   simp only [Nat.add_zero] at h0
   by_cases hd : r.dst = some t
   ·rw [← h0 hd]
    split
    ·rw [putT_get, putT_get, hl, ht]
    ·exact ht
   ·have key : ∀ (b : Bool) (G : List AV), (if b then putT G r.dst r.val else G)[t]? = G[t]? := by
     intro b G
     cases b
     ·rfl
     ·simp only [if_true]
      rw [putT_get, if_neg (fun hh => hd hh.1)]
    rw [key, key, ht]
  ·have := h (m + 1) q (by simpa using hm) hq
   rwa [show i + 1 + m = i + (m + 1) from by omega]
theorem selH_congr {L L' : Nat → Bool} {x : Nat} : ∀ (rs : List Rc) (i : Nat) (g g' : Nat → Option Root), g x = g' x →
  (∀ (m : Nat) r, rs[m]? = some r → x ∈ wrs r → L (i + m) = L' (i + m)) → selH L i rs g x = selH L' i rs g' x
 | [], i, g, g', ht, h => ht
 | r :: rs, i, g, g', ht, h => by
  simp only [selH]
  refine selH_congr rs (i + 1) _ _ ?_ fun m q hm hq => ?_
  ·by_cases hd : x ∈ wrs r
   ·have h0 := h 0 r rfl hd
    simp only [Nat.add_zero] at h0
    rw [← h0]
    split
    ·exact upW_in (.inr ht)
    ·exact ht
   ·have key : ∀ (b : Bool) (G : Nat → Option Root), (if b then upW r.ws G else G) x = G x := by
     intro b G
     cases b
     ·rfl
     ·simp only [if_true]
      exact upW_not hd
    rw [key, key, ht]
  ·have := h (m + 1) q (by simpa using hm) hq
   rwa [show i + 1 + m = i + (m + 1) from by omega]
theorem selF_last {L : Nat → Bool} {t : Nat} {v : AV} : ∀ (rs : List Rc) (i : Nat) (F : List AV) (j : Nat) (r : Rc), rs[j]? = some r → r.dst = some t → r.val = v → L (i + j) = true →
  (∀ (m : Nat) q, j < m → rs[m]? = some q → q.dst = some t → L (i + m) = false) → (selF L i rs F)[t]? = if t < F.length then some v else none
 | [], i, F, j, r, hj, _, _, _, _ => by simp at hj
 | q :: rs, i, F, 0, r, hj, hd, hv, hL, h => by
  simp only [List.getElem?_cons_zero, Option.some.injEq] at hj
  subst hj
  simp only [selF, Nat.add_zero] at hL ⊢
  rw [if_pos hL]
  have : (selF L (i + 1) rs (putT F q.dst q.val))[t]? = (selF (fun _ => false) (i + 1) rs (putT F q.dst q.val))[t]? := by
   refine selF_congr rs (i + 1) _ _ rfl rfl fun m p hm hp => ?_
   have := h (m + 1) p (by omega) (by simpa using hm) hp
   rwa [show i + 1 + m = i + (m + 1) from by omega]
  rw [this]
  have none : ∀ (rs : List Rc) (i : Nat) (F : List AV), selF (fun _ => false) i rs F = F := by
   intro rs
   induction rs with
   | nil => intro i F; rfl
   | cons r rs ih => intro i F; simp only [selF]; exact ih _ _
  rw [none, putT_get, hd, hv]
  simp only [true_and]
  split
  ·rfl
  ·rename_i hlt
   exact List.getElem?_eq_none (Nat.le_of_not_lt hlt)
 | q :: rs, i, F, j + 1, r, hj, hd, hv, hL, h => by
  simp only [selF]
  have hlen : (if L i = true then putT F q.dst q.val else F).length = F.length := by
   split
   ·exact putT_length _ _ _
   ·rfl
  rw [← hlen]
  refine selF_last rs (i + 1) _ j r (by simpa using hj) hd hv (by rwa [show i + 1 + j = i + (j + 1) from by omega]) fun m p hm hp hpd => ?_
  have := h (m + 1) p (by omega) (by simpa using hp) hpd
  rwa [show i + 1 + m = i + (m + 1) from by omega]
theorem selH_none : ∀ (rs : List Rc) (i : Nat) (g : Nat → Option Root), selH (fun _ => false) i rs g = g
 | [], i, g => rfl
 | r :: rs, i, g => by simp only [selH]; exact selH_none rs _ g
theorem selH_last {L : Nat → Bool} {x : Nat} : ∀ (rs : List Rc) (i : Nat) (g : Nat → Option Root) (j : Nat) (r : Rc), rs[j]? = some r → x ∈ wrs r → L (i + j) = true →
  (∀ (m : Nat) q, j < m → rs[m]? = some q → x ∈ wrs q → L (i + m) = false) → ∀ g', selH L i rs g x = upW r.ws g' x
 | [], i, g, j, r, hj, _, _, _, _ => by simp at hj
 | q :: rs, i, g, 0, r, hj, hd, hL, h, g' => by
  simp only [List.getElem?_cons_zero, Option.some.injEq] at hj
  subst hj
  simp only [selH, Nat.add_zero] at hL ⊢
  rw [if_pos hL]
  have : selH L (i + 1) rs (upW q.ws g) x = selH (fun _ => false) (i + 1) rs (upW q.ws g) x := by
   refine selH_congr rs (i + 1) _ _ rfl fun m p hm hp => ?_
   have := h (m + 1) p (by omega) (by simpa using hm) hp
   rwa [show i + 1 + m = i + (m + 1) from by omega]
  rw [this, selH_none]
  exact upW_in (.inl hd)
 | q :: rs, i, g, j + 1, r, hj, hd, hL, h, g' => by
  simp only [selH]
  refine selH_last rs (i + 1) _ j r (by simpa using hj) hd (by rwa [show i + 1 + j = i + (j + 1) from by omega]) (fun m p hm hp hpd => ?_) g'
  have := h (m + 1) p (by omega) (by simpa using hp) hpd
  rwa [show i + 1 + m = i + (m + 1) from by omega]
def addL (L : Nat → Bool) (j : Nat) : Nat → Bool := fun i => L i || i == j
theorem selF_add {L : Nat → Bool} {j : Nat} {r : Rc} {rs : List Rc} {F : List AV} (hj : rs[j]? = some r)
  (h : ∀ (m : Nat) q t, j < m → rs[m]? = some q → q.dst = some t → r.dst = some t → L m = false) : selF (addL L j) 0 rs F = putT (selF L 0 rs F) r.dst r.val := by
 refine List.ext_getElem? fun t => ?_
 rw [putT_get, selF_length]
 by_cases hd : r.dst = some t
 ·rw [selF_last rs 0 F j r hj hd rfl (by simp [addL]) fun m q hm hq hqd => ?_]
  ·simp only [hd, true_and]
   split
   ·rfl
   ·rename_i hlt
    rw [List.getElem?_eq_none]
    rw [selF_length]
    omega
  ·simp only [addL, Nat.zero_add, Bool.or_eq_false_iff]
   exact ⟨h m q t hm hq hqd hd, by simp; omega⟩
 ·rw [if_neg (fun hh => hd hh.1)]
  refine selF_congr rs 0 _ _ rfl rfl fun m q hm hq => ?_
  simp only [addL, Nat.zero_add]
  by_cases hmj : m = j
  ·subst hmj
   rw [hj] at hm
   injection hm with hm
   subst hm
   exact absurd hq hd
  ·simp [hmj]
theorem selH_add {L : Nat → Bool} {j : Nat} {r : Rc} {rs : List Rc} {g : Nat → Option Root} (hj : rs[j]? = some r)
  (h : ∀ (m : Nat) q x, j < m → rs[m]? = some q → x ∈ wrs q → x ∈ wrs r → L m = false) (x : Nat) : selH (addL L j) 0 rs g x = upW r.ws (selH L 0 rs g) x := by
 by_cases hd : x ∈ wrs r
 ·refine selH_last rs 0 g j r hj hd (by simp [addL]) (fun m q hm hq hqd => ?_) _
  simp only [addL, Nat.zero_add, Bool.or_eq_false_iff]
  exact ⟨h m q x hm hq hqd hd, by simp; omega⟩
 ·rw [upW_not hd]
  refine selH_congr rs 0 _ _ rfl fun m q hm hq => ?_
  simp only [addL, Nat.zero_add]
  by_cases hmj : m = j
  ·subst hmj
   rw [hj] at hm
   injection hm with hm
   subst hm
   exact absurd hq hd
  ·simp [hmj]
theorem maskF_get (ns : List Nat) : ∀ (F : List AV) (i t : Nat), (maskF ns F i)[t]? = (F[t]?).map fun a => if ns.contains (i + t) then a else .bad
 | [], i, t => by simp [maskF]
 | a :: F, i, 0 => by simp [maskF]
 | a :: F, i, t + 1 => by
  simp only [maskF, List.getElem?_cons_succ]
  rw [maskF_get ns F (i + 1) t, show i + 1 + t = i + (t + 1) from by omega]
theorem maskF_congr {ns : List Nat} {F F' : List AV} (h : ∀ t, ns.contains t = true → F[t]? = F'[t]?) (hl : F.length = F'.length) : maskF ns F 0 = maskF ns F' 0 := by
 refine List.ext_getElem? fun t => ?_
 rw [maskF_get, maskF_get, Nat.zero_add]
 by_cases hc : ns.contains t = true
 ·rw [h t hc]
 ·simp only [hc, Bool.false_eq_true, if_false]
  rcases Nat.lt_or_ge t F.length with hlt | hge
  ·rw [List.getElem?_eq_getElem hlt, List.getElem?_eq_getElem (by omega)]; rfl
  ·rw [List.getElem?_eq_none hge, List.getElem?_eq_none (by omega)]
theorem maskH_congr {H H' : Heap} : ∀ {l : List Nat}, (∀ x ∈ l, hget H x = hget H' x) → maskH H l = maskH H' l
 | [], _ => rfl
 | x :: l, h => by
  simp only [maskH]
  rw [h x (by simp), maskH_congr fun y hy => h y (by simp [hy])]

def foldF (rs : List Rc) (F : List AV) : List AV := rs.foldl (fun F r => putT F r.dst r.val) F
def foldH (rs : List Rc) (h : Heap) : Heap := rs.foldl (fun h r => qav h r.ws) h
theorem foldF_sel (rs : List Rc) : ∀ (k i : Nat) (F : List AV), foldF (rs.take k) F = selF (fun m => decide (m < i + k)) i rs F := by
 have none : ∀ (rs : List Rc) (L : Nat → Bool) (i : Nat) (F : List AV), (∀ m, i ≤ m → L m = false) → selF L i rs F = F := by
  intro rs
  induction rs with
  | nil => intro L i F _; rfl
  | cons r rs ih =>
   intro L i F h
   simp only [selF, h i (Nat.le_refl _), Bool.false_eq_true, if_false]
   exact ih _ _ _ fun m hm => h m (by omega)
 induction rs with
 | nil => intro k i F; simp [foldF, selF]
 | cons r rs ih =>
  intro k i F
  cases k with
  | zero =>
   rw [none _ _ _ _ (fun m hm => by simp; omega)]
   rfl
  | succ k =>
   simp only [List.take_succ_cons, selF, show i < i + (k + 1) from by omega, decide_true, if_true]
   have := ih k (i + 1) (putT F r.dst r.val)
   rw [show i + 1 + k = i + (k + 1) from by omega] at this
   exact this
theorem foldH_sel (rs : List Rc) : ∀ (k i : Nat) (h : Heap) (x : Nat), hget (foldH (rs.take k) h) x = selH (fun m => decide (m < i + k)) i rs (hget h) x := by
 have none : ∀ (rs : List Rc) (L : Nat → Bool) (i : Nat) (g : Nat → Option Root), (∀ m, i ≤ m → L m = false) → selH L i rs g = g := by
  intro rs
  induction rs with
  | nil => intro L i g _; rfl
  | cons r rs ih =>
   intro L i g h
   simp only [selH, h i (Nat.le_refl _), Bool.false_eq_true, if_false]
   exact ih _ _ _ fun m hm => h m (by omega)
 induction rs with
 | nil => intro k i h x; simp [foldH, selH]
 | cons r rs ih =>
  intro k i h x
  cases k with
  | zero =>
   rw [none _ _ _ _ (fun m hm => by simp; omega)]
   rfl
  | succ k =>
   simp only [List.take_succ_cons, selH, show i < i + (k + 1) from by omega, decide_true, if_true]
   have := ih k (i + 1) (qav h r.ws) x
   rw [show i + 1 + k = i + (k + 1) from by omega, qcw] at this
   exact this
theorem addN_mem {l : List Nat} {x y : Nat} (h : y ∈ addN l x) : y = x ∨ y ∈ l := by
 unfold addN at h
 split at h
 ·exact .inr h
 ·simpa using h
theorem addAll_mem {y : Nat} : ∀ {m l : List Nat}, y ∈ addAll l m → y ∈ l ∨ y ∈ m
 | [], l, h => .inl h
 | x :: m, l, h => by
  rcases addAll_mem (m := m) h with h | h
  ·rcases addN_mem h with rfl | h
   ·exact .inr (by simp)
   ·exact .inl h
  ·exact .inr (by simp [h])
theorem ancOf_ok {acc : List (List Nat)} {j : Nat} : ∀ {es : List Go.Edge} {l : List Nat}, ancOf acc j es = some l → (∀ e ∈ es, Region.binds .any e = true → e.on < j) ∧ ∀ i ∈ l, ∃ e ∈ es, Region.binds .any e = true ∧ (i = e.on ∨ i ∈ acc.getD e.on [])
 | [], l, h => by
  simp only [ancOf, Option.some.injEq] at h
  subst h
  exact ⟨fun e he => by simp at he, fun i hi => by simp at hi⟩
 | e :: es, l, h => by
  simp only [ancOf] at h
  split at h
  ·rename_i hb
   split at h
   ·rename_i hlt
    split at h
    ·rename_i l' hl'
     injection h with h
     subst h
     obtain ⟨h1, h2⟩ := ancOf_ok hl'
     refine ⟨fun e' he' hb' => ?_, fun i hi => ?_⟩
     ·simp only [List.mem_cons] at he'
      rcases he' with rfl | he'
      ·exact hlt
      ·exact h1 e' he' hb'
     ·rcases addAll_mem hi with hi | hi
      ·rcases addN_mem hi with rfl | hi
       ·exact ⟨e, by simp, hb, .inl rfl⟩
       ·obtain ⟨e', he', r⟩ := h2 i hi
        exact ⟨e', by simp [he'], r⟩
      ·exact ⟨e, by simp, hb, .inr hi⟩
    ·cases h
   ·cases h
  ·rename_i hb
   obtain ⟨h1, h2⟩ := ancOf_ok h
   refine ⟨fun e' he' hb' => ?_, fun i hi => ?_⟩
   ·simp only [List.mem_cons] at he'
    rcases he' with rfl | he'
    ·exact absurd hb' hb
    ·exact h1 e' he' hb'
   ·obtain ⟨e', he', r⟩ := h2 i hi
    exact ⟨e', by simp [he'], r⟩
theorem ancs_ok : ∀ {os : List Oper} {acc A : List (List Nat)}, ancs acc os = some A → (∀ k, k < acc.length → A[k]? = acc[k]?) ∧
  ∀ (k : Nat) o, os[k]? = some o → (∀ e ∈ o.after.toList, Region.binds .any e = true → e.on < acc.length + k) ∧ ∀ i ∈ A.getD (acc.length + k) [], ∃ e ∈ o.after.toList, Region.binds .any e = true ∧ (i = e.on ∨ i ∈ A.getD e.on [])
 | [], acc, A, h => by
  simp only [ancs, Option.some.injEq] at h
  subst h
  exact ⟨fun k hk => rfl, fun k o ho => by simp at ho⟩
 | o :: os, acc, A, h => by
  simp only [ancs] at h
  split at h
  ·rename_i l hl
   obtain ⟨h1, h2⟩ := ancs_ok h
   simp only [List.length_append, List.length_cons, List.length_nil, Nat.zero_add] at h1 h2
   have hA : ∀ k, k < acc.length → A[k]? = acc[k]? := fun k hk => by rw [h1 k (by omega), List.getElem?_append_left hk]
   refine ⟨hA, fun k q hq => ?_⟩
   cases k with
   | zero =>
    simp only [List.getElem?_cons_zero, Option.some.injEq] at hq
    subst hq
    obtain ⟨k1, k2⟩ := ancOf_ok hl
    refine ⟨k1, fun i hi => ?_⟩
    have hAj : A.getD acc.length [] = l := by
     rw [List.getD_eq_getElem?_getD, h1 _ (by omega)]
     simp
    rw [Nat.add_zero, hAj] at hi
    obtain ⟨e, he, hb, hr⟩ := k2 i hi
    refine ⟨e, he, hb, hr.imp id fun hr => ?_⟩
    rw [List.getD_eq_getElem?_getD, hA _ (k1 e he hb), ← List.getD_eq_getElem?_getD]
    exact hr
   | succ k =>
    have := h2 k q (by simpa using hq)
    rw [show acc.length + 1 + k = acc.length + (k + 1) from by omega] at this
    exact this
  ·cases h

theorem okAgainst_ok {anc : List Nat} {r : Rc} : ∀ {qs : List Rc} {i : Nat}, okAgainst anc r i qs = true → ∀ (m : Nat) q, qs[m]? = some q → conf q r = true → i + m ∈ anc
 | [], i, h, m, q, hm, hc => by simp at hm
 | p :: qs, i, h, m, q, hm, hc => by
  simp only [okAgainst, Bool.and_eq_true, Bool.or_eq_true, Bool.not_eq_true'] at h
  cases m with
  | zero =>
   simp only [List.getElem?_cons_zero, Option.some.injEq] at hm
   subst hm
   rcases h.1 with h1 | h1
   ·rw [h1] at hc; cases hc
   ·simpa using h1
  | succ m =>
   have := okAgainst_ok h.2 m q (by simpa using hm) hc
   rwa [show i + 1 + m = i + (m + 1) from by omega] at this
theorem okAll_ok {A : List (List Nat)} : ∀ {rs done : List Rc}, okAll A done.length done rs = true → ∀ (i k : Nat) q r, (done ++ rs)[i]? = some q → (done ++ rs)[k]? = some r → i < k → done.length ≤ k → conf q r = true → i ∈ A.getD k []
 | [], done, h, i, k, q, r, hi, hk, hik, hd, hc => by
  have := (List.getElem?_eq_some_iff.1 hk).1
  simp at this
  omega
 | p :: rs, done, h, i, k, q, r, hi, hk, hik, hd, hc => by
  simp only [okAll, Bool.and_eq_true] at h
  by_cases hkd : k = done.length
  ·subst hkd
   rw [List.getElem?_append_right (Nat.le_refl _)] at hk
   simp only [Nat.sub_self, List.getElem?_cons_zero, Option.some.injEq] at hk
   subst hk
   rw [List.getElem?_append_left hik] at hi
   have := okAgainst_ok h.1 i q hi hc
   simpa using this
  ·have h2 := h.2
   have := okAll_ok (done := done ++ [p]) (rs := rs) (by simpa using h2) i k q r (by simpa using hi) (by simpa using hk) hik (by simp; omega) hc
   exact this
theorem meets_of {l m : List Nat} {x : Nat} (h1 : x ∈ l) (h2 : m.contains x = true) : meets l m = true := by
 unfold meets
 rw [List.any_eq_true]
 exact ⟨x, h1, h2⟩
end Go.BE
namespace Go.BE
open Go.RowKit
def Lof (listed : Array Bool) : Nat → Bool := fun i => listed.getD i false
theorem Lof_set {listed : Array Bool} {i : Nat} (hi : i < listed.size) : Lof (listed.setIfInBounds i true) = addL (Lof listed) i := by
 funext j
 simp only [Lof, addL, Array.getD_eq_getD_getElem?]
 by_cases h : i = j
 ·subst h
  simp [Array.getElem?_setIfInBounds_self, hi]
 ·rw [Array.getElem?_setIfInBounds_ne h]
  have : (j == i) = false := by simpa using Ne.symm h
  rw [this, Bool.or_false]
theorem Lof_true {listed : Array Bool} {j : Nat} (hj : j < listed.size) : listed.getD j true = Lof listed j := by
 simp only [Lof, Array.getD_eq_getD_getElem?, Array.getElem?_eq_getElem hj, Option.getD_some]
def DOK (E : Ctx) (fn : FuncId) (ops : Array Oper) (id : Nat) (o : Oper) (F : List AV) (H : Heap) (r : Rc) : Prop := (dop E fn ops id o F H).wp fun r' => r' = r
def Tre.det {α : Type} : Tre α → Prop
 | .ok _ => True
 | .ite _ t e => t.det ∧ e.det
 | .chk _ t => t.det
 | .know _ _ => False
 | .any _ _ => False
 | .rg _ => False
 | .bad => True
theorem Tre.resolve {α : Type} {Q : α → Prop} {t : Tre α} (hd : t.det) (h : t.wp Q) : ∃ r, t.wp (fun r' => r' = r) ∧ Q r := by
 induction t with
 | ok a => exact ⟨a, rfl, h⟩
 | ite b t e iht ihe =>
  cases hb : b with
  | true =>
   obtain ⟨r, h1, h2⟩ := iht hd.1 (h.1 hb)
   exact ⟨r, ⟨fun _ => h1, fun h => (nomatch h)⟩, h2⟩
  | false =>
   obtain ⟨r, h1, h2⟩ := ihe hd.2 (h.2 hb)
   exact ⟨r, ⟨fun h => (nomatch h), fun _ => h1⟩, h2⟩
 | chk C t ih =>
  obtain ⟨r, h1, h2⟩ := ih hd (h.2 h.1)
  exact ⟨r, ⟨h.1, fun _ => h1⟩, h2⟩
 | know K t _ => exact hd.elim
 | any p k _ => exact hd.elim
 | rg k _ => exact hd.elim
 | bad => exact h.elim
theorem chks_det {α : Type} {t : Tre α} : ∀ {C : List Prop}, t.det → (chks C t).det
 | [], h => h
 | _ :: l, h => chks_det (C := l) h
theorem dval_det {E : Ctx} {ro : Nat} {id : Nat} {o : Oper} {ns : List Nat} {fm : List AV} {rd : List Nat} {hm : Heap} : (dval E ro id o ns fm rd hm).det := by
 unfold dval
 split
 ·split
  ·exact ⟨trivial, trivial⟩
  ·trivial
 ·split
  ·exact chks_det trivial
  ·exact chks_det trivial
  ·trivial
  ·split
   ·split
    ·exact chks_det trivial
    ·trivial
   ·trivial
  ·trivial
theorem dop_det {E : Ctx} {fn : FuncId} {ops : Array Oper} {id : Nat} {o : Oper} {F : List AV} {H : Heap} : (dop E fn ops id o F H).det := by
 unfold dop
 dsimp only
 split
 ·exact dval_det
 ·split
  ·trivial
  ·split
   ·split
    ·exact ⟨dval_det, trivial⟩
    ·exact ⟨trivial, dval_det⟩
   ·trivial
   ·trivial
theorem dval_nm {E : Ctx} {ro : Nat} {id : Nat} {o : Oper} {ns : List Nat} {fm : List AV} {rd : List Nat} {hm : Heap} {r : Rc} (h : (dval E ro id o ns fm rd hm).wp fun r' => r' = r) : r.nm = ns ∧ r.dst = o.dst ∧ r.rd = rd := by
 unfold dval at h
 split at h
 ·split at h
  ·rename_i b hb
   cases hbb : b with
   | true => have := h.1 hbb; subst this; exact ⟨rfl, rfl, rfl⟩
   | false => have := h.2 hbb; subst this; exact ⟨rfl, rfl, rfl⟩
  ·exact h.elim
 ·split at h
  ·have := (qfi h).2; subst this; exact ⟨rfl, rfl, rfl⟩
  ·have := (qfi h).2; subst this; exact ⟨rfl, rfl, rfl⟩
  ·exact h.elim
  ·split at h
   ·split at h
    ·have := (qfi h).2; subst this; exact ⟨rfl, rfl, rfl⟩
    ·exact h.elim
   ·exact h.elim
  ·exact h.elim
theorem DOK.nm {E : Ctx} {fn : FuncId} {ops : Array Oper} {id : Nat} {o : Oper} {F : List AV} {H : Heap} {r : Rc} (h : DOK E fn ops id o F H r) : r.nm = names ops o ∧ r.dst = o.dst ∧ r.rd = rdDeep H o.op (rdFor (maskF (names ops o) F 0) o.op (rdOf (maskF (names ops o) F 0) (names ops o))) := by
 unfold DOK dop at h
 dsimp only at h
 split at h
 ·exact dval_nm h
 ·split at h
  ·exact h.elim
  ·split at h
   ·rename_i b hb
    split at h
    ·cases hbb : b with
     | true => exact dval_nm (h.1 hbb)
     | false => have := h.2 hbb; subst this; exact ⟨rfl, rfl, rfl⟩
    ·cases hbb : b with
     | true => have := h.1 hbb; subst this; exact ⟨rfl, rfl, rfl⟩
     | false => exact dval_nm (h.2 hbb)
   ·have h : _ = r := h
    subst h
    exact ⟨rfl, rfl, rfl⟩
   ·exact h.elim
theorem innerR_congr {H H' : Heap} : ∀ {l : List Nat}, (∀ x ∈ l, hget H x = hget H' x) → innerR H l = innerR H' l
 | [], _ => rfl
 | r :: l, h => by
  simp only [innerR]
  rw [h r List.mem_cons_self, innerR_congr fun x hx => h x (List.mem_cons_of_mem _ hx)]
theorem rdDeep_congr {H H' : Heap} {o : Op} {l : List Nat} (h : ∀ x ∈ rdDeep H o l, hget H x = hget H' x) : rdDeep H o l = rdDeep H' o l := by
 unfold rdDeep at h ⊢
 split
 ·rw [innerR_congr fun x hx => h x (by simp [hx])]
 ·rfl
theorem DOK.congr {E : Ctx} {fn : FuncId} {ops : Array Oper} {id : Nat} {o : Oper} {F F' : List AV} {H H' : Heap} {r : Rc} (h : DOK E fn ops id o F H r) (hF : ∀ t, r.nm.contains t = true → F[t]? = F'[t]?) (hl : F.length = F'.length) (hH : ∀ x ∈ r.rd, hget H x = hget H' x) :
  DOK E fn ops id o F' H' r := by
 obtain ⟨h1, h2, h3⟩ := h.nm
 rw [h1] at hF
 have e1 := maskF_congr hF hl
 rw [h3] at hH
 have e2 := maskH_congr hH
 have e3 := rdDeep_congr hH
 unfold DOK dop at h ⊢
 dsimp only at h ⊢
 rw [← e1, ← e3, ← e2]
 exact h
theorem decideT_wp {fr : List AV} {t : Option Nat} {g : List AV → Tre (List Rc × List AV × Heap)} {Q : List Rc × List AV × Heap → Prop} (h : (decideT fr t g).wp Q) : (g fr).wp Q := by
 unfold decideT at h
 split at h
 ·rename_i t
  split at h
  ·rename_i b hb
   cases hbb : b with
   | true =>
    have := h.1 hbb
    rw [lget_set_self (x := abool true) (by rw [hb, hbb]; rfl) (by simp [abool])] at this
    exact this
   | false =>
    have := h.2 hbb
    rw [lget_set_self (x := abool false) (by rw [hb, hbb]; rfl) (by simp [abool])] at this
    exact this
  ·exact h
 ·exact h
theorem drun_ok {E : Ctx} {fn : FuncId} {ops : Array Oper} {base : Nat} {Q : List Rc × List AV × Heap → Prop} : ∀ (os : List Oper) (i : Nat) (F : List AV) (h : Heap), (drun E fn ops base i os F h).wp Q →
  ∃ rs, Q (rs, foldF rs F, foldH rs h) ∧ rs.length = os.length ∧ ∀ (j : Nat) o, os[j]? = some o → ∃ r, rs[j]? = some r ∧ DOK E fn ops (base + (i + j) * qba) o (foldF (rs.take j) F) (foldH (rs.take j) h) r
 | [], i, F, h, hw => ⟨[], hw, rfl, fun j o ho => by simp at ho⟩
 | o :: os, i, F, h, hw => by
  simp only [drun] at hw
  have hw := decideT_wp hw
  rw [Tre.wp_bind] at hw
  obtain ⟨r, h1, h2⟩ := Tre.resolve dop_det hw
  rw [Tre.wp_bind] at h2
  obtain ⟨rs, k1, k2, k3⟩ := drun_ok (Q := fun x => Q (r :: x.1, x.2.1, x.2.2)) os (i + 1) (putT F r.dst r.val) (qav h r.ws) h2
  refine ⟨r :: rs, k1, by simp [k2], fun j q hq => ?_⟩
  cases j with
  | zero =>
   simp only [List.getElem?_cons_zero, Option.some.injEq] at hq
   subst hq
   exact ⟨r, rfl, h1⟩
  | succ j =>
   obtain ⟨r', e1, e2⟩ := k3 j q (by simpa using hq)
   refine ⟨r', by simpa using e1, ?_⟩
   rw [show i + (j + 1) = i + 1 + j from by omega]
   exact e2
section
variable {P : Program} {E : Ctx} {w w' w0 : World} {Z Z' : Nat → Prop} {K : Kp} {own own' : Own} {γ γ' : Gst} {h h' H : Heap} {used used' : Nat → Prop} {s d id nx : Nat} {A B : AV} {v V U : Value} {cs ds : List AV} {vs us : List Value} {F fr : List AV} {a : Act} {fn : FuncId} {ops : Array Oper} {r : Rc}
theorem mask_VRs {ns : List Nat} {F : List AV} (h : VRs w Z γ F vs) : VRs w Z γ (maskF ns F 0) vs := by
 have hl : (maskF ns F 0).length = F.length := by
  have : ∀ (F : List AV) (i : Nat), (maskF ns F i).length = F.length := by
   intro F
   induction F with
   | nil => intro i; rfl
   | cons a F ih => intro i; simp [maskF, ih]
  exact this F 0
 refine ⟨hl.trans h.1, fun j x y hx hy => ?_⟩
 rw [maskF_get] at hx
 cases hF : F[j]? with
 | none => rw [hF] at hx; cases hx
 | some z =>
  rw [hF] at hx
  simp only [Option.map_some, Option.some.injEq] at hx
  subst hx
  split
  ·exact h.2 j z y hF hy
  ·exact .bad _
end
end Go.BE
namespace Go.BE
open Go.RowKit
section
variable {P : Program} {E : Ctx} {w w' w0 : World} {Z Z' : Nat → Prop} {K : Kp} {own own' : Own} {γ γ' : Gst} {h h' H : Heap} {used used' : Nat → Prop} {s d id nx : Nat} {A B : AV} {v V U : Value} {cs ds : List AV} {vs us : List Value} {F fr fm : List AV} {a : Act} {fn : FuncId} {ops : Array Oper} {r : Rc} {rs : List Rc} {AA : List (List Nat)} {listed : Array Bool} {m : Nat}
structure Did (E : Ctx) (w0 : World) (K : Kp) (w : World) (Z : Nat → Prop) (γ : Gst) (H : Heap) (used used' : Nat → Prop) (r : Rc) (v : Value) (w' : World) (Z' : Nat → Prop) (own' : Own) (γ' : Gst) : Prop where
 val : VR w' Z' γ' r.val v
 stay : Stay w Z w' Z'
 ext : Gst.Ext used γ γ'
 mem : MemR w0 K w' Z' own' γ' (qav H r.ws) used'
theorem dval_run (hE : EOK E) {b : Frame} {k : List Item} {fs : List Frame} {i : Nat} {rest : List Nat} {o : Oper} {ro : Nat} {ns rd : List Nat} (hm : MemR w0 K w Z own γ H used) (hg : GlR E w Z)
  (hf : VRs w Z γ fm a.tmps.toList) (hd : (dval E ro id o ns fm rd (maskH H rd)).wp fun r' => r' = r) (ho : ops[i]? = some o) (hw : Region.wanted o (yielded ops a.tmps) = true)
  (hid : ∀ j, j < 16 → ¬ used (id + j)) (hu : ∀ s, used s → used' s) (hid' : ∀ j, j < 16 → used' (id + j)) :
  ∃ v w' Z' own' γ', Did E w0 K w Z γ H used used' r v w' Z' own' γ' ∧ Steps E.P (lone (b.atR a (.inRegion ops (i :: rest) :: k)) fs w) (lone (b.atR (a.put r.dst v) (.inRegion ops rest :: k)) fs w') := by
 have hev : ∀ x, VR w Z γ (ev E fm x) (a.eval x) := fun x => ev_rel' hg hf x
 unfold dval at hd
 split at hd
 ·rename_i x y z hop
  split at hd
  ·rename_i b' hb
   have hv := asB_inv (hev x) hb
   have hrun : (execOp a.eval o).run E.P w = .ok (.value (a.eval (if b' then y else z))) w := by
    simp only [execOp, hop, hv, asBool, Sem.run_bind, Sem.run_pure, Result.andThen_ok]
    cases b' <;> rfl
   cases hbb : b' with
   | true =>
    have := hd.1 hbb
    subst this
    rw [hbb] at hrun
    exact ⟨_, w, Z, own, γ, ⟨hev _, Stay.refl _ _, Gst.Ext.refl _ _, hm.used_mono hu⟩, .one (op_value ho hw hrun)⟩
   | false =>
    have := hd.2 hbb
    subst this
    rw [hbb] at hrun
    exact ⟨_, w, Z, own, γ, ⟨hev _, Stay.refl _ _, Gst.Ext.refl _ _, hm.used_mono hu⟩, .one (op_value ho hw hrun)⟩
  ·exact hd.elim
 ·rename_i hnp
  have hmm := hm.masked rd
  have hop := aop_sound (used' := used') hE.ty hmm (id := id) (hid 0 (by omega)) hu (hid' 0 (by omega)) (ro := ro) hev o
  split at hd
  ·rename_i C' A' hv
   rw [hv] at hop
   obtain ⟨hC, hd⟩ := qfi hd
   obtain ⟨v, e1, e2⟩ := hop hC
   subst hd
   exact ⟨v, w, Z, own, γ, ⟨e2, Stay.refl _ _, Gst.Ext.refl _ _, hm.used_mono hu⟩, .one (op_value ho hw e1)⟩
  ·rename_i C' A' ws sk hv
   rw [hv] at hop
   obtain ⟨hC, hd⟩ := qfi hd
   obtain ⟨n, v, w', Z', own', γ', e1, e2, e3, e4, e5, e6⟩ := hop hC
   subst hd
   obtain ⟨own2, hm2, _⟩ := hm.framed e3 e4 hu e5
   refine ⟨v, w', Z', own2, γ', ⟨e6, e3, e4, hm2⟩, ?_⟩
   split at e2
   ·obtain ⟨rfl, rfl⟩ := e2
    exact .one (op_skipv ho hw e1)
   ·subst e2
    exact .one (op_value ho hw e1)
  ·exact hd.elim
  ·rename_i f args hv
   rw [hv] at hop
   obtain ⟨vs, e1, e2⟩ := hop
   split at hd
   ·rename_i hfn
    rw [hE.fns f hfn] at e1
    split at hd
    ·rename_i C' Kn A' ws hcall
     obtain ⟨hC, hd⟩ := qfi hd
     subst hd
     have hcl := acallA_sound (used' := used') hE.env hE.io hmm hg hcall hC e2 hid hu hid'
     obtain ⟨e, w', fr, ⟨v, Z', own', γ', rfl, k1, k2, k3, k4, k5⟩, q1, q2, q3⟩ := hcl (b.atR a (.inRegion ops (i :: rest) :: k) :: fs)
     obtain ⟨own2, hm2, _⟩ := hm.framed k2 k3 hu k4
     exact ⟨v, w', Z', own2, γ', ⟨k5, k2, k3, hm2⟩, .head (op_enter ho hw e1) (Steps.trans q1 (.one (op_back ho q3)))⟩
    ·exact hd.elim
   ·exact hd.elim
  ·exact hd.elim
theorem dok_run (hE : EOK E) {b : Frame} {k : List Item} {fs : List Frame} {i : Nat} {rest : List Nat} {o : Oper} (hm : MemR w0 K w Z own γ H used) (hg : GlR E w Z)
  (hf : VRs w Z γ F a.tmps.toList) (hd : DOK E fn ops id o F H r) (ho : ops[i]? = some o)
  (hid : ∀ j, j < 16 → ¬ used (id + j)) (hu : ∀ s, used s → used' s) (hid' : ∀ j, j < 16 → used' (id + j)) :
  ∃ v w' Z' own' γ', Did E w0 K w Z γ H used used' r v w' Z' own' γ' ∧ Steps E.P (lone (b.atR a (.inRegion ops (i :: rest) :: k)) fs w) (lone (b.atR (a.put r.dst v) (.inRegion ops rest :: k)) fs w') := by
 have hfm : VRs w Z γ (maskF (names ops o) F 0) a.tmps.toList := mask_VRs hf
 have hskip : ∀ ns rd, r = ⟨o.dst, und, [], ns, rd, false⟩ → ((ops[i]?).map (Region.wanted · (yielded ops a.tmps))).getD false = false →
   ∃ v w' Z' own' γ', Did E w0 K w Z γ H used used' r v w' Z' own' γ' ∧ Steps E.P (lone (b.atR a (.inRegion ops (i :: rest) :: k)) fs w) (lone (b.atR (a.put r.dst v) (.inRegion ops rest :: k)) fs w') := by
  rintro ns rd rfl hw
  have := stepR_op_skip (P := E.P) (b := b) (a := a) (k := k) (cs := fs) (w := w) (ops := ops) (i := i) (rest := rest) hw
  rw [ho] at this
  exact ⟨undef, w, Z, own, γ, ⟨.cr (.val _ trivial), Stay.refl _ _, Gst.Ext.refl _ _, hm.used_mono hu⟩, .one this⟩
 unfold DOK dop at hd
 dsimp only at hd
 split at hd
 ·rename_i hgd
  exact dval_run hE hm hg hfm hd ho (by simp [Region.wanted, hgd]) hid hu hid'
 ·rename_i j want hgd
  split at hd
  ·exact hd.elim
  ·rename_i t ht
   split at hd
   ·rename_i b' hb'
    have hbt := lget_val hfm hb'
    rw [Array.getElem?_toList] at hbt
    have hyes : b' = want → Region.wanted o (yielded ops a.tmps) = true := fun e => by
     simp only [Region.wanted, hgd, yielded_at ht, hbt, e]
     simp
    have hno : b' ≠ want → ((ops[i]?).map (Region.wanted · (yielded ops a.tmps))).getD false = false := fun e => by
     simp only [ho, Option.map_some, Option.getD_some, Region.wanted, hgd, yielded_at ht, hbt]
     simpa using e
    split at hd
    ·rename_i hwant
     cases hbb : b' with
     | true => exact dval_run hE hm hg hfm (hd.1 hbb) ho (hyes (by rw [hbb, hwant])) hid hu hid'
     | false => exact hskip _ _ (hd.2 hbb).symm (hno (by rw [hbb, hwant]; simp))
    ·rename_i hwant
     have hwant : want = false := by simpa using hwant
     cases hbb : b' with
     | true => exact hskip _ _ (hd.1 hbb).symm (hno (by rw [hbb, hwant]; simp))
     | false => exact dval_run hE hm hg hfm (hd.2 hbb) ho (hyes (by rw [hbb, hwant])) hid hu hid'
   ·rename_i vs hb'
    have hd : _ = r := hd
    have hbt := lget_val hfm hb'
    rw [Array.getElem?_toList] at hbt
    refine hskip _ _ hd.symm ?_
    simp only [ho, Option.map_some, Option.getD_some, Region.wanted, hgd, yielded_at ht, hbt]
    rfl
   ·exact hd.elim
structure Plan (E : Ctx) (fn : FuncId) (ops : Array Oper) (m : Nat) (nx : Nat) (fr : List AV) (h : Heap) (AA : List (List Nat)) (rs : List Rc) : Prop where
 le : m ≤ ops.size
 chain : ∀ j, m ≤ j → j < ops.size → ∀ i, i < j → i ∈ AA.getD j []
 len : rs.length = m
 recs : ∀ (j : Nat) o, j < m → ops[j]? = some o → ∃ r, rs[j]? = some r ∧ DOK E fn ops (nx + j * qba) o (foldF (rs.take j) fr) (foldH (rs.take j) h) r
 anc : ∀ (j : Nat) o, ops[j]? = some o → (∀ e ∈ o.after, Region.binds .any e = true → e.on < j) ∧ ∀ i ∈ AA.getD j [], ∃ e ∈ o.after, Region.binds .any e = true ∧ (i = e.on ∨ i ∈ AA.getD e.on [])
 conf : ∀ (i k : Nat) q r, rs[i]? = some q → rs[k]? = some r → i < k → conf q r = true → i ∈ AA.getD k []
def usedL (nx : Nat) (listed : Array Bool) (s : Nat) : Prop := s < nx ∨ ∃ j, Lof listed j = true ∧ nx + j * qba ≤ s ∧ s < nx + j * qba + qba
structure Inv (E : Ctx) (ops : Array Oper) (m : Nat) (nx : Nat) (fr : List AV) (h : Heap) (AA : List (List Nat)) (rs : List Rc) (w0 : World) (K : Kp) (listed : Array Bool) (a : Act) (w : World) (Z : Nat → Prop) (own : Own) (γ : Gst) (H : Heap) : Prop where
 size : listed.size = ops.size
 part : ∀ j, Lof listed j = true → j < m
 closed : ∀ j, Lof listed j = true → ∀ i ∈ AA.getD j [], Lof listed i = true
 frame : VRs w Z γ (selF (Lof listed) 0 rs fr) a.tmps.toList
 heap : ∀ x, hget H x = selH (Lof listed) 0 rs (hget h) x
 mem : MemR w0 K w Z own γ H (usedL nx listed)
 ok : ∀ j r, Lof listed j = true → rs[j]? = some r → okAV r.val
 gl : GlR E w Z
theorem conf1 {q r : Rc} {t : Nat} (h : q.dst = some t) (k : r.nm.contains t = true) : conf q r = true := by
 have : meets q.dst.toList r.nm = true := meets_of (x := t) (by simp [h]) k
 simp [conf, this]
theorem conf2 {q r : Rc} {t : Nat} (h : r.dst = some t) (k : q.nm.contains t = true) : conf q r = true := by
 have : meets r.dst.toList q.nm = true := meets_of (x := t) (by simp [h]) k
 simp [conf, this]
theorem conf3 {q r : Rc} {x : Nat} (h : x ∈ wrs q) (k : x ∈ wrs r ∨ x ∈ r.rd) : conf q r = true := by
 have : meets (wrs q) (wrs r ++ r.rd) = true := meets_of (x := x) h (by simpa using k)
 simp [conf, this]
theorem conf4 {q r : Rc} {x : Nat} (h : x ∈ wrs r) (k : x ∈ wrs q ∨ x ∈ q.rd) : conf q r = true := by
 have : meets (wrs r) (wrs q ++ q.rd) = true := meets_of (x := x) h (by simpa using k)
 simp [conf, this]
theorem names_dst {o : Oper} {t : Nat} (h : o.dst = some t) : (names ops o).contains t = true := by
 simp [names, h]
theorem usedL_new {i : Nat} (hs : listed.size = ops.size) (hL : Lof listed i = false) (j : Nat) (hj : j < 16) : ¬ usedL nx listed (nx + i * qba + j) := by
 rintro (h | ⟨m, h1, h2, h3⟩)
 ·omega
 ·simp only [qba] at *
  have : m = i := by omega
  subst this
  rw [h1] at hL
  cases hL
theorem usedL_add {i : Nat} (hi : i < listed.size) : ∀ s, usedL nx (listed.setIfInBounds i true) s ↔ usedL nx listed s ∨ (nx + i * qba ≤ s ∧ s < nx + i * qba + qba) := by
 intro s
 simp only [usedL, Lof_set hi, addL, Bool.or_eq_true, beq_iff_eq]
 constructor
 ·rintro (h | ⟨j, h1 | rfl, h2⟩)
  ·exact .inl (.inl h)
  ·exact .inl (.inr ⟨j, h1, h2⟩)
  ·exact .inr h2
 ·rintro ((h | ⟨j, h1, h2⟩) | h)
  ·exact .inl h
  ·exact .inr ⟨j, .inl h1, h2⟩
  ·exact .inr ⟨i, .inr rfl, h⟩
theorem inv_step (hE : EOK E) (hP : Plan E fn ops m nx fr h AA rs) (hI : Inv E ops m nx fr h AA rs w0 K listed a w Z own γ H) {i : Nat} (him : i < m) (hi : i ∈ Region.ready .any ops listed) (b : Frame) (k : List Item) (fs : List Frame) (rest : List Nat) :
  ∃ a' w' Z' own' γ' H', Inv E ops m nx fr h AA rs w0 K (listed.setIfInBounds i true) a' w' Z' own' γ' H' ∧ a'.defers = a.defers ∧ Stay w Z w' Z' ∧ γ.Le γ' ∧
   Steps E.P (lone (b.atR a (.inRegion ops (i :: rest) :: k)) fs w) (lone (b.atR a' (.inRegion ops rest :: k)) fs w') := by
 rw [mem_ready] at hi
 obtain ⟨hun, o, ho, hed⟩ := hi
 have hlt : i < ops.size := (Array.getElem?_eq_some_iff.1 ho).1
 have hlt' : i < listed.size := by rw [hI.size]; exact hlt
 rw [Lof_true hlt'] at hun
 obtain ⟨r, hr, hd⟩ := hP.recs i o him ho
 have hanc : ∀ m ∈ AA.getD i [], Lof listed m = true := fun m hm => by
  obtain ⟨e, he, hb, hm | hm⟩ := (hP.anc i o ho).2 m hm
  ·subst hm; exact hed e he hb
  ·exact hI.closed e.on (hed e he hb) m hm
 have hlater : ∀ m q, i < m → rs[m]? = some q → conf r q = true → Lof listed m = false := fun m q hm hq hc => by
  cases hL : Lof listed m with
  | false => rfl
  | true =>
   have := hI.closed m hL i (hP.conf i m r q hr hq hm hc)
   rw [hun] at this
   cases this
 have hbefore : ∀ m q, m < i → rs[m]? = some q → conf q r = true → Lof listed m = true := fun m q hm hq hc => hanc m (hP.conf m i q r hq hr hm hc)
 obtain ⟨hnm, hdst, hrd⟩ := hd.nm
 have hd' : DOK E fn ops (nx + i * qba) o (selF (Lof listed) 0 rs fr) H r := by
  refine hd.congr (fun t ht => ?_) (by rw [foldF_sel rs i 0, selF_length, selF_length]) (fun x hx => ?_)
  ·rw [foldF_sel rs i 0]
   refine selF_congr rs 0 fr fr rfl rfl fun m q hm hq => ?_
   simp only [Nat.zero_add]
   rcases Nat.lt_trichotomy m i with hmi | hmi | hmi
   ·rw [hbefore m q hmi hm (conf1 hq ht)]; simpa using hmi
   ·subst hmi; rw [hun]; simp
   ·rw [hlater m q hmi hm (conf2 hq ht)]; simp; omega
  ·rw [foldH_sel rs i 0, hI.heap x]
   refine selH_congr rs 0 _ _ rfl fun m q hm hq => ?_
   simp only [Nat.zero_add]
   rcases Nat.lt_trichotomy m i with hmi | hmi | hmi
   ·rw [hbefore m q hmi hm (conf3 hq (.inr hx))]; simpa using hmi
   ·subst hmi; rw [hun]; simp
   ·rw [hlater m q hmi hm (conf4 hq (.inr hx))]; simp; omega
 obtain ⟨v, w', Z', own', γ', D, hs⟩ := dok_run (used' := usedL nx (listed.setIfInBounds i true)) (b := b) (k := k) (fs := fs) (rest := rest) hE hI.mem hI.gl hI.frame hd' ho (fun j hj => usedL_new hI.size hun j hj) (fun s h => (usedL_add hlt' s).2 (.inl h)) (fun j hj => (usedL_add hlt' _).2 (.inr ⟨by omega, by simp only [qba]; omega⟩))
 have hle := D.ext.le hI.mem.fresh
 refine ⟨a.put r.dst v, w', Z', own', γ', qav H r.ws, ⟨by simp [hI.size], ?_, ?_, ?_, ?_, D.mem, ?_, hI.gl.mono D.stay⟩, ?_, D.stay, hle, hs⟩
 ·rw [Lof_set hlt']
  intro j hj
  simp only [addL, Bool.or_eq_true, beq_iff_eq] at hj
  rcases hj with hj | rfl
  ·exact hI.part j hj
  ·exact him
 ·rw [Lof_set hlt']
  intro j hj m hm
  simp only [addL, Bool.or_eq_true, beq_iff_eq] at hj ⊢
  rcases hj with hj | rfl
  ·exact .inl (hI.closed j hj m hm)
  ·exact .inl (hanc m hm)
 ·rw [Lof_set hlt', selF_add hr fun m q t hm hq hqt hrt => hlater m q hm hq (conf2 hqt (by rw [hnm]; exact names_dst (hdst ▸ hrt)))]
  exact (hI.frame.mono D.stay hle).putT r.dst D.val
 ·intro x
  rw [Lof_set hlt', selH_add hr fun m q y hm hq hqt hrt => hlater m q hm hq (conf4 hqt (.inl hrt)), qcw]
  have : hget H = selH (Lof listed) 0 rs (hget h) := funext hI.heap
  rw [this]
 ·rw [Lof_set hlt']
  intro j q hj hq
  simp only [addL, Bool.or_eq_true, beq_iff_eq] at hj
  rcases hj with hj | rfl
  ·exact hI.ok j q hj hq
  ·rw [hr] at hq
   injection hq with hq
   subst hq
   exact D.val.ok
 ·cases r.dst <;> rfl
theorem ready_part (hP : Plan E fn ops m nx fr h AA rs) (hs : listed.size = ops.size) (hc : ∀ j, Lof listed j = true → ∀ i ∈ AA.getD j [], Lof listed i = true) {i : Nat} (hi : i ∈ Region.ready .any ops listed) : i < m ∨ ∀ j, j < m → Lof listed j = true := by
 rcases Nat.lt_or_ge i m with h | hge
 ·exact .inl h
 ·refine .inr fun j hj => ?_
  rw [mem_ready] at hi
  obtain ⟨_, o, ho, hed⟩ := hi
  have hlt : i < ops.size := (Array.getElem?_eq_some_iff.1 ho).1
  obtain ⟨e, he, hb, hm | hm⟩ := (hP.anc i o ho).2 j (hP.chain i hge hlt j (Nat.lt_of_lt_of_le hj hge))
  ·subst hm; exact hed e he hb
  ·exact hc e.on (hed e he hb) j hm
theorem AA_lt (hP : Plan E fn ops m nx fr h AA rs) : ∀ (j : Nat), j < ops.size → ∀ i ∈ AA.getD j [], i < j := by
 intro j
 induction j using Nat.strongRecOn with
 | _ j ih =>
  intro hj i hi
  obtain ⟨e, he, hb, h⟩ := (hP.anc j ops[j] (Array.getElem?_eq_getElem hj)).2 i hi
  have hlt := (hP.anc j ops[j] (Array.getElem?_eq_getElem hj)).1 e he hb
  rcases h with rfl | h
  ·exact hlt
  ·exact Nat.lt_trans (ih e.on hlt (by omega) i h) hlt
theorem ready_at (hP : Plan E fn ops m nx fr h AA rs) (hs : listed.size = ops.size) {p : Nat} (hmp : m ≤ p) (hL : ∀ j, Lof listed j = true ↔ j < p) (i : Nat) : i ∈ Region.ready .any ops listed ↔ (i = p ∧ p < ops.size) := by
 rw [mem_ready]
 constructor
 ·rintro ⟨h1, o, ho, hed⟩
  have hlt : i < ops.size := (Array.getElem?_eq_some_iff.1 ho).1
  rw [Lof_true (by omega)] at h1
  have hge : p ≤ i := by
   rcases Nat.lt_or_ge i p with h | h
   ·rw [(hL i).2 h] at h1; cases h1
   ·exact h
  rcases Nat.lt_or_eq_of_le hge with hlt2 | rfl
  ·exfalso
   obtain ⟨e, he, hb, h⟩ := (hP.anc i o ho).2 p (hP.chain i (by omega) hlt p hlt2)
   have hl := (hL _).1 (hed e he hb)
   rcases h with h | h
   ·omega
   ·have := AA_lt hP e.on (by omega) p h
    omega
  ·exact ⟨rfl, hlt⟩
 ·rintro ⟨rfl, h2⟩
  refine ⟨?_, ops[i], Array.getElem?_eq_getElem h2, fun e he hb => ?_⟩
  ·rw [Lof_true (by omega)]
   cases hc : Lof listed i with
   | false => rfl
   | true => have := (hL i).1 hc; omega
  ·exact (hL _).2 ((hP.anc i ops[i] (Array.getElem?_eq_getElem h2)).1 e he hb)
theorem ready_nil (hP : Plan E fn ops m nx fr h AA rs) (hs : listed.size = ops.size) (hn : Region.ready .any ops listed = []) : ∀ j, j < ops.size → Lof listed j = true := by
 intro j
 induction j using Nat.strongRecOn with
 | _ j ih =>
  intro hj
  cases hL : Lof listed j with
  | true => rfl
  | false =>
   have : j ∈ Region.ready .any ops listed := by
    rw [mem_ready, Lof_true (by omega)]
    refine ⟨hL, ops[j], Array.getElem?_eq_getElem hj, fun e he hb => ?_⟩
    have hlt := (hP.anc j ops[j] (Array.getElem?_eq_getElem hj)).1 e he hb
    exact ih e.on hlt (by omega)
   rw [hn] at this
   cases this
def unl (n : Nat) (listed : Array Bool) : Nat := ((List.range n).filter fun i => !Lof listed i).length
theorem unl_lt {n i : Nat} (hs : i < listed.size) (hi : i < n) (hL : Lof listed i = false) : unl n (listed.setIfInBounds i true) < unl n listed := by
 unfold unl
 rw [Lof_set hs]
 have : (List.range n).filter (fun j => !addL (Lof listed) i j) = ((List.range n).filter fun j => !Lof listed j).filter fun j => !(j == i) := by
  rw [List.filter_filter]
  congr 1
  funext j
  simp [addL, Bool.not_or, Bool.and_comm]
 rw [this, List.length_filter_lt_length_iff_exists]
 exact ⟨i, by simp [hi, hL], by simp⟩
def restL (n m : Nat) : List Nat := List.range' m (n - m)
theorem ready_nodup (listed : Array Bool) : (Region.ready .any ops listed).Nodup := by
 unfold Region.ready
 exact List.Pairwise.filter _ List.nodup_range
theorem single {l : List Nat} {x : Nat} (hn : l.Nodup) (h : ∀ i, i ∈ l ↔ i = x) : l = [x] := by
 cases l with
 | nil => exact absurd ((h x).2 rfl) (by simp)
 | cons y l =>
  have hy : y = x := (h y).1 List.mem_cons_self
  subst hy
  cases l with
  | nil => rfl
  | cons u l =>
   have hu : u = y := (h u).1 (List.mem_cons_of_mem _ List.mem_cons_self)
   rw [List.nodup_cons] at hn
   exact absurd (by rw [hu]; exact List.mem_cons_self) hn.1
theorem go_succ (fuel t : Nat) (listed : Array Bool) : Region.linearise.go .any ops (fuel + 1) t listed [] = (match (Region.ready .any ops listed)[t % (Region.ready .any ops listed).length]? with
  | some i => Region.linearise.go .any ops fuel (t / (Region.ready .any ops listed).length) (listed.setIfInBounds i true) [i]
  | none => [].reverse) := by
 simp only [Region.linearise.go]
 rfl
theorem go_chain (hP : Plan E fn ops m nx fr h AA rs) : ∀ (n p fuel t : Nat) {listed : Array Bool}, listed.size = ops.size → m ≤ p → p ≤ ops.size → (∀ j, Lof listed j = true ↔ j < p) → ops.size - p = n → n ≤ fuel → Region.linearise.go .any ops fuel t listed [] = List.range' p n
 | 0, p, fuel, t, listed, hs, hmp, hps, hL, hn, _ => by
  have hnil : Region.ready .any ops listed = [] := by
   cases hr : Region.ready .any ops listed with
   | nil => rfl
   | cons x xs =>
    have := (ready_at hP hs hmp hL x).1 (by rw [hr]; exact List.mem_cons_self)
    omega
  cases fuel with
  | zero => rfl
  | succ fuel => rw [go_succ, hnil]; rfl
 | n + 1, p, fuel, t, listed, hs, hmp, hps, hL, hn, hf => by
  have hlt : p < ops.size := by omega
  have h1 : Region.ready .any ops listed = [p] := single (ready_nodup listed) fun i => by
   rw [ready_at hP hs hmp hL]
   exact ⟨fun h => h.1, fun h => ⟨h, hlt⟩⟩
  cases fuel with
  | zero => omega
  | succ fuel =>
   rw [go_succ, h1]
   simp only [List.length_singleton, Nat.mod_one, List.getElem?_cons_zero]
   rw [linearise_go_acc, List.reverse_singleton, List.singleton_append, List.range'_succ]
   congr 1
   refine go_chain hP n (p + 1) fuel _ (by simpa using hs) (by omega) (by omega) (fun j => ?_) (by omega) (by omega)
   rw [Lof_set (by omega)]
   simp only [addL, Bool.or_eq_true, beq_iff_eq]
   rw [hL]
   omega
theorem unl_first (listed : Array Bool) {m : Nat} (hL : ∀ j, Lof listed j = true ↔ j < m) : ∀ n, unl n listed = n - m
 | 0 => by simp [unl]
 | n + 1 => by
  have ih := unl_first listed hL n
  unfold unl at ih ⊢
  rw [List.range_succ, List.filter_append, List.length_append, ih]
  cases hc : Lof listed n with
  | true =>
   have := (hL n).1 hc
   simp [hc]
   omega
  | false =>
   have : ¬ n < m := fun h => by rw [(hL n).2 h] at hc; cases hc
   simp [hc]
   omega
theorem go_rest (hP : Plan E fn ops m nx fr h AA rs) (hs : listed.size = ops.size) (hp : ∀ j, Lof listed j = true → j < m) (hall : ∀ j, j < m → Lof listed j = true) (fuel t : Nat) (hf : unl ops.size listed ≤ fuel) : Region.linearise.go .any ops fuel t listed [] = restL ops.size m := by
 have hL : ∀ j, Lof listed j = true ↔ j < m := fun j => ⟨hp j, hall j⟩
 rw [unl_first listed hL] at hf
 exact go_chain hP (ops.size - m) m fuel t hs (Nat.le_refl _) hP.le hL rfl hf
theorem go_sound (hE : EOK E) (hP : Plan E fn ops m nx fr h AA rs) (b : Frame) (k : List Item) (fs : List Frame) : ∀ (fuel t : Nat) {listed : Array Bool} {a : Act} {w : World} {Z : Nat → Prop} {own : Own} {γ : Gst} {H : Heap}, unl ops.size listed ≤ fuel →
  Inv E ops m nx fr h AA rs w0 K listed a w Z own γ H → ∃ listed' a' w' Z' own' γ' H', Inv E ops m nx fr h AA rs w0 K listed' a' w' Z' own' γ' H' ∧ (∀ j, j < m → Lof listed' j = true) ∧ a'.defers = a.defers ∧ Stay w Z w' Z' ∧ γ.Le γ' ∧
   Steps E.P (lone (b.atR a (.inRegion ops (Region.linearise.go .any ops fuel t listed []) :: k)) fs w) (lone (b.atR a' (.inRegion ops (restL ops.size m) :: k)) fs w')
 | fuel, t, listed, a, w, Z, own, γ, H, hu, hI => by
  by_cases hall : ∀ j, j < m → Lof listed j = true
  ·rw [go_rest hP hI.size hI.part hall fuel t hu]
   exact ⟨listed, a, w, Z, own, γ, H, hI, hall, rfl, Stay.refl _ _, Gst.Le.refl _, .refl _ _⟩
  ·cases fuel with
   | zero =>
    exfalso
    refine hall fun j hj => ?_
    cases hL : Lof listed j with
    | true => rfl
    | false =>
     have hm : j ∈ (List.range ops.size).filter fun i => !Lof listed i := by
      have := hP.le
      rw [List.mem_filter]
      exact ⟨List.mem_range.2 (by omega), by rw [hL]; rfl⟩
     have : (List.range ops.size).filter (fun i => !Lof listed i) = [] := List.eq_nil_of_length_eq_zero (by unfold unl at hu; omega)
     rw [this] at hm
     cases hm
   | succ fuel =>
    simp only [Region.linearise.go]
    change ∃ listed' a' w' Z' own' γ' H', Inv E ops m nx fr h AA rs w0 K listed' a' w' Z' own' γ' H' ∧ (∀ j, j < m → Lof listed' j = true) ∧ a'.defers = a.defers ∧ Stay w Z w' Z' ∧ γ.Le γ' ∧
     Steps E.P (lone (b.atR a (.inRegion ops (match (Region.ready .any ops listed)[t % (Region.ready .any ops listed).length]? with
      | some i => Region.linearise.go .any ops fuel (t / (Region.ready .any ops listed).length) (listed.setIfInBounds i true) [i]
      | none => [].reverse) :: k)) fs w) (lone (b.atR a' (.inRegion ops (restL ops.size m) :: k)) fs w')
    cases hi : (Region.ready .any ops listed)[t % (Region.ready .any ops listed).length]? with
    | none =>
     have hnil : Region.ready .any ops listed = [] := by
      cases hr : Region.ready .any ops listed with
      | nil => rfl
      | cons x xs =>
       rw [hr] at hi
       have hlt : t % (x :: xs).length < (x :: xs).length := Nat.mod_lt _ (by simp)
       simp at hi
       simp at hlt
       omega
     exact absurd (fun j hj => ready_nil hP hI.size hnil j (by have := hP.le; omega)) hall
    | some i =>
     simp only []
     rw [linearise_go_acc, List.reverse_singleton, List.singleton_append]
     have hr := List.mem_of_getElem? hi
     have him : i < m := (ready_part hP hI.size hI.closed hr).resolve_right hall
     obtain ⟨a1, w1, Z1, own1, γ1, H1, hI1, hd1, hst1, hx1, hs1⟩ := inv_step hE hP hI him hr b k fs (Region.linearise.go .any ops fuel (t / (Region.ready .any ops listed).length) (listed.setIfInBounds i true) [])
     have hrdy := mem_ready.1 hr
     obtain ⟨hun, o, ho, _⟩ := hrdy
     have hlt : i < ops.size := (Array.getElem?_eq_some_iff.1 ho).1
     rw [Lof_true (by rw [hI.size]; exact hlt)] at hun
     have hlt2 := unl_lt (n := ops.size) (by rw [hI.size]; exact hlt) hlt hun
     obtain ⟨l2, a2, w2, Z2, own2, γ2, H2, hI2, hall2, hd2, hst2, hx2, hs2⟩ := go_sound hE hP b k fs fuel (t / (Region.ready .any ops listed).length) (by omega) hI1
     exact ⟨l2, a2, w2, Z2, own2, γ2, H2, hI2, hall2, hd2.trans hd1, hst1.trans hst2, hx1.trans hx2, hs1.trans hs2⟩
theorem tells_ok : ∀ {rs : List Rc}, (∀ (j : Nat) r, rs[j]? = some r → okAV r.val) → AllP (tells rs)
 | [], _ => trivial
 | r :: rs, h => by
  have := tells_ok (rs := rs) fun j q hq => h (j + 1) q (by simpa using hq)
  unfold tells
  split
  ·exact ⟨h 0 r rfl, this⟩
  ·exact this
theorem knows_wp {α : Type} {Q : α → Prop} {t : Tre α} : ∀ {l : List Prop}, AllP l → (knows l t).wp Q → t.wp Q
 | [], _, h => h
 | _ :: l, hl, h => knows_wp (l := l) hl.2 (h hl.1)
theorem allIn_ok {l : List Nat} : ∀ {n : Nat}, allIn l n = true → ∀ i, i < n → i ∈ l
 | 0, _, i, hi => absurd hi (Nat.not_lt_zero _)
 | n + 1, h, i, hi => by
  simp only [allIn, Bool.and_eq_true] at h
  rcases Nat.lt_or_eq_of_le (Nat.le_of_lt_succ hi) with h1 | rfl
  ·exact allIn_ok h.2 i h1
  ·simpa using h.1
theorem chainFrom_ok {A : List (List Nat)} : ∀ {k m : Nat}, chainFrom A m k = true → ∀ j, m ≤ j → j < m + k → ∀ i, i < j → i ∈ A.getD j []
 | 0, m, _, j, h1, h2, _, _ => by omega
 | k + 1, m, h, j, h1, h2, i, hi => by
  simp only [chainFrom, Bool.and_eq_true] at h
  rcases Nat.lt_or_eq_of_le h1 with h3 | rfl
  ·exact chainFrom_ok h.2 j h3 (by omega) i hi
  ·exact allIn_ok h.1 i hi
theorem adraw0_sound (hE : EOK E) (hm : MemR w0 K w Z own γ h (fun s => s < nx)) (hg : GlR E w Z) (hf : VRs w Z γ fr a.tmps.toList) {Q : List Rc × List AV × Heap → Prop} (he : (adraw0 E fn ops m fr h nx).wp Q)
  (b : Frame) (k : List Item) (fs : List Frame) (t : Nat) : ∃ x, Q x ∧ AllP (tells x.1) ∧ ∃ a' w' Z' own' γ', a'.defers = a.defers ∧ VRs w' Z' γ' x.2.1 a'.tmps.toList ∧ Stay w Z w' Z' ∧ γ.Le γ' ∧ MemR w0 K w' Z' own' γ' x.2.2 (fun s => s < nx + ops.size * qba) ∧
   Steps E.P (lone (b.atR a (.inRegion ops (Region.linearise .any ops t) :: k)) fs w) (lone (b.atR a' (.inRegion ops (restL ops.size m) :: k)) fs w') := by
 unfold adraw0 at he
 split at he
 ·rename_i AA hanc
  split at he
  ·rename_i hmm
   simp only [Bool.and_eq_true, decide_eq_true_eq] at hmm
   have hle : m ≤ ops.size := hmm.1
   rw [Tre.wp_bind] at he
   obtain ⟨rs, e0, e1, e4⟩ := drun_ok (Q := fun x => Tre.wp Q (if okAll AA 0 [] x.1 = true then .ok x else .bad)) (ops.toList.take m) 0 fr h he
   have hlen : (ops.toList.take m).length = m := by rw [List.length_take, Array.length_toList]; omega
   split at e0
   ·rename_i hok
    obtain ⟨_, a2⟩ := ancs_ok hanc
    have hP : Plan E fn ops m nx fr h AA rs := by
     refine ⟨hle, fun j h1 h2 i hi => ?_, by rw [e1, hlen], fun j o hjm ho => ?_, fun j o ho => ?_, fun i k q r hi hk hik hc => ?_⟩
     ·exact chainFrom_ok hmm.2 j h1 (by omega) i hi
     ·have := e4 j o (by rw [List.getElem?_take, if_pos hjm]; simpa using ho)
      rw [Nat.zero_add] at this
      exact this
     ·have := a2 j o (by simpa using ho)
      simpa using this
     ·exact okAll_ok (done := []) hok i k q r (by simpa using hi) (by simpa using hk) hik (Nat.zero_le _) hc
    have hL0 : Lof (Array.replicate ops.size false) = fun m => decide (m < 0 + 0) := by
     funext j
     simp only [Lof, Array.getD_eq_getD_getElem?, Array.getElem?_replicate]
     split <;> simp
    have hI : Inv E ops m nx fr h AA rs w0 K (Array.replicate ops.size false) a w Z own γ h := by
     refine ⟨by simp, fun j hj => ?_, fun j hj => ?_, ?_, fun x => ?_, hm.used_mono fun s hs => .inl hs, fun j r hj => ?_, hg⟩
     ·rw [hL0] at hj
      simp at hj
     ·rw [hL0] at hj
      simp at hj
     ·rw [hL0, ← foldF_sel rs 0 0]
      exact hf
     ·rw [hL0, ← foldH_sel rs 0 0]
      rfl
     ·rw [hL0] at hj
      simp at hj
    obtain ⟨l2, a2, w2, Z2, own2, γ2, H2, hI2, hall, hd2, hst2, hx2, hs2⟩ := go_sound hE hP b k fs ops.size t (by
     unfold unl
     exact Nat.le_trans (List.length_filter_le _ _) (by simp)) hI
    have hfull : ∀ m (r : Rc), rs[m]? = some r → Lof l2 (0 + m) = decide (0 + m < 0 + rs.length) := fun m r hr => by
     have := (List.getElem?_eq_some_iff.1 hr).1
     rw [Nat.zero_add, hall m (by rw [← hP.len]; exact this)]
     simpa using this
    refine ⟨_, e0, tells_ok fun j r hr => hI2.ok j r ?_ hr, a2, w2, Z2, own2, γ2, hd2, ?_, hst2, hx2, (hI2.mem.congr fun x => ?_).used_mono ?_, hs2⟩
    ·exact hall j (by rw [← hP.len]; exact (List.getElem?_eq_some_iff.1 hr).1)
    ·have : selF (Lof l2) 0 rs fr = foldF rs fr := by
      have h1 := foldF_sel rs rs.length 0 fr
      rw [List.take_length] at h1
      rw [h1]
      exact List.ext_getElem? fun t => selF_congr rs 0 fr fr rfl rfl fun m r hr _ => hfull m r hr
     have h2 := hI2.frame
     rw [this] at h2
     exact h2
    ·have h1 := foldH_sel rs rs.length 0 h x
     rw [List.take_length] at h1
     rw [hI2.heap x, h1]
     exact selH_congr rs 0 _ _ rfl fun m r hr _ => (hfull m r hr).symm
    ·rintro s (h | ⟨j, h1, h2, h3⟩)
     ·omega
     ·have hj : j < ops.size := by
       rcases Nat.lt_or_ge j l2.size with h | h
       ·rw [hI2.size] at h; exact h
       ·simp [Lof, Array.getD_eq_getD_getElem?, Array.getElem?_eq_none h] at h1
      simp only [qba] at *
      omega
   ·exact e0.elim
  ·exact he.elim
 ·exact he.elim
end
theorem AllP.mem {l : List Prop} (h : AllP l) : ∀ C ∈ l, C := by
 induction l with
 | nil => exact fun C hC => by cases hC
 | cons a l ih => exact fun C hC => (List.mem_cons.1 hC).elim (fun e => e ▸ h.1) (ih h.2 C)
theorem flat_wp {Q : Rc → Prop} : ∀ {t : Tre Rc} {C : List Prop} {q : Rc}, flat t = some (C, q) → AllP C → Q q → t.wp Q
 | .ok r, C, q, h, _, hq => by simp [flat] at h; obtain ⟨_, rfl⟩ := h; exact hq
 | .chk P t, C, q, h, hC, hq => by
  simp only [flat] at h
  split at h
  ·rename_i l r hl
   simp at h
   obtain ⟨rfl, rfl⟩ := h
   exact ⟨hC.1, fun _ => flat_wp hl hC.2 hq⟩
  ·cases h
 | .ite b t e, C, q, h, hC, hq => by
  cases b
  ·exact ⟨fun h => Bool.noConfusion h, fun _ => flat_wp (t := e) h hC hq⟩
  ·exact ⟨fun _ => flat_wp (t := t) h hC hq, fun h => Bool.noConfusion h⟩
 | .know .., _, _, h, _, _ => by simp [flat] at h
 | .any .., _, _, h, _, _ => by simp [flat] at h
 | .bad, _, _, h, _, _ => by simp [flat] at h
theorem whenP_all {b v : Bool} : ∀ {C : List Prop}, AllP (whenP b v C) → b = v → AllP C
 | [], _, _ => trivial
 | _ :: _, h, e => ⟨h.1 e, whenP_all h.2 e⟩
theorem splitPick_eq {l : List Nat} {t : Nat} : ∀ {os p : List Oper} {x : Oper} {d : Nat} {r : List Oper}, splitPick l t os = some (p, x, d, r) → os = p ++ x :: r ∧ x.dst = some d
 | [], _, _, _, _, h => by simp [splitPick] at h
 | o :: os, p, x, d, r, h => by
  have go : ∀ {p x d r}, (match splitPick l t os with | some (p, x, d, r) => some (o :: p, x, d, r) | none => none) = some (p, x, d, r) → o :: os = p ++ x :: r ∧ x.dst = some d := by
   intro p x d r h
   split at h
   ·rename_i p' x' d' r' hs
    simp at h
    obtain ⟨rfl, rfl, rfl, rfl⟩ := h
    have := splitPick_eq hs
    exact ⟨by rw [this.1]; rfl, this.2⟩
   ·cases h
  unfold splitPick at h
  split at h
  ·rename_i u y z d' ho hd
   split at h
   ·split at h
    ·simp at h
     obtain ⟨rfl, rfl, rfl, rfl⟩ := h
     exact ⟨rfl, hd⟩
    ·cases h
   ·exact go h
  ·exact go h
theorem mgroup_eq {l : List Nat} {ops : Array Oper} {o : Oper} {os : List Oper} {fr : List AV} {ex : List Nat} {g : Grp} (h : mgroup l ops o os fr ex = some g) : lget fr g.t = .val (.bool g.b) ∧ o :: os = g.p ++ g.x :: g.r ∧ g.x.dst = some g.d := by
 unfold mgroup at h
 repeat' split at h
 all_goals first | (cases h; done) | skip
 rename_i hs
 simp at h
 subst h
 exact ⟨by assumption, splitPick_eq hs⟩
def Ag (F : List Nat) (fr fr' : List AV) : Prop := fr.length = fr'.length ∧ ∀ u, lget fr u = lget fr' u ∨ (lget fr u = .bad ∧ u ∈ F)
theorem Ag.put {F : List Nat} {fr fr' : List AV} (h : Ag F fr fr') (d : Option Tmp) (a : AV) : Ag F (putT fr d a) (putT fr' d a) := by
 cases d with
 | none => exact h
 | some d =>
  refine ⟨by simp [putT, h.1], fun u => ?_⟩
  by_cases hu : u = d
  ·subst hu
   left
   simp only [putT, lget, List.getD_eq_getElem?_getD, List.getElem?_set_self']
   rcases Nat.lt_or_ge u fr'.length with h1 | h1
   ·rw [List.getElem?_eq_getElem (h.1 ▸ h1), List.getElem?_eq_getElem h1]; rfl
   ·rw [List.getElem?_eq_none (h.1 ▸ h1), List.getElem?_eq_none h1]
  ·have e : ∀ l : List AV, lget (l.set d a) u = lget l u := fun l => by simp only [lget, List.getD_eq_getElem?_getD, List.getElem?_set_ne (Ne.symm hu)]
   simp only [putT, e]
   exact h.2 u
theorem Ag.get {F : List Nat} {fr fr' : List AV} (h : Ag F fr fr') {u : Nat} (hu : u ∉ F) : fr[u]? = fr'[u]? := by
 have h2 : lget fr u = lget fr' u := (h.2 u).elim id fun h => absurd h.2 hu
 have h1 := h.1
 unfold lget at h2
 rw [List.getD_eq_getElem?_getD, List.getD_eq_getElem?_getD] at h2
 rcases Nat.lt_or_ge u fr.length with hl | hl
 ·rw [List.getElem?_eq_getElem hl, List.getElem?_eq_getElem (h1 ▸ hl)] at h2 ⊢
  exact congrArg some h2
 ·rw [List.getElem?_eq_none hl, List.getElem?_eq_none (h1 ▸ hl)]
theorem meets_not {l m : List Nat} (h : meets l m = false) {u : Nat} (hu : l.contains u = true) : u ∉ m := fun hm => by
 unfold meets at h
 rw [List.any_eq_false] at h
 exact h u (List.contains_iff_mem.1 hu) (List.contains_iff_mem.2 hm)
theorem dop_congr {E : Ctx} {fn : FuncId} {ops : Array Oper} {id : Nat} {o : Oper} {fr fr' : List AV} {h : Heap} {F : List Nat} (ha : Ag F fr fr') (hm : meets (names ops o) F = false) : dop E fn ops id o fr h = dop E fn ops id o fr' h := by
 have : maskF (names ops o) fr 0 = maskF (names ops o) fr' 0 := maskF_congr (fun u hu => ha.get (meets_not hm hu)) ha.1
 unfold dop
 simp only [this]
theorem set_lget {fr : List AV} {t : Nat} {a : AV} (h : lget fr t = a) (hb : a ≠ .bad) : fr.set t a = fr := by
 apply List.ext_getElem?
 intro u
 by_cases hu : t = u
 ·subst hu
  rcases Nat.lt_or_ge t fr.length with h1 | h1
  ·rw [List.getElem?_set_self h1, List.getElem?_eq_getElem h1]
   unfold lget at h
   rw [List.getD_eq_getElem?_getD, List.getElem?_eq_getElem h1] at h
   rw [← h]; rfl
  ·unfold lget at h
   rw [List.getD_eq_getElem?_getD, List.getElem?_eq_none h1] at h
   exact absurd h.symm hb
 ·rw [List.getElem?_set_ne hu]
theorem decide_iff {fr : List AV} {Q : List Rc × List AV × Heap → Prop} {k : List AV → Tre (List Rc × List AV × Heap)} : ∀ {g : Option Nat}, (decideT fr g k).wp Q ↔ (k fr).wp Q
 | none => Iff.rfl
 | some t => by
  show Tre.wp Q (match lget fr t with | .val (.bool b) => .ite b (k (fr.set t (abool true))) (k (fr.set t (abool false))) | _ => k fr) ↔ _
  split
  ·rename_i b hb
   have e : ∀ v, b = v → fr.set t (abool v) = fr := fun v hv => set_lget (by rw [hb, hv]; rfl) (by simp [abool])
   constructor
   ·intro h
    cases hv : b
    ·have := h.2 hv; rwa [e _ hv] at this
    ·have := h.1 hv; rwa [e _ hv] at this
   ·exact fun h => ⟨fun hv => by rw [e _ hv]; exact h, fun hv => by rw [e _ hv]; exact h⟩
  ·exact Iff.rfl
abbrev DR := List Rc × List AV × Heap
theorem drun_append {E : Ctx} {fn : FuncId} {ops : Array Oper} {base : Nat} : ∀ (a : List Oper) {c : List Oper} {i : Nat} {fr : List AV} {h : Heap} {Q : DR → Prop},
  (drun E fn ops base i a fr h).wp (fun x => (drun E fn ops base (i + a.length) c x.2.1 x.2.2).wp fun y => Q (x.1 ++ y.1, y.2.1, y.2.2)) → (drun E fn ops base i (a ++ c) fr h).wp Q
 | [], c, i, fr, h, Q, hw => by
  have hw' : (drun E fn ops base i c fr h).wp fun y => Q ([] ++ y.1, y.2.1, y.2.2) := hw
  exact Tre.wp_mono (fun _ h => h) hw'
 | o :: a, c, i, fr, h, Q, hw => by
  have go : ∀ fr, ((dop E fn ops (base + i * qba) o fr h).bind fun r => (drun E fn ops base (i + 1) a (putT fr r.dst r.val) (qav h r.ws)).bind fun x => .ok (r :: x.1, x.2.1, x.2.2)).wp (fun x => (drun E fn ops base (i + (a.length + 1)) c x.2.1 x.2.2).wp fun y => Q (x.1 ++ y.1, y.2.1, y.2.2)) →
    ((dop E fn ops (base + i * qba) o fr h).bind fun r => (drun E fn ops base (i + 1) (a ++ c) (putT fr r.dst r.val) (qav h r.ws)).bind fun x => .ok (r :: x.1, x.2.1, x.2.2)).wp Q := fun fr h1 => by
   rw [Tre.wp_bind] at h1 ⊢
   refine Tre.wp_mono (fun r h2 => ?_) h1
   rw [Tre.wp_bind] at h2 ⊢
   refine drun_append a (Tre.wp_mono (fun x h3 => ?_) h2)
   have h4 : (drun E fn ops base (i + 1 + a.length) c x.2.1 x.2.2).wp fun y => Q (r :: x.1 ++ y.1, y.2.1, y.2.2) := by
    rw [show i + 1 + a.length = i + (a.length + 1) by omega]; exact h3
   exact h4
  have hw' : (decideT fr (guardT ops o) fun fr => (dop E fn ops (base + i * qba) o fr h).bind fun r => (drun E fn ops base (i + 1) a (putT fr r.dst r.val) (qav h r.ws)).bind fun x => .ok (r :: x.1, x.2.1, x.2.2)).wp _ := hw
  exact decide_iff.2 (go _ (decide_iff.1 hw'))
theorem lget_putT {fr : List AV} {d : Option Tmp} {a : AV} {u : Nat} (h : u ∉ d.toList) : lget (putT fr d a) u = lget fr u := by
 cases d with
 | none => rfl
 | some d =>
  have : d ≠ u := fun e => h (by simp [e])
  simp only [putT, lget, List.getD_eq_getElem?_getD, List.getElem?_set_ne this]
theorem dop_dst {E : Ctx} {fn : FuncId} {ops : Array Oper} {id : Nat} {o : Oper} {fr : List AV} {h : Heap} {Q : Rc → Prop} (hw : (dop E fn ops id o fr h).wp Q) : (dop E fn ops id o fr h).wp fun r => Q r ∧ r.dst = o.dst ∧ r.nm = names ops o := by
 have hc : ∀ {C : List Prop} {t : Tre Rc}, (t.wp Q → t.wp fun r => Q r ∧ r.dst = o.dst ∧ r.nm = names ops o) → (chks C t).wp Q → (chks C t).wp fun r => Q r ∧ r.dst = o.dst ∧ r.nm = names ops o := by
  intro C t ht
  induction C with
  | nil => exact ht
  | cons P l ih => exact fun h => ⟨h.1, fun hP => ih (h.2 hP)⟩
 have hd : ∀ {ro : Nat} {fm : List AV} {rd : List Nat} {hm : Heap}, (dval E ro id o (names ops o) fm rd hm).wp Q → (dval E ro id o (names ops o) fm rd hm).wp fun r => Q r ∧ r.dst = o.dst ∧ r.nm = names ops o := by
  intro ro fm rd hm hw
  revert hw
  unfold dval
  repeat' split
  all_goals intro hw
  all_goals first
   | exact hw.elim
   | exact ⟨fun e => ⟨hw.1 e, rfl, rfl⟩, fun e => ⟨hw.2 e, rfl, rfl⟩⟩
   | exact hc (fun h => ⟨h, rfl, rfl⟩) hw
 revert hw
 unfold dop
 dsimp only
 split
 ·exact hd
 ·split
  ·exact fun hw => hw.elim
  ·split
   ·split
    ·exact fun hw => ⟨fun e => hd (hw.1 e), fun e => ⟨hw.2 e, rfl, rfl⟩⟩
    ·exact fun hw => ⟨fun e => ⟨hw.1 e, rfl, rfl⟩, fun e => hd (hw.2 e)⟩
   ·exact fun hw => ⟨hw, rfl, rfl⟩
   ·exact fun hw => hw.elim
theorem drun_keep {E : Ctx} {fn : FuncId} {ops : Array Oper} {base : Nat} : ∀ (os : List Oper) {i : Nat} {fr : List AV} {h : Heap} {Q : DR → Prop},
  (drun E fn ops base i os fr h).wp Q → (drun E fn ops base i os fr h).wp fun x => Q x ∧ (∀ u, u ∉ dsts os → lget x.2.1 u = lget fr u) ∧ x.2.1.length = fr.length
 | [], _, _, _, _, hw => ⟨hw, fun _ _ => rfl, rfl⟩
 | o :: os, i, fr, h, Q, hw => by
  have go : ∀ fr, ((dop E fn ops (base + i * qba) o fr h).bind fun r => (drun E fn ops base (i + 1) os (putT fr r.dst r.val) (qav h r.ws)).bind fun x => .ok (r :: x.1, x.2.1, x.2.2)).wp Q →
    ((dop E fn ops (base + i * qba) o fr h).bind fun r => (drun E fn ops base (i + 1) os (putT fr r.dst r.val) (qav h r.ws)).bind fun x => .ok (r :: x.1, x.2.1, x.2.2)).wp (fun x => Q x ∧ (∀ u, u ∉ dsts (o :: os) → lget x.2.1 u = lget fr u) ∧ x.2.1.length = fr.length) := fun fr h1 => by
   rw [Tre.wp_bind] at h1 ⊢
   refine Tre.wp_mono (fun r h2 => ?_) (dop_dst h1)
   obtain ⟨h2, hd, _⟩ := h2
   rw [Tre.wp_bind] at h2 ⊢
   refine Tre.wp_mono (fun x h3 => ?_) (drun_keep os h2)
   refine ⟨h3.1, fun u hu => ?_, by rw [h3.2.2]; cases r.dst <;> simp [putT]⟩
   have hu' : u ∉ o.dst.toList ∧ u ∉ dsts os := by
    unfold dsts at hu
    exact ⟨fun h => hu (List.mem_append_left _ h), fun h => hu (List.mem_append_right _ h)⟩
   rw [h3.2.1 u hu'.2, lget_putT (by rw [hd]; exact hu'.1)]
  have hw' : (decideT fr (guardT ops o) fun fr => (dop E fn ops (base + i * qba) o fr h).bind fun r => (drun E fn ops base (i + 1) os (putT fr r.dst r.val) (qav h r.ws)).bind fun x => .ok (r :: x.1, x.2.1, x.2.2)).wp Q := hw
  exact decide_iff.2 (go _ (decide_iff.1 hw'))
def RcLe (x m : Rc) : Prop := x.dst = m.dst ∧ x.nm = m.nm ∧ x.ws = m.ws ∧ (∀ u ∈ x.rd, u ∈ m.rd) ∧ (m.call = true → x.call = true ∧ x.val = m.val)
inductive RcsLe : List Rc → List Rc → Prop where
 | nil : RcsLe [] []
 | cons {x m xs ms} : RcLe x m → RcsLe xs ms → RcsLe (x :: xs) (m :: ms)
theorem RcLe.refl (x : Rc) : RcLe x x := ⟨rfl, rfl, rfl, fun _ h => h, fun h => ⟨h, rfl⟩⟩
theorem RcsLe.append {a b c d : List Rc} (h : RcsLe a b) (h' : RcsLe c d) : RcsLe (a ++ c) (b ++ d) := by
 induction h with
 | nil => exact h'
 | cons h _ ih => exact .cons h ih
def RcsOf (ops : Array Oper) : List Oper → List Rc → Prop
 | [], [] => True
 | o :: os, m :: ms => m.dst = o.dst ∧ m.nm = names ops o ∧ m.ws = [] ∧ RcsOf ops os ms
 | _, _ => False
theorem RcsOf.append {ops : Array Oper} : ∀ {a b : List Oper} {l m : List Rc}, RcsOf ops a l → RcsOf ops b m → RcsOf ops (a ++ b) (l ++ m)
 | [], _, [], _, _, h => h
 | _ :: _, _, _ :: _, _, h, h' => ⟨h.1, h.2.1, h.2.2.1, h.2.2.2.append h'⟩
 | [], _, _ :: _, _, h, _ => h.elim
 | _ :: _, _, [], _, h, _ => h.elim
theorem join_of {ops : Array Oper} : ∀ {os : List Oper} {l m : List Rc}, RcsOf ops os l → RcsOf ops os m → RcsOf ops os (joinRc l m)
 | [], [], [], _, _ => trivial
 | _ :: _, _ :: _, _ :: _, h, h' => ⟨h.1, h.2.1, rfl, join_of h.2.2.2 h'.2.2.2⟩
 | [], _ :: _, _, h, _ => h.elim
 | [], [], _ :: _, _, h => h.elim
 | _ :: _, [], _, h, _ => h.elim
 | _ :: _, _ :: _, [], _, h => h.elim
theorem join_le1 {ops : Array Oper} : ∀ {os : List Oper} {x l m : List Rc}, RcsOf ops os l → RcsOf ops os m → RcsLe x l → RcsLe x (joinRc l m)
 | [], _, [], [], _, _, h => h
 | _ :: _, _, _ :: _, _ :: _, h, h', .cons h1 h2 => .cons ⟨h1.1, h1.2.1, h1.2.2.1.trans h.2.2.1, fun u hu => List.mem_append_left _ (h1.2.2.2.1 u hu), fun h => Bool.noConfusion h⟩ (join_le1 h.2.2.2 h'.2.2.2 h2)
 | [], _, _ :: _, _, h, _, _ => h.elim
 | [], _, [], _ :: _, _, h, _ => h.elim
 | _ :: _, _, [], _, h, _, _ => h.elim
 | _ :: _, _, _ :: _, [], _, h, _ => h.elim
theorem join_le2 {ops : Array Oper} : ∀ {os : List Oper} {x l m : List Rc}, RcsOf ops os l → RcsOf ops os m → RcsLe x m → RcsLe x (joinRc l m)
 | [], _, [], [], _, _, h => h
 | _ :: _, _, _ :: _, _ :: _, h, h', .cons h1 h2 => .cons ⟨h1.1.trans (h'.1.trans h.1.symm), h1.2.1.trans (h'.2.1.trans h.2.1.symm), h1.2.2.1.trans h'.2.2.1, fun u hu => List.mem_append_right _ (h1.2.2.2.1 u hu), fun h => Bool.noConfusion h⟩ (join_le2 h.2.2.2 h'.2.2.2 h2)
 | [], _, _ :: _, _, h, _, _ => h.elim
 | [], _, [], _ :: _, _, h, _ => h.elim
 | _ :: _, _, [], _, h, _, _ => h.elim
 | _ :: _, _, _ :: _, [], _, h, _ => h.elim
theorem mergeT_inv {g : Grp} {F : List Nat} {fr : List AV} {A B : Option FRes} {C : List Prop} {rs : List Rc} {fr2 : List AV} {F2 : List Nat} (h : mergeT g F fr A B = some (C, rs, fr2, F2)) :
  ∃ C1 r1 f1 F1 C2 r2 f2 F3 v, A = some ⟨C1, r1, f1, F1⟩ ∧ B = some ⟨C2, r2, f2, F3⟩ ∧ joinV g.b (lget f1 g.d) (lget f2 g.d) = some v ∧ g.d < fr.length ∧ C = whenP g.b true C1 ++ whenP g.b false C2 ∧ rs = joinRc r1 r2 ∧ fr2 = (forgetF (dsts g.p) fr).set g.d v ∧ F2 = dsts g.p ++ F := by
 unfold mergeT at h
 split at h
 ·rename_i C1 r1 f1 F1 C2 r2 f2 F3
  split at h
  ·rename_i v hv hd
   simp at h
   obtain ⟨rfl, rfl, rfl, rfl⟩ := h
   exact ⟨C1, r1, f1, F1, C2, r2, f2, F3, v, rfl, rfl, hv, of_decide_eq_true hd, rfl, rfl, rfl, rfl⟩
  ·cases h
 ·cases h
theorem group_split {o : Oper} {os : List Oper} {g : Grp} (h : o :: os = g.p ++ g.x :: g.r) : o :: os = (g.p ++ [g.x]) ++ g.r := by rw [h, List.append_assoc]; rfl
section
variable {E : Ctx} {fn : FuncId} {ops : Array Oper} {base : Nat} {l : List Nat} {h : Heap}
theorem drunF_rcs : ∀ (n : Nat) {ex F : List Nat} {i : Nat} {os : List Oper} {fr : List AV} {res : FRes}, drunF E fn ops base l h n ex F i os fr = some res → RcsOf ops os res.rs
 | 0, _, _, _, _, _, _, hr => by simp [drunF] at hr
 | _ + 1, _, _, _, [], _, res, hr => by
  simp [drunF] at hr
  subst hr
  trivial
 | n + 1, ex, F, i, o :: os, fr, res, hr => by
  unfold drunF at hr
  split at hr
  ·rename_i g hg
   obtain ⟨_, hsp, _⟩ := mgroup_eq hg
   split at hr
   ·rename_i C rs fr2 F2 hm
    obtain ⟨C1, r1, f1, F1, C2, r2, f2, F3, v, hA, hB, _, _, _, rfl, _, _⟩ := mergeT_inv hm
    split at hr
    ·rename_i C' rs' fr' F' hn
     simp at hr
     subst hr
     rw [group_split hsp]
     exact (join_of (drunF_rcs n hA) (drunF_rcs n hB)).append (drunF_rcs n hn)
    ·cases hr
   ·cases hr
  ·split at hr
   ·cases hr
   ·split at hr
    ·rename_i C q hq
     split at hr
     ·split at hr
      ·rename_i C' rs fr' F' hn
       simp at hr
       subst hr
       exact ⟨rfl, rfl, rfl, drunF_rcs n hn⟩
      ·cases hr
     ·cases hr
    ·cases hr
theorem lget_forget {u : Nat} : ∀ {l : List Nat} {fr : List AV}, (u ∈ l → lget (forgetF l fr) u = .bad) ∧ (u ∉ l → lget (forgetF l fr) u = lget fr u) ∧ (forgetF l fr).length = fr.length
 | [], fr => ⟨fun h => (by cases h), fun _ => rfl, rfl⟩
 | t :: l, fr => by
  have ih := lget_forget (u := u) (l := l) (fr := fr.set t .bad)
  unfold forgetF
  have hs : t = u → lget (fr.set t .bad) u = .bad := fun e => by
   subst e
   simp only [lget, List.getD_eq_getElem?_getD]
   rcases Nat.lt_or_ge t fr.length with h1 | h1
   ·rw [List.getElem?_set_self h1]; rfl
   ·rw [List.getElem?_eq_none (by simpa using h1)]; rfl
  have hn : t ≠ u → lget (fr.set t .bad) u = lget fr u := fun e => by simp only [lget, List.getD_eq_getElem?_getD, List.getElem?_set_ne e]
  refine ⟨fun hu => ?_, fun hu => ?_, by rw [ih.2.2, List.length_set]⟩
  ·by_cases hl : u ∈ l
   ·exact ih.1 hl
   ·rw [ih.2.1 hl]
    exact hs ((List.mem_cons.1 hu).elim Eq.symm fun h => absurd h hl)
  ·rw [ih.2.1 fun h => hu (List.mem_cons_of_mem _ h)]
   exact hn fun e => hu (e ▸ List.mem_cons_self)
def FOk (E : Ctx) (fn : FuncId) (ops : Array Oper) (base : Nat) (h : Heap) (F : List Nat) (i : Nat) (os : List Oper) (fr : List AV) (res : FRes) : Prop :=
 AllP res.C → ∀ fr', Ag F fr fr' → (drun E fn ops base i os fr' h).wp fun x => RcsLe x.1 res.rs ∧ Ag res.F res.fr x.2.1 ∧ x.2.2 = h
theorem Ag.set1 {F : List Nat} {fr fr' : List AV} (ha : Ag F fr fr') {t : Nat} {b v : Bool} (h : lget fr t = .val (.bool b)) (e : b = v) : Ag F (fr.set t (abool v)) fr' := by
 rw [set_lget (a := abool v) (by rw [h, e]; rfl) (by simp [abool])]
 exact ha
theorem join_v {b : Bool} {a c v : AV} (h : joinV b a c = some v) : (b = true → v = a ∧ a ≠ .bad) ∧ (b = false → v = c ∧ c ≠ .bad) := by
 unfold joinV at h
 split at h
 ·simp at h
  subst h
  constructor
  ·intro e
   subst e
   exact ⟨rfl, by simp⟩
  ·intro e
   subst e
   exact ⟨rfl, by simp⟩
 ·cases h
theorem merge_ok {g : Grp} {o : Oper} {os : List Oper} {ex ex' F : List Nat} {i n : Nat} {fr fr' : List AV} {C : List Prop} {rs : List Rc} {fr2 : List AV} {F2 : List Nat} (hg : mgroup l ops o os fr ex = some g)
  (hm : mergeT g F fr (drunF E fn ops base l h n ex' F i (g.p ++ [g.x]) (fr.set g.t (abool true))) (drunF E fn ops base l h n ex' F i (g.p ++ [g.x]) (fr.set g.t (abool false))) = some (C, rs, fr2, F2))
  (ih : ∀ {v res}, drunF E fn ops base l h n ex' F i (g.p ++ [g.x]) (fr.set g.t (abool v)) = some res → FOk E fn ops base h F i (g.p ++ [g.x]) (fr.set g.t (abool v)) res)
  (hC : AllP C) (ha : Ag F fr fr') : (drun E fn ops base i (g.p ++ [g.x]) fr' h).wp fun x => RcsLe x.1 rs ∧ Ag F2 fr2 x.2.1 ∧ x.2.2 = h := by
 obtain ⟨ht, _, hxd⟩ := mgroup_eq hg
 obtain ⟨C1, r1, f1, F1, C2, r2, f2, F3, v, hA, hB, hv, hlt, rfl, rfl, rfl, rfl⟩ := mergeT_inv hm
 obtain ⟨hC1, hC2⟩ := AllP.append.1 hC
 have hjv := join_v hv
 have hR1 := drunF_rcs n hA
 have hR2 := drunF_rcs n hB
 have fin : ∀ {f : List AV} {Fx : List Nat} {y : List AV}, v = lget f g.d → lget f g.d ≠ .bad → Ag Fx f y → (∀ u, u ∉ dsts (g.p ++ [g.x]) → lget y u = lget fr' u) → fr.length = y.length → Ag (dsts g.p ++ F) ((forgetF (dsts g.p) fr).set g.d v) y := by
  intro f Fx y hvv hnb hf hk hlen
  refine ⟨by rw [List.length_set, lget_forget (u := 0).2.2, hlen], fun u => ?_⟩
  by_cases hd : u = g.d
  ·left
   have hl : g.d < (forgetF (dsts g.p) fr).length := by rw [lget_forget (u := 0).2.2]; exact hlt
   have e1 : lget ((forgetF (dsts g.p) fr).set g.d v) g.d = v := by
    simp only [lget, List.getD_eq_getElem?_getD, List.getElem?_set_self hl]; rfl
   rw [hd, e1, hvv]
   rcases hf.2 g.d with h1 | h1
   ·exact h1
   ·exact absurd h1.1 hnb
  ·have e1 : lget ((forgetF (dsts g.p) fr).set g.d v) u = lget (forgetF (dsts g.p) fr) u := by
    simp only [lget, List.getD_eq_getElem?_getD, List.getElem?_set_ne (Ne.symm hd)]
   rw [e1]
   by_cases hu : u ∈ dsts g.p
   ·right
    exact ⟨lget_forget.1 hu, List.mem_append_left _ hu⟩
   ·rw [lget_forget.2.1 hu]
    have hu2 : u ∉ dsts (g.p ++ [g.x]) := by
     have hds : ∀ (a : List Oper) (b : List Oper), dsts (a ++ b) = dsts a ++ dsts b := fun a b => by
      induction a with
      | nil => rfl
      | cons o a ih => simp only [List.cons_append, dsts, ih, List.append_assoc]
     rw [hds]
     intro hmem
     rcases List.mem_append.1 hmem with h1 | h1
     ·exact hu h1
     ·simp [dsts, hxd] at h1
      exact hd h1
    rw [hk u hu2]
    rcases ha.2 u with h1 | h1
    ·exact .inl h1
    ·exact .inr ⟨h1.1, List.mem_append_right _ h1.2⟩
 cases hb : g.b
 ·have hw := ih hB (whenP_all hC2 hb) fr' (ha.set1 ht hb)
  refine Tre.wp_mono (fun x hx => ?_) (drun_keep _ hw)
  obtain ⟨⟨q1, q2, q3⟩, q4, q5⟩ := hx
  obtain ⟨e1, e2⟩ := hjv.2 hb
  refine ⟨join_le2 hR1 hR2 q1, fin e1 e2 q2 q4 (ha.1.trans q5.symm), q3⟩
 ·have hw := ih hA (whenP_all hC1 hb) fr' (ha.set1 ht hb)
  refine Tre.wp_mono (fun x hx => ?_) (drun_keep _ hw)
  obtain ⟨⟨q1, q2, q3⟩, q4, q5⟩ := hx
  obtain ⟨e1, e2⟩ := hjv.1 hb
  refine ⟨join_le1 hR1 hR2 q1, fin e1 e2 q2 q4 (ha.1.trans q5.symm), q3⟩
theorem drunF_ok : ∀ (n : Nat) {ex F : List Nat} {i : Nat} {os : List Oper} {fr : List AV} {res : FRes}, drunF E fn ops base l h n ex F i os fr = some res → FOk E fn ops base h F i os fr res
 | 0, _, _, _, _, _, _, hr => by simp [drunF] at hr
 | _ + 1, _, _, _, [], _, res, hr => by
  simp [drunF] at hr
  subst hr
  exact fun _ fr' ha => ⟨.nil, ha, rfl⟩
 | n + 1, ex, F, i, o :: os, fr, res, hr => by
  unfold drunF at hr
  split at hr
  ·rename_i g hg
   obtain ⟨_, hsp, _⟩ := mgroup_eq hg
   split at hr
   ·rename_i C rs fr2 F2 hm
    split at hr
    ·rename_i C' rs' fr3 F3 hn
     simp at hr
     subst hr
     intro hC fr' ha
     obtain ⟨hC1, hC2⟩ := AllP.append.1 hC
     rw [group_split hsp]
     refine drun_append _ (Tre.wp_mono (fun x hx => ?_) (merge_ok hg hm (fun h => drunF_ok n h) hC1 ha))
     have h2 := drunF_ok n hn hC2 x.2.1 hx.2.1
     rw [show i + g.p.length + 1 = i + (g.p ++ [g.x]).length by simp; omega] at h2
     rw [hx.2.2]
     exact Tre.wp_mono (fun y hy => ⟨hx.1.append hy.1, hy.2.1, hy.2.2⟩) h2
    ·cases hr
   ·cases hr
  ·split at hr
   ·cases hr
   ·rename_i hmt
    split at hr
    ·rename_i C q hq
     split at hr
     ·rename_i hws
      split at hr
      ·rename_i C' rs fr2 F' hn
       simp at hr
       subst hr
       intro hC fr' ha
       obtain ⟨hC1, hC2⟩ := AllP.append.1 hC
       refine decide_iff.2 ?_
       rw [Tre.wp_bind]
       rw [dop_congr ha hmt] at hq
       refine Tre.wp_mono (fun r hr => ?_) (dop_dst (flat_wp (Q := fun r => r = q) hq hC1 rfl))
       obtain ⟨rfl, hd, hnm⟩ := hr
       rw [Tre.wp_bind, hws, hd]
       refine Tre.wp_mono (fun x hx => ?_) (drunF_ok n hn hC2 _ (ha.put o.dst r.val))
       exact ⟨.cons ⟨hd, hnm, hws, fun _ h => h, fun h => ⟨h, rfl⟩⟩ hx.1, hx.2.1, hx.2.2⟩
      ·cases hr
     ·cases hr
    ·cases hr
end
theorem drunM_ok {E : Ctx} {fn : FuncId} {ops : Array Oper} {base : Nat} {l : List Nat} {Q : DR → Prop} : ∀ (n : Nat) {F : List Nat} {i : Nat} {os : List Oper} {fr fr' : List AV} {h : Heap} {P : DR → Prop},
  (drunM E fn ops base l n F i os fr h).wp P → Ag F fr fr' → (drun E fn ops base i os fr' h).wp fun x => ∃ xm F', P xm ∧ RcsLe x.1 xm.1 ∧ Ag F' xm.2.1 x.2.1 ∧ x.2.2 = xm.2.2
 | 0, _, _, _, _, _, _, _, hw, _ => by simp [drunM] at hw; exact hw.elim
 | _ + 1, F, _, [], fr, fr', h, P, hw, ha => by
  have hw' : P ([], fr, h) := by simp only [drunM] at hw; exact hw
  exact ⟨_, F, hw', .nil, ha, rfl⟩
 | n + 1, F, i, o :: os, fr, fr', h, P, hw, ha => by
  unfold drunM at hw
  split at hw
  ·rename_i g hg
   obtain ⟨_, hsp, _⟩ := mgroup_eq hg
   split at hw
   ·rename_i C rs fr2 F2 hm
    obtain ⟨hC, hw⟩ := qfi hw
    rw [Tre.wp_bind] at hw
    rw [group_split hsp]
    refine drun_append _ (Tre.wp_mono (fun x hx => ?_) (merge_ok hg hm (fun h => drunF_ok n h) hC ha))
    have h2 := drunM_ok (Q := Q) n hw hx.2.1
    rw [show i + g.p.length + 1 = i + (g.p ++ [g.x]).length by simp; omega] at h2
    rw [hx.2.2]
    refine Tre.wp_mono (fun y hy => ?_) h2
    obtain ⟨xm, F', h3, h4, h5, h6⟩ := hy
    exact ⟨_, F', h3, hx.1.append h4, h5, h6⟩
   ·exact hw.elim
  ·split at hw
   ·exact hw.elim
   ·rename_i hmt
    refine decide_iff.2 ?_
    have hw := decide_iff.1 hw
    rw [Tre.wp_bind] at hw ⊢
    rw [dop_congr ha hmt] at hw
    refine Tre.wp_mono (fun r hr => ?_) hw
    rw [Tre.wp_bind] at hr ⊢
    refine Tre.wp_mono (fun x hx => ?_) (drunM_ok (Q := Q) n hr (ha.put r.dst r.val))
    obtain ⟨xm, F', h3, h4, h5, h6⟩ := hx
    exact ⟨_, F', h3, .cons (.refl r) h4, h5, h6⟩
theorem meets_mono {a a' b b' : List Nat} (ha : ∀ u ∈ a, u ∈ a') (hb : ∀ u ∈ b, u ∈ b') (h : meets a b = true) : meets a' b' = true := by
 unfold meets at h ⊢
 obtain ⟨u, hu, hm⟩ := List.any_eq_true.1 h
 exact List.any_eq_true.2 ⟨u, ha u hu, List.contains_iff_mem.2 (hb u (List.contains_iff_mem.1 hm))⟩
theorem conf_mono {a a' b b' : Rc} (ha : RcLe a a') (hb : RcLe b b') (h : conf a b = true) : conf a' b' = true := by
 unfold conf wrs at h ⊢
 simp only [Bool.or_eq_true] at h ⊢
 rw [← ha.1, ← hb.1, ← ha.2.1, ← hb.2.1, ← ha.2.2.1, ← hb.2.2.1]
 have happ : ∀ {x y z : List Nat}, (∀ u ∈ y, u ∈ z) → ∀ u ∈ x ++ y, u ∈ x ++ z := fun hyz u hu => (List.mem_append.1 hu).elim (fun h => List.mem_append_left _ h) (fun h => List.mem_append_right _ (hyz u h))
 rcases h with ((h | h) | h) | h
 ·exact .inl (.inl (.inl h))
 ·exact .inl (.inl (.inr h))
 ·exact .inl (.inr (meets_mono (fun _ h => h) (happ hb.2.2.2.1) h))
 ·exact .inr (meets_mono (fun _ h => h) (happ ha.2.2.2.1) h)
theorem okAgainst_mono {anc : List Nat} {r r' : Rc} (hr : RcLe r r') : ∀ {qs qs' : List Rc} {i : Nat}, RcsLe qs qs' → okAgainst anc r' i qs' = true → okAgainst anc r i qs = true
 | [], _, _, .nil, _ => rfl
 | q :: qs, q' :: qs', i, .cons h hs, hk => by
  unfold okAgainst at hk ⊢
  simp only [Bool.and_eq_true, Bool.or_eq_true, Bool.not_eq_true'] at hk ⊢
  refine ⟨hk.1.imp (fun h1 => ?_) id, okAgainst_mono hr hs hk.2⟩
  cases hc : conf q r
  ·rfl
  ·rw [conf_mono h hr hc] at h1
   exact h1
theorem okAll_mono {A : List (List Nat)} : ∀ {rs rs' : List Rc} {j : Nat} {d d' : List Rc}, RcsLe rs rs' → RcsLe d d' → okAll A j d' rs' = true → okAll A j d rs = true
 | [], _, _, _, _, .nil, _, _ => rfl
 | r :: rs, r' :: rs', j, d, d', .cons h hs, hd, hk => by
  unfold okAll at hk ⊢
  simp only [Bool.and_eq_true] at hk ⊢
  exact ⟨okAgainst_mono h hd hk.1, okAll_mono hs (hd.append (.cons h .nil)) hk.2⟩
theorem tells_mono : ∀ {rs rs' : List Rc}, RcsLe rs rs' → AllP (tells rs) → AllP (tells rs')
 | [], _, .nil, _ => trivial
 | r :: rs, r' :: rs', .cons h hs, hk => by
  unfold tells at hk ⊢
  cases hc : r'.call
  ·rw [if_neg (by simp)]
   refine tells_mono hs ?_
   split at hk
   ·exact hk.2
   ·exact hk
  ·obtain ⟨h1, h2⟩ := h.2.2.2.2 hc
   rw [if_pos h1] at hk
   rw [if_pos rfl, ← h2]
   exact ⟨hk.1, tells_mono hs hk.2⟩
theorem VRs.weak {w : World} {Z : Nat → Prop} {γ : Gst} {F : List Nat} {fr fr' : List AV} {vs : List Value} (ha : Ag F fr fr') (h : VRs w Z γ fr' vs) : VRs w Z γ fr vs := by
 refine ⟨ha.1.trans h.1, fun j a v hj hv => ?_⟩
 rcases ha.2 j with h1 | ⟨h1, _⟩
 ·have hl : j < fr.length := (List.getElem?_eq_some_iff.1 hj).1
  have hl' : j < fr'.length := ha.1 ▸ hl
  refine h.2 j a v ?_ hv
  unfold lget at h1
  rw [List.getD_eq_getElem?_getD, List.getD_eq_getElem?_getD, hj, List.getElem?_eq_getElem hl'] at h1
  rw [List.getElem?_eq_getElem hl']
  exact congrArg some h1.symm
 ·unfold lget at h1
  rw [List.getD_eq_getElem?_getD, hj] at h1
  rw [show a = .bad from h1]
  exact .bad v
theorem adrawM_adraw {E : Ctx} {fn : FuncId} {ops : Array Oper} {m : Nat} {l : List Nat} {fr : List AV} {h : Heap} {nx : Nat} {Q : DR → Prop} (hw : (adrawM E fn ops m l fr h nx).wp Q) : (adraw0 E fn ops m fr h nx).wp fun x => ∃ xm F, Q xm ∧ RcsLe x.1 xm.1 ∧ Ag F xm.2.1 x.2.1 ∧ x.2.2 = xm.2.2 := by
 unfold adrawM at hw
 unfold adraw0
 split at hw
 ·rename_i A hA
  (try rw [hA])
  (try dsimp only)
  split at hw
  ·rename_i hc
   rw [if_pos hc]
   rw [Tre.wp_bind] at hw ⊢
   refine Tre.wp_mono (fun x hx => ?_) (drunM_ok (Q := Q) _ hw (F := []) (fr' := fr) ⟨rfl, fun u => .inl rfl⟩)
   obtain ⟨xm, F, h1, h2, h3, h4⟩ := hx
   split at h1
   ·rename_i hk
    rw [if_pos (okAll_mono h2 .nil hk)]
    exact ⟨xm, F, h1, h2, h3, h4⟩
   ·exact h1.elim
  ·exact hw.elim
 ·exact hw.elim
section
variable {P : Program} {E : Ctx} {w w' w0 : World} {Z Z' : Nat → Prop} {K : Kp} {own own' : Own} {γ γ' : Gst} {h h' H : Heap} {used used' : Nat → Prop} {s d id nx : Nat} {A B : AV} {v V U : Value} {cs ds : List AV} {vs us : List Value} {F fr fm : List AV} {a : Act} {fn : FuncId} {ops : Array Oper} {r : Rc} {rs : List Rc} {AA : List (List Nat)} {listed : Array Bool} {m : Nat}
theorem drun_text (hE : EOK E) {b : Frame} {k : List Item} {fs : List Frame} {nx : Nat} {rest : List Nat} : ∀ (os : List Oper) (i : Nat) {fr : List AV} {h : Heap} {a : Act} {w : World} {Z : Nat → Prop} {own : Own} {γ : Gst} {Q : DR → Prop}, (∀ (j : Nat) o, os[j]? = some o → ops[i + j]? = some o) →
  (drun E fn ops nx i os fr h).wp Q → MemR w0 K w Z own γ h (fun s => s < nx + i * qba) → GlR E w Z → VRs w Z γ fr a.tmps.toList →
  ∃ x, Q x ∧ AllP (tells x.1) ∧ ∃ a' w' Z' own' γ', a'.defers = a.defers ∧ VRs w' Z' γ' x.2.1 a'.tmps.toList ∧ Stay w Z w' Z' ∧ γ.Le γ' ∧ MemR w0 K w' Z' own' γ' x.2.2 (fun s => s < nx + (i + os.length) * qba) ∧
   Steps E.P (lone (b.atR a (.inRegion ops (List.range' i os.length ++ rest) :: k)) fs w) (lone (b.atR a' (.inRegion ops rest :: k)) fs w')
 | [], i, fr, h, a, w, Z, own, γ, Q, _, hw, hm, hg, hf => ⟨([], fr, h), hw, trivial, a, w, Z, own, γ, rfl, hf, Stay.refl _ _, Gst.Le.refl _, hm, Steps.refl _ _⟩
 | o :: os, i, fr, h, a, w, Z, own, γ, Q, ho, hw, hm, hg, hf => by
  have hw := decideT_wp (show (decideT fr (guardT ops o) fun fr => (dop E fn ops (nx + i * qba) o fr h).bind fun r => (drun E fn ops nx (i + 1) os (putT fr r.dst r.val) (qav h r.ws)).bind fun x => .ok (r :: x.1, x.2.1, x.2.2)).wp Q from hw)
  rw [Tre.wp_bind] at hw
  obtain ⟨r, h1, h2⟩ := Tre.resolve dop_det hw
  rw [Tre.wp_bind] at h2
  obtain ⟨v, w1, Z1, own1, γ1, D, hs⟩ := dok_run (used' := fun s => s < nx + (i + 1) * qba) (b := b) (k := k) (fs := fs) (rest := List.range' (i + 1) os.length ++ rest) hE hm hg hf h1 (ho 0 o rfl) (fun j _ => by omega) (fun s h => by simp only [qba] at *; omega) (fun j hj => by simp only [qba]; omega)
  have hle := D.ext.le hm.fresh
  obtain ⟨x, q0, qt, a', w', Z', own', γ', q1, q2, q3, q4, q5, q6⟩ := drun_text hE os (i + 1) (a := a.put r.dst v) (fun j q hj => by
   have := ho (j + 1) q (by simpa using hj)
   rw [show i + 1 + j = i + (j + 1) by omega]
   exact this) h2 D.mem (hg.mono D.stay) ((hf.mono D.stay hle).putT r.dst D.val)
  have hok : okAV r.val := D.val.ok
  refine ⟨_, q0, ?_, a', w', Z', own', γ', q1.trans ?_, q2, D.stay.trans q3, hle.trans q4, ?_, hs.trans q6⟩
  ·show AllP (tells (r :: x.1))
   unfold tells
   split
   ·exact ⟨hok, qt⟩
   ·exact qt
  ·cases r.dst <;> rfl
  ·rw [show i + (o :: os).length = i + 1 + os.length by simp; omega]
   exact q5
theorem dtext_sound (hE : EOK E) (hm : MemR w0 K w Z own γ h (fun s => s < nx)) (hg : GlR E w Z) (hf : VRs w Z γ fr a.tmps.toList) {l : List Nat} {Q : DR → Prop} (he : (drunM E fn ops nx l 4000 [] 0 ops.toList fr h).wp Q)
  (b : Frame) (k : List Item) (fs : List Frame) : ∃ x, Q x ∧ AllP (tells x.1) ∧ ∃ a' w' Z' own' γ', a'.defers = a.defers ∧ VRs w' Z' γ' x.2.1 a'.tmps.toList ∧ Stay w Z w' Z' ∧ γ.Le γ' ∧ MemR w0 K w' Z' own' γ' x.2.2 (fun s => s < nx + ops.size * qba) ∧
   Steps E.P (lone (b.atR a (.inRegion ops (List.range ops.size) :: k)) fs w) (lone (b.atR a' (.inRegion ops [] :: k)) fs w') := by
 have h0 := drunM_ok (Q := Q) _ he (F := []) (fr' := fr) ⟨rfl, fun u => .inl rfl⟩
 obtain ⟨x, ⟨xm, F, h1, h2, h3, h4⟩, ht, a', w', Z', own', γ', q1, q2, q3, q4, q5, q6⟩ := drun_text hE (b := b) (k := k) (fs := fs) (rest := []) ops.toList 0 (a := a) (fun j o ho => by rw [Nat.zero_add]; simpa using ho) h0 (by rw [Nat.zero_mul]; exact hm) hg hf
 refine ⟨xm, h1, tells_mono h2 ht, a', w', Z', own', γ', q1, q2.weak h3, q3, q4, ?_, ?_⟩
 ·rw [← h4]
  rw [Nat.zero_add, Array.length_toList] at q5
  exact q5
 ·rw [List.append_nil, Array.length_toList, ← List.range_eq_range'] at q6
  exact q6
theorem adraw_sound (hE : EOK E) (hm : MemR w0 K w Z own γ h (fun s => s < nx)) (hg : GlR E w Z) (hf : VRs w Z γ fr a.tmps.toList) {Q : List Rc × List AV × Heap → Prop} (he : (adraw E fn ops m fr h nx).wp Q)
  (b : Frame) (k : List Item) (fs : List Frame) (t : Nat) : ∃ x, Q x ∧ AllP (tells x.1) ∧ ∃ a' w' Z' own' γ', a'.defers = a.defers ∧ VRs w' Z' γ' x.2.1 a'.tmps.toList ∧ Stay w Z w' Z' ∧ γ.Le γ' ∧ MemR w0 K w' Z' own' γ' x.2.2 (fun s => s < nx + ops.size * qba) ∧
   Steps E.P (lone (b.atR a (.inRegion ops (Region.linearise .any ops t) :: k)) fs w) (lone (b.atR a' (.inRegion ops (restL ops.size m) :: k)) fs w') := by
 unfold adraw at he
 split at he
 ·exact adraw0_sound hE hm hg hf he b k fs t
 ·obtain ⟨x, ⟨xm, F, h1, h2, h3, h4⟩, ht, a', w', Z', own', γ', q1, q2, q3, q4, q5, q6⟩ := adraw0_sound hE hm hg hf (adrawM_adraw he) b k fs t
  exact ⟨xm, h1, tells_mono h2 ht, a', w', Z', own', γ', q1, q2.weak h3, q3, q4, h4 ▸ q5, q6⟩
end
end Go.BE

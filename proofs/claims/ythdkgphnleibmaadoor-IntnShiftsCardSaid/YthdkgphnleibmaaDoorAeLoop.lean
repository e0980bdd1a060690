/- A part of the proofs over this program: an abstract machine that the kernel evaluates, its soundness, and what the functions compute (Loop). -/
import Derived.Test.YthdkgphnleibmaaDoorAeChk
namespace Go.AE
open Go.RowKit
/-! ### paths that stop at a loop's head -/
def atLoop (c : Cfg) : Bool := c.callers.isEmpty && (match c.cur.todo with | .code (.loop _) :: _ => true | .inLoop _ :: _ => true | _ => false)
def apathU (E : Ctx) : Nat → List Bool → Cfg → Option (List Prop × Fin × List Bool)
  | 0, ds, c => some ([], .at_ c, ds)
  | n + 1, ds, c => match astep E ds c with
    | some (C, .at_ c', ds') => if atLoop c then some (C, .at_ c', ds') else match apathU E n ds' c' with
      | some (C', f, ds'') => some (C ++ C', f, ds'')
      | none => none
    | some (C, .ret v h, ds') => some (C, .ret v h, ds')
    | none => none
/-- the loops of a code, in the order in which they begin: what is to do at the head of each -/
def loops : Code → List Item → List (List Item)
  | .seq a b, k => loops a (.code b :: k) ++ loops b k
  | .cond _ a b, k => loops a k ++ loops b k
  | .block id a, k => loops a (.inBlock id :: k)
  | .loop a, k => (.code a :: .inLoop a :: k) :: loops a (.inLoop a :: k)
  | .scope a, k => loops a (.inScope a :: k)
  | _, _ => []
def avlook : List (Nat × AV) → Nat → AV
  | [], _ => .bad
  | (k, a) :: l, t => if k = t then a else avlook l t
def mkFr (l : List (Nat × AV)) : Nat → Nat → List AV
  | 0, _ => []
  | n + 1, i => avlook l i :: mkFr l n (i + 1)
/-- a state at the head of loop i of function f -/
def lcfg (E : Ctx) (f : FuncId) (i : Nat) (fr : List (Nat × AV)) (h : Heap) (nx : Nat) : Cfg :=
  match E.P.funcs[f]? with
  | some fn => { cur := { fn := f, todo := ((fn.body.map fun c => loops c []).getD []).getD i [], fr := mkFr fr fn.ntmps 0, dec := [] }, callers := [], h := h, nx := nx }
  | none => { cur := ⟨f, [], [], []⟩, callers := [], h := h, nx := nx }
/-- from a state to the head of a loop: what is kept, the roots, the next number -/
def apl (E : Ctx) (n : Nat) (ds : List Bool) (keep : List Nat) (roots : List (Nat × Nat)) (nx : Nat) (c : Cfg) : Option (List Prop × Cfg) :=
  match apathU E n ds c with
  | some (C, .at_ c', []) => if rootsOK nx roots then some (C, c'.cut keep roots nx) else none
  | _ => none
/-- from a state to the function's end -/
def apr (E : Ctx) (n : Nat) (ds : List Bool) (c : Cfg) : Option (List Prop × AV) :=
  match apathU E n ds c with
  | some (C, .ret v _, []) => some (C, v)
  | _ => none
section
variable {E : Ctx}
theorem apathU_sound {w0 : World} {Z0 : Nat → Prop} {base : List Frame} (hE : EOK E) : ∀ (n : Nat) {c : Cfg} {a : Act} {as : List Act} {w : World} {Z : Nat → Prop} {β : Nat → Option Nat} {ds ds' : List Bool} {C : List Prop} {f : Fin}, StOK E w0 Z0 c a as w Z β →
    apathU E n ds c = some (C, f, ds') → AllP C → FinOK E w0 Z0 base c a as w Z f
  | 0, c, a, as, w, Z, β, ds, ds', C, f, hS, he, _ => by
    simp only [apathU, Option.some.injEq, Prod.mk.injEq] at he
    obtain ⟨rfl, rfl, rfl⟩ := he
    exact ⟨a, as, w, Z, β, hS, Stay.refl _ _, rfl, .refl _ _⟩
  | n + 1, c, a, as, w, Z, β, ds, ds', C, f, hS, he, hC => by
    simp only [apathU] at he
    split at he
    · rename_i C1 c1 ds1 h1
      split at he
      · simp only [Option.some.injEq, Prod.mk.injEq] at he
        obtain ⟨rfl, rfl, rfl⟩ := he
        exact astep_sound hE hS h1 hC
      · split at he
        · rename_i C2 f2 ds2 h2
          simp only [Option.some.injEq, Prod.mk.injEq] at he
          obtain ⟨rfl, rfl, rfl⟩ := he
          rw [AllP.append] at hC
          obtain ⟨a1, as1, w1, Z1, β1, hS1, hst1, hb1, hs1⟩ := astep_sound (base := base) hE hS h1 hC.1
          have h3 := apathU_sound (base := base) hE n hS1 h2 hC.2
          cases f2 with
          | at_ c2 =>
            obtain ⟨a2, as2, w2, Z2, β2, hS2, hst2, hb2, hs2⟩ := h3
            exact ⟨a2, as2, w2, Z2, β2, hS2, hst1.trans hst2, hb2.trans hb1, hs1.trans hs2⟩
          | ret x h =>
            obtain ⟨V, w2, Z2, β2, fr, k1, k2, k3, k4, k5, k6⟩ := h3
            exact ⟨V, w2, Z2, β2, fr, k1, hst1.trans k2, k3, hs1.trans k4, k5.trans hb1, k6⟩
        · cases he
    · rename_i C1 v h ds1 h1
      simp only [Option.some.injEq, Prod.mk.injEq] at he
      obtain ⟨rfl, rfl, rfl⟩ := he
      exact astep_sound hE hS h1 hC
    · cases he
theorem Reach.apl (hE : EOK E) {n : Nat} {c c' : Cfg} {ds : List Bool} {keep : List Nat} {roots : List (Nat × Nat)} {nx : Nat} {C : List Prop} (he : AE.apl E n ds keep roots nx c = some (C, c')) (hC : AllP C) : Reach E c c' := by
  unfold AE.apl at he
  split at he
  · rename_i C1 c1 h1
    split at he
    · rename_i hr
      simp only [Option.some.injEq, Prod.mk.injEq] at he
      obtain ⟨rfl, rfl⟩ := he
      exact Reach.trans (fun _ _ _ _ _ _ _ _ hS => apathU_sound hE n hS h1 hC) (Reach.cut hr)
    · cases he
  · cases he
theorem Gives.apr (hE : EOK E) {n : Nat} {c : Cfg} {ds : List Bool} {C : List Prop} {v : AV} (he : AE.apr E n ds c = some (C, v)) (hC : AllP C) : Gives E c v := by
  unfold AE.apr at he
  split at he
  · rename_i C1 v1 h1 hp
    simp only [Option.some.injEq, Prod.mk.injEq] at he
    obtain ⟨rfl, rfl⟩ := he
    exact fun _ _ _ _ _ _ _ _ hS => ⟨h1, apathU_sound hE n hS hp hC⟩
  · cases he
end
end Go.AE

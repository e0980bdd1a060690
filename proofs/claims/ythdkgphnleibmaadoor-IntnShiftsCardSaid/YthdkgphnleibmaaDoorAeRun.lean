/- A part of the proofs over this program: an abstract machine that the kernel evaluates, its soundness, and what the functions compute (Run). -/
import Derived.Test.YthdkgphnleibmaaDoorAeRel
import Derived.Laws.Sem
import Derived.Laws.Entries
import Derived.Laws.World
namespace Go.AE
/-! ### what the table of types says of the program -/
def FIOK (P : Program) (f : FI) (g : Field) : Prop :=
  g.offset = f.off ∧ (∃ ti, P.info? g.type = some ti ∧ ti.size = f.size) ∧ ∃ d, P.underlying g.type = some d ∧ isAggD d = f.agg
def TKOK (P : Program) : TK → TypeDesc → Prop
  | .int k, d => d = .int k
  | .bool, d => d = .bool
  | .str, d => d = .string
  | .ptr, d => ∃ e, d = .pointer e
  | .slice e, d => d = .slice e
  | .arr n e, d => d = .array n e
  | .struct fs, d => ∃ gs, d = .struct gs ∧ fs.length = gs.size ∧ ∀ (j : Nat) f, fs[j]? = some f → ∃ g, gs[j]? = some g ∧ FIOK P f g
  | .other, d => isAggD d = false
structure TIOK (P : Program) (t : TypeId) (i : TI) : Prop where
  info : ∃ ti, P.info? t = some ti ∧ ti.size = i.size ∧ ti.bytes = i.bytes ∧ ∃ z, ti.zero = some z ∧ z.cells.toList = i.zero
  desc : ∃ d, P.underlying t = some d ∧ TKOK P i.tk d
def TyOK (P : Program) (ty : Ty) : Prop := ∀ t i, ty t = some i → TIOK P t i
theorem TKOK.isAgg {P : Program} {i : TI} {d : TypeDesc} (h : TKOK P i.tk d) : isAggD d = i.isAgg := by
  unfold TI.isAgg
  cases hk : i.tk <;> simp only [hk, TKOK] at h ⊢ <;> first | (subst h; rfl) | (obtain ⟨e, rfl⟩ := h; rfl) | (obtain ⟨gs, rfl, _⟩ := h; rfl) | exact h

section
variable {P : Program} {w : World}
theorem run_typeInfo' {t : TypeId} {ti : TypeInfo} (h : P.info? t = some ti) : (typeInfo t).run P w = .ok ti w := by simp [typeInfo, h]
theorem run_sizeOf' {t : TypeId} {ti : TypeInfo} {n : Nat} (h : P.info? t = some ti) (hn : ti.size = n) : (sizeOf t).run P w = .ok n w := by simp [sizeOf, run_typeInfo' h, hn]
theorem run_zeroValue' {t : TypeId} {ti : TypeInfo} {z : Value} (h : P.info? t = some ti) (hz : ti.zero = some z) : (zeroValue t).run P w = .ok z w := by simp [zeroValue, run_typeInfo' h, hz]
theorem run_isAgg' {t : TypeId} {d : TypeDesc} (h : P.underlying t = some d) : (isAgg t).run P w = .ok (isAggD d) w := by
  simp only [isAgg, Sem.run_bind, run_underlying h, Result.andThen_ok]
  cases d <;> rfl
theorem add_none (b o n : Nat) : (⟨b, o, none⟩ : Addr).add n = ⟨b, o + n, none⟩ := by unfold Addr.add; split <;> simp_all
theorem run_loadCellsFrom (b o : Nat) (vs : List Value) : ∀ (i : Nat) (acc : Array Value), (∀ (j : Nat) v, vs[j]? = some v → CellAt w b (o + (i + j)) v) →
    (loadCellsFrom ⟨b, o, none⟩ i vs.length acc).run P w = .ok (acc ++ vs.toArray) w := by
  induction vs with
  | nil => intro i acc _; simp [loadCellsFrom]
  | cons v vs ih =>
    intro i acc h
    have h0 := h 0 v rfl
    simp only [Nat.add_zero, CellAt] at h0
    simp only [List.length_cons, loadCellsFrom, Sem.run_bind, add_none, run_load, h0, Result.andThen_ok]
    rw [ih (i + 1) (acc.push v) (fun j u hj => by have := h (j + 1) u (by simpa using hj); rwa [show i + (j + 1) = i + 1 + j from by omega] at this)]
    simp
theorem run_loadCells (b o : Nat) (vs : List Value) (h : ∀ (j : Nat) v, vs[j]? = some v → CellAt w b (o + j) v) :
    (loadCells ⟨b, o, none⟩ vs.length).run P w = .ok vs.toArray w := by
  simp only [loadCells]
  rw [run_loadCellsFrom b o vs 0 #[] (fun j v hj => by simpa using h j v hj)]
  simp
end

/-! ### loading -/
section
variable {P : Program} {w : World} {Z : Nat → Prop} {β : Nat → Option Nat}
/-- the cells behind an address -/
def Cells (w : World) (Z : Nat → Prop) (β : Nat → Option Nat) (b o : Nat) (cs : List AV) : Prop :=
  ∀ (j : Nat) a, cs[j]? = some a → ∃ v, CellAt w b (o + j) v ∧ VR w Z β a v
theorem Cells.list {b o : Nat} {cs : List AV} (h : Cells w Z β b o cs) : ∃ vs : List Value, VRs w Z β cs vs ∧ ∀ (j : Nat) v, vs[j]? = some v → CellAt w b (o + j) v := by
  induction cs generalizing o with
  | nil => exact ⟨[], VRs.nil, fun j v hj => by simp at hj⟩
  | cons a cs ih =>
    obtain ⟨v, hv, hr⟩ := h 0 a rfl
    obtain ⟨vs, h1, h2⟩ := ih (o := o + 1) (fun j x hj => by
      obtain ⟨u, hu, hr⟩ := h (j + 1) x (by simpa using hj)
      exact ⟨u, by rwa [show o + 1 + j = o + (j + 1) from by omega], hr⟩)
    refine ⟨v :: vs, VRs.cons hr h1, fun j u hj => ?_⟩
    cases j with
    | zero => simp at hj; subst hj; exact hv
    | succ j => have := h2 j u (by simpa using hj); rwa [show o + 1 + j = o + (j + 1) from by omega] at this
theorem Cells.sub {b o : Nat} {cs : List AV} (h : Cells w Z β b o cs) (off n : Nat) : Cells w Z β b (o + off) ((cs.drop off).take n) := by
  intro j a hj
  rw [List.getElem?_take] at hj
  split at hj
  · rw [List.getElem?_drop] at hj
    obtain ⟨v, hv, hr⟩ := h (off + j) a hj
    exact ⟨v, by rwa [show o + off + j = o + (off + j) from by omega], hr⟩
  · simp at hj
theorem load_var {t : TypeId} {i : TI} (hi : TIOK P t i) {b o off : Nat} {cs : List AV} (h : Cells w Z β b o cs) {a : AV} (ht : takeVar i cs off = some a) :
    ∃ v, (loadVar t ⟨b, o + off, none⟩).run P w = .ok v w ∧ VR w Z β a v := by
  obtain ⟨ti, h1, h2, _, _⟩ := hi.info
  obtain ⟨d, hd, hk⟩ := hi.desc
  have hg := hk.isAgg
  unfold takeVar at ht
  simp only [loadVar, Sem.run_bind, run_isAgg' hd, Result.andThen_ok, hg]
  cases hb : i.isAgg
  · simp only [hb, Bool.false_eq_true, if_false] at ht ⊢
    obtain ⟨v, hv, hr⟩ := h off a ht
    unfold CellAt at hv
    exact ⟨v, by simp [hv], hr⟩
  · simp only [hb, if_true] at ht ⊢
    split at ht
    · rename_i hle
      injection ht with ht
      subst ht
      obtain ⟨vs, hr, hc⟩ := (h.sub off i.size).list
      have hl : vs.length = i.size := by rw [← hr.1]; simp; omega
      refine ⟨.agg vs.toArray, ?_, .agg _ _ (by simpa using hr.1) (fun j x y hx hy => hr.2 j x y hx (by simpa using hy))⟩
      simp only [Sem.run_bind, run_sizeOf' h1 h2, Result.andThen_ok]
      rw [← hl, run_loadCells b (o + off) vs hc]
      simp
    · cases ht
end
end Go.AE

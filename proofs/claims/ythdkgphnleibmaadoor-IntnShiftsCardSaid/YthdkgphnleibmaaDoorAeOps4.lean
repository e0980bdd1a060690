/- A part of the proofs over this program: an abstract machine that the kernel evaluates, its soundness, and what the functions compute (Ops4). -/
import Derived.Test.YthdkgphnleibmaaDoorAeOps3
namespace Go.AE
open Go.RowKit
/-- the world but for block b, which holds arr -/
structure Upd (w : World) (b : Nat) (arr : Array Value) (e : TypeId) (w' : World) : Prop where
  row : w'.heap[b]? = some (.cells arr e (0, 0))
  other : ∀ k, k ≠ b → w'.heap[k]? = w.heap[k]?
  size : w'.heap.size = w.heap.size
  os : w'.os = w.os
  tape : w'.tape = w.tape
  output : w'.output = w.output
section
variable {P : Program} {E : Ctx} {w w' : World} {Z : Nat → Prop} {β : Nat → Option Nat} {N0 nx : Nat} {h : Heap} {a A B : AV} {v V U : Value} {cs ds : List AV} {vs us : List Value}
theorem run_storeCells' (b off : Nat) (e : TypeId) : ∀ (us : List Value) (i : Nat) (w : World) (arr : Array Value), w.heap[b]? = some (.cells arr e (0, 0)) → off + i + us.length ≤ arr.size → (∀ u ∈ us, u.oneCell' = true) →
    ∃ w' arr', (storeCells ⟨b, off, none⟩ us i).run P w = .ok () w' ∧ arr'.toList = setCellsV arr.toList (off + i) us ∧ Upd w b arr' e w'
  | [], i, w, arr, hb, _, _ => ⟨w, arr, rfl, rfl, hb, fun _ _ => rfl, rfl, rfl, rfl, rfl⟩
  | u :: us, i, w, arr, hb, hl, h1 => by
    have hlt : off + i < arr.size := by simp at hl; omega
    have hc : w.cell? ⟨b, off + i, none⟩ = some arr[off + i] := by simp [World.cell?, hb, hlt]
    have hf : w.frozen? ⟨b, off + i, none⟩ = false := by simp [World.frozen?, hb]
    have hbl : b < w.heap.size := (Array.getElem?_eq_some_iff.1 hb).1
    have hset : (w.setCell ⟨b, off + i, none⟩ u).heap[b]? = some (.cells (arr.setIfInBounds (off + i) u) e (0, 0)) := by
      simp only [World.setCell, Array.getElem?_modify, if_true, hb, Option.map_some]
      simp
    have hoth : ∀ k, k ≠ b → (w.setCell ⟨b, off + i, none⟩ u).heap[k]? = w.heap[k]? := fun k hk => by
      simp only [World.setCell, Array.getElem?_modify]
      rw [if_neg (fun h => hk h.symm)]
    obtain ⟨w', arr', e1, e2, e3⟩ := run_storeCells' b off e us (i + 1) (w.setCell ⟨b, off + i, none⟩ u) (arr.setIfInBounds (off + i) u) hset (by simp at hl ⊢; omega) (fun x hx => h1 x (List.mem_cons_of_mem _ hx))
    refine ⟨w', arr', ?_, ?_, e3.row, fun k hk => (e3.other k hk).trans (hoth k hk), ?_, e3.os, e3.tape, e3.output⟩
    · simp only [storeCells, Sem.run_bind, add_none, run_store _ _ _ _ _ (h1 u List.mem_cons_self), hc, hf, Bool.false_eq_true, if_false, Result.andThen_ok, e1]
    · rw [e2, setCellsV, Array.toList_setIfInBounds, Nat.add_assoc]
    · rw [e3.size]; simp [World.setCell]

/-! ### the whole memory state -/
structure MemR (w0 : World) (Z0 : Nat → Prop) (w : World) (Z : Nat → Prop) (β : Nat → Option Nat) (h : Heap) (nx : Nat) : Prop where
  heap : HeapR w Z β w0.heap.size h nx
  zlt : ∀ b, Z b → b < w.heap.size
  zin : ∀ b, Z b → Z0 b ∨ w0.heap.size ≤ b
  below : Below w0.heap.size w0 w

theorem hget_hset_same {r : Nat} {c d : List AV} : ∀ {h : Heap}, hget h r = some c → hget (hset h r d) r = some d
  | [], h => by simp [hget] at h
  | (k, x) :: h, hg => by
    by_cases hk : k = r
    · simp [hset, hk, hget]
    · simp only [hget, hk, if_false] at hg
      simp only [hset, hk, if_false, hget]
      exact hget_hset_same hg
theorem hget_hset_other {r r' : Nat} {d : List AV} (hne : r' ≠ r) : ∀ {h : Heap}, hget (hset h r d) r' = hget h r'
  | [] => rfl
  | (k, x) :: h => by
    by_cases hk : k = r
    · subst hk
      simp [hset, hget, Ne.symm hne]
    · simp only [hset, hk, if_false, hget]
      split
      · rfl
      · exact hget_hset_other hne

theorem stay_upd {b : Nat} {arr : Array Value} {e : TypeId} (hu : Upd w b arr e w') (hz : ¬ Z b) : Stay w Z w' Z :=
  ⟨fun k hk => hu.other k (fun hkb => hz (hkb ▸ hk)), fun _ h => h⟩
theorem astore_sound {w0 : World} {Z0 : Nat → Prop} (hT : TyOK E.P E.ty) (hm : MemR w0 Z0 w Z β h nx) {t : TypeId} {h' : Heap} (he : astore E h t A B = some h') (hA : VR w Z β A V) (hB : VR w Z β B U) :
    ∃ w', (Instr.storeAt t U V).run E.P w = .ok () w' ∧ Stay w Z w' Z ∧ MemR w0 Z0 w' Z β h' nx := by
  unfold astore at he
  split at he
  · rename_i r off
    split at he
    · rename_i i cs hi hg
      split at he
      · rename_i hcond
        obtain ⟨c1, c2, c3⟩ := hcond
        injection he with he
        subst he
        obtain ⟨b, hb, rfl⟩ := hB.ref_inv
        obtain ⟨b', hb', hr⟩ := hm.heap.row r cs hg
        rw [hb] at hb'
        injection hb' with hb'
        subst hb'
        obtain ⟨arr, e, hrow, hrel⟩ := hr.row
        obtain ⟨ti, h1, h2, _⟩ := (hT t i hi).info
        have hcells := AV.one_cells hA c3
        have hsz : V.cells.size = i.size := by rw [← Array.length_toList, ← hcells.1]; exact c1
        have hasz : cs.length = arr.size := by rw [hrel.1]; simp
        obtain ⟨w', arr', e1, e2, e3⟩ := run_storeCells' (P := E.P) b off e V.cells.toList 0 w arr hrow (by rw [← hcells.1, c1]; omega) (hcells.ones c3)
        have hst := stay_upd e3 hr.nz
        refine ⟨w', ?_, hst, ?_, fun k hk => by rw [e3.size]; exact hm.zlt k hk, hm.zin, ?_⟩
        · simp only [Instr.storeAt, Instr.sureAddr, Sem.run_bind, Sem.run_pure, Result.andThen_ok, storeVar, run_sizeOf' h1 h2]
          rw [if_neg (by simp [hsz])]
          exact e1
        · refine ⟨fun r' cs' hg' => ?_, fun r1 r2 k cs1 cs2 hg1 hg2 => ?_, hm.heap.fresh, fun r' cs' hg' => ?_⟩
          · by_cases hrr : r' = r
            · subst hrr
              rw [hget_hset_same hg] at hg'
              injection hg' with hg'
              subst hg'
              refine ⟨b, hb, hr.lo, hr.nz, arr', e, e3.row, ?_⟩
              rw [e2, Nat.add_zero]
              exact (hcells.setCells hrel).mono hst (fun _ _ h => h)
            · rw [hget_hset_other hrr] at hg'
              obtain ⟨b2, hb2, hr2⟩ := hm.heap.row r' cs' hg'
              obtain ⟨arr2, t2, hrow2, hrel2⟩ := hr2.row
              have hne : b2 ≠ b := fun hbb => hrr (hm.heap.inj r' r b2 cs' cs hg' hg hb2 (hbb ▸ hb))
              exact ⟨b2, hb2, hr2.lo, hr2.nz, arr2, t2, (e3.other b2 hne).trans hrow2, hrel2.mono hst (fun _ _ h => h)⟩
          · have hold : ∀ r' cs', hget (hset h r (setCells cs off A.cells)) r' = some cs' → ∃ cs'', hget h r' = some cs'' := by
              intro r' cs' hg'
              by_cases hrr : r' = r
              · subst hrr; exact ⟨_, hg⟩
              · rw [hget_hset_other hrr] at hg'; exact ⟨_, hg'⟩
            obtain ⟨_, k1⟩ := hold _ _ hg1
            obtain ⟨_, k2⟩ := hold _ _ hg2
            exact hm.heap.inj r1 r2 k _ _ k1 k2
          · by_cases hrr : r' = r
            · subst hrr; exact hm.heap.keys _ _ hg
            · rw [hget_hset_other hrr] at hg'; exact hm.heap.keys _ _ hg'
        · refine hm.below.trans ⟨e3.os, e3.tape, e3.output, by rw [e3.size]; exact Nat.le_refl _, fun k hk => e3.other k (fun hkb => ?_)⟩
          have := hr.lo
          omega
      · cases he
    · cases he
  · cases he

/-- a new root -/
def βnew (β : Nat → Option Nat) (nx b : Nat) : Nat → Option Nat := fun r => if r = nx then some b else β r
theorem βnew_old {b : Nat} (hf : ∀ r, nx ≤ r → β r = none) : ∀ r k, β r = some k → βnew β nx b r = some k := by
  intro r k hk
  unfold βnew
  split
  · rename_i hr
    subst hr
    rw [hf _ (Nat.le_refl _)] at hk
    cases hk
  · exact hk
theorem MemR.new {w0 : World} {Z0 : Nat → Prop} (hm : MemR w0 Z0 w Z β h nx) (arr : Array Value) (e : TypeId) (hr : VRs w Z β cs arr.toList) :
    Stay w Z (w.alloc (.cells arr e)) Z ∧ MemR w0 Z0 (w.alloc (.cells arr e)) Z (βnew β nx w.heap.size) ((nx, cs) :: h) (nx + 1) := by
  have hst : Stay w Z (w.alloc (.cells arr e)) Z := ⟨fun b hb => by
    have := hm.zlt b hb
    simp only [World.alloc, Array.getElem?_push]
    rw [if_neg (by omega)], fun _ h => h⟩
  have hβ := βnew_old (b := w.heap.size) hm.heap.fresh
  refine ⟨hst, ⟨fun r cs' hg => ?_, fun r1 r2 k cs1 cs2 hg1 hg2 hb1 hb2 => ?_, fun r hr => ?_, fun r cs' hg => ?_⟩, fun b hb => ?_, hm.zin, hm.below.alloc hm.below.size _⟩
  · simp only [hget] at hg
    split at hg
    · rename_i hr'
      injection hg with hg
      subst hg
      refine ⟨w.heap.size, by simp [βnew, hr'], hm.below.size, fun hz => Nat.lt_irrefl _ (hm.zlt _ hz), arr, e, by show (w.heap.push _)[_]? = _; simp, hr.mono hst hβ⟩
    · obtain ⟨b, hb, hro⟩ := hm.heap.row r cs' hg
      obtain ⟨arr2, t2, hrow2, hrel2⟩ := hro.row
      refine ⟨b, hβ _ _ hb, hro.lo, hro.nz, arr2, t2, ?_, hrel2.mono hst hβ⟩
      have := (Array.getElem?_eq_some_iff.1 hrow2).1
      simp only [World.alloc, Array.getElem?_push]
      rw [if_neg (by omega)]
      exact hrow2
  · have old : ∀ r cs' k, r ≠ nx → hget ((nx, cs) :: h) r = some cs' → βnew β nx w.heap.size r = some k → hget h r = some cs' ∧ β r = some k ∧ k < w.heap.size := by
      intro r cs' k hne hg hb
      simp only [hget, if_neg (Ne.symm hne)] at hg
      simp only [βnew, if_neg hne] at hb
      obtain ⟨b, hb', hro⟩ := hm.heap.row r cs' hg
      rw [hb] at hb'
      injection hb' with hb'
      subst hb'
      obtain ⟨_, _, hrow, _⟩ := hro.row
      exact ⟨hg, hb, (Array.getElem?_eq_some_iff.1 hrow).1⟩
    by_cases h1 : r1 = nx <;> by_cases h2 : r2 = nx
    · rw [h1, h2]
    · subst h1
      obtain ⟨_, _, hlt⟩ := old r2 cs2 k h2 hg2 hb2
      simp [βnew] at hb1
      omega
    · subst h2
      obtain ⟨_, _, hlt⟩ := old r1 cs1 k h1 hg1 hb1
      simp [βnew] at hb2
      omega
    · obtain ⟨g1, b1, _⟩ := old r1 cs1 k h1 hg1 hb1
      obtain ⟨g2, b2, _⟩ := old r2 cs2 k h2 hg2 hb2
      exact hm.heap.inj r1 r2 k cs1 cs2 g1 g2 b1 b2
  · simp only [βnew]
    rw [if_neg (by omega)]
    exact hm.heap.fresh r (by omega)
  · simp only [hget] at hg
    split at hg
    · omega
    · have := hm.heap.keys r cs' hg
      omega
  · have := hm.zlt b hb
    simp
    omega
end
end Go.AE

/- A part of the proofs over this program: an abstract machine that the kernel evaluates, its soundness, and what the functions compute (Ops2). -/
import Derived.Test.YthdkgphnleibmaaDoorAeOps
namespace Go.AE
def setCellsV : List Value → Nat → List Value → List Value
  | cs, _, [] => cs
  | cs, off, v :: vs => setCellsV (cs.set off v) (off + 1) vs
theorem setCellsV_length : ∀ (us vs : List Value) (off : Nat), (setCellsV vs off us).length = vs.length
  | [], _, _ => rfl
  | _ :: us, vs, off => by rw [setCellsV, setCellsV_length us]; simp
theorem setCells_length : ∀ (us vs : List AV) (off : Nat), (setCells vs off us).length = vs.length
  | [], _, _ => rfl
  | _ :: us, vs, off => by rw [setCells, setCells_length us]; simp
section
variable {P : Program} {E : Ctx} {w : World} {Z : Nat → Prop} {β : Nat → Option Nat} {N0 nx : Nat} {h : Heap} {a A B : AV} {v V U : Value} {cs ds : List AV} {vs us : List Value}
theorem VRs.setCells (hu : VRs w Z β ds us) : ∀ {cs : List AV} {vs : List Value} {off : Nat}, VRs w Z β cs vs → VRs w Z β (setCells cs off ds) (setCellsV vs off us) := by
  induction ds generalizing us with
  | nil =>
    intro cs vs off h
    have : us = [] := List.eq_nil_of_length_eq_zero (by simpa using hu.1.symm)
    subst this
    exact h
  | cons d ds ih =>
    intro cs vs off h
    cases us with
    | nil => simp [VRs] at hu
    | cons u us => exact ih hu.tail (h.set off hu.head)
theorem foldl_set (off : Nat) : ∀ (l : List Value) (k : Nat) (arr : Array Value),
    ((l.zipIdx k).foldl (fun (cs : Array Value) (x : Value × Nat) => cs.setIfInBounds (off + x.2) x.1) arr).toList = setCellsV arr.toList (off + k) l
  | [], _, _ => rfl
  | v :: l, k, arr => by
    simp only [List.zipIdx_cons, List.foldl_cons, setCellsV]
    rw [foldl_set off l (k + 1)]
    simp [Nat.add_assoc]
/-- one cell's values -/
theorem AV.one_cells (hA : VR w Z β A V) (h1 : A.cells.all AV.one = true) : VRs w Z β A.cells V.cells.toList :=
  hA.cells (fun u hu => by
    subst hu
    simp only [AV.cells, List.all_cons, List.all_nil, Bool.and_true] at h1
    cases u <;> first | rfl | simp [AV.one] at h1) (fun hb => by subst hb; simp [AV.cells, AV.one] at h1)
theorem VR.one (hA : VR w Z β A V) (h1 : A.one = true) : V.oneCell' = true := by
  cases hA with
  | bad => simp [AV.one] at h1
  | cr hA =>
    cases hA with
    | val => cases V <;> first | rfl | simp [AV.one] at h1
    | nil => rfl
    | ro => rfl
    | rop => rfl
    | agg => simp [AV.one] at h1
    | tup => simp [AV.one] at h1
    | fn => rfl
  | ref => rfl
  | sl => rfl
  | agg => simp [AV.one] at h1
  | tup => simp [AV.one] at h1
  | fn => rfl
theorem VRs.ones (h : VRs w Z β cs vs) (h1 : cs.all AV.one = true) : ∀ u ∈ vs, u.oneCell' = true := by
  intro u hu
  obtain ⟨j, hj⟩ := List.mem_iff_getElem?.1 hu
  have hl : j < cs.length := by rw [h.1]; exact (List.getElem?_eq_some_iff.1 hj).1
  exact (h.2 j _ _ (List.getElem?_eq_getElem hl) hj).one (List.all_eq_true.1 h1 _ (List.getElem_mem hl))

/-! ### build -/
theorem fill_sound {place : Nat → Option (Nat × Nat)} : ∀ {parts : List (Nat × AV)} {vparts : List (Nat × Value)} {cs : List AV} {arr : Array Value} {out : List AV},
    parts.length = vparts.length → (∀ (j : Nat) x y, parts[j]? = some x → vparts[j]? = some y → x.1 = y.1 ∧ VR w Z β x.2 y.2) →
    VRs w Z β cs arr.toList → afill place cs parts = some out → ∃ arr', Instr.fill place arr vparts = some arr' ∧ VRs w Z β out arr'.toList ∧ arr'.size = arr.size := by
  intro parts
  induction parts with
  | nil =>
    intro vparts cs arr out hl _ hc he
    have : vparts = [] := List.eq_nil_of_length_eq_zero (by simpa using hl.symm)
    subst this
    simp only [afill, Option.some.injEq] at he
    subst he
    exact ⟨arr, rfl, hc, rfl⟩
  | cons x parts ih =>
    intro vparts cs arr out hl hr hc he
    cases vparts with
    | nil => simp at hl
    | cons y vparts =>
      obtain ⟨i, a⟩ := x
      obtain ⟨i', v⟩ := y
      obtain ⟨h1, h2⟩ := hr 0 _ _ rfl rfl
      simp only at h1 h2
      subst h1
      simp only [afill] at he
      split at he
      · cases he
      · rename_i off size hp
        split at he
        · rename_i hcond
          obtain ⟨c1, c2, c3⟩ := hcond
          have hcells := AV.one_cells h2 c3
          have hsz : v.cells.size = size := by rw [← Array.length_toList, ← hcells.1]; exact c1
          have harr : cs.length = arr.size := by rw [hc.1]; simp
          obtain ⟨arr', e1, e2, e3⟩ := ih (vparts := vparts) (arr := v.cells.zipIdx.foldl (fun cs (c, j) => cs.setIfInBounds (off + j) c) arr) (by simpa using hl) (fun j x y hx hy => hr (j + 1) x y (by simpa using hx) (by simpa using hy))
            (by
              have := hcells.setCells (off := off) hc
              rw [← Array.foldl_toList, Array.toList_zipIdx]
              have hf := foldl_set off v.cells.toList 0 arr
              simp only [Nat.add_zero] at hf
              rw [hf]
              exact this) he
          refine ⟨arr', ?_, e2, ?_⟩
          · simp only [Instr.fill, hp]
            rw [if_neg (by simp [hsz]; omega)]
            exact e1
          · rw [e3, ← Array.foldl_toList, Array.toList_zipIdx, ← Array.length_toList, foldl_set off v.cells.toList 0 arr, setCellsV_length]
            simp
        · cases he
end
end Go.AE

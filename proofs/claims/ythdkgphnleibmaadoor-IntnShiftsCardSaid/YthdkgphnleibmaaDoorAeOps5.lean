/- A part of the proofs over this program: an abstract machine that the kernel evaluates, its soundness, and what the functions compute (Ops5). -/
import Derived.Test.YthdkgphnleibmaaDoorAeOps4
namespace Go.AE
open Go.RowKit
def repV (z : List Value) : Nat → List Value
  | 0 => []
  | n + 1 => z ++ repV z n
theorem repCells_eq (z : List Value) : ∀ n, repCells z n = (repV z n).map .val
  | 0 => rfl
  | n + 1 => by simp [repCells, repV, repCells_eq z n]
theorem repV_length (z : List Value) : ∀ n, (repV z n).length = n * z.length
  | 0 => by simp [repV]
  | n + 1 => by simp [repV, repV_length z n, Nat.succ_mul, Nat.add_comm]
theorem repV_get (z : List Value) (hz : 0 < z.length) : ∀ n i, i < n * z.length → (repV z n)[i]? = z[i % z.length]?
  | 0, i, h => by simp at h
  | n + 1, i, h => by
    simp only [repV]
    rcases Nat.lt_or_ge i z.length with hi | hi
    · rw [List.getElem?_append_left hi, Nat.mod_eq_of_lt hi]
    · rw [List.getElem?_append_right hi, repV_get z hz n (i - z.length) (by rw [Nat.succ_mul] at h; omega)]
      rw [← Nat.mod_eq_sub_mod hi]
theorem range_rep (z : Array Value) (hz : 0 < z.size) (n : Nat) : ((Array.range (n * z.size)).map (fun i => z[i % z.size]!)).toList = repV z.toList n := by
  apply List.ext_getElem?
  intro i
  simp only [Array.toList_map, Array.toList_range, List.getElem?_map]
  rcases Nat.lt_or_ge i (n * z.size) with hi | hi
  · rw [List.getElem?_range hi, repV_get z.toList (by simpa using hz) n i (by simpa using hi)]
    have hm : i % z.size < z.size := Nat.mod_lt _ hz
    simp [hm]
  · rw [List.getElem?_eq_none (by simpa using hi), List.getElem?_eq_none (by rw [repV_length]; simpa using hi)]
    rfl
section
variable {P : Program} {E : Ctx} {w w0 w' : World} {Z Z0 : Nat → Prop} {β : Nat → Option Nat} {N0 nx : Nat} {h : Heap} {a A B : AV} {v V U : Value} {cs ds : List AV} {vs us : List Value}
theorem newVar_run (t : TypeId) (V : Value) : (newVar t V).run P w = .ok ⟨w.heap.size, 0, none⟩ (w.alloc (.cells V.cells t)) := by
  simp only [newVar, newRow, Sem.run_bind, run_newObj, Result.andThen_ok, Sem.run_pure]
  rfl
theorem alloc_sound (hT : TyOK E.P E.ty) {t : TypeId} {i : TI} (hi : E.ty t = some i) :
    ∃ arr : Array Value, (Instr.alloc t true (.tuple #[])).run E.P w = .ok (.pointer (some ⟨w.heap.size, 0, none⟩)) (w.alloc (.cells arr t)) ∧ VRs w Z β (i.zero.map .val) arr.toList := by
  obtain ⟨ti, h1, h2, h3, zv, h4, h5⟩ := (hT t i hi).info
  refine ⟨zv.cells, ?_, by rw [← h5]; exact VRs.vals _⟩
  simp only [Instr.alloc, Sem.run_bind, run_zeroValue' h1 h4, Result.andThen_ok, newVar_run, Sem.run_pure]
theorem box_sound {t : TypeId} (hA : VR w Z β A V) (h1 : A.cells.all AV.one = true) :
    (Instr.box t V).run P w = .ok (.pointer (some ⟨w.heap.size, 0, none⟩)) (w.alloc (.cells V.cells t)) ∧ VRs w Z β A.cells V.cells.toList := by
  refine ⟨by simp only [Instr.box, Sem.run_bind, newVar_run, Result.andThen_ok, Sem.run_pure], AV.one_cells hA h1⟩
theorem abuildSlice_sound (hT : TyOK E.P E.ty) {t : TypeId} {len s : Nat} {ps : List (Nat × AV)} {vps : Array (Nat × Value)} (hp : Parts w Z β ps vps.toList) (he : abuildSlice E t len ps = some (s, cs)) :
    ∃ (arr : Array Value) (e : TypeId), (Instr.buildSlice t len vps).run E.P w = .ok (.slice (some ⟨w.heap.size, 0, none⟩) len len) (w.alloc (.cells arr e)) ∧ VRs w Z β cs arr.toList := by
  unfold abuildSlice at he
  split at he
  · rename_i e _ _ _ _ hi
    split at he
    · rename_i ie hie
      split at he
      · rename_i hcond
        obtain ⟨c1, c2, c3⟩ := hcond
        simp only [Option.map_eq_some_iff] at he
        obtain ⟨out, he, heq⟩ := he
        injection heq with _ heq
        subst heq
        obtain ⟨d, hd, hk⟩ := (hT t _ hi).desc
        simp only [TKOK] at hk
        subst hk
        obtain ⟨ti, h1, h2, h3, zv, h4, h5⟩ := (hT e _ hie).info
        have hzs : zv.cells.size = ie.size := by rw [← Array.length_toList, h5, c2]
        have hinit : (if len * ie.size = 0 then (#[] : Array Value) else zv.cells) = (if len = 0 then #[] else zv.cells) := by
          by_cases hl : len = 0
          · simp [hl]
          · rw [if_neg (Nat.mul_ne_zero hl (by omega)), if_neg hl]
        have hrep : (((Array.range (len * ie.size)).map (fun i => (if len * ie.size = 0 then (#[] : Array Value) else zv.cells)[i % (if len * ie.size = 0 then (#[] : Array Value) else zv.cells).size]!)).toList) = repV ie.zero len := by
          by_cases hl : len = 0
          · subst hl; simp [repV]
          · rw [hinit, if_neg hl, ← hzs, range_rep zv.cells (by omega) len, h5]
        obtain ⟨arr', e1, e2, e3⟩ := fill_sound (w := w) (Z := Z) (β := β) (cs := repCells ie.zero len) (arr := (Array.range (len * ie.size)).map (fun i => (if len * ie.size = 0 then (#[] : Array Value) else zv.cells)[i % (if len * ie.size = 0 then (#[] : Array Value) else zv.cells).size]!)) hp.1 hp.2
          (by rw [hrep, repCells_eq]; exact VRs.vals _) he
        refine ⟨arr', e, ?_, e2⟩
        have hbig : ¬ len * ie.size > 2 ^ 24 := by omega
        simp only [Instr.buildSlice, Sem.run_bind, run_underlying hd, Result.andThen_ok, run_sizeOf' h1 h2, hbig, if_false]
        by_cases hl0 : len * ie.size = 0
        · simp only [hl0, if_true] at e1 ⊢
          simp only [Sem.run_bind, Sem.run_pure, Result.andThen_ok, e1, newRow, run_newObj]
          rfl
        · simp only [hl0, if_false] at e1 ⊢
          simp only [Sem.run_bind, run_zeroValue' h1 h4, Sem.run_pure, Result.andThen_ok, e1, newRow, run_newObj]
          rfl
      · cases he
    · cases he
  · cases he

def OutOK (E : Ctx) (w0 : World) (Z0 : Nat → Prop) (w : World) (Z : Nat → Prop) (β : Nat → Option Nat) (nx : Nat) (ρ : Operand → Value) (o : Oper) : Out → Prop
  | .v C a => AllP C → ∃ v, (execOp ρ o).run E.P w = .ok (.value v) w ∧ VR w Z β a v
  | .u C h' => AllP C → ∃ w', (execOp ρ o).run E.P w = .ok .skip w' ∧ Stay w Z w' Z ∧ MemR w0 Z0 w' Z β h' nx
  | .new cs mk => ∃ (arr : Array Value) (e : TypeId) (v : Value), (execOp ρ o).run E.P w = .ok (.value v) (w.alloc (.cells arr e)) ∧ VRs w Z β cs arr.toList ∧ ∀ id w' β', β' id = some w.heap.size → VR w' Z β' (mk id) v
  | .call f args => ∃ vs : List Value, (execOp ρ o).run E.P w = (callFunc f vs.toArray).run E.P w ∧ VRs w Z β args vs
  | .no => True
theorem oV_ok {ρ : Operand → Value} {o : Oper} {x : Option AV} (h : ∀ a, x = some a → ∃ v, (execOp ρ o).run E.P w = .ok (.value v) w ∧ VR w Z β a v) : OutOK E w0 Z0 w Z β nx ρ o (oV x) := by
  cases x with
  | none => trivial
  | some a => exact fun _ => h a rfl
theorem oC_ok {ρ : Operand → Value} {o : Oper} {x : Option (List Prop × AV)} (h : ∀ C a, x = some (C, a) → AllP C → ∃ v, (execOp ρ o).run E.P w = .ok (.value v) w ∧ VR w Z β a v) : OutOK E w0 Z0 w Z β nx ρ o (oC x) := by
  cases x with
  | none => trivial
  | some a => exact fun hC => h a.1 a.2 rfl hC
theorem asI_inv {n : Int} (hA : VR w Z β A V) (h : asI A = some n) : ∃ k, V = .int k n := by
  unfold asI at h
  split at h
  · obtain rfl := hA.val_inv
    injection h with h
    subst h
    exact ⟨_, rfl⟩
  · cases h
theorem asB_inv {b : Bool} (hA : VR w Z β A V) (h : asB A = some b) : V = .bool b := by
  unfold asB at h
  split at h
  · obtain rfl := hA.val_inv
    injection h with h
    subst h
    rfl
  · cases h
theorem maps {ρa : Operand → AV} {ρ : Operand → Value} (hρ : ∀ x, VR w Z β (ρa x) (ρ x)) (l : List Operand) : VRs w Z β (l.map ρa) (l.map ρ) := by
  induction l with
  | nil => exact .nil
  | cons x l ih => exact .cons (hρ x) ih
theorem parts {ρa : Operand → AV} {ρ : Operand → Value} (hρ : ∀ x, VR w Z β (ρa x) (ρ x)) (l : Array (Nat × Operand)) :
    Parts w Z β (l.toList.map fun (i, x) => (i, ρa x)) (l.map fun (i, x) => (i, ρ x)).toList := by
  refine ⟨by simp, fun j x y hx hy => ?_⟩
  simp only [Array.toList_map, List.getElem?_map] at hx hy
  cases hl : l.toList[j]? with
  | none => simp [hl] at hx
  | some p =>
    simp only [hl, Option.map_some, Option.some.injEq] at hx hy
    subst hx
    subst hy
    exact ⟨rfl, hρ _⟩
theorem amax_sound : ∀ {as : List AV} {A a : AV} {V : Value} {Vs : List Value}, amax A as = some a → VR w Z β A V → VRs w Z β as Vs → ∃ v, (Vs.foldlM Builtin.max2 V).run P w = .ok v w ∧ VR w Z β a v
  | [], A, a, V, Vs, he, hA, hs => by
    have : Vs = [] := List.eq_nil_of_length_eq_zero (by simpa using hs.1.symm)
    subst this
    simp only [amax, Option.some.injEq] at he
    subst he
    exact ⟨V, rfl, hA⟩
  | x :: as, A, a, V, Vs, he, hA, hs => by
    cases Vs with
    | nil => simp [VRs] at hs
    | cons y Vs =>
      unfold amax at he
      split at he
      · rename_i heq; cases heq
      · rename_i k n k' m as' heq
        injection heq with h1 h2
        subst h1
        subst h2
        obtain rfl := hA.val_inv
        obtain rfl := hs.head.val_inv
        obtain ⟨v, e1, e2⟩ := amax_sound (V := .int k (if m > n then m else n)) he (.cr (.val _)) hs.tail
        exact ⟨v, by simp only [List.foldlM_cons, Sem.run_bind, Builtin.max2, Sem.run_pure, Result.andThen_ok, e1], e2⟩
      · cases he
theorem amin_sound : ∀ {as : List AV} {A a : AV} {V : Value} {Vs : List Value}, amin A as = some a → VR w Z β A V → VRs w Z β as Vs → ∃ v, (Vs.foldlM Builtin.min2 V).run P w = .ok v w ∧ VR w Z β a v
  | [], A, a, V, Vs, he, hA, hs => by
    have : Vs = [] := List.eq_nil_of_length_eq_zero (by simpa using hs.1.symm)
    subst this
    simp only [amin, Option.some.injEq] at he
    subst he
    exact ⟨V, rfl, hA⟩
  | x :: as, A, a, V, Vs, he, hA, hs => by
    cases Vs with
    | nil => simp [VRs] at hs
    | cons y Vs =>
      unfold amin at he
      split at he
      · rename_i heq; cases heq
      · rename_i k n k' m as' heq
        injection heq with h1 h2
        subst h1
        subst h2
        obtain rfl := hA.val_inv
        obtain rfl := hs.head.val_inv
        obtain ⟨v, e1, e2⟩ := amin_sound (V := .int k (if m < n then m else n)) he (.cr (.val _)) hs.tail
        exact ⟨v, by simp only [List.foldlM_cons, Sem.run_bind, Builtin.min2, Sem.run_pure, Result.andThen_ok, e1], e2⟩
      · cases he
theorem VR.fn_inv {f : FuncId} {caps : List AV} (h : VR w Z β (.fn f caps) v) : ∃ vs : Array Value, v = .func (.func f) #[] vs ∧ VRs w Z β caps vs.toList := by
  cases h with
  | cr h =>
    cases h with
    | fn _ _ vs hl hr => exact ⟨vs, rfl, by simpa using hl, fun j x y hx hy => .cr (hr j x y hx (by simpa using hy))⟩
  | fn _ _ vs hl hr => exact ⟨vs, rfl, by simpa using hl, fun j x y hx hy => hr j x y hx (by simpa using hy)⟩
theorem aop_sound (hT : TyOK E.P E.ty) (hm : MemR w0 Z0 w Z β h nx) {ρa : Operand → AV} {ρ : Operand → Value} (hρ : ∀ x, VR w Z β (ρa x) (ρ x)) (o : Oper) : OutOK E w0 Z0 w Z β nx ρ o (aop E h ρa o.op) := by
  unfold aop
  split
  · rename_i x ho
    exact fun _ => ⟨ρ x, by simp only [execOp, ho, Sem.run_pure], hρ x⟩
  · rename_i x ho
    exact fun _ => ⟨ρ x, by simp only [execOp, ho, Sem.run_pure], hρ x⟩
  · trivial
  · rename_i t ho
    split
    · rename_i i hi
      obtain ⟨arr, h1, h2⟩ := alloc_sound (w := w) (Z := Z) (β := β) hT hi
      exact ⟨arr, t, _, by simp only [execOp, ho, Sem.run_bind, h1, Result.andThen_ok, Sem.run_pure], h2, fun id w' β' hb => .ref _ _ _ hb⟩
    · trivial
  · rename_i t x ho
    split
    · split
      · rename_i h1
        obtain ⟨e1, e2⟩ := box_sound (P := E.P) (t := t) (hρ x) h1
        exact ⟨_, t, _, by simp only [execOp, ho, Sem.run_bind, e1, Result.andThen_ok, Sem.run_pure], e2, fun id w' β' hb => .ref _ _ _ hb⟩
      · trivial
    · trivial
  · rename_i t ps ho
    refine oV_ok fun a he => ?_
    obtain ⟨v, e1, e2⟩ := abuild_sound hT (parts hρ ps) he
    exact ⟨v, by simp only [execOp, ho, Sem.run_bind, e1, Result.andThen_ok, Sem.run_pure], e2⟩
  · rename_i t len ps ho
    split
    · rename_i s cs he
      obtain ⟨arr, e, e1, e2⟩ := abuildSlice_sound hT (parts hρ ps) he
      exact ⟨arr, e, _, by simp only [execOp, ho, Sem.run_bind, e1, Result.andThen_ok, Sem.run_pure], e2, fun id w' β' hb => .sl _ _ _ _ _ _ hb (Nat.le_refl _)⟩
    · trivial
  · rename_i t x ho
    refine oV_ok fun a he => ?_
    obtain ⟨v, e1, e2⟩ := aload_sound hT hm.heap he (hρ x)
    exact ⟨v, by simp only [execOp, ho, Sem.run_bind, e1, Result.andThen_ok, Sem.run_pure], e2⟩
  · rename_i t x y ho
    split
    · rename_i h' he
      intro _
      obtain ⟨w', e1, e2, e3⟩ := astore_sound hT hm he (hρ y) (hρ x)
      exact ⟨w', by simp only [execOp, ho, Sem.run_bind, e1, Result.andThen_ok, Sem.run_pure], e2, e3⟩
    · trivial
  · rename_i x ho
    have hx := hρ x
    split
    · rename_i r off hr
      rw [hr] at hx
      intro _
      obtain ⟨b, hb, hv⟩ := hx.ref_inv
      exact ⟨.pointer (some ⟨b, off, none⟩), by simp only [execOp, ho, hv, Sem.run_pure], .ref _ _ _ hb⟩
    · rename_i cs off hr
      rw [hr] at hx
      intro _
      obtain ⟨b, off', hv, hb⟩ := hx.rop_inv
      exact ⟨.pointer (some ⟨b, off' + off, none⟩), by simp only [execOp, ho, hv, Sem.run_pure], hb off⟩
    · trivial
  · rename_i op t x y yt ho
    refine oC_ok fun C a he hC => ?_
    obtain ⟨v, e1, e2⟩ := abin_sound (xo := x) (yo := y) hT he hC (hρ x) (hρ y)
    exact ⟨v, by simp only [execOp, ho]; rw [Sem.run_bind, e1]; rfl, e2⟩
  · rename_i op t x ho
    refine oC_ok fun C a he hC => ?_
    obtain ⟨v, e1, e2⟩ := aun_sound (P := E.P) he (hρ x)
    exact ⟨v, by simp only [execOp, ho, Sem.run_bind, e1, Result.andThen_ok, Sem.run_pure], e2⟩
  · rename_i s d x ho
    refine oC_ok fun C a he hC => ?_
    obtain ⟨v, e1, e2⟩ := aconv_sound hT he (hρ x)
    exact ⟨v, by simp only [execOp, ho, Sem.run_bind, e1, Result.andThen_ok, Sem.run_pure], e2⟩
  · rename_i f first caps ho
    split
    · rename_i hf
      have hf' : first = #[] := by simpa [Array.isEmpty] using hf
      subst hf'
      intro _
      have hc := maps hρ caps.toList
      refine ⟨.func (.func f) #[] (caps.map ρ), by simp [execOp, ho, Instr.makeFunc], .fn _ _ _ (by simp) (fun j x y hx hy => hc.2 j x y hx ?_)⟩
      rw [← Array.getElem?_toList] at hy
      simpa using hy
    · trivial
  · rename_i s x f ho
    refine oV_ok fun a he => ?_
    obtain ⟨v, e1, e2⟩ := afieldAddr_sound hT he (hρ x)
    exact ⟨v, by simp only [execOp, ho, Sem.run_bind, e1, Result.andThen_ok, Sem.run_pure], e2⟩
  · rename_i t x f ho
    refine oV_ok fun a he => ?_
    obtain ⟨v, e1, e2⟩ := afield_sound hT he (hρ x)
    exact ⟨v, by simp only [execOp, ho, Sem.run_bind, e1, Result.andThen_ok, Sem.run_pure], e2⟩
  · rename_i t x i ho
    split
    · rename_i n hn
      obtain ⟨k, hk⟩ := asI_inv (hρ i) hn
      refine oC_ok fun C a he hC => ?_
      obtain ⟨v, e1, e2⟩ := aindexAddr_sound (k := k) hT he hC (hρ x)
      exact ⟨v, by simp only [execOp, ho, hk, Sem.run_bind, e1, Result.andThen_ok, Sem.run_pure], e2⟩
    · trivial
  · rename_i t x i ho
    split
    · rename_i n hn
      obtain ⟨k, hk⟩ := asI_inv (hρ i) hn
      refine oC_ok fun C a he hC => ?_
      obtain ⟨v, e1, e2⟩ := aindex_sound (k := k) hT he hC (hρ x)
      exact ⟨v, by simp only [execOp, ho, hk, Sem.run_bind, e1, Result.andThen_ok, Sem.run_pure], e2⟩
    · trivial
  · rename_i t i ho
    refine oV_ok fun a he => ?_
    obtain ⟨v, e1, e2⟩ := aextract_sound (P := E.P) he (hρ t)
    exact ⟨v, by simp only [execOp, ho, Sem.run_bind, e1, Result.andThen_ok, Sem.run_pure], e2⟩
  · rename_i f args ats ho
    split
    · rename_i g caps hg
      have hf := hρ f
      rw [hg] at hf
      obtain ⟨us, hv, hc⟩ := hf.fn_inv
      refine ⟨(args.toList.map ρ) ++ us.toList, ?_, (maps hρ args.toList).append hc⟩
      simp only [execOp, ho, resolve, hv, Deferred.ofValue, Sem.run_bind, Sem.run_pure, Result.andThen_ok, invoke]
      congr 2
      apply Array.ext'
      simp
    · trivial
  · rename_i args ats ho
    split
    · rename_i t x ht hx
      refine oV_ok fun a he => ?_
      obtain ⟨v, e1, e2⟩ := alen_sound (rt := o.type) (ats := ats) (args := args.map ρ) hT ht (by rw [Array.getElem?_map, hx]; rfl) he (hρ x)
      exact ⟨v, by simp only [execOp, ho, resolve, invoke, builtin, Sem.run_bind, Sem.run_pure, Result.andThen_ok, e1], e2⟩
    · trivial
  · rename_i args ats ho
    split
    · rename_i x r hx
      refine oV_ok fun a he => ?_
      obtain ⟨v, e1, e2⟩ := amax_sound (P := E.P) he (hρ x) (maps hρ r)
      exact ⟨v, by simp only [execOp, ho, resolve, invoke, builtin, Builtin.max_, Sem.run_bind, Sem.run_pure, Result.andThen_ok, Array.toList_map, hx, List.map_cons, e1], e2⟩
    · trivial
  · rename_i args ats ho
    split
    · rename_i x r hx
      refine oV_ok fun a he => ?_
      obtain ⟨v, e1, e2⟩ := amin_sound (P := E.P) he (hρ x) (maps hρ r)
      exact ⟨v, by simp only [execOp, ho, resolve, invoke, builtin, Builtin.min_, Sem.run_bind, Sem.run_pure, Result.andThen_ok, Array.toList_map, hx, List.map_cons, e1], e2⟩
    · trivial
  · trivial
end
end Go.AE

/- A part of the proofs over this program: an abstract machine that the kernel evaluates, and its soundness. No conditions. -/
import Derived.Test.YtfnbbidogehnfaaGreatDoorEngineB
import Derived.Laws.MakeOwn
import Derived.MapKept
import Derived.Test.YtfnbbidogehnfaaGreatDoorEngineA
namespace Go.BE
open Go.RowKit
section
variable {P : Program} {E : Ctx} {w w' w0 : World} {Z Z' : Nat → Prop} {K : Kp} {own own' : Own} {γ γ' : Gst} {h h' : Heap} {used used' : Nat → Prop} {r s d id : Nat} {R : Root} {a A B : AV} {v V U : Value} {cs ds : List AV} {vs us : List Value}
theorem zvals_length : ∀ S : Sh, (zvals S).length = S.size := by
 intro S
 induction S with
 | pair a b iha ihb => simp [zvals, Sh.size, iha, ihb]
 | arr n a ih => simp [zvals, Sh.size, ih]
 | _ => rfl
theorem FRV.zero {α : Type} {f : α → List Value → Prop} {x : α} {us : List Value} (h : f x us) : ∀ n, FRV f n (vrep x n) (List.replicate n us).flatten
 | 0 => rfl
 | n + 1 => ⟨us, (List.replicate n us).flatten, by simp [List.replicate_succ], h, FRV.zero h n⟩
theorem FR.zero : ∀ S : Sh, FR w Z S (dz S) (zvals S) := by
 intro S
 induction S with
 | int k => exact ⟨rfl, k_min k, k_max k⟩
 | bool => exact rfl
 | str => exact ⟨rfl, Nat.zero_le _⟩
 | unit => exact rfl
 | pair a b iha ihb => exact ⟨_, _, rfl, iha, ihb⟩
 | arr n a ih => exact FRV.zero (f := FR w Z a) ih n
 | sl b a _ => exact FR.nil b a
 | ptr a _ => exact .inl ⟨rfl, rfl⟩
theorem seg_rep {z : List Value} : ∀ {n j : Nat}, j < n → seg (repV z n) (j * z.length) z.length = z
 | 0, j, h => by omega
 | n + 1, 0, _ => by rw [repV, Nat.zero_mul, seg_left (by omega), seg_all rfl]
 | n + 1, j + 1, h => by
  rw [repV, seg_right (o := j * z.length) (by rw [Nat.succ_mul]; omega)]
  exact seg_rep (by omega)
theorem room_of {b n : Nat} (h : n * b ≤ roomB) (hb : 0 < b) : room b n := ⟨h, by have : n * 1 ≤ n * b := Nat.mul_le_mul_left _ hb; omega⟩
theorem ORV.zero {f : Nat → List Value → Prop} {α : Type} {F : α → List St → List Value → Prop} {x : α} {us : List Value} {st : List St} (h : ∀ k, F x (st ++ [.a k]) us) : ∀ n k, ORV F st n k (vrep x n) (List.replicate n us).flatten
 | 0, _ => rfl
 | n + 1, k => ⟨us, (List.replicate n us).flatten, by simp [List.replicate_succ], h k, ORV.zero (f := f) h n (k + 1)⟩
theorem OR.zero {M : Rows} {g : Pth → Option Hd} : ∀ {S : Sh} {m : Nat} {p : Pth} {i : Nat} {st0 : List St}, (∀ st b a, sSh S st = some (.sl b a) → g (p ++ [(i, st0 ++ st)]) = some ⟨a, false, 0, 0, none⟩) → (∀ st a, sSh S st = some (.ptr a) → g (p ++ [(i, st0 ++ st)]) = some ⟨a, true, 0, 0, none⟩) →
  OR w Z M own r g S m (dz S) p i st0 (zvals S) := by
 intro S
 induction S with
 | int k => intros; exact FR.zero (w := w) (Z := Z) (.int k)
 | bool => intros; exact FR.zero (w := w) (Z := Z) .bool
 | str => intros; exact FR.zero (w := w) (Z := Z) .str
 | unit => intros; exact FR.zero (w := w) (Z := Z) .unit
 | pair a b iha ihb =>
  intro m p i st0 h1 h2
  refine ⟨zvals a, zvals b, rfl, iha (fun st b' a' hs => ?_) (fun st a' hs => ?_), ihb (fun st b' a' hs => ?_) (fun st a' hs => ?_)⟩
  ·rw [List.append_assoc]; exact h1 (.l :: st) b' a' hs
  ·rw [List.append_assoc]; exact h2 (.l :: st) a' hs
  ·rw [List.append_assoc]; exact h1 (.r :: st) b' a' hs
  ·rw [List.append_assoc]; exact h2 (.r :: st) a' hs
 | arr n a ih =>
  intro m p i st0 h1 h2
  refine ORV.zero (f := fun _ _ => True) (F := fun y st us => OR w Z M own r g a m y p i st us) (fun k => ih (fun st b' a' hs => ?_) (fun st a' hs => ?_)) n 0
  ·rw [List.append_assoc]; exact h1 (.a k :: st) b' a' hs
  ·rw [List.append_assoc]; exact h2 (.a k :: st) a' hs
 | sl b a ih =>
  intro m p i st0 h1 h2
  cases m with
  | zero => exact FR.zero (w := w) (Z := Z) (.sl b a)
  | succ m =>
   have := h1 [] b a rfl
   rw [List.append_nil] at this
   exact ⟨_, _, rfl, this, rfl, rfl, rfl, ⟨none, 0, rfl, Nat.le_refl _, Nat.le_refl _, fun h => absurd h (Nat.lt_irrefl _)⟩, by simp [room, dz], Nat.le_refl _, Nat.zero_le _, fun h => absurd h (Nat.lt_irrefl _)⟩
 | ptr a ih =>
  intro m p i st0 h1 h2
  cases m with
  | zero => exact FR.zero (w := w) (Z := Z) (.ptr a)
  | succ m =>
   have := h2 [] a rfl
   rw [List.append_nil] at this
   exact ⟨_, _, rfl, this, rfl, rfl, rfl, .inl ⟨rfl, rfl⟩, Nat.le_refl _, Nat.zero_le _, fun h => absurd h (Nat.lt_irrefl _)⟩
def gZero (S : Sh) (n : Nat) : Pth → Option Hd
 | [(i, st)] => if i < n then (match sSh S st with
  | some (.sl _ a) => some ⟨a, false, 0, 0, none⟩
  | some (.ptr a) => some ⟨a, true, 0, 0, none⟩
  | _ => none) else none
 | _ => none
theorem makeSlice_core (hT : TyOK E.P E.ty) (hm : MemR w0 K w Z own γ h used) (hid : ¬ used id) (hu : ∀ s, used s → used' s) (hid' : used' id) {t e : TypeId} {lv b : Nat} {S : Sh} {i : TI} {n m : Int} {kl kc : IntKind} (hd : E.P.underlying t = some (.slice e)) (hie : E.ty e = some i) (c1 : i.sh = some S) (c2 : 0 < S.size) (c3 : i.bytes = b) (c4 : 0 < b) (hnm : n ≤ m) (d1 : 0 ≤ n) (d2 : m.toNat * b ≤ roomB) :
  WOK E.P w0 K w Z γ h used used' (Instr.makeSlice t (.int kl n) (.int kc m)) (.osl id id [] none) [(id, some (qcy id (.arr lv b S (List.replicate n.toNat (dz S)))))] := by
 obtain ⟨ti, i1, i2, i3, z, i4, i5⟩ := (hT e _ hie).info
 obtain ⟨s1, s2, s3⟩ := (hT e _ hie).sh S c1
 have hroom := room_of d2 c4
 have hlim := hroom.2
 have hb2 : (ti.bytes : Int) * m ≤ 281474976710656 := by
  rw [i3, c3]
  have hnn : ((m.toNat : Nat) : Int) = m := by omega
  have : ((m.toNat * b : Nat) : Int) ≤ 281474976710656 := by unfold roomB at d2; omega
  rw [Int.natCast_mul, hnn, Int.mul_comm] at this
  exact this
 have hrun := run_make (P := E.P) w t e ti z hd i1 i4 kl kc n m d1 hnm hb2 (by unfold roomB at hlim; omega)
 have hzl : z.cells.size = S.size := by rw [← Array.length_toList, i5, ← s2]; exact zvals_length S
 have hcells : (madeCells z.cells (m.toNat * ti.size)).toList = repV (zvals S) m.toNat := by
  have : m.toNat * ti.size = m.toNat * z.cells.size := by rw [hzl, i2, ← s1]
  rw [this, madeCells, range_rep z.cells (by omega), i5, s2]
 obtain ⟨own', γ', g1, g2, g3, g4, _⟩ := hm.newArrG hid hu hid' (qcs (w := w) (madeCells z.cells (m.toNat * ti.size)) e) (m := lv) (b := b) (S := S) (xs := List.replicate n.toNat (dz S)) (c := m.toNat) (by simp; omega) (by simpa using room_le hroom (by omega)) (by rw [← Array.length_toList, hcells, repV_length, zvals_length]; exact Nat.le_refl _)
  (fun _ => False) (fun _ _ _ h => h) (gZero S n.toNat) own (fun _ _ h _ => h) (fun _ _ h => .inl ⟨h, fun h => h⟩) (by
   intro q j s' hd hq
   have hq : gZero S n.toNat (q ++ [(j, s')]) = some hd := by simpa using hq
   cases q with
   | nil =>
    simp only [List.nil_append, gZero] at hq
    split at hq
    ·rename_i hj
     exact ⟨_, if_pos rfl, by simpa using hj⟩
    ·cases hq
   | cons x q =>
    obtain ⟨k, u⟩ := x
    cases q <;> simp [gZero] at hq) (fun j y hy => by
  have hj := (List.getElem?_eq_some_iff.1 hy).1
  simp only [List.length_replicate] at hj
  have hy' : y = dz S := by
   unfold lat at hy
   rw [List.getElem?_replicate, if_pos hj] at hy
   exact (Option.some.inj hy).symm
  subst hy'
  have hjm : j < m.toNat := by omega
  have := seg_rep (z := zvals S) hjm
  rw [zvals_length] at this
  rw [hcells, this]
  refine OR.zero (fun st b' a' hs => ?_) (fun st a' hs => ?_)
  ·simp [gZero, hj, hs]
  ·simp [gZero, hj, hs])
 refine ⟨_, _, Z, own', γ', hrun, g1, g2, g3, ?_⟩
 simpa using g4
theorem amakeSlice_sound (hT : TyOK E.P E.ty) (hm : MemR w0 K w Z own γ h used) (hid : ¬ used id) (hu : ∀ s, used s → used' s) (hid' : used' id) {t : TypeId} {C : List Prop} {ws : List (Nat × Option Root)} {sk : Bool} {lv : Nat} {n m : Int} {kl kc : IntKind} (he : amakeSlice E id lv t n m = .w C a ws sk) (hC : AllP C) :
  sk = false ∧ WOK E.P w0 K w Z γ h used used' (Instr.makeSlice t (.int kl n) (.int kc m)) a ws := by
 unfold amakeSlice at he
 split at he
 ·rename_i e _ _ _ b S hty
  obtain ⟨dsc, hd, hk⟩ := (hT t _ hty).desc
  simp only [TKOK] at hk
  subst hk
  split at he
  ·rename_i i hie
   split at he
   ·rename_i hcond
    obtain ⟨c1, c2, c3, c4⟩ := hcond
    split at he
    ·injection he with e1 e2 e3 e4
     subst e1; subst e2; subst e3; subst e4
     simp only [AllP, and_true] at hC
     obtain ⟨d0, d1, d2⟩ := hC
     exact ⟨rfl, makeSlice_core hT hm hid hu hid' hd hie c1 c2 c3 c4 d0 d1 d2⟩
    ·injection he with e1 e2 e3 e4
     subst e1; subst e2; subst e3; subst e4
     simp only [AllP, and_true] at hC
     obtain ⟨rfl, d1, d2⟩ := hC
     exact ⟨rfl, makeSlice_core hT hm hid hu hid' hd hie c1 c2 c3 c4 (Int.le_refl _) d1 d2⟩
   ·cases he
  ·cases he
 ·cases he
theorem moveInL_sound (hm : MemR w0 K w Z own γ h used) {m : Nat} {S : Sh} : ∀ {n j0 : Nat} {cs : List AV} {vs : List Value} {xs : List (Den S)} {l : List (Nat × Mv)}, moveInL h m S n j0 cs = some (xs, l) → VRs w Z γ cs vs →
  xs.length = n ∧ vs.length = n * S.size ∧ (∀ e ∈ l, j0 ≤ e.1 ∧ e.1 < j0 + n) ∧ (∀ e ∈ l, ∀ k, e.2.r = some k → ∃ s R m2 t, rdata h k s 0 = some (R, m2, t)) ∧
  ∀ j y, lat xs j = some y → ∃ l' : List Mv, (∀ e ∈ l', (j0 + j, e) ∈ l) ∧ ∀ w' Z' M' own' r' g' p st0, Stay w Z w' Z' → MvL w own γ h l' M' own' r' g' p (j0 + j) st0 → OR w' Z' M' own' r' g' S (m + 1) y p (j0 + j) st0 (seg vs (j * S.size) S.size)
 | 0, j0, cs, vs, xs, l, he, hv => by
  simp only [moveInL] at he
  split at he
  ·rename_i hc
   simp only [Option.some.injEq, Prod.mk.injEq] at he
   obtain ⟨rfl, rfl⟩ := he
   have : cs = [] := by simpa using hc
   subst this
   have : vs = [] := List.eq_nil_of_length_eq_zero (by simpa using hv.1.symm)
   subst this
   exact ⟨rfl, by simp, (fun e he => by cases he), (fun e he => by cases he), fun j y hy => by simp [lat] at hy⟩
  ·cases he
 | n + 1, j0, cs, vs, xs, l, he, hv => by
  simp only [moveInL] at he
  split at he
  ·rename_i x cs1 l1 h1
   split at he
   ·rename_i xs1 l2 h2
    simp only [Option.some.injEq, Prod.mk.injEq] at he
    obtain ⟨rfl, rfl⟩ := he
    obtain ⟨us, ws, rfl, c1, c2, c3, c4, c5⟩ := moveIn_sound hm h1 hv
    obtain ⟨d1, d2, d3, d4, d5⟩ := moveInL_sound hm h2 c1
    refine ⟨by simp [d1], by rw [List.length_append, c2, d2, Nat.succ_mul, Nat.add_comm], fun e he => ?_, fun e he k hk => ?_, fun j y hy => ?_⟩
    ·rcases List.mem_append.1 he with he | he
     ·obtain ⟨e', _, rfl⟩ := List.mem_map.1 he
      simp only; omega
     ·have := d3 e he; omega
    ·rcases List.mem_append.1 he with he | he
     ·obtain ⟨e', he', rfl⟩ := List.mem_map.1 he
      exact c4 e' he' k hk
     ·exact d4 e he k hk
    ·cases j with
     | zero =>
      simp only [lat, List.getElem?_cons_zero, Option.some.injEq] at hy
      subst hy
      refine ⟨l1, fun e he => List.mem_append_left _ (List.mem_map.2 ⟨e, he, rfl⟩), fun w' Z' M' own' r' g' p st0 hs hmv => ?_⟩
      have := c5 w' Z' M' own' r' g' p j0 st0 hs hmv
      rw [List.append_nil] at this
      rw [Nat.zero_mul, seg_left (by omega), seg_all c2]
      exact this
     | succ j =>
      have hy' : lat xs1 j = some y := by simpa [lat] using hy
      obtain ⟨l', k1, k2⟩ := d5 j y hy'
      refine ⟨l', fun e he => List.mem_append_right _ (by have := k1 e he; rwa [show j0 + (j + 1) = j0 + 1 + j by omega]), fun w' Z' M' own' r' g' p st0 hs hmv => ?_⟩
      rw [show j0 + (j + 1) = j0 + 1 + j by omega] at hmv ⊢
      have := k2 w' Z' M' own' r' g' p st0 hs hmv
      rw [seg_right (o := j * S.size) (by rw [c2, Nat.succ_mul, Nat.add_comm])]
      exact this
   ·cases he
  ·cases he
theorem abuildCells_sound (hT : TyOK E.P E.ty) (hm : MemR w0 K w Z own γ h used) (hid : ¬ used id) (hu : ∀ s, used s → used' s) (hid' : used' id) {t : TypeId} {len : Nat} {ps : List (Nat × AV)} {vps : Array (Nat × Value)} (hp : Parts w Z γ ps vps.toList) {C : List Prop} {ws : List (Nat × Option Root)} {sk : Bool} (he : abuildCells E id t len ps = .w C a ws sk) (hC : AllP C) :
  sk = false ∧ WOK E.P w0 K w Z γ h used used' (Instr.buildSlice t len vps) a ws := by
 unfold abuildCells at he
 split at he
 ·rename_i e _ _ _ _ hty
  split at he
  ·rename_i ie hie
   split at he
   ·rename_i hcond
    obtain ⟨c1, c2, c3, c4⟩ := hcond
    split at he
    ·rename_i cs hfill
     obtain ⟨d, hd, hk⟩ := (hT t _ hty).desc
     simp only [TKOK] at hk
     subst hk
     obtain ⟨ti, h1, h2, h3, zv, h4, h5⟩ := (hT e _ hie).info
     have hzs : zv.cells.size = ie.size := by rw [← Array.length_toList, h5, c2]
     have hinit : (if len * ie.size = 0 then (#[] : Array Value) else zv.cells) = (if len = 0 then #[] else zv.cells) := by
      by_cases hl : len = 0
      ·simp [hl]
      ·rw [if_neg (Nat.mul_ne_zero hl (by omega)), if_neg hl]
     have hrep : (((Array.range (len * ie.size)).map (fun i => (if len * ie.size = 0 then (#[] : Array Value) else zv.cells)[i % (if len * ie.size = 0 then (#[] : Array Value) else zv.cells).size]!)).toList) = repV ie.zero len := by
      by_cases hl : len = 0
      ·subst hl; simp [repV]
      ·rw [hinit, if_neg hl, ← hzs, range_rep zv.cells (by omega) len, h5]
     obtain ⟨arr', e1, e2, e3⟩ := fill_sound (w := w) (Z := Z) (γ := γ) (cs := repCells ie.zero len) (arr := (Array.range (len * ie.size)).map (fun i => (if len * ie.size = 0 then (#[] : Array Value) else zv.cells)[i % (if len * ie.size = 0 then (#[] : Array Value) else zv.cells).size]!)) hp.1 hp.2
      (by rw [hrep, repCells_eq]; exact VRs.cvals _) hfill
     have hbig : ¬ len * ie.size > 2 ^ 24 := by omega
     have hrun : (Instr.buildSlice t len vps).run E.P w = .ok (.slice (some ⟨w.heap.size, 0, none⟩) len len) (w.alloc (.cells arr' e)) := by
      simp only [Instr.buildSlice, Sem.run_bind, run_underlying hd, Result.andThen_ok, qaw h1 h2, hbig, if_false]
      by_cases hl0 : len * ie.size = 0
      ·simp only [hl0, if_true] at e1 ⊢
       simp only [Sem.run_bind, Sem.run_pure, Result.andThen_ok, e1, newRow, run_newObj]
       rfl
      ·simp only [hl0, if_false] at e1 ⊢
       simp only [Sem.run_bind, qep h1 h4, Sem.run_pure, Result.andThen_ok, e1, newRow, run_newObj]
       rfl
     injection he with q1 q2 q3 q4
     subst q1; subst q2; subst q3; subst q4
     obtain ⟨own', γ', g1, g2, g3, g4⟩ := hm.newCells hid hu hid' (qcs (w := w) arr' e) e2
     exact ⟨rfl, _, _, _, own', γ', hrun, g1, g2, g3, .csl _ _ _ _ _ g4 (Nat.le_refl _) (by have : len * 1 ≤ len * ie.size := Nat.mul_le_mul_left _ c3; unfold roomB; omega)⟩
    ·cases he
   ·cases he
  ·cases he
 ·cases he
theorem abuildSlice_sound (hT : TyOK E.P E.ty) (hm : MemR w0 K w Z own γ h used) (hid : ¬ used id) (hu : ∀ s, used s → used' s) (hid' : used' id) {lv : Nat} {t : TypeId} {len : Nat} {ps : List (Nat × AV)} {vps : Array (Nat × Value)} (hp : Parts w Z γ ps vps.toList) {C : List Prop} {ws : List (Nat × Option Root)} {sk : Bool} (he : abuildSlice E h id lv t len ps = .w C a ws sk) (hC : AllP C) :
  sk = false ∧ WOK E.P w0 K w Z γ h used used' (Instr.buildSlice t len vps) a ws := by
 unfold abuildSlice at he
 split at he
 ·rename_i e _ _ _ b S hty
  split at he
  ·rename_i ie hie
   split at he
   ·rename_i hcond
    obtain ⟨c1, c2, c3, c4, c5, c6⟩ := hcond
    split at he
    ·rename_i cs hfill
     obtain ⟨d, hd, hk⟩ := (hT t _ hty).desc
     simp only [TKOK] at hk
     subst hk
     obtain ⟨ti, h1, h2, h3, zv, h4, h5⟩ := (hT e _ hie).info
     have hzs : zv.cells.size = ie.size := by rw [← Array.length_toList, h5, c2]
     have hinit : (if len * ie.size = 0 then (#[] : Array Value) else zv.cells) = (if len = 0 then #[] else zv.cells) := by
      by_cases hl : len = 0
      ·simp [hl]
      ·rw [if_neg (Nat.mul_ne_zero hl (by omega)), if_neg hl]
     have hrep : (((Array.range (len * ie.size)).map (fun i => (if len * ie.size = 0 then (#[] : Array Value) else zv.cells)[i % (if len * ie.size = 0 then (#[] : Array Value) else zv.cells).size]!)).toList) = repV ie.zero len := by
      by_cases hl : len = 0
      ·subst hl; simp [repV]
      ·rw [hinit, if_neg hl, ← hzs, range_rep zv.cells (by omega) len, h5]
     obtain ⟨arr', e1, e2, e3⟩ := fill_sound (w := w) (Z := Z) (γ := γ) (cs := repCells ie.zero len) (arr := (Array.range (len * ie.size)).map (fun i => (if len * ie.size = 0 then (#[] : Array Value) else zv.cells)[i % (if len * ie.size = 0 then (#[] : Array Value) else zv.cells).size]!)) hp.1 hp.2
      (by rw [hrep, repCells_eq]; exact VRs.cvals _) hfill
     have hbig : ¬ len * ie.size > 2 ^ 24 := by omega
     have hrun : (Instr.buildSlice t len vps).run E.P w = .ok (.slice (some ⟨w.heap.size, 0, none⟩) len len) (w.alloc (.cells arr' e)) := by
      simp only [Instr.buildSlice, Sem.run_bind, run_underlying hd, Result.andThen_ok, qaw h1 h2, hbig, if_false]
      by_cases hl0 : len * ie.size = 0
      ·simp only [hl0, if_true] at e1 ⊢
       simp only [Sem.run_bind, Sem.run_pure, Result.andThen_ok, e1, newRow, run_newObj]
       rfl
      ·simp only [hl0, if_false] at e1 ⊢
       simp only [Sem.run_bind, qep h1 h4, Sem.run_pure, Result.andThen_ok, e1, newRow, run_newObj]
       rfl
     split at he
     ·split at he
      ·rename_i C0 cs' ws0 hcl
       split at he
       ·rename_i xs hxs
        injection he with q1 q2 q3 q4
        subst q1; subst q2; subst q3; subst q4
        refine ⟨rfl, ?_⟩
        obtain ⟨Z1, own1, k1, k2, k3⟩ := qfh hm hcl hC e2
        obtain ⟨x1, x2, x3⟩ := elemsOf_sound len hxs ⟨k2, k3⟩
        have hxl : xs.length = len := x1
        obtain ⟨own', γ', g1, g2, g3, g4, _⟩ := k1.mem.newArr hid hu hid' (qcs (w := w) arr' e) (m := 0) (b := b) (S := S) (xs := xs) (c := len) (.inl rfl) (by omega) (by rw [hxl]; exact room_of c4 c5) (by rw [← Array.length_toList, x2]; exact Nat.le_refl _) x3
        refine ⟨_, _, Z1, own', γ', hrun, k1.stay.trans g1, g2, by rw [qea]; exact g3, ?_⟩
        rw [hxl] at g4
        exact g4
       ·cases he
      ·cases he
     ·rename_i hlv
      simp only [Bool.or_eq_true, beq_iff_eq, not_or] at hlv
      split at he
      ·rename_i xs l hml
       split at he
       ·rename_i hnd
        simp only [Bool.and_eq_true] at hnd
        obtain ⟨hnd1, hnd2⟩ := hnd
        injection he with q1 q2 q3 q4
        subst q1; subst q2; subst q3; subst q4
        refine ⟨rfl, ?_⟩
        obtain ⟨x1, x2, x3, x4, x5⟩ := moveInL_sound hm hml e2
        have hxl : xs.length = len := x1
        have hlv' : lv - 1 + 1 = lv := by omega
        rw [hlv'] at x5
        let nb := qcs (w := w) arr' e
        have hmm := hm.dels (l := qcx (l.map (·.2)))
        obtain ⟨own', γ', g1, g2, g3, g4, _⟩ := hmm.newArrG hid hu hid' nb (m := lv) (b := b) (S := S) (xs := xs) (c := len) (by omega) (by rw [hxl]; exact room_of c4 c5) (by rw [← Array.length_toList, x2]; exact Nat.le_refl _)
         (fun x => x ∈ qcx (l.map (·.2))) (fun r R hg hc => by rw [hget_mvDel, if_pos hc] at hg; cases hg) (gMv γ h (fun _ => none) (fun _ _ => true) [] [] l) (oMv own id [] [] l)
         (fun b' o ho hno => by
          unfold oMv
          rw [ho]
          simp only
          split
          ·rename_i e' he'
           exact absurd (qdg.2 ⟨e'.2, List.mem_map.2 ⟨e', List.mem_of_find?_eq_some he', rfl⟩, by simpa using List.find?_some he'⟩) hno
          ·rfl)
         (fun b' o ho => by
          unfold oMv at ho
          split at ho
          ·rename_i k q hkq
           split at ho
           ·rename_i e' he'
            exact .inr ⟨_, hkq, qdg.2 ⟨e'.2, List.mem_map.2 ⟨e', List.mem_of_find?_eq_some he', rfl⟩, by simpa using List.find?_some he'⟩⟩
           ·rename_i he'
            injection ho with ho
            subst ho
            refine .inl ⟨hkq, fun hc => ?_⟩
            obtain ⟨e', m1, m2⟩ := qdg.1 hc
            obtain ⟨e'', m3, rfl⟩ := List.mem_map.1 m1
            rw [List.find?_eq_none] at he'
            exact he' e'' m3 (by simp [m2])
          ·cases ho)
         (by
          intro q j s' hd hq
          have hq : gMv γ h (fun _ => none) (fun _ _ => true) [] [] l (q ++ [(j, s')]) = some hd := by simpa using hq
          rcases q with _ | ⟨⟨k, u⟩, rest⟩
          ·rw [show ([] ++ [(j, s')] : Pth) = [] ++ (j, s') :: [] from rfl, gMv_in rfl] at hq
           split at hq
           ·rename_i e' he'
            have hf := List.find?_some he'
            simp only [Bool.and_eq_true, beq_iff_eq] at hf
            have := x3 e' (List.mem_of_find?_eq_some he')
            exact ⟨_, if_pos rfl, by simp only; omega⟩
           ·cases hq
          ·rw [show ((k, u) :: rest ++ [(j, s')] : Pth) = [] ++ (k, u) :: (rest ++ [(j, s')]) from rfl, gMv_in rfl] at hq
           split at hq
           ·rename_i e' he'
            split at hq
            ·simp at hq
            ·rename_i r2 hr2
             split at hq
             ·rename_i R2 hR2
              obtain ⟨s2, R2', m2, t2, hrd⟩ := x4 e' (List.mem_of_find?_eq_some he') r2 hr2
              obtain ⟨y1, _, _, b2, S2, xs2, y2, _⟩ := hm.data hrd
              rw [hR2] at y1
              injection y1 with y1
              subst y1
              obtain ⟨hdq, hq, _⟩ := Option.map_eq_some_iff.1 hq
              obtain ⟨hd0, f1, f2⟩ := hm.dom hR2 y2 _ _ _ _ hq
              refine ⟨e'.2.hd rest hd0, ?_, by rw [Mv.hd_n]; exact f2⟩
              show (if ((k, u) :: rest : Pth) = [] then _ else gMv γ h (fun _ => none) (fun _ _ => true) [] [] l ([] ++ (k, u) :: rest)) = _
              rw [if_neg (by simp), gMv_in rfl, he']
              simp only [hr2, hR2, f1, Option.map_some]
             ·cases hq
           ·cases hq)
         (fun j y hy => by
          obtain ⟨l', k1, k2⟩ := x5 j y hy
          rw [Nat.zero_add] at k1 k2
          refine k2 _ Z _ _ id _ [] [] (nb.stay hm.zlt) ?_
          refine MvL_ok hm (base := fun _ => none) (cov := fun _ _ => true) hnd1 hnd2 (fun _ _ => rfl) (fun k s' rest => by simp) (fun b' o ho hex => ?_) (fun b' k q row ho hex hrow => ?_) k1
          ·rw [if_neg (by have := hm.ownlt b' o ho; omega)]
          ·rw [qfo (nb.old b' (hm.ownlt b' _ ho))]; exact hrow)
        refine ⟨_, _, Z, own', γ', hrun, g1, g2, by rw [qea]; exact g3, ?_⟩
        rw [hxl] at g4
        exact g4
       ·cases he
      ·cases he
    ·cases he
   ·cases he
  ·cases he
 ·cases he
theorem alloc_ok (hT : TyOK E.P E.ty) (hm : MemR w0 K w Z own γ h used) (hid : ¬ used id) (hu : ∀ s, used s → used' s) (hid' : used' id) {t : TypeId} {i : TI} (hi : E.ty t = some i) :
  WOK E.P w0 K w Z γ h used used' (Instr.alloc t true (.tuple #[])) (.ref id 0) [(id, some (qcy id (.cells (cvals i.zero))))] := by
 obtain ⟨arr, e1, e2⟩ := alloc_sound (w := w) (Z := Z) (γ := γ) hT hi
 obtain ⟨own', γ', g1, g2, g3, g4⟩ := hm.newCells hid hu hid' (qcs (w := w) arr t) e2
 exact ⟨_, _, Z, own', γ', e1, g1, g2, g3, .ref _ _ _ g4⟩
theorem box_ro (hm : MemR w0 K w Z own γ h used) (hu : ∀ s, used s → used' s) {t : TypeId} (hA : CR w Z A V) : ∃ Z', Z' w.heap.size ∧ Stay w Z (w.alloc (.cells V.cells t)) Z' ∧ MemR w0 K (w.alloc (.cells V.cells t)) Z' own γ h used' ∧
  (Instr.box t V).run P w = .ok (.pointer (some ⟨w.heap.size, 0, none⟩)) (w.alloc (.cells V.cells t)) ∧ (w.alloc (.cells V.cells t)).heap[w.heap.size]? = some (.cells V.cells t (0, 0)) := by
 obtain ⟨g1, g2⟩ := hm.newRo hu (qcs (w := w) V.cells t)
 exact ⟨_, .inr rfl, g1, g2, by simp only [Instr.box, Sem.run_bind, newVar_run, Result.andThen_ok, Sem.run_pure], (qcs (w := w) V.cells t).row⟩
theorem abox_sound (hm : MemR w0 K w Z own γ h used) (hid : ¬ used id) (hu : ∀ s, used s → used' s) (hid' : used' id) {t : TypeId} {ro : Bool} {C : List Prop} {ws : List (Nat × Option Root)} {sk : Bool} (he : abox id ro A = .w C a ws sk) (hA : VR w Z γ A V) :
  sk = false ∧ WOK P w0 K w Z γ h used used' (Instr.box t V) a ws := by
 unfold abox at he
 split at he
 ·rename_i hro
  simp only [Bool.and_eq_true] at hro
  have hcr := hA.toCR hro.2
  obtain ⟨Z', z1, z2, z3, z4, z5⟩ := box_ro (P := P) (t := t) hm hu hcr
  have hcr' := hcr.mono z2
  have one : ∀ {x : AV} {u : Value}, V.cells = #[u] → CR (w.alloc (.cells V.cells t)) Z' x u → CR (w.alloc (.cells V.cells t)) Z' (.rop [x] 0) (.pointer (some ⟨w.heap.size, 0, none⟩)) := fun {x u} hv hx => by
   refine .rop [x] 0 _ 0 (fun _ => u) z1 (fun j a hj => ?_) (fun j a hj => ?_)
   ·have hj' := (List.getElem?_eq_some_iff.1 hj).1
    simp only [List.length_cons, List.length_nil] at hj'
    have : j = 0 := by omega
    subst this
    unfold qfv World.cell?
    simp only [z5]
    simp [hv]
   ·have hj' := (List.getElem?_eq_some_iff.1 hj).1
    simp only [List.length_cons, List.length_nil] at hj'
    have : j = 0 := by omega
    subst this
    simp at hj
    subst hj
    exact hx
  have fin : ∀ {x : AV}, CR (w.alloc (.cells V.cells t)) Z' x (.pointer (some ⟨w.heap.size, 0, none⟩)) → WOK P w0 K w Z γ h used used' (Instr.box t V) x [] := fun hx => ⟨_, _, Z', own, γ, z4, z2, Gst.Ext.refl _ _, z3, .cr hx⟩
  cases A with
  | bad => cases he
  | tv S x =>
   injection he with e1 e2 e3 e4
   subst e1; subst e2; subst e3; subst e4
   refine ⟨rfl, fin ?_⟩
   have hrun : Run (w.alloc (.cells V.cells t)) w.heap.size 0 V.cells.toList := fun j u hj => by
    unfold qfv World.cell?
    simp only [z5]
    simpa using hj
   have hfr : FR (w.alloc (.cells V.cells t)) Z' S x V.cells.toList := by
    cases hcr' with
    | tva _ _ arr _ hf => exact hf
    | tv1 _ _ _ hS hf =>
     have hc : V.cells = #[V] := by
      have := VR.cells (γ := γ) hA (fun u hu => by cases hu) (fun hb => by cases hb)
      have hl := this.1
      have hone : (AV.tv S x).one = true := by simp [AV.one, hS]
      have := hA.one hone
      cases V <;> first | rfl | simp [Value.oneCell'] at this
     have e : V.cells.toList = [V] := by rw [hc]
     rw [e]
     exact hf
   exact .rtp _ _ _ _ _ z1 hrun hfr
  | rtp S x =>
   injection he with e1 e2 e3 e4
   subst e1; subst e2; subst e3; subst e4
   refine ⟨rfl, fin (one ?_ hcr')⟩
   cases hcr; rfl
  | agg cs =>
   simp only at he
   split at he
   ·rename_i hall
    injection he with e1 e2 e3 e4
    subst e1; subst e2; subst e3; subst e4
    refine ⟨rfl, fin ?_⟩
    cases hcr' with
    | agg _ arr hl hrel =>
     refine .rop cs 0 _ 0 (fun j => arr.getD j undef) z1 (fun j x hj => ?_) (fun j x hj => ?_)
     ·have hj' := (List.getElem?_eq_some_iff.1 hj).1
      unfold qfv World.cell?
      simp only [z5]
      simp [Value.cells, ← hl, hj', Array.getD]
     ·have hj' := (List.getElem?_eq_some_iff.1 hj).1
      have hja : j < arr.size := by omega
      simp only [Array.getD, hja, dif_pos]
      exact hrel j x _ hj (Array.getElem?_eq_getElem hja)
   ·cases he
  | tup cs => cases he
  | fn f cs =>
   injection he with e1 e2 e3 e4
   subst e1; subst e2; subst e3; subst e4
   refine ⟨rfl, fin (one ?_ hcr')⟩
   cases hcr; exact fnV_cells _ _
  | rop cs off =>
   injection he with e1 e2 e3 e4
   subst e1; subst e2; subst e3; subst e4
   refine ⟨rfl, fin (one ?_ hcr')⟩
   cases hcr; rfl
  | val u =>
   simp only at he
   split at he
   ·rename_i hone
    injection he with e1 e2 e3 e4
    subst e1; subst e2; subst e3; subst e4
    refine ⟨rfl, fin (one ?_ hcr')⟩
    have := hA.one hone
    cases V <;> first | rfl | simp [Value.oneCell'] at this
   ·cases he
  | ref => cases he
  | tref => cases he
  | osl => cases he
  | optr => cases he
  | csl => cases he
  | yld => cases he
  | mp => cases he
  | refx => cases he
 ·split at he
  ·rename_i hall
   injection he with e1 e2 e3 e4
   subst e1; subst e2; subst e3; subst e4
   refine ⟨rfl, ?_⟩
   obtain ⟨e1, e2⟩ := box_sound (P := P) (t := t) hA hall
   obtain ⟨own', γ', g1, g2, g3, g4⟩ := hm.newCells hid hu hid' (qcs (w := w) V.cells t) e2
   exact ⟨_, _, Z, own', γ', e1, g1, g2, g3, .ref _ _ _ g4⟩
  ·cases he
theorem nodup_st {l : List Mv} (h : nodupB (l.map (·.st)) = true) {i : Nat} : nodupB ((l.map fun e => (i, e)).map fun e => (e.1, e.2.st)) = true := by
 induction l with
 | nil => rfl
 | cons x l ih =>
  simp only [List.map_cons, nodupB, Bool.and_eq_true, Bool.not_eq_true'] at h ⊢
  refine ⟨?_, by simpa using ih h.2⟩
  cases hc : (List.map (fun e : Nat × Mv => (e.1, e.2.st)) (List.map (fun e => (i, e)) l)).contains (i, x.st) with
  | false => rfl
  | true =>
   exfalso
   rw [List.contains_iff_mem] at hc
   obtain ⟨e, he, e1⟩ := List.mem_map.1 hc
   obtain ⟨e', he', rfl⟩ := List.mem_map.1 he
   injection e1 with _ e1
   have : (l.map (·.st)).contains x.st = true := List.contains_iff_mem.2 (List.mem_map.2 ⟨e', he', e1⟩)
   rw [this] at h
   cases h.1
theorem adata_sound (hT : TyOK E.P E.ty) (hm : MemR w0 K w Z own γ h used) (hid : ¬ used id) (hu : ∀ s, used s → used' s) (hid' : used' id) {t : TypeId} {i : TI} (hi : E.ty t = some i) {C : List Prop} {ws : List (Nat × Option Root)} {sk : Bool} {lv : Nat} (he : adata h id lv i cs = .w C a ws sk) (hC : AllP C)
  {arr : Array Value} (hv : VRs w Z γ cs arr.toList) {m : Sem Value} (hrun : m.run E.P w = .ok (.pointer (some ⟨w.heap.size, 0, none⟩)) (w.alloc (.cells arr t))) : sk = false ∧ WOK E.P w0 K w Z γ h used used' m a ws := by
 unfold adata at he
 split at he
 ·rename_i S hS
  split at he
  ·rename_i hcond
   obtain ⟨c1, c2, c3, c4⟩ := hcond
   split at he
   ·split at he
    ·rename_i C0 cs' ws0 hcl
     split at he
     ·rename_i x hx
      injection he with e1 e2 e3 e4
      subst e1; subst e2; subst e3; subst e4
      refine ⟨rfl, ?_⟩
      obtain ⟨Z1, own1, k1, k2, k3⟩ := qfh hm hcl hC hv
      obtain ⟨us, rest, hus, hfr, hrest⟩ := qfy hx ⟨k2, k3⟩
      have hr0 : rest = [] := List.eq_nil_of_length_eq_zero (by simpa using hrest.1.symm)
      subst hr0
      rw [List.append_nil] at hus
      have hl := hfr.len
      have hroom : room i.bytes [x].length := ⟨by simpa using c3, by simp [roomB]⟩
      obtain ⟨own', γ', g1, g2, g3, _, g5⟩ := k1.mem.newArr hid hu hid' (qcs (w := w) arr t) (m := 0) (b := i.bytes) (S := S) (xs := [x]) (c := 1) (.inl rfl) (by simp) hroom (by rw [Nat.one_mul, ← hl, ← hus, Array.length_toList]; exact Nat.le_refl _) (fun j y hy => by
       have hj := (List.getElem?_eq_some_iff.1 hy).1
       simp only [List.length_cons, List.length_nil] at hj
       have : j = 0 := by omega
       subst this
       simp only [lat, List.getElem?_cons_zero, Option.some.injEq] at hy
       subst hy
       rw [Nat.zero_mul, hus, seg_all hl]
       exact hfr)
      refine ⟨_, _, Z1, own', γ', hrun, k1.stay.trans g1, g2, by rw [qea]; exact g3, ?_⟩
      have := VR.tref (w := w.alloc (.cells arr t)) (Z := Z1) (γ := γ') id id [] 0 [] _ w.heap.size 0 0 S g5 (by simp) rfl (by cases S <;> rfl)
      simpa using this
     ·cases he
    ·cases he
   ·rename_i hlv
    have hlv : lv ≠ 0 := by simpa using hlv
    have hlv' : lv - 1 + 1 = lv := by omega
    split at he
    ·rename_i x l hml
     split at he
     ·rename_i hnd
      simp only [Bool.and_eq_true] at hnd
      obtain ⟨hnd1, hnd2⟩ := hnd
      injection he with q1 q2 q3 q4
      subst q1; subst q2; subst q3; subst q4
      refine ⟨rfl, ?_⟩
      obtain ⟨us, rest, hus, hrest, hvl, hones, hrd, hor⟩ := moveIn_sound hm hml hv
      have hr0 : rest = [] := List.eq_nil_of_length_eq_zero (by simpa using hrest.1.symm)
      subst hr0
      rw [List.append_nil] at hus
      rw [hlv'] at hor
      let l2 : List (Nat × Mv) := l.map fun e => (0, e)
      have hl2 : l2.map (·.2) = l := by simp [l2, Function.comp_def]
      have hnd3 : nodupB (l2.map fun e => (e.1, e.2.st)) = true := nodup_st hnd2
      let nb := qcs (w := w) arr t
      have hmm := hm.dels (l := qcx l)
      have hroom : room i.bytes [x].length := ⟨by simpa using c3, by simp [roomB]⟩
      obtain ⟨own', γ', g1, g2, g3, _, g5⟩ := hmm.newArrG hid hu hid' nb (m := lv) (b := i.bytes) (S := S) (xs := [x]) (c := 1) (by simp) hroom (by rw [Nat.one_mul, ← hvl, ← hus, Array.length_toList]; exact Nat.le_refl _)
       (fun x => x ∈ qcx l) (fun r R hg hc => by rw [hget_mvDel, if_pos hc] at hg; cases hg) (gMv γ h (fun _ => none) (fun _ _ => true) [] [] l2) (oMv own id [] [] l2)
       (fun b' o ho hno => by
        unfold oMv
        rw [ho]
        simp only
        split
        ·rename_i e' he'
         exact absurd (qdg.2 ⟨e'.2, hl2 ▸ List.mem_map.2 ⟨e', List.mem_of_find?_eq_some he', rfl⟩, by simpa using List.find?_some he'⟩) hno
        ·rfl)
       (fun b' o ho => by
        unfold oMv at ho
        split at ho
        ·rename_i k q hkq
         split at ho
         ·rename_i e' he'
          exact .inr ⟨_, hkq, qdg.2 ⟨e'.2, hl2 ▸ List.mem_map.2 ⟨e', List.mem_of_find?_eq_some he', rfl⟩, by simpa using List.find?_some he'⟩⟩
         ·rename_i he'
          injection ho with ho
          subst ho
          refine .inl ⟨hkq, fun hc => ?_⟩
          obtain ⟨e', m1, m2⟩ := qdg.1 hc
          rw [List.find?_eq_none] at he'
          exact he' (0, e') (List.mem_map.2 ⟨e', m1, rfl⟩) (by simp [m2])
        ·cases ho)
       (by
        intro q j s' hd hq
        have hq : gMv γ h (fun _ => none) (fun _ _ => true) [] [] l2 (q ++ [(j, s')]) = some hd := by simpa using hq
        rcases q with _ | ⟨⟨k, u⟩, rest⟩
        ·rw [show ([] ++ [(j, s')] : Pth) = [] ++ (j, s') :: [] from rfl, gMv_in rfl] at hq
         split at hq
         ·rename_i e' he'
          have hf := List.find?_some he'
          simp only [Bool.and_eq_true, beq_iff_eq] at hf
          obtain ⟨e'', _, rfl⟩ := List.mem_map.1 (List.mem_of_find?_eq_some he')
          exact ⟨_, if_pos rfl, by rw [← hf.1]; simp⟩
         ·cases hq
        ·rw [show ((k, u) :: rest ++ [(j, s')] : Pth) = [] ++ (k, u) :: (rest ++ [(j, s')]) from rfl, gMv_in rfl] at hq
         split at hq
         ·rename_i e' he'
          split at hq
          ·simp at hq
          ·rename_i r2 hr2
           split at hq
           ·rename_i R2 hR2
            obtain ⟨e'', hme, rfl⟩ := List.mem_map.1 (List.mem_of_find?_eq_some he')
            have hr2 : e''.r = some r2 := hr2
            obtain ⟨s2, R2', m2, t2, hrd⟩ := hrd e'' hme r2 hr2
            obtain ⟨y1, _, _, b2, S2, xs2, y2, _⟩ := hm.data hrd
            rw [hR2] at y1
            injection y1 with y1
            subst y1
            obtain ⟨hdq, hq, _⟩ := Option.map_eq_some_iff.1 hq
            obtain ⟨hd0, f1, f2⟩ := hm.dom hR2 y2 _ _ _ _ hq
            refine ⟨e''.hd rest hd0, ?_, by rw [Mv.hd_n]; exact f2⟩
            show (if ((k, u) :: rest : Pth) = [] then _ else gMv γ h (fun _ => none) (fun _ _ => true) [] [] l2 ([] ++ (k, u) :: rest)) = _
            rw [if_neg (by simp), gMv_in rfl, he']
            simp only [hr2, hR2, f1, Option.map_some]
           ·cases hq
         ·cases hq)
       (fun j y hy => by
        have hj := (List.getElem?_eq_some_iff.1 hy).1
        simp only [List.length_cons, List.length_nil] at hj
        have : j = 0 := by omega
        subst this
        simp only [lat, List.getElem?_cons_zero, Option.some.injEq] at hy
        subst hy
        rw [Nat.zero_mul, hus, seg_all hvl]
        exact hor _ Z _ _ id _ [] 0 [] (nb.stay hm.zlt) (MvL_ok hm (l := l2) (base := fun _ => none) (cov := fun _ _ => true) (by rw [hl2]; exact hnd1) hnd3 (fun _ _ => rfl) (fun k s' rest => by simp) (fun b' o ho hex => by rw [if_neg (by have := hm.ownlt b' o ho; omega)]) (fun b' k q row ho hex hrow => by rw [qfo (nb.old b' (hm.ownlt b' _ ho))]; exact hrow) (fun e he => List.mem_map.2 ⟨e, he, rfl⟩)))
      refine ⟨_, _, Z, own', γ', hrun, g1, g2, by rw [qea]; exact g3, ?_⟩
      have := VR.tref (w := w.alloc (.cells arr t)) (Z := Z) (γ := γ') id id [] 0 [] _ w.heap.size 0 0 S g5 (by simp) rfl (by cases S <;> rfl)
      simpa using this
     ·cases he
    ·cases he
  ·cases he
 ·cases he
end
end Go.BE
namespace Go.BE
open Go.RowKit
section
variable {P : Program} {E : Ctx} {w w' w0 : World} {Z Z' : Nat → Prop} {K : Kp} {own own' : Own} {γ γ' : Gst} {h h' : Heap} {used used' : Nat → Prop} {r s d id : Nat} {R : Root} {a A B : AV} {v V U : Value} {cs ds : List AV} {vs us : List Value}
theorem rnode_congr {p : Pth} (hg : hget h' r = hget h r) : rnode h' r s p = rnode h r s p := by unfold rnode rdata; rw [hg]
theorem upd_rows {b : Nat} {arr : Array Value} {e : TypeId} (hu : Upd w b arr e w') : rows w' b = some arr.toList := by unfold rows; rw [hu.row]; rfl
theorem MemR.used_mono (hm : MemR w0 K w Z own γ h used) (hu : ∀ s, used s → used' s) : MemR w0 K w Z own γ h used' :=
 hm.step (Stay.refl w Z) (Gst.Ext.refl used γ) hu rfl rfl rfl (Nat.le_refl _) (fun _ => False) (fun _ _ _ => rfl) (fun _ _ ho _ => ho) (fun _ _ ho => .inl ⟨ho, fun h => h⟩) (fun b hb => ⟨hm.zlt b hb, .inl hb⟩) (fun _ _ hg => .inl ⟨hg, fun h => h⟩) (fun s hs => hm.fresh s (fun h => hs (hu s h)))
theorem stEq_ok : ∀ {a b : List St} {C : List Prop}, stEq a b = some C → AllP C → a = b
 | [], [], _, _, _ => rfl
 | .l :: a, .l :: b, C, h, hc => by rw [stEq_ok (a := a) (b := b) h hc]
 | .r :: a, .r :: b, C, h, hc => by rw [stEq_ok (a := a) (b := b) h hc]
 | .a i :: a, .a j :: b, C, h, hc => by
  simp only [stEq] at h
  obtain ⟨D, h1, rfl⟩ := Option.map_eq_some_iff.1 h
  rw [hc.1, stEq_ok h1 hc.2]
 | [], _ :: _, _, h, _ => by simp [stEq] at h
 | _ :: _, [], _, h, _ => by simp [stEq] at h
 | .l :: _, .r :: _, _, h, _ => by simp [stEq] at h
 | .l :: _, .a _ :: _, _, h, _ => by simp [stEq] at h
 | .r :: _, .l :: _, _, h, _ => by simp [stEq] at h
 | .r :: _, .a _ :: _, _, h, _ => by simp [stEq] at h
 | .a _ :: _, .l :: _, _, h, _ => by simp [stEq] at h
 | .a _ :: _, .r :: _, _, h, _ => by simp [stEq] at h
theorem pthEq_ok : ∀ {a b : Pth} {C : List Prop}, pthEq a b = some C → AllP C → a = b
 | [], [], _, _, _ => rfl
 | (i, s) :: p, (j, t) :: q, C, h, hc => by
  simp only [pthEq] at h
  split at h
  ·rename_i D F h1 h2
   injection h with h
   subst h
   obtain ⟨e1, hc⟩ := hc
   rw [AllP.append] at hc
   rw [e1, stEq_ok h1 hc.1, pthEq_ok h2 hc.2]
  ·cases h
 | [], _ :: _, _, h, _ => by simp [pthEq] at h
 | _ :: _, [], _, h, _ => by simp [pthEq] at h
theorem astorePend_sound (hm : MemR w0 K w Z own γ h used) (hu : ∀ s, used s → used' s) {p : Pth} {i : Nat} {st : List St} {C : List Prop} {ws : List (Nat × Option Root)} {sk : Bool} {t : TypeId} {ti : TypeInfo} (h1 : E.P.info? t = some ti) (h2 : ti.size = 1) (he : astorePend h r s p i st A = .w C a ws sk) (hC : AllP C) (hA : VR w Z γ A V) (hB : VR w Z γ (.tref r s p i st) U) :
  sk = true ∧ a = .val undef ∧ ∃ w' Z' own' γ', (Instr.storeAt t U V).run E.P w = .ok () w' ∧ Stay w Z w' Z' ∧ Gst.Ext used γ γ' ∧ MemR w0 K w' Z' own' γ' (qav h ws) used' := by
 unfold astorePend at he
 split at he
 ·rename_i R hR
  split at he
  ·rename_i P0 r' s' P' hpd
   split at he
   ·rename_i hcond
    obtain ⟨rfl, rfl, hv, hf⟩ := hcond
    split at he
    ·rename_i C1 D1 e1 e2
     injection he with q1 q2 q3 q4
     subst q1; subst q2; subst q3; subst q4
     refine ⟨rfl, rfl, ?_⟩
     rw [AllP.append] at hC
     have eP := pthEq_ok e1 hC.1
     have eP' := pthEq_ok e2 hC.2
     subst eP'
     have hr := hm.root r' R hR
     have hcr := hr.cont
     unfold ContR at hcr
     split at hcr
     ·rename_i cs hcs
      obtain ⟨_, hq, _⟩ := hcr
      rw [hpd] at hq
      cases hq
     ·rename_i x hcs
      obtain ⟨_, hq, _⟩ := hcr
      rw [hpd] at hq
      cases hq
     ·rename_i m b0 S0 xs0 hcs
      simp only [hf, hpd, Bool.false_eq_true, if_false] at hcr
      obtain ⟨hrd, p0, i0, st0, hd0, bb, oo, so, T, hd, v0, row, f1, f2, f3, f4, f5, f6, f7, f8, f9, f10, f11⟩ := hcr
      rw [eP] at f1
      obtain ⟨rfl, f1'⟩ := List.append_inj' f1 rfl
      simp only [List.cons.injEq, Prod.mk.injEq, and_true] at f1'
      obtain ⟨rfl, rfl⟩ := f1'
      obtain ⟨hd', b', o', so', T', g1, g2, g3, g4, rfl⟩ := hB.tref_inv
      have := hr.valid_hd hv g1
      rw [f2] at this
      injection this with this
      subst this
      rw [f3] at g3; injection g3 with g3; injection g3 with g3 g3'; subst g3; subst g3'
      rw [f4] at g4; injection g4 with g4; injection g4 with _ g4; subst g4
      obtain ⟨hd2, k1, k2⟩ := hA.osl_inv
      rw [f5] at k1
      injection k1 with k1
      subst k1
      obtain ⟨_, ad, c, rfl, k3, k4, k5, k6⟩ := k2
      simp only [wlen, wlo, Nat.zero_mul, Nat.add_zero, Nat.zero_add] at k3 k5 k6
      have hHV : HVal hd (.slice ad hd.n c) := by
       unfold HVal
       rw [f6]
       exact ⟨ad, c, rfl, k3, k5, k6⟩
      obtain ⟨arr, et, hrow, hrl⟩ := rows_heap f9
      obtain ⟨w', arr', e1, e2, e3⟩ := qdf (P := E.P) bb (oo + i * hd0.S.size + so) et [.slice ad hd.n c] 0 w arr hrow (by simp only [List.length_cons, List.length_nil]; rw [← Array.length_toList, hrl]; omega) (fun u hu => by simp at hu; subst hu; rfl)
      rw [Nat.add_zero, hrl, qdn _ _ _ (by simp; omega), splice_one f10] at e2
      have hst : Stay w Z w' Z := ⟨fun k hk => e3.other k (fun hkb => hm.ownZ bb _ f8 (hkb ▸ hk)), fun _ h => h⟩
      obtain ⟨k7, k8, k9⟩ := hm.keys r' R hR
      have hwang : (wlen hd.n none : Nat) = hd.n := rfl
      refine ⟨w', Z, own, γ, ?_, hst, Gst.Ext.refl _ _, ?_⟩
      ·simp only [Instr.storeAt, Instr.sureAddr, Sem.run_bind, Sem.run_pure, Result.andThen_ok, storeVar, qaw h1 h2]
       rw [if_neg (by simp [Value.cells])]
       exact e1
      ·show MemR w0 K w' Z own γ (hput h r' { R with pend := none }) used'
       refine hm.step hst (Gst.Ext.refl used γ) hu e3.os e3.tape e3.output (by rw [e3.size]; exact Nat.le_refl _) (fun x => x = r') (fun k hk hno => e3.other k (fun hkb => by subst hkb; exact hno _ f8 rfl)) (fun k o ho' _ => ho') (fun k o ho' => ?_) (fun k hk => ⟨by rw [e3.size]; exact hm.zlt k hk, .inl hk⟩) (fun r2 R2 hg => ?_) (fun s hs => hm.fresh s (fun h => hs (hu s h)))
       ·by_cases hq : o.1 = r'
        ·exact .inr ⟨by rw [e3.size]; exact hm.ownlt _ _ ho', hm.ownZ _ _ ho', .inl ⟨_, ho', hq⟩⟩
        ·exact .inl ⟨ho', hq⟩
       ·rw [qbr] at hg
        split at hg
        ·rename_i hrr
         injection hg with hg
         subst hg; subst hrr
         refine .inr ⟨⟨hr.old, ?_⟩, hu _ k7, hu _ k8, fun e he => hu _ (k9 e he)⟩
         unfold ContR
         simp only [hcs, hf, Bool.false_eq_true, if_false]
         refine ⟨hrd, (f11 _ hHV).frame hst (fun _ _ h => h) fun k q row' ho hM => ⟨ho, ?_⟩⟩
         unfold rowsPut at hM
         split at hM
         ·rename_i hk
          subst hk
          rw [f9] at hM
          injection hM with hM
          rw [upd_rows e3, e2]
          exact congrArg some hM
         ·rename_i hk
          rw [qfo (e3.other k hk)]
          exact hM
        ·rename_i hne
         exact .inl ⟨hg, hne⟩
     ·rename_i l hcs
      rw [hpd] at hcr
      cases hcr.2.1
    ·cases he
   ·cases he
  ·cases he
 ·cases he
theorem oldCut_mem {d : Nat} : ∀ {l : List (Nat × List Nat × Nat)} {e : Nat × List Nat × Nat}, e ∈ oldCut d l → ∃ e0 ∈ l, e = (e0.1, e0.2.1, min e0.2.2 d)
 | [], e, he => by cases he
 | (k, bad, cut) :: l, e, he => by
  simp only [oldCut, List.mem_cons] at he
  rcases he with rfl | he
  ·exact ⟨_, List.mem_cons_self, rfl⟩
  ·obtain ⟨e0, q1, q2⟩ := oldCut_mem he
   exact ⟨e0, List.mem_cons_of_mem _ q1, q2⟩
theorem astore_sound (hT : TyOK E.P E.ty) (hm : MemR w0 K w Z own γ h used) (hid : ¬ used id) (hu : ∀ s, used s → used' s) (hid' : used' id) {t : TypeId} {C : List Prop} {ws : List (Nat × Option Root)} {sk : Bool} (he : astore E h id t A B = .w C a ws sk) (hC : AllP C) (hA : VR w Z γ A V) (hB : VR w Z γ B U) :
  sk = true ∧ a = .val undef ∧ ∃ w' Z' own' γ', (Instr.storeAt t U V).run E.P w = .ok () w' ∧ Stay w Z w' Z' ∧ Gst.Ext used γ γ' ∧ MemR w0 K w' Z' own' γ' (qav h ws) used' := by
 unfold astore at he
 split at he
 ·rename_i r off
  split at he
  ·rename_i i R hi hR
   split at he
   ·rename_i cs hc
    split at he
    ·rename_i hcond
     obtain ⟨c1, c2, c3⟩ := hcond
     injection he with e1 e2 e3 e4
     subst e1; subst e2; subst e3; subst e4
     refine ⟨rfl, rfl, ?_⟩
     obtain ⟨b, hb, ho, hf, hpn, arr, e, hrow, hrel⟩ := hm.cells hR hc
     obtain ⟨b', hb', rfl⟩ := hB.ref_inv
     rw [hb] at hb'
     injection hb' with hb'
     subst hb'
     obtain ⟨ti, h1, h2, _⟩ := (hT t i hi).info
     have hcells := AV.one_cells hA c3
     have hsz : V.cells.size = i.size := by rw [← Array.length_toList, ← hcells.1]; exact c1
     have hasz : cs.length = arr.size := by rw [hrel.1]; simp
     obtain ⟨w', arr', e1, e2, e3⟩ := qdf (P := E.P) b off e V.cells.toList 0 w arr hrow (by rw [← hcells.1, c1]; omega) (hcells.ones c3)
     have hst : Stay w Z w' Z := ⟨fun k hk => e3.other k (fun hkb => hm.ownZ b _ ho (hkb ▸ hk)), fun _ h => h⟩
     obtain ⟨q1, q2, q3⟩ := hm.keys r R hR
     refine ⟨w', Z, own, γ, ?_, hst, Gst.Ext.refl _ _, ?_⟩
     ·simp only [Instr.storeAt, Instr.sureAddr, Sem.run_bind, Sem.run_pure, Result.andThen_ok, storeVar, qaw h1 h2]
      rw [if_neg (by simp [hsz])]
      exact e1
     ·refine hm.step hst (Gst.Ext.refl used γ) hu e3.os e3.tape e3.output (by rw [e3.size]; exact Nat.le_refl _) (fun x => x = r) (fun k hk hno => e3.other k (fun hkb => by subst hkb; exact hno _ ho rfl)) (fun k o ho' _ => ho') (fun k o ho' => ?_) (fun k hk => ⟨by rw [e3.size]; exact hm.zlt k hk, .inl hk⟩) (fun r' R' hg => ?_) (fun s hs => hm.fresh s (fun h => hs (hu s h)))
      ·by_cases hq : o.1 = r
       ·exact .inr ⟨by rw [e3.size]; exact hm.ownlt _ _ ho', hm.ownZ _ _ ho', .inl ⟨_, ho', hq⟩⟩
       ·exact .inl ⟨ho', hq⟩
      ·simp only [qav, qbr] at hg
       split at hg
       ·rename_i hrr
        injection hg with hg
        subst hg; subst hrr
        refine .inr ⟨⟨(hm.root _ R hR).old, ?_⟩, hu _ q1, hu _ q2, fun e he => hu _ (q3 e he)⟩
        unfold ContR
        simp only
        refine ⟨hf, hpn, b, arr', e, hb, ho, e3.row, ?_⟩
        rw [e2, Nat.add_zero]
        exact (hcells.setCells hrel).mono hst (Gst.Le.refl γ)
       ·rename_i hne
        exact .inl ⟨hg, hne⟩
    ·cases he
   ·cases he
  ·cases he
 ·rename_i r s p i st
  split at he
  ·split at he
   ·rename_i hty
    obtain ⟨ti, h1, h2, _⟩ := (hT t _ hty).info
    exact astorePend_sound hm hu h1 h2 he hC hA hB
   ·cases he
  ·split at he
   ·rename_i ti N hi hN
    split at he
    ·rename_i u hu'
     split at he
     ·rename_i hcond
      simp only [Bool.and_eq_true] at hcond
      obtain ⟨hfit, hone⟩ := hcond
      have hcells := AV.one_cells hA hone
      split at he
      ·rename_i hflat
       simp only [Bool.or_eq_true, beq_iff_eq] at hflat
       split at he
       ·rename_i C0 cs' ws0 hcl
        split at he
        ·rename_i hall
         split at he
         ·rename_i y hy
          split at he
          ·rename_i x hx
           split at he
           ·rename_i c hc
            injection he with e1 e2 e3 e4
            subst e1; subst e2; subst e3; subst e4
            refine ⟨rfl, rfl, ?_⟩
            rw [AllP.append] at hC
            have hC0 := hC.1
            have hC := hC.2
            obtain ⟨Z1, own1, k1, k2, k3⟩ := qfh hm hcl hC0 hcells
            obtain ⟨us, rest, hus, hfr, hrest⟩ := qfy hy ⟨k2, k3⟩
            have hr0 : rest = [] := List.eq_nil_of_length_eq_zero (by simpa using hrest.1.symm)
            subst hr0
            rw [List.append_nil] at hus
            subst hus
            have hmm := k1.mem
            have hgr : hget (qav h ws0) r = hget h r := hget_other_ws hall
            have hN1 : rnode (qav h ws0) r s p = some N := by rw [rnode_congr hgr]; exact hN
            have hB1 := hB.mono k1.stay (Gst.Le.refl γ)
            obtain ⟨hd, b, o, row, so, p1, p2, p3, p4, p5, p6, p7, p8, hU, p10⟩ := hmm.place hN1 hu' hC hB1
            subst hU
            rw [AllP.append] at hC
            obtain ⟨hC1, hi', hC2⟩ := hC
            obtain ⟨⟨n1, n2, n3, n4, n5, n6⟩, ⟨b0, S0, xs0, m1, m2, m3, m4, m5, m6⟩, _⟩ := hmm.node hN1 hC1
            obtain ⟨tti, h1, h2, _⟩ := (hT t ti hi).info
            simp only [fits, Bool.and_eq_true, beq_iff_eq] at hfit
            have hvl := hfr.len
            have hsz : V.cells.size = ti.size := by rw [← Array.length_toList, hvl, hfit.1]
            obtain ⟨arr, et, hrow, hrl⟩ := rows_heap p6
            obtain ⟨w', arr', e1, e2, e3⟩ := qdf (P := E.P) b (o + i * N.n.S.size + so) et V.cells.toList 0 w arr hrow (by rw [hvl, ← Array.length_toList, hrl]; omega) hfr.ones
            rw [Nat.add_zero, hrl, qdn _ _ _ (by rw [hvl]; exact p8)] at e2
            have hst : Stay w Z1 w' Z1 := ⟨fun k hk => e3.other k (fun hkb => hmm.ownZ b _ p5 (hkb ▸ hk)), fun _ h => h⟩
            obtain ⟨q1, q2, q3⟩ := hmm.keys r N.R n1
            refine ⟨w', Z1, own1, γ, ?_, k1.stay.trans hst, Gst.Ext.refl _ _, ?_⟩
            ·simp only [Instr.storeAt, Instr.sureAddr, Sem.run_bind, Sem.run_pure, Result.andThen_ok, storeVar, qaw h1 h2]
             rw [if_neg (by simp [hsz])]
             exact e1
            ·rw [qea]
             refine hmm.step hst (Gst.Ext.refl used γ) hu e3.os e3.tape e3.output (by rw [e3.size]; exact Nat.le_refl _) (fun x => x = r) (fun k hk hno => e3.other k (fun hkb => by subst hkb; exact hno _ p5 rfl)) (fun k o ho' _ => ho') (fun k o ho' => ?_) (fun k hk => ⟨by rw [e3.size]; exact hmm.zlt k hk, .inl hk⟩) (fun r' R' hg => ?_) (fun s hs => hmm.fresh s (fun h => hs (hu s h)))
             ·by_cases hq : o.1 = r
              ·exact .inr ⟨by rw [e3.size]; exact hmm.ownlt _ _ ho', hmm.ownZ _ _ ho', .inl ⟨_, ho', hq⟩⟩
              ·exact .inl ⟨ho', hq⟩
             ·rw [qbr] at hg
              split at hg
              ·rename_i hrr
               injection hg with hg
               subst hg; subst hrr
               refine .inr ⟨⟨(hmm.root _ _ n1).old, ?_⟩, hu _ q1, hu _ q2, fun e he => hu _ (q3 e he)⟩
               obtain ⟨T, yv⟩ := u
               obtain ⟨NC, NR, Nm, Nd, Nn⟩ := N
               simp only at m1 m2 m4 m5 m6 n1 n2 n3 n4 n5 n6 hx hc p1 p2 p3 p5 p8 p10 e2 hi' hC1 hC2 hu' hflat hfr hy hvl e1
               subst m2
               obtain ⟨_, hpl⟩ := qbv.place (w' := w') (Z' := Z1) (M' := rows w') (own' := own1) (g' := γ.G NR.cur) hst p (t := ⟨.sl b0 S0, xs0⟩) (n0 := ⟨S0, xs0, false⟩) (n := Nn) (p0 := []) rfl m6 n4 n6 (by rw [← n5]; exact hC1)
               obtain ⟨hd2, b2, o2, row2, so2, f1, f2, f3, f4, f5, f6, f7, f8, f9, f10⟩ := hpl hi' hu' hC2
               simp only [List.nil_append] at f1 f5 f9 f10
               rw [p1] at f1
               injection f1 with f1
               subst f1
               rw [p4] at f4
               injection f4 with f4
               injection f4 with f4 f4'
               subst f4; subst f4'
               rw [p6] at f6
               injection f6 with f6
               subst f6
               rw [p7] at f7
               injection f7 with f7
               injection f7 with _ f7
               subst f7
               obtain ⟨n', g1, g2, g3, g4⟩ := f10 (y' := y) (us' := V.cells.toList) (x' := x) (fun q hd _ hq => hq) (fun b' q row0 _ ho hM => ⟨ho, by
                by_cases hbb : b' = b
                ·subst hbb
                 rw [if_pos rfl, upd_rows e3, e2]
                ·rw [if_neg hbb, qfo (e3.other b' hbb)]
                 exact hM⟩) (OR.of_FR (by rcases hflat with h | h; exact .inl h; exact .inr h) (hfr.mono hst)) hx
               unfold ContR
               unfold Root.setD at hc
               simp only [m1] at hc
               obtain ⟨x', hx', rfl⟩ := Option.map_eq_some_iff.1 hc
               have hxe : x' = x := by
                have := castD_self (.sl b0 S0) x
                rw [this] at hx'
                exact (Option.some.inj hx').symm
               subst hxe
               have hn' : n' = ⟨S0, x', false⟩ := (Option.some.inj (g1 : qco ⟨.sl b0 S0, x'⟩ = some n')).symm
               subst hn'
               simp only [m4, m5, Bool.false_eq_true, if_false]
               refine ⟨⟨?_, hmm.dom n1 m1⟩, g4⟩
               have : List.length (α := Den S0) x' = xs0.length := g3
               show room b0 (List.length (α := Den S0) x')
               rw [this]
               exact m3
              ·rename_i hne
               exact .inl ⟨hg, hne⟩
           ·cases he
          ·cases he
         ·cases he
        ·cases he
       ·cases he
      ·rename_i hflat
       simp only [Bool.or_eq_true, beq_iff_eq, not_or] at hflat
       split at he
       ·rename_i y l hml
        split at he
        ·rename_i hnd
         simp only [Bool.and_eq_true] at hnd
         obtain ⟨hnd1, hnd2⟩ := hnd
         obtain ⟨hrl, hnd3⟩ := nodupB_cons hnd1
         split at he
         ·rename_i x hx
          split at he
          ·rename_i c hc
           injection he with q1 q2 q3 q4
           subst q1; subst q2; subst q3; subst q4
           refine ⟨rfl, rfl, ?_⟩
           obtain ⟨us, rest, hus, hrest, hvl, hones, hrd, hor⟩ := moveIn_sound hm hml hcells
           have hr0 : rest = [] := List.eq_nil_of_length_eq_zero (by simpa using hrest.1.symm)
           subst hr0
           rw [List.append_nil] at hus
           subst hus
           obtain ⟨hd, b, o, row, so, p1, p2, p3, p4, p5, p6, p7, p8, hU, p10⟩ := hm.place hN hu' hC hB
           subst hU
           rw [AllP.append] at hC
           obtain ⟨hC1, hi', hC2⟩ := hC
           obtain ⟨⟨n1, n2, n3, n4, n5, n6⟩, ⟨b0, S0, xs0, m1, m2, m3, m4, m5, m6⟩, _⟩ := hm.node hN hC1
           obtain ⟨tti, h1, h2, _⟩ := (hT t ti hi).info
           simp only [fits, Bool.and_eq_true, beq_iff_eq] at hfit
           have hsz : V.cells.size = ti.size := by rw [← Array.length_toList, hvl, hfit.1]
           obtain ⟨arr, et, hrow, hrl'⟩ := rows_heap p6
           obtain ⟨w', arr', e1, e2, e3⟩ := qdf (P := E.P) b (o + i * N.n.S.size + so) et V.cells.toList 0 w arr hrow (by rw [hvl, ← Array.length_toList, hrl']; omega) hones
           rw [Nat.add_zero, hrl', qdn _ _ _ (by rw [hvl]; exact p8)] at e2
           have hst : Stay w Z w' Z := ⟨fun k hk => e3.other k (fun hkb => hm.ownZ b _ p5 (hkb ▸ hk)), fun _ h => h⟩
           obtain ⟨k1, k2, k3⟩ := hm.keys r N.R n1
           let l2 : List (Nat × Mv) := l.map fun e => (i, e)
           have hl2 : l2.map (·.2) = l := by simp [l2, Function.comp_def]
           let cov : Nat → List St → Bool := fun k s' => k == i && st.isPrefixOf s'
           let g : Pth → Option Hd := gMv γ h (γ.G N.R.cur) cov p st l2
           let own2 : Own := oMv own r p st l2
           have he' := Gst.setG_ext (γ := γ) hid g
           have hG : (γ.setG id g).G id = g := by simp [Gst.setG, upd]
           have hcov : ∀ {s2 : List St}, cov i (st ++ s2) = true := by simp [cov]
           have gout : ∀ q, ¬ Under p i st q → g q = γ.G N.R.cur q := fun q hq => gMv_out fun k s' rest e => by
            cases hcv : cov k s' with
            | false => rfl
            | true =>
             simp only [cov, Bool.and_eq_true, beq_iff_eq, List.isPrefixOf_iff_prefix] at hcv
             obtain ⟨rfl, s2, rfl⟩ := hcv
             exact absurd ⟨s2, rest, e⟩ hq
           have hown : ∀ k o', own k = some o' → o'.1 ∉ qcx l → own2 k = some o' := fun k o' ho hno => by
            simp only [own2, oMv, ho]
            split
            ·rename_i e' he'
             refine absurd (qdg.2 ⟨e'.2, ?_, by simpa using List.find?_some he'⟩) hno
             obtain ⟨e'', h1, rfl⟩ := List.mem_map.1 (List.mem_of_find?_eq_some he')
             exact h1
            ·rfl
           have hdom : Dom g := by
            intro q j s' hd' hq
            by_cases hun : Under p i st (q ++ [(j, s')])
            ·obtain ⟨s2, rest, e⟩ := hun
             rcases List.eq_nil_or_concat rest with rfl | ⟨rest1, x1, rfl⟩
             ·obtain ⟨rfl, e5⟩ := List.append_inj' e rfl
              simp only [List.cons.injEq, Prod.mk.injEq, and_true] at e5
              obtain ⟨rfl, _⟩ := e5
              refine ⟨hd, ?_, by rw [p3]; exact hi'⟩
              rw [gout _ (fun hx => qfs hx)]
              exact p1
             ·rw [List.concat_eq_append] at e
              have e' : q ++ [(j, s')] = (p ++ (i, st ++ s2) :: rest1) ++ [x1] := by rw [e]; simp
              obtain ⟨rfl, e5⟩ := List.append_inj' e' rfl
              injection e5 with e5
              subst e5
              have hq : gMv γ h (γ.G N.R.cur) cov p st l2 (p ++ (i, st ++ s2) :: (rest1 ++ [(j, s')])) = some hd' := by simpa using hq
              rw [gMv_in hcov] at hq
              show ∃ hd0, gMv γ h (γ.G N.R.cur) cov p st l2 (p ++ (i, st ++ s2) :: rest1) = some hd0 ∧ j < hd0.n
              rw [gMv_in hcov]
              split at hq
              ·rename_i e2 he2
               split at hq
               ·simp at hq
               ·rename_i r2 hr2
                split at hq
                ·rename_i R2 hR2
                 obtain ⟨e3, h3, rfl⟩ := List.mem_map.1 (List.mem_of_find?_eq_some he2)
                 obtain ⟨s3, R2', m2', t2, hrd2⟩ := hrd e3 h3 r2 hr2
                 obtain ⟨y1, _, _, b2, S2, xs2, y2, _⟩ := hm.data hrd2
                 rw [hR2] at y1
                 injection y1 with y1
                 subst y1
                 obtain ⟨hdq, hq, _⟩ := Option.map_eq_some_iff.1 hq
                 obtain ⟨hd0, f1, f2⟩ := hm.dom hR2 y2 _ _ _ _ hq
                 refine ⟨e3.hd rest1 hd0, ?_, by rw [Mv.hd_n]; exact f2⟩
                 first | simp only [he2, hr2, hR2, f1, Option.map_some] | simp only [hr2, hR2, f1, Option.map_some]
                ·cases hq
              ·cases hq
            ·rw [gout _ hun] at hq
             obtain ⟨hd0, f1, f2⟩ := hm.dom n1 m1 _ _ _ _ hq
             refine ⟨hd0, ?_, f2⟩
             rw [gout _ (fun ⟨s2, rest, e⟩ => hun ⟨s2, rest ++ [(j, s')], by rw [e]; simp⟩)]
             exact f1
           refine ⟨w', Z, own2, γ.setG id g, ?_, hst, he', ?_⟩
           ·simp only [Instr.storeAt, Instr.sureAddr, Sem.run_bind, Sem.run_pure, Result.andThen_ok, storeVar, qaw h1 h2]
            rw [if_neg (by simp [hsz])]
            exact e1
           ·rw [qea]
            refine (hm.dels (l := qcx l)).step hst he' hu e3.os e3.tape e3.output (by rw [e3.size]; exact Nat.le_refl _) (fun x => x = r ∨ x ∈ qcx l) (fun k hk hno => e3.other k (fun hkb => by subst hkb; exact hno _ p5 (.inl rfl))) (fun k o' ho hne => hown k o' ho (fun hx => hne (.inr hx))) (fun k o' ho' => ?_) (fun k hk => ⟨by rw [e3.size]; exact hm.zlt k hk, .inl hk⟩) (fun r' R' hg => ?_) (fun s hs => ?_)
            ·cases hko : own k with
             | none => simp [own2, oMv, hko] at ho'
             | some ko =>
              by_cases hkr : ko.1 = r ∨ ko.1 ∈ qcx l
              ·exact .inr ⟨by rw [e3.size]; exact hm.ownlt _ _ hko, hm.ownZ _ _ hko, .inl ⟨ko, rfl, hkr⟩⟩
              ·have := hown k ko hko (fun hx => hkr (.inr hx))
               rw [this] at ho'
               injection ho' with ho'
               subst ho'
               exact .inl ⟨rfl, hkr⟩
            ·rw [qbr] at hg
             split at hg
             ·rename_i hrr
              injection hg with hg
              subst hg; subst hrr
              refine .inr ⟨⟨fun e hmem q hd' f1 f2 f3 => ?_, ?_⟩, hu _ k1, hid', fun e hmem => ?_⟩
              ·show (γ.setG id g).G id q = some hd'
               rw [hG]
               have hmem' : e = (N.R.cur, [], p.length + 1) ∨ e ∈ oldCut (p.length + 1) N.R.old := by simpa [Root.rep] using hmem
               have hnu : q.length < p.length + 1 → ¬ Under p i st q := fun hl ⟨s2, rest, e⟩ => by
                have := congrArg List.length e
                simp at this
                omega
               rcases hmem' with rfl | hmem'
               ·rw [gout q (hnu f1)]
                rw [(he' _ k2).2] at f3
                exact f3
               ·obtain ⟨e0, g1, rfl⟩ := oldCut_mem hmem'
                have hlt : q.length < min e0.2.2 (p.length + 1) := f1
                rw [gout q (hnu (by omega))]
                rw [(he' _ (k3 e0 g1)).2] at f3
                exact n2.old e0 g1 q hd' (by omega) f2 f3
              ·obtain ⟨T, yv⟩ := u
               obtain ⟨NC, NR, Nm, Nd, Nn⟩ := N
               simp only at m1 m2 m4 m5 m6 n1 n2 n3 n4 n5 n6 hx hc p1 p2 p3 p5 p8 p10 e2 hi' hC1 hC2 hu' hflat hvl e1 hor hml
               subst m2
               obtain ⟨_, hpl⟩ := qbv.place (w' := w') (Z' := Z) (M' := rows w') (own' := own2) (g' := g) hst p (t := ⟨.sl b0 S0, xs0⟩) (n0 := ⟨S0, xs0, false⟩) (n := Nn) (p0 := []) rfl m6 n4 n6 (by rw [← n5]; exact hC1)
               obtain ⟨hd2, b2, o2, row2, so2, f1, f2, f3, f4, f5, f6, f7, f8, f9, f10⟩ := hpl hi' hu' hC2
               simp only [List.nil_append] at f1 f5 f9 f10
               rw [p1] at f1
               injection f1 with f1
               subst f1
               rw [p4] at f4
               injection f4 with f4
               injection f4 with f4 f4'
               subst f4; subst f4'
               rw [p6] at f6
               injection f6 with f6
               subst f6
               rw [p7] at f7
               injection f7 with f7
               injection f7 with _ f7
               subst f7
               have hlev : Nm - p.length - 1 + 1 = Nm - p.length := by have := hflat.1; omega
               have hOR := hor w' Z (rows w') own2 r' g p i st hst (MvL_ok hm (l := l2) (base := γ.G NR.cur) (cov := cov) (by rw [hl2]; exact hnd3) (by
                 have : l2.map (fun e => (e.1, e.2.st)) = (l.map (·.st)).map fun s => (i, s) := by simp [l2, Function.comp_def]
                 rw [this]
                 clear this hor hml hrd hdom hown
                 revert hnd2
                 generalize l.map (·.st) = ls
                 induction ls with
                 | nil => intro _; rfl
                 | cons x ls ih =>
                  intro hn
                  obtain ⟨a1, a2⟩ := nodupB_cons hn
                  simp only [List.map_cons, nodupB, Bool.and_eq_true, Bool.not_eq_true']
                  refine ⟨?_, ih a2⟩
                  cases hcc : (ls.map fun s => (i, s)).contains (i, x) with
                  | false => rfl
                  | true =>
                   rw [List.contains_iff_mem] at hcc
                   obtain ⟨s, hs, he⟩ := List.mem_map.1 hcc
                   injection he with _ he
                   subst he
                   exact absurd hs a1) (fun e hem => by obtain ⟨e', _, rfl⟩ := List.mem_map.1 hem; exact hcov) (fun k s' rest => rfl) (fun b' o' ho hex => rfl) (fun b' k q row' ho hex hrow' => by
                 rw [qfo (e3.other b' (fun e => ?_))]
                 ·exact hrow'
                 ·subst e
                  rw [p5] at ho
                  injection ho with ho
                  injection ho with ho _
                  subst ho
                  obtain ⟨e', he1, he2⟩ := hex
                  obtain ⟨e'', he3, rfl⟩ := List.mem_map.1 he1
                  exact hrl (qdg.2 ⟨e'', he3, he2⟩)) (fun e hem => List.mem_map.2 ⟨e, hem, rfl⟩))
               rw [hlev, List.append_nil] at hOR
               obtain ⟨n', g1, g2, g3, g4⟩ := f10 (y' := y) (us' := V.cells.toList) (x' := x) (fun q hd' hun hq => by rw [gout q hun]; exact hq) (fun b' q row0 hun ho hM => ⟨hown b' _ ho hrl, by
                by_cases hbb : b' = b
                ·subst hbb
                 rw [if_pos rfl, upd_rows e3, e2]
                ·rw [if_neg hbb, qfo (e3.other b' hbb)]
                 exact hM⟩) hOR hx
               unfold ContR
               unfold Root.setD at hc
               simp only [m1] at hc
               obtain ⟨x', hx', rfl⟩ := Option.map_eq_some_iff.1 hc
               have hxe : x' = x := by
                have := castD_self (.sl b0 S0) x
                rw [this] at hx'
                exact (Option.some.inj hx').symm
               subst hxe
               have hn' : n' = ⟨S0, x', false⟩ := (Option.some.inj (g1 : qco ⟨.sl b0 S0, x'⟩ = some n')).symm
               subst hn'
               simp only [Root.rep, m5, Bool.false_eq_true, if_false]
               rw [hG]
               refine ⟨⟨?_, hdom⟩, g4⟩
               have : List.length (α := Den S0) x' = xs0.length := g3
               show room b0 (List.length (α := Den S0) x')
               rw [this]
               exact m3
              ·have hmem' : e = (N.R.cur, [], p.length + 1) ∨ e ∈ oldCut (p.length + 1) N.R.old := by simpa [Root.rep] using hmem
               rcases hmem' with rfl | hmem'
               ·exact hu _ k2
               ·obtain ⟨e0, g1, rfl⟩ := oldCut_mem hmem'
                exact hu _ (k3 e0 g1)
             ·rename_i hne
              refine .inl ⟨hg, ?_⟩
              rintro (hx1 | hx1)
              ·exact hne hx1
              ·rw [hget_mvDel, if_pos hx1] at hg
               cases hg
            ·have hns : ¬ used s := fun h => hs (hu s h)
             refine ⟨(hm.fresh s hns).1, fun q => ?_⟩
             simp only [Gst.setG, upd]
             rw [if_neg (by intro e; subst e; exact hs hid')]
             exact (hm.fresh s hns).2 q
          ·cases he
         ·cases he
        ·cases he
       ·cases he
     ·cases he
    ·cases he
   ·cases he
 ·cases he
end
end Go.BE
namespace Go.BE
open Go.RowKit
section
variable {P : Program} {E : Ctx} {w w' w0 : World} {Z Z' : Nat → Prop} {K : Kp} {own own' : Own} {γ γ' : Gst} {h h' : Heap} {used used' : Nat → Prop} {r s d id : Nat} {R : Root} {a A B : AV} {v V U : Value} {cs ds : List AV} {vs us : List Value}
theorem asI_inv {n : Int} (hA : VR w Z γ A V) (h : asI A = some n) : ∃ k, V = .int k n := by
 unfold asI at h
 split at h
 ·obtain rfl := hA.val_inv
  injection h with h
  subst h
  exact ⟨_, rfl⟩
 ·cases h
theorem asB_inv {b : Bool} (hA : VR w Z γ A V) (h : asB A = some b) : V = .bool b := by
 unfold asB at h
 split at h
 ·obtain rfl := hA.val_inv
  injection h with h
  subst h
  rfl
 ·cases h
theorem maps {ρa : Operand → AV} {ρ : Operand → Value} (hρ : ∀ x, VR w Z γ (ρa x) (ρ x)) (l : List Operand) : VRs w Z γ (l.map ρa) (l.map ρ) := by
 induction l with
 | nil => exact .nil
 | cons x l ih => exact .cons (hρ x) ih
theorem parts {ρa : Operand → AV} {ρ : Operand → Value} (hρ : ∀ x, VR w Z γ (ρa x) (ρ x)) (l : Array (Nat × Operand)) :
  Parts w Z γ (l.toList.map fun (i, x) => (i, ρa x)) (l.map fun (i, x) => (i, ρ x)).toList := by
 refine ⟨by simp, fun j x y hx hy => ?_⟩
 simp only [Array.toList_map, List.getElem?_map] at hx hy
 cases hl : l.toList[j]? with
 | none => simp [hl] at hx
 | some p =>
  simp only [hl, Option.map_some, Option.some.injEq] at hx hy
  subst hx
  subst hy
  exact ⟨rfl, hρ _⟩
theorem amax_sound : ∀ {as : List AV} {A a : AV} {V : Value} {Vs : List Value}, amax A as = some a → VR w Z γ A V → VRs w Z γ as Vs → ∃ v, (Vs.foldlM Builtin.max2 V).run P w = .ok v w ∧ VR w Z γ a v
 | [], A, a, V, Vs, he, hA, hs => by
  have : Vs = [] := List.eq_nil_of_length_eq_zero (by simpa using hs.1.symm)
  subst this
  simp only [amax, Option.some.injEq] at he
  subst he
  exact ⟨V, rfl, hA⟩
 | x :: as, A, a, V, Vs, he, hA, hs => by
  cases Vs with
  | nil => simp [VRs] at hs
  | cons y Vs =>
   unfold amax at he
   split at he
   ·rename_i heq; cases heq
   ·rename_i k n k' m as' heq
    injection heq with h1 h2
    subst h1
    subst h2
    split at he
    ·rename_i hk
     subst hk
     have ha1 : k.has n := hA.val_ok
     have ha2 : k.has m := hs.head.val_ok
     obtain rfl := hA.val_inv
     obtain rfl := hs.head.val_inv
     obtain ⟨v, e1, e2⟩ := amax_sound (V := .int k (if m > n then m else n)) he (.cr (.val _ (show k.has (if m > n then m else n) by split <;> assumption))) hs.tail
     exact ⟨v, by simp only [List.foldlM_cons, Sem.run_bind, Builtin.max2, Sem.run_pure, Result.andThen_ok, e1], e2⟩
    ·cases he
   ·cases he
theorem amin_sound : ∀ {as : List AV} {A a : AV} {V : Value} {Vs : List Value}, amin A as = some a → VR w Z γ A V → VRs w Z γ as Vs → ∃ v, (Vs.foldlM Builtin.min2 V).run P w = .ok v w ∧ VR w Z γ a v
 | [], A, a, V, Vs, he, hA, hs => by
  have : Vs = [] := List.eq_nil_of_length_eq_zero (by simpa using hs.1.symm)
  subst this
  simp only [amin, Option.some.injEq] at he
  subst he
  exact ⟨V, rfl, hA⟩
 | x :: as, A, a, V, Vs, he, hA, hs => by
  cases Vs with
  | nil => simp [VRs] at hs
  | cons y Vs =>
   unfold amin at he
   split at he
   ·rename_i heq; cases heq
   ·rename_i k n k' m as' heq
    injection heq with h1 h2
    subst h1
    subst h2
    split at he
    ·rename_i hk
     subst hk
     have ha1 : k.has n := hA.val_ok
     have ha2 : k.has m := hs.head.val_ok
     obtain rfl := hA.val_inv
     obtain rfl := hs.head.val_inv
     obtain ⟨v, e1, e2⟩ := amin_sound (V := .int k (if m < n then m else n)) he (.cr (.val _ (show k.has (if m < n then m else n) by split <;> assumption))) hs.tail
     exact ⟨v, by simp only [List.foldlM_cons, Sem.run_bind, Builtin.min2, Sem.run_pure, Result.andThen_ok, e1], e2⟩
    ·cases he
   ·cases he
theorem VR.fn_inv {f : FuncId} {caps : List AV} (h : VR w Z γ (.fn f caps) v) : ∃ vs : Array Value, v = fnV f vs ∧ VRs w Z γ caps vs.toList := by
 cases h with
 | cr h =>
  cases h with
  | fn _ _ vs hl hr => exact ⟨vs, rfl, by simpa using hl, fun j x y hx hy => .cr (hr j x y hx (by simpa using hy))⟩
 | fn _ _ vs hl hr => exact ⟨vs, rfl, by simpa using hl, fun j x y hx hy => hr j x y hx (by simpa using hy)⟩

def OutOK (E : Ctx) (w0 : World) (K : Kp) (w : World) (Z : Nat → Prop) (γ : Gst) (h : Heap) (used used' : Nat → Prop) (ρ : Operand → Value) (o : Oper) : Out → Prop
 | .v C a => AllP C → ∃ v, (execOp ρ o).run E.P w = .ok (.value v) w ∧ VR w Z γ a v
 | .w C a ws sk => AllP C → ∃ n v w' Z' own' γ', (execOp ρ o).run E.P w = .ok n w' ∧ (if sk then n = .skip ∧ v = undef else n = .value v) ∧ Stay w Z w' Z' ∧ Gst.Ext used γ γ' ∧ MemR w0 K w' Z' own' γ' (qav h ws) used' ∧ VR w' Z' γ' a v
 | .call f args => ∃ vs : List Value, (execOp ρ o).run E.P w = (callFunc f vs.toArray).run E.P w ∧ VRs w Z γ args vs
 | .any p => ∃ b, p b ∧ (execOp ρ o).run E.P w = .ok (.value (.bool b)) w
 | .no => True
theorem oV_ok {ρ : Operand → Value} {o : Oper} {x : Option AV} (h : ∀ a, x = some a → ∃ v, (execOp ρ o).run E.P w = .ok (.value v) w ∧ VR w Z γ a v) : OutOK E w0 K w Z γ ‹Heap› used used' ρ o (oV x) := by
 cases x with
 | none => trivial
 | some a => exact fun _ => h a rfl
theorem oC_ok {ρ : Operand → Value} {o : Oper} {x : Option (List Prop × AV)} (h : ∀ C a, x = some (C, a) → AllP C → ∃ v, (execOp ρ o).run E.P w = .ok (.value v) w ∧ VR w Z γ a v) : OutOK E w0 K w Z γ ‹Heap› used used' ρ o (oC x) := by
 cases x with
 | none => trivial
 | some a => exact fun hC => h a.1 a.2 rfl hC
theorem WOK.out {ρ : Operand → Value} {o : Oper} {m : Sem Value} {ws : List (Nat × Option Root)} (ho : (execOp ρ o) = (do pure (.value (← m)))) (hw : WOK E.P w0 K w Z γ h used used' m a ws) :
  ∃ n v w' Z' own' γ', (execOp ρ o).run E.P w = .ok n w' ∧ (if false = true then n = .skip ∧ v = undef else n = .value v) ∧ Stay w Z w' Z' ∧ Gst.Ext used γ γ' ∧ MemR w0 K w' Z' own' γ' (qav h ws) used' ∧ VR w' Z' γ' a v := by
 obtain ⟨v, w', Z', own', γ', e1, e2, e3, e4, e5⟩ := hw
 refine ⟨.value v, v, w', Z', own', γ', ?_, ?_, e2, e3, e4, e5⟩
 ·rw [ho]
  simp only [Sem.run_bind, e1, Result.andThen_ok, Sem.run_pure]
 ·rw [if_neg (by simp)]
theorem WOK.mk_out {ρ : Operand → Value} {o : Oper} {m : Sem Value} {x : Out} (ho : (execOp ρ o) = (do pure (.value (← m)))) (hx : ∀ C a ws sk, x = .w C a ws sk → AllP C → sk = false ∧ WOK E.P w0 K w Z γ h used used' m a ws) (hn : (∃ C a ws sk, x = .w C a ws sk) ∨ x = .no) :
  OutOK E w0 K w Z γ h used used' ρ o x := by
 rcases hn with ⟨C, a, ws, sk, rfl⟩ | rfl
 ·intro hC
  obtain ⟨rfl, hw⟩ := hx C a ws sk rfl hC
  exact WOK.out ho hw
 ·trivial
end
end Go.BE
namespace Go.BE
open Go.RowKit
section
variable {P : Program} {E : Ctx} {w w' w0 : World} {Z Z' : Nat → Prop} {K : Kp} {own own' : Own} {γ γ' : Gst} {h h' : Heap} {used used' : Nat → Prop} {r s d id : Nat} {R : Root} {a A B : AV} {v V U : Value} {cs ds : List AV} {vs us : List Value}
theorem lset_len {α : Type} {xs ys : List α} {o : Nat} (h : o + ys.length ≤ xs.length) : (lset xs ys o).length = xs.length := by
 unfold lset
 simp
 omega
theorem lset_get {α : Type} {xs ys : List α} {o : Nat} (h : o + ys.length ≤ xs.length) (j : Nat) : (lset xs ys o)[j]? = if o ≤ j ∧ j < o + ys.length then ys[j - o]? else xs[j]? := by
 unfold lset
 have hl : (xs.take o).length = o := by simp; omega
 by_cases h1 : j < o
 ·rw [if_neg (by omega), List.getElem?_append_left (by omega), List.getElem?_take, if_pos h1]
 ·rw [List.getElem?_append_right (by omega), hl]
  by_cases h2 : j < o + ys.length
  ·rw [if_pos ⟨by omega, h2⟩, List.getElem?_append_left (by omega)]
  ·rw [if_neg (by omega), List.getElem?_append_right (by omega), List.getElem?_drop]
   congr 1
   omega
theorem lset_nil {α : Type} {xs : List α} {o : Nat} : lset xs [] o = xs := by simp [lset]
theorem MemR.splice (hm : MemR w0 K w Z own γ h used) (hu : ∀ s, used s → used' s) {m b0 : Nat} {S : Sh} {xs ys : List (Den S)} (hrd : rdata h r s 0 = some (R, m, ⟨.sl b0 S, xs⟩)) (hfl : S.flat = true) {lo : Nat} (hlo : lo + ys.length ≤ xs.length)
  {hd : Hd} (hg : γ.G R.cur [] = some hd) {b o : Nat} (hb : hd.blk = some (b, o)) {row : List Value} (hrow : rows w b = some row) (hc0 : 0 < hd.c) (hus : us.length = ys.length * S.size) (hfr : ∀ q y, lat ys q = some y → FR w Z S y (seg us (q * S.size) S.size))
  {arr' : Array Value} {e : TypeId} (hup : Upd w b arr' e w') (harr : arr'.toList = splice row (o + lo * S.size) us) :
  Stay w Z w' Z ∧ MemR w0 K w' Z own γ (hput h r { R with cont := .arr m b0 S (lset xs ys lo) }) used' := by
 obtain ⟨h1, h2, h3, b1, S1, xs1, h4, h5, h6, h7, h8, h9⟩ := hm.data hrd
 injection h5 with hx1 hx2
 injection hx1 with hx1 hx3
 subst hx1; subst hx3
 have hx2' : xs = xs1 := eq_of_heq hx2
 subst hx2'
 obtain ⟨hd1, n1, n2, n3, n4, n5⟩ := h9
 rw [hg] at n1
 injection n1 with n1
 subst n1
 have n2 : hd.S = S := n2
 have n4 : hd.n = xs.length := n4
 obtain ⟨b', o', row', e1, e2, e3, e4, e5⟩ := n5.elems hc0
 rw [hb] at e1
 injection e1 with e1
 injection e1 with e1 e1'
 subst e1; subst e1'
 rw [hrow] at e3
 injection e3 with e3
 subst e3
 rw [n2] at e4 e5
 have hle : xs.length * S.size ≤ hd.c * S.size := Nat.mul_le_mul_right _ (by have := n5.le; omega)
 have hloS : lo * S.size + ys.length * S.size ≤ xs.length * S.size := by rw [← Nat.add_mul]; exact Nat.mul_le_mul_right _ hlo
 have hst : Stay w Z w' Z := ⟨fun k hk => hup.other k (fun hkb => hm.ownZ b _ e2 (hkb ▸ hk)), fun _ h => h⟩
 refine ⟨hst, ?_⟩
 obtain ⟨q1, q2, q3⟩ := hm.keys r R h1
 have hll := lset_len hlo
 refine hm.step hst (Gst.Ext.refl used γ) hu hup.os hup.tape hup.output (by rw [hup.size]; exact Nat.le_refl _) (fun x => x = r) (fun k hk hno => hup.other k (fun hkb => by subst hkb; exact hno _ e2 rfl)) (fun k o ho' _ => ho') (fun k o ho' => ?_) (fun k hk => ⟨by rw [hup.size]; exact hm.zlt k hk, .inl hk⟩) (fun r' R' hg' => ?_) (fun s hs => hm.fresh s (fun h => hs (hu s h)))
 ·by_cases hq : o.1 = r
  ·exact .inr ⟨by rw [hup.size]; exact hm.ownlt _ _ ho', hm.ownZ _ _ ho', .inl ⟨_, ho', hq⟩⟩
  ·exact .inl ⟨ho', hq⟩
 ·rw [qbr] at hg'
  split at hg'
  ·rename_i hrr
   injection hg' with hg'
   subst hg'; subst hrr
   refine .inr ⟨⟨h2.old, ?_⟩, hu _ q1, hu _ q2, fun e he => hu _ (q3 e he)⟩
   unfold ContR
   simp only [h7, h8, Bool.false_eq_true, if_false]
   refine ⟨⟨by rw [hll]; exact h6, hm.dom h1 h4⟩, hd, hg, n2, n3, by show hd.n = (lset xs ys lo).length; rw [hll]; exact n4, n5.le, n5.lim, fun _ => ⟨b, o, arr'.toList, hb, e2, upd_rows hup, ?_, fun j hj => ?_⟩⟩
   ·rw [harr, splice_length (by rw [hus]; omega), n2]
    exact e4
   ·rw [n4] at hj
    obtain ⟨z, hz, hor⟩ := e5 j (by rw [n4]; exact hj)
    rw [n2]
    have hjS : j * S.size + S.size ≤ xs.length * S.size := mul_seg hj
    by_cases hin : lo ≤ j ∧ j < lo + ys.length
    ·have hy : j - lo < ys.length := by omega
     refine ⟨ys[j - lo], by show (lset xs ys lo)[j]? = _; rw [lset_get hlo, if_pos hin]; exact List.getElem?_eq_getElem hy, ?_⟩
     have hseg : seg arr'.toList (o + j * S.size) S.size = seg us ((j - lo) * S.size) S.size := by
      have hsum : (lo + (j - lo)) * S.size = lo * S.size + (j - lo) * S.size := Nat.add_mul ..
      rw [show lo + (j - lo) = j by omega] at hsum
      have h1 := seg_splice_in (row := row) (us := us) (o := o + lo * S.size) (so := 0) (n := us.length) (by omega) (by rw [hus]; omega)
      rw [Nat.add_zero, ← harr, splice_zero (by rw [seg_length (by rw [hus]; omega)])] at h1
      have hqS : (j - lo) * S.size + S.size ≤ ys.length * S.size := mul_seg hy
      have h2 := seg_seg (row := arr'.toList) (o := o + lo * S.size) (n := us.length) (o' := (j - lo) * S.size) (n' := S.size) (by rw [hus]; exact hqS)
      rw [h1] at h2
      rw [h2]
      congr 1
      omega
     rw [hseg]
     exact OR.of_FR (.inr hfl) ((hfr (j - lo) _ (List.getElem?_eq_getElem hy)).mono hst)
    ·refine ⟨z, by show (lset xs ys lo)[j]? = _; rw [lset_get hlo, if_neg hin]; exact hz, ?_⟩
     have hseg : seg arr'.toList (o + j * S.size) S.size = seg row (o + j * S.size) S.size := by
      rw [harr]
      refine seg_splice_out (by rw [hus]; omega) ?_
      rw [hus]
      rcases Nat.lt_or_ge j lo with hjl | hjl
      ·have : j * S.size + S.size ≤ lo * S.size := mul_seg hjl
       exact .inl (by omega)
      ·have : (lo + ys.length) * S.size ≤ j * S.size := Nat.mul_le_mul_right _ (by omega)
       rw [Nat.add_mul] at this
       exact .inr (by omega)
     rw [hseg]
     exact OR.of_FR (.inr hfl) ((OR.to_FR (.inr hfl) hor).mono hst)
  ·rename_i hne
   exact .inl ⟨hg', hne⟩
theorem MemR.putSame (hm : MemR w0 K w Z own γ h used) (hu : ∀ s, used s → used' s) (hR : hget h r = some R) : MemR w0 K w Z own γ (hput h r R) used' := by
 refine hm.step (Stay.refl w Z) (Gst.Ext.refl used γ) hu rfl rfl rfl (Nat.le_refl _) (fun _ => False) (fun b hb _ => rfl) (fun b o ho _ => ho) (fun b o ho => .inl ⟨ho, fun h => h⟩) (fun b hb => ⟨hm.zlt b hb, .inl hb⟩) (fun r' R' hg => ?_) (fun s hs => hm.fresh s (fun h => hs (hu s h)))
 rw [qbr] at hg
 split at hg
 ·rename_i hrr
  injection hg with hg
  subst hg; subst hrr
  exact .inl ⟨hR, fun h => h⟩
 ·exact .inl ⟨hg, fun h => h⟩
theorem Root.same {m b : Nat} {S : Sh} {xs : List (Den S)} (h : R.cont = .arr m b S xs) : { R with cont := .arr m b S xs } = R := by
 cases R
 simp only at h
 subst h
 rfl
theorem aclear_sound (hT : TyOK E.P E.ty) (hm : MemR w0 K w Z own γ h used) (hu : ∀ s, used s → used' s) {t ty : TypeId} {C : List Prop} {ws : List (Nat × Option Root)} {sk : Bool} (he : aclear E h t A = .w C a ws sk) (hC : AllP C)
  (hA : VR w Z γ A V) : sk = false ∧ WOK E.P w0 K w Z γ h used used' (Builtin.clear_ #[t] ty #[V]) a ws := by
 unfold aclear at he
 split at he
 ·rename_i e _ _ _ _ hty
  obtain ⟨dsc, hd, hk⟩ := (hT t _ hty).desc
  simp only [TKOK] at hk
  subst hk
  split at he
  ·rename_i ie r s win hie
   split at he
   ·rename_i R m b S xs hrd
    split at he
    ·rename_i hcond
     obtain ⟨c1, c2, c3⟩ := hcond
     injection he with e1 e2 e3 e4
     subst e1; subst e2; subst e3; subst e4
     refine ⟨rfl, ?_⟩
     have hC := hC.1
     obtain ⟨ti, i1, i2, i3, z, i4, i5⟩ := (hT e _ hie).info
     obtain ⟨s1, s2, s3⟩ := (hT e _ hie).sh S c1
     have hzv : z.cells.toList = zvals S := by rw [i5, ← s2]
     have hzs : z.cells.size = S.size := by rw [← Array.length_toList, hzv]; exact zvals_len S
     obtain ⟨h1, h2, h3, b1, S1, xs1, h4, h5, h6, h7, h8, h9⟩ := hm.data hrd
     injection h5 with hx1 hx2
     injection hx1 with hx1 hx3
     subst hx1; subst hx3
     have hx2' : xs = xs1 := eq_of_heq hx2
     subst hx2'
     obtain ⟨hd1, n1, n2, n3, n4, n5⟩ := h9
     obtain ⟨hd', o1, o2⟩ := hA.osl_inv
     have o1' := h2.valid_hd (q := []) h3 o1
     rw [n1] at o1'
     injection o1' with o1'
     subst o1'
     obtain ⟨o3, ad, c, rfl, o4, o5, o6, o7⟩ := o2
     have n2 : hd1.S = S := n2
     have n4 : hd1.n = xs.length := n4
     rw [n4] at o4 o5 ⊢
     have hlen : (List.replicate (wlen xs.length win) (dz S)).length = wlen xs.length win := List.length_replicate
     rcases Nat.eq_zero_or_pos (wlen xs.length win) with h0 | h0
     ·rw [h0]
      refine ⟨.tuple #[], w, Z, own, γ, ?_, Stay.refl _ _, Gst.Ext.refl _ _, ?_, .tup [] #[] rfl fun j x y hx => by simp at hx⟩
      ·cases ad <;> simp [Builtin.clear_, run_underlying hd]
      ·show MemR w0 K w Z own γ (hput h r { R with cont := .arr m b S (lset xs (List.replicate 0 (dz S)) (wlo win)) }) used'
       rw [List.replicate_zero, lset_nil, Root.same h4]
       exact hm.putSame hu h1
     ·obtain ⟨bb, oo, f1, rfl⟩ := o7 (by omega)
      obtain ⟨b', o', row, e1, e2, e3, e4, e5⟩ := n5.elems (by omega)
      rw [f1] at e1
      injection e1 with e1
      injection e1 with e1 e1'
      subst e1; subst e1'
      obtain ⟨arr, et, hrow, hrl⟩ := rows_heap e3
      rw [n2] at e4 ⊢
      have hls : (repV z.cells.toList (wlen xs.length win)).length = wlen xs.length win * S.size := by rw [repV_length, hzv, zvals_len]
      have hle : (wlo win + wlen xs.length win) * S.size ≤ hd1.c * S.size := Nat.mul_le_mul_right _ (by have := n5.le; omega)
      rw [Nat.add_mul] at hle
      obtain ⟨w', arr', g1, g2, g3⟩ := qdf (P := E.P) bb (oo + wlo win * S.size) et (repV z.cells.toList (wlen xs.length win)) 0 w arr hrow (by rw [hls, ← Array.length_toList, hrl]; omega) (segs_ones' (sz := S.size) (n := wlen xs.length win) hls fun j hj => by
       have := seg_rep (z := z.cells.toList) hj
       rw [hzv, zvals_len] at this
       rw [hzv, this]
       exact (FR.zero (w := w) (Z := Z) S).ones)
      rw [Nat.add_zero, hrl, qdn _ _ _ (by rw [hls]; omega)] at g2
      obtain ⟨k1, k2⟩ := hm.splice hu (ys := List.replicate (wlen xs.length win) (dz S)) hrd c3 (lo := wlo win) (by rw [hlen]; exact o5.1) n1 f1 e3 (by omega) (us := repV z.cells.toList (wlen xs.length win)) (by rw [hls, hlen]) (fun q y hy => by
       have hq : q < wlen xs.length win := by
        have := (List.getElem?_eq_some_iff.1 hy).1
        rw [hlen] at this
        exact this
       have hyz : y = dz S := by
        have h' : (List.replicate (wlen xs.length win) (dz S))[q]? = some y := hy
        rw [List.getElem?_replicate, if_pos hq] at h'
        exact (Option.some.inj h').symm
       have := seg_rep (z := z.cells.toList) hq
       rw [hzv, zvals_len] at this
       rw [hzv, this, hyz]
       exact FR.zero S) g3 g2
      refine ⟨.tuple #[], w', Z, own, γ, ?_, k1, Gst.Ext.refl _ _, k2, .tup [] #[] rfl fun j x y hx => by simp at hx⟩
      have hz := range_rep z.cells (by rw [hzs]; exact c2) (wlen xs.length win)
      have hne : wlen xs.length win ≠ 0 := by omega
      obtain ⟨nn, hnn⟩ : ∃ nn, wlen xs.length win = nn + 1 := ⟨wlen xs.length win - 1, by omega⟩
      simp only [hnn] at g1 hz ⊢
      simp [Builtin.clear_, run_underlying hd, zeroValue, typeInfo, i1, i4, Builtin.zeroCells]
      have hz' : List.map (fun i => z.cells[i % z.cells.size]!) (List.range ((nn + 1) * z.cells.size)) = repV z.cells.toList (nn + 1) := by rw [← hz]; simp
      rw [hz', g1]
      rfl
    ·cases he
   ·cases he
  ·cases he
 ·cases he
theorem aappIn_sound (hT : TyOK E.P E.ty) (hm : MemR w0 K w Z own γ h used) (hu : ∀ s, used s → used' s) {t ty : TypeId} {C : List Prop} {ws : List (Nat × Option Root)} {sk : Bool} (he : aappIn E h t A B = .w C a ws sk) (hC : AllP C)
  (hA : VR w Z γ A V) (hB : VR w Z γ B U) : sk = false ∧ WOK E.P w0 K w Z γ h used used' (Builtin.append_ #[t, t] ty #[V, U]) a ws := by
 unfold aappIn at he
 split at he
 ·rename_i e _ _ _ _ hty
  obtain ⟨dsc, hd, hk⟩ := (hT t _ hty).desc
  simp only [TKOK] at hk
  subst hk
  split at he
  ·rename_i ie r s i r2 s2 j k hie
   split at he
   ·rename_i R m b S xs hrd
    split at he
    ·rename_i hcond
     obtain ⟨c1, c2, c3, rfl, rfl⟩ := hcond
     injection he with e1 e2 e3 e4
     subst e1; subst e2; subst e3; subst e4
     refine ⟨rfl, ?_⟩
     simp only [AllP, and_true] at hC
     obtain ⟨d1, d2⟩ := hC
     obtain ⟨ti, i1, i2, i3, z, i4, i5⟩ := (hT e _ hie).info
     obtain ⟨s1, s2', s3⟩ := (hT e _ hie).sh S c1
     have hsz : ti.size = S.size := by rw [i2, ← s1]
     obtain ⟨h1, h2, h3, b1, S1, xs1, h4, h5, h6, h7, h8, h9⟩ := hm.data hrd
     injection h5 with hx1 hx2
     injection hx1 with hx1 hx3
     subst hx1; subst hx3
     have hx2' : xs = xs1 := eq_of_heq hx2
     subst hx2'
     obtain ⟨hd1, n1, n2, n3, n4, n5⟩ := h9
     obtain ⟨hd', o1, o2⟩ := hA.osl_inv
     obtain ⟨hd2, p1, p2⟩ := hB.osl_inv
     have hG := o1
     have o1' := h2.valid_hd (q := []) h3 o1
     have p1' := h2.valid_hd (q := []) h3 p1
     rw [n1] at o1' p1'
     injection o1' with o1'
     injection p1' with p1'
     subst o1'; subst p1'
     obtain ⟨o3, ad, c, rfl, o4, o5, o6, o7⟩ := o2
     obtain ⟨_, ad2, c2', rfl, p4, p5, p6, p7⟩ := p2
     have n2 : hd1.S = S := n2
     have n4 : hd1.n = xs.length := n4
     simp only [wlen, wlo] at o4 o5 o6 o7 p4 p5 p6 p7 ⊢
     have hlen : ((xs.drop j).take k).length = k := by simp; omega
     rcases Nat.eq_zero_or_pos k with h0 | h0
     ·subst h0
      refine ⟨.slice ad i c, w, Z, own, γ, append_none hd i1 o4, Stay.refl _ _, Gst.Ext.refl _ _, ?_, .osl _ _ _ _ _ hd1 hG ⟨o3, ad, c, rfl, o4, o5, o6, o7⟩⟩
      show MemR w0 K w Z own γ (hput h r2 { R with cont := .arr m b S (lset xs ((xs.drop j).take 0) i) }) used'
      rw [List.take_zero, lset_nil, Root.same h4]
      exact hm.putSame hu h1
     ·obtain ⟨bb, oo, f1, rfl⟩ := o7 (by omega)
      obtain ⟨bb2, oo2, f2, rfl⟩ := p7 (by omega)
      rw [f1] at f2
      injection f2 with f2
      injection f2 with f2 f2'
      subst f2; subst f2'
      obtain ⟨b', o', row, e1, e2, e3, e4, e5⟩ := n5.elems (by omega)
      rw [f1] at e1
      injection e1 with e1
      injection e1 with e1 e1'
      subst e1; subst e1'
      obtain ⟨arr, et, hrow, hrl⟩ := rows_heap e3
      rw [n2] at e4 e5
      have hle : xs.length * S.size ≤ hd1.c * S.size := Nat.mul_le_mul_right _ (by have := n5.le; omega)
      have hjk : (j + k) * S.size ≤ xs.length * S.size := Nat.mul_le_mul_right _ d2
      have hik : (i + k) * S.size ≤ xs.length * S.size := Nat.mul_le_mul_right _ d1
      rw [Nat.add_mul] at hjk
      have hus : (seg row (oo + j * S.size) (k * S.size)).length = k * S.size := seg_length (by omega)
      have hel : ∀ q y, lat ((xs.drop j).take k) q = some y → FR w Z S y (seg (seg row (oo + j * S.size) (k * S.size)) (q * S.size) S.size) := fun q y hy => by
       have hq : q < k := by
        have := (List.getElem?_eq_some_iff.1 hy).1
        rw [hlen] at this
        exact this
       have hy' : ((xs.drop j).take k)[q]? = some y := hy
       rw [List.getElem?_take, if_pos hq, List.getElem?_drop] at hy'
       obtain ⟨z', hz', hor⟩ := e5 (j + q) (by rw [n4]; omega)
       have hzy : z' = y := Option.some.inj (hz'.symm.trans hy')
       subst hzy
       rw [seg_seg (mul_seg hq)]
       rw [Nat.add_mul, ← Nat.add_assoc] at hor
       exact OR.to_FR (.inr c3) hor
      have hones : ∀ u ∈ seg row (oo + j * S.size) (k * S.size), u.oneCell' = true := segs_ones' (sz := S.size) (n := k) hus fun q hq => by
       have hq' : q < ((xs.drop j).take k).length := by rw [hlen]; exact hq
       exact (hel q _ (List.getElem?_eq_getElem hq')).ones
      obtain ⟨w', arr', g1, g2, g3⟩ := append_in (P := E.P) (w := w) (ty := ty) hd i1 (us := seg row (oo + j * S.size) (k * S.size)) (ad := some ⟨bb, oo + 0 * hd1.S.size, none⟩) (ad2 := some ⟨bb, oo + j * hd1.S.size, none⟩) (n := i) (c := c) (k := k) (c2 := c2') ⟨by rw [hsz]; exact hus, fun _ => ⟨bb, oo + j * hd1.S.size, rfl, by rw [n2]; exact Run.seg_rows e3⟩⟩ h0 (by omega) rfl hrow (by
       rw [← Array.length_toList, hrl, hsz, n2]
       omega) hones
      rw [hrl, hsz, n2, Nat.zero_mul, Nat.add_zero] at g2
      obtain ⟨k1, k2⟩ := hm.splice hu (ys := (xs.drop j).take k) hrd c3 (lo := i) (by rw [hlen]; exact d1) n1 f1 e3 (by omega) (us := seg row (oo + j * S.size) (k * S.size)) (by rw [hus, hlen]) hel g3 g2
      refine ⟨_, w', Z, own, γ, g1, k1, Gst.Ext.refl _ _, k2, .osl _ _ _ _ _ hd1 hG ⟨o3, _, c, rfl, by show i + k ≤ c; omega, ⟨by show 0 + (i + k) ≤ hd1.n; omega, by show hd1.n ≤ 0 + c; omega⟩, o6, fun _ => ⟨bb, oo, f1, rfl⟩⟩⟩
    ·cases he
   ·cases he
  ·cases he
 ·cases he
theorem MemR.clip (hm : MemR w0 K w Z own γ h used) (hid : ¬ used id) (hu : ∀ s, used s → used' s) (hid' : used' id) (hR : hget h r = some R) {m b : Nat} {S : Sh} {xs : List (Den S)} (hc : R.cont = .arr m b S xs) (hp : R.pend = none) (hf : R.fz = false) (hmf : m = 0 ∨ S.flat = true) (hv : R.valid s 0 = true)
  {lo n c0 : Nat} {ad0 : Option Addr} (hA : VR w Z γ (.osl r s [] (some (lo, n))) (.slice ad0 n c0)) : ∃ γ', Gst.Ext used γ γ' ∧ MemR w0 K w Z own γ' (hput h r (R.rep 0 id (.arr m b S (wins xs (some (lo, n)))))) used' ∧ VR w Z γ' (.osl r id [] none) (.slice (if n = 0 then ad0 else ad0.map (·.add 0)) n n) := by
 obtain ⟨hr, hroom, M0, own0, r0, ⟨hd0, n1, n2, n3, n4, n5⟩, hM0, _, ho0⟩ := hm.arr hR hc
 obtain ⟨rfl, rfl⟩ := ho0 hf
 have hM := hM0 hp
 subst hM
 obtain ⟨hd', o1, o2⟩ := hA.osl_inv
 have o1' := hr.valid_hd (q := []) hv o1
 rw [n1] at o1'
 injection o1' with o1'
 subst o1'
 obtain ⟨o3, ad, c, hV, o4, o5, o6, o7⟩ := o2
 injection hV with hV1 hV2 hV3
 subst hV1; subst hV3
 simp only [wlen, wlo] at o4 o5 o6 o7
 have n2 : hd0.S = S := n2
 have n4 : hd0.n = xs.length := n4
 obtain ⟨k1, k2, k3⟩ := hm.keys r0 R hR
 have hwl : (wins xs (some (lo, n))).length = n := by
  have := wins_length (xs := xs) (w := some (lo, n)) (by simp only [wlo, wlen]; omega)
  simpa [wlen] using this
 let blk : Option (Nat × Nat) := hd0.blk.map fun x => (x.1, x.2 + lo * S.size)
 let hd : Hd := { S := S, isPtr := false, n := n, c := n, blk := blk }
 let g : Pth → Option Hd := fun q => if q = [] then some hd else none
 have he := Gst.setG_ext (γ := γ) hid g
 have hG : (γ.setG id g).G id = g := by simp [Gst.setG, upd]
 refine ⟨γ.setG id g, he, ?_, .osl _ _ _ _ _ hd (by rw [hG]; rfl) ⟨rfl, _, n, rfl, Nat.le_refl _, ⟨by simp [wlo, wlen], by simp only [wlo, hd]; omega⟩, by simp [wlo, hd], fun h => ?_⟩⟩
 ·refine hm.step (Stay.refl w Z) he hu rfl rfl rfl (Nat.le_refl _) (fun _ => False) (fun b hb _ => rfl) (fun b o ho _ => ho) (fun b o ho => .inl ⟨ho, fun h => h⟩) (fun b hb => ⟨hm.zlt b hb, .inl hb⟩) (fun r' R' hg => ?_) (fun s hs => ?_)
  ·rw [qbr] at hg
   split at hg
   ·rename_i hrr
    injection hg with hg
    subst hg; subst hrr
    refine .inr ⟨⟨fun e hmem q hd' f1 f2 f3 => ?_, ?_⟩, hu _ k1, hid', fun e hmem => ?_⟩
    ·have hmem' : e = (R.cur, [], 0) ∨ e ∈ oldCut 0 R.old := by simpa [Root.rep] using hmem
     rcases hmem' with rfl | hmem'
     ·exact absurd f1 (Nat.not_lt_zero _)
     ·obtain ⟨e0, g1, rfl⟩ := oldCut_mem hmem'
      have hlt : q.length < min e0.2.2 0 := f1
      omega
    ·unfold ContR
     simp only [Root.rep, hf, Bool.false_eq_true, if_false]
     refine ⟨⟨by rw [hwl]; exact room_le hroom (by omega), by rw [hG]; exact Dom.one _⟩, hd, by rw [hG]; rfl, rfl, rfl, hwl.symm, Nat.le_refl _, by show n ≤ roomB; have := n5.lim; omega, fun hc' => ?_⟩
     have hc' : 0 < n := hc'
     obtain ⟨bb, o, row, e1, e2, e3, e4, e5⟩ := n5.elems (by omega)
     rw [n2] at e4 e5
     have hcs : (lo + n) * S.size ≤ hd0.c * S.size := Nat.mul_le_mul_right _ (by omega)
     rw [Nat.add_mul] at hcs
     refine ⟨bb, o + lo * S.size, row, by simp [hd, blk, e1], e2, e3, by show o + lo * S.size + n * S.size ≤ row.length; omega, fun j hj => ?_⟩
     have hj : j < n := hj
     obtain ⟨y, hy, hor⟩ := e5 (lo + j) (by omega)
     refine ⟨y, ?_, OR.of_FR hmf ?_⟩
     ·show lat ((xs.drop lo).take n) j = some y
      unfold lat at hy ⊢
      rw [List.getElem?_take, if_pos hj, List.getElem?_drop]
      exact hy
     ·have := OR.to_FR hmf hor
      rw [Nat.add_mul, ← Nat.add_assoc] at this
      exact this
    ·have hmem' : e = (R.cur, [], 0) ∨ e ∈ oldCut 0 R.old := by simpa [Root.rep] using hmem
     rcases hmem' with rfl | hmem'
     ·exact hu _ k2
     ·obtain ⟨e0, g1, rfl⟩ := oldCut_mem hmem'
      exact hu _ (k3 e0 g1)
   ·exact .inl ⟨hg, fun h => h⟩
  ·have hns : ¬ used s := fun h => hs (hu s h)
   refine ⟨(hm.fresh s hns).1, fun q => ?_⟩
   simp only [Gst.setG, upd]
   rw [if_neg (by intro e; subst e; exact hs hid')]
   exact (hm.fresh s hns).2 q
 ·obtain ⟨bb, o, e1, e2⟩ := o7 (by have : 0 < n := h; omega)
  refine ⟨bb, o + lo * S.size, by simp [hd, blk, e1], ?_⟩
  rw [if_neg (by have : 0 < n := h; omega), e2, n2]
  simp [wlo, Addr.add]
theorem aclip_sound (hT : TyOK E.P E.ty) (hm : MemR w0 K w Z own γ h used) (hid : ¬ used id) (hu : ∀ s, used s → used' s) (hid' : used' id) {t : TypeId} {lo hi mx : Option Int} {lv hv mv : Option Value} (hlo : OI lo lv) (hhi : OI hi hv) (hmx : OI mx mv) {C : List Prop} {ws : List (Nat × Option Root)} (he : aclip E h id t A lo hi mx = some (C, a, ws)) (hC : AllP C) (hA : VR w Z γ A V) :
  WOK E.P w0 K w Z γ h used used' (Instr.sliceAt t V lv hv mv) a ws := by
 unfold aclip at he
 split at he
 ·rename_i e _ _ _ _ hty
  obtain ⟨dsc, hd, hk⟩ := (hT t _ hty).desc
  simp only [TKOK] at hk
  subst hk
  split at he
  ·rename_i ie r s l0 n0 k m hie
   split at he
   ·rename_i R m' b S xs hrd
    split at he
    ·rename_i hcond
     obtain ⟨c1, c2⟩ := hcond
     simp only [Option.some.injEq, Prod.mk.injEq] at he
     obtain ⟨rfl, rfl, rfl⟩ := he
     simp only [AllP, and_true] at hC
     obtain ⟨d1, d2⟩ := hC
     obtain ⟨tie, k1, k2, _⟩ := (hT e _ hie).info
     obtain ⟨h1, h2, h3, b1, S1, xs1, h4, h5, h6, h7, h8, h9⟩ := hm.data hrd
     injection h5 with hx1 hx2
     injection hx1 with hx1 hx3
     subst hx1; subst hx3
     have hx2' : xs = xs1 := eq_of_heq hx2
     subst hx2'
     rcases hlo with ⟨_, rfl⟩ | ⟨_, _, hq, _⟩
     ·rcases hhi with ⟨hq, _⟩ | ⟨k', kk, hq, rfl⟩
      ·cases hq
      ·injection hq with hq; subst hq
       rcases hmx with ⟨hq, _⟩ | ⟨m2, km, hq, rfl⟩
       ·cases hq
       ·injection hq with hq; subst hq
        obtain ⟨hd', o1, o2⟩ := hA.osl_inv
        obtain ⟨o3, ad, c, rfl, o4, o5, o6, o7⟩ := o2
        obtain ⟨γ', g1, g2, g3⟩ := hm.clip hid hu hid' h1 h4 h7 h8 c2 h3 hA
        exact ⟨_, w, Z, own, γ', slice3_run hd ⟨tie, k1, k2⟩ o4 d1 d2, Stay.refl _ _, g1, g2, g3⟩
     ·cases hq
    ·cases he
   ·cases he
  ·cases he
 ·cases he
end
end Go.BE
namespace Go.BE
open Go.RowKit
section
variable {P : Program} {E : Ctx} {w w' w0 : World} {Z Z' : Nat → Prop} {K : Kp} {own own' : Own} {γ γ' : Gst} {h h' : Heap} {used used' : Nat → Prop} {r s d id : Nat} {R : Root} {a A B : AV} {v V U : Value} {cs ds : List AV} {vs us : List Value}
theorem FRV.vals {α : Type} {f : α → List Value → Prop} {g : α → List Value} {p : α → Prop} (h : ∀ x vs, f x vs ↔ vs = g x ∧ p x) : ∀ {n : Nat} {x : DenV α n} {vs : List Value}, FRV f n x vs ↔ vs = valsV g n x ∧ VAll p n x
 | 0, _, _ => by simp [FRV, valsV, VAll]
 | n + 1, x, vs => by
  simp only [FRV, valsV, VAll]
  constructor
  ·rintro ⟨us, ws, rfl, h1, h2⟩
   obtain ⟨e1, e2⟩ := (h _ _).1 h1
   obtain ⟨e3, e4⟩ := (FRV.vals h).1 h2
   exact ⟨by rw [e1, e3], e2, e4⟩
  ·rintro ⟨rfl, h1, h2⟩
   exact ⟨_, _, rfl, (h _ _).2 ⟨rfl, h1⟩, (FRV.vals h).2 ⟨rfl, h2⟩⟩
theorem FR.vals : ∀ {S : Sh} {x : Den S} {vs : List Value}, S.flat = true → (FR w Z S x vs ↔ vs = valsD S x ∧ okD S x) := by
 intro S
 induction S with
 | int k => intro x vs _; exact Iff.rfl
 | bool => intro x vs _; simp [FR, valsD, okD]
 | str => intro x vs _; exact Iff.rfl
 | unit => intro x vs _; simp [FR, valsD, okD]
 | pair a b iha ihb =>
  intro x vs hf
  simp only [Sh.flat, Bool.and_eq_true] at hf
  simp only [FR, valsD, okD]
  constructor
  ·rintro ⟨us, ws, rfl, h1, h2⟩
   obtain ⟨e1, e2⟩ := (iha hf.1).1 h1
   obtain ⟨e3, e4⟩ := (ihb hf.2).1 h2
   exact ⟨by rw [e1, e3], e2, e4⟩
  ·rintro ⟨rfl, h1, h2⟩
   exact ⟨_, _, rfl, (iha hf.1).2 ⟨rfl, h1⟩, (ihb hf.2).2 ⟨rfl, h2⟩⟩
 | arr n a ih =>
  intro x vs hf
  exact FRV.vals (f := FR w Z a) (g := valsD a) (p := okD a) fun y us => ih (by simpa [Sh.flat] using hf)
 | sl b a => intro x vs hf; cases hf
 | ptr a => intro x vs hf; cases hf
theorem avOf_valD {S : Sh} {x : Den S} (hf : S.flat = true) (hx : okD S x) : VR w Z γ (avOf S x) (valD S x) := by
 have h := ((FR.vals (w := w) (Z := Z) hf).2 ⟨rfl, hx⟩).avOf
 unfold valD
 split at h
 ·rename_i hS
  rw [if_pos hS]
  exact .cr h
 ·rename_i hS
  rw [if_neg hS]
  obtain ⟨v', e1, e2⟩ := h
  rw [e1]
  exact .cr e2
theorem zvals_valsV {α : Type} {g : α → List Value} {x : α} {l : List Value} (h : g x = l) : ∀ n : Nat, valsV g n (vrep x n) = (List.replicate n l).flatten
 | 0 => rfl
 | n + 1 => by simp only [valsV, vrep, List.replicate_succ, List.flatten_cons, h, zvals_valsV h n]
theorem valsD_zero : ∀ {S : Sh}, S.flat = true → valsD S (dz S) = zvals S := by
 intro S
 induction S with
 | int k => intro _; rfl
 | bool => intro _; rfl
 | str => intro _; rfl
 | unit => intro _; rfl
 | pair a b iha ihb =>
  intro hf
  simp only [Sh.flat, Bool.and_eq_true] at hf
  simp only [valsD, dz, zvals, iha hf.1, ihb hf.2]
 | arr n a ih =>
  intro hf
  exact zvals_valsV (ih (by simpa [Sh.flat] using hf)) n
 | sl => intro hf; cases hf
 | ptr => intro hf; cases hf
theorem okD_vrep {α : Type} {p : α → Prop} {x : α} (h : p x) : ∀ n : Nat, VAll p n (vrep x n)
 | 0 => trivial
 | n + 1 => ⟨h, okD_vrep h n⟩
theorem okD_zero : ∀ {S : Sh}, S.flat = true → okD S (dz S) := by
 intro S
 induction S with
 | int k => intro _; exact ⟨k_min k, k_max k⟩
 | bool => intro _; trivial
 | str => intro _; show (0 : Nat) ≤ _; exact Nat.zero_le _
 | unit => intro _; trivial
 | pair a b iha ihb =>
  intro hf
  simp only [Sh.flat, Bool.and_eq_true] at hf
  exact ⟨iha hf.1, ihb hf.2⟩
 | arr n a ih =>
  intro hf
  exact okD_vrep (ih (by simpa [Sh.flat] using hf)) n
 | sl => intro hf; cases hf
 | ptr => intro hf; cases hf
theorem keyD_ok {K : Sh} {k : Value} {x : Den K} (h : keyD K k = some x) : k = valD K x ∧ (okV k → okD K x) ∧ K.isAgg = false ∧ K.flat = true := by
 cases K with
 | int i =>
  cases k <;> simp only [keyD] at h <;> try cases h
  split at h
  ·rename_i e
   injection h with h
   subst h; subst e
   exact ⟨rfl, fun h => h, rfl, rfl⟩
  ·cases h
 | bool =>
  cases k <;> simp only [keyD] at h <;> try cases h
  exact ⟨rfl, fun _ => trivial, rfl, rfl⟩
 | str =>
  cases k <;> simp only [keyD] at h <;> try cases h
  exact ⟨rfl, fun h => h, rfl, rfl⟩
 | _ => cases k <;> simp only [keyD] at h <;> cases h
theorem beq_bytes (x y : ByteArray) : (x == y) = decide (x.data.toList = y.data.toList) := by
 apply Bool.eq_iff_iff.2
 simp only [MapKept.bytes_beq, decide_eq_true_eq]
 constructor
 ·intro h; rw [h]
 ·intro h
  have := Array.ext' h
  cases x; cases y
  simp only at this
  rw [this]
theorem mapT_spec (hT : TyOK E.P E.ty) {t : TypeId} {M : MapT} (he : mapT E t = some M) :
  ∃ kt vt d, E.P.underlying t = some (.map kt vt) ∧ E.P.underlying kt = some d ∧ (∀ x : Den M.K, MapKept.IsKey d (valD M.K x)) ∧
   M.K.isAgg = false ∧ M.V.flat = true ∧ (zeroValue vt).run E.P w = .ok (valD M.V (dz M.V)) w ∧
   ∀ (x y : Den M.K), Instr.sameNow d (valD M.K x) (valD M.K y) = some (denEq M.K x y) := by
 unfold mapT at he
 split at he
 ·rename_i ti hti
  obtain ⟨dd, hd, hk⟩ := (hT t _ hti).desc
  split at he
  ·rename_i kt vt htk
   rw [htk] at hk
   simp only [TKOK] at hk
   subst hk
   split at he
   ·rename_i ik iv hik hiv
    split at he
    ·rename_i Ks Vs hK hV
     split at he
     ·rename_i hc
      injection he with he
      subst he
      simp only [Bool.and_eq_true] at hc
      obtain ⟨⟨c1, c2⟩, c3⟩ := hc
      obtain ⟨d, hd2, hk2⟩ := (hT kt _ hik).desc
      obtain ⟨tiv, i1, i2, i3, z, i4, i5⟩ := (hT vt _ hiv).info
      obtain ⟨s1, s2, s3⟩ := (hT vt _ hiv).sh Vs hV
      have hz : (zeroValue vt).run E.P w = .ok (valD Vs (dz Vs)) w := by
       rw [qep i1 i4]
       congr 1
       unfold zShape at c3
       rw [i1] at c3
       simp only [i4] at c3
       unfold valD
       rw [valsD_zero c2, s2, ← i5]
       cases z with
       | agg cs => simp only at c3; rw [if_pos c3]; simp [Value.cells]
       | _ => simp only [Bool.not_eq_true'] at c3; rw [c3]; simp [Value.cells]
      refine ⟨kt, vt, d, hd, hd2, ?_, ?_, c2, hz, ?_⟩
      ·intro x
       unfold scalarK at c1
       split at c1
       ·rename_i k k' e1
        simp only [decide_eq_true_eq] at c1
        subst c1
        rw [e1] at hk2
        simp only [TKOK] at hk2
        subst hk2
        rfl
       ·rename_i e1
        rw [e1] at hk2
        simp only [TKOK] at hk2
        subst hk2
        trivial
       ·rename_i e1
        rw [e1] at hk2
        simp only [TKOK] at hk2
        subst hk2
        trivial
       ·cases c1
      ·unfold scalarK at c1
       split at c1 <;> first | rfl | cases c1
      ·intro x y
       unfold scalarK at c1
       split at c1
       ·rename_i k k' e1
        simp only [decide_eq_true_eq] at c1
        subst c1
        rw [e1] at hk2
        simp only [TKOK] at hk2
        subst hk2
        simp only [valD, valsD, Sh.isAgg, Instr.sameNow, denEq, List.headD, Bool.false_eq_true, if_false, if_true, Option.some.injEq]
        exact Bool.eq_iff_iff.2 (by simp)
       ·rename_i e1
        rw [e1] at hk2
        simp only [TKOK] at hk2
        subst hk2
        simp [valD, valsD, Sh.isAgg, Instr.sameNow, denEq]
       ·rename_i e1
        rw [e1] at hk2
        simp only [TKOK] at hk2
        subst hk2
        simp only [valD, valsD, Sh.isAgg, Instr.sameNow, denEq, List.headD, Bool.false_eq_true, if_false, Option.some.injEq]
        exact beq_bytes x y
       ·cases c1
     ·cases he
    ·cases he
   ·cases he
  ·cases he
 ·cases he
theorem denEq_val {Ks : Sh} (hs : Ks.isAgg = false) {x y : Den Ks} (h : denEq Ks x y = true) : valD Ks x = valD Ks y := by
 cases Ks with
 | int k => have h : x = y := of_decide_eq_true h; rw [h]
 | bool => have h : x = y := beq_iff_eq.1 h; rw [h]
 | str =>
  have h := of_decide_eq_true h
  have := Array.ext' h
  cases x; cases y
  simp only at this
  rw [this]
 | sl => cases h
 | ptr => cases h
 | _ => cases hs
theorem findNow_ok {Ks Vs : Sh} {dd : TypeDesc} (hs : ∀ (x y : Den Ks), Instr.sameNow dd (valD Ks x) (valD Ks y) = some (denEq Ks x y)) (x : Den Ks) : ∀ {l : List (Den Ks × Den Vs)} {es : List MapEntry} (i : Nat), EntR Ks Vs l es →
  (mget l x = none ∧ Instr.findNow dd (valD Ks x) es i = some none) ∨ ∃ j y, mget l x = some y ∧ okD Vs y ∧ Instr.findNow dd (valD Ks x) es i = some (some (i + j, valD Vs y)) ∧ j < es.length ∧
   (∀ z, okD Vs z → okD Ks x → EntR Ks Vs (mput l x z) (es.modify j fun e => { e with key := valD Ks x, val := valD Vs z })) ∧ ∃ m, es[j]? = some m ∧ ∃ x', m.key = valD Ks x' ∧ denEq Ks x x' = true
 | [], es, i, h => by
  have h : es = [] := h
  subst h
  exact .inl ⟨rfl, rfl⟩
 | e :: l, es, i, h => by
  obtain ⟨m, ms, rfl, h1, h2, h3, h4, h5⟩ := h
  simp only [mget, mput, Instr.findNow, h1, hs]
  cases hb : denEq Ks x e.1 with
  | true =>
   refine .inr ⟨0, e.2, rfl, h4, by simp [h2], by simp, fun z hz hx => ⟨_, ms, rfl, rfl, rfl, hx, hz, h5⟩, m, rfl, e.1, h1, hb⟩
  | false =>
   rcases findNow_ok hs x (i + 1) h5 with ⟨k1, k2⟩ | ⟨j, y, k1, k2, k3, k4, k5, k6⟩
   ·exact .inl ⟨k1, k2⟩
   ·exact .inr ⟨j + 1, y, k1, k2, by rw [k3, show i + 1 + j = i + (j + 1) by omega], by simp only [List.length_cons]; omega, fun z hz hx => ⟨m, _, rfl, h1, h2, h3, h4, k5 z hz hx⟩, by simpa using k6⟩
theorem mput_new {Ks Vs : Sh} {dd : TypeDesc} (hs : ∀ (x y : Den Ks), Instr.sameNow dd (valD Ks x) (valD Ks y) = some (denEq Ks x y)) (x : Den Ks) (z : Den Vs) (hx : okD Ks x) (hz : okD Vs z) (n : Nat) : ∀ {l : List (Den Ks × Den Vs)} {es : List MapEntry}, EntR Ks Vs l es → mget l x = none →
  EntR Ks Vs (mput l x z) (es ++ [{ key := valD Ks x, val := valD Vs z, born := n }])
 | [], es, h, _ => by
  have h : es = [] := h
  subst h
  exact ⟨_, [], rfl, rfl, rfl, hx, hz, rfl⟩
 | e :: l, es, h, hg => by
  obtain ⟨m, ms, rfl, h1, h2, h3, h4, h5⟩ := h
  simp only [mget, mput] at hg ⊢
  cases hb : denEq Ks x e.1 with
  | true => rw [hb] at hg; cases hg
  | false =>
   rw [hb] at hg
   exact ⟨m, _, rfl, h1, h2, h3, h4, mput_new hs x z hx hz n h5 hg⟩
theorem VR.mp_inv (h : VR w Z γ (.mp r) v) : ∃ b, γ.β r = some b ∧ v = .map (some b) := by
 cases h with
 | cr h => cases h
 | mp _ b h => exact ⟨b, h, rfl⟩
theorem mapAt_spec (hm : MemR w0 K w Z own γ h used) {Ks Vs : Sh} {l : List (Den Ks × Den Vs)} (he : mapAt h r Ks Vs = some (R, l)) : hget h r = some R ∧ R.cont = .obj (.map Ks Vs l) ∧ ∃ b es clock, γ.β r = some b ∧ w.heap[b]? = some (.map es clock) ∧ EntR Ks Vs l es.toList := by
 unfold mapAt at he
 split at he
 ·rename_i R' hR
  split at he
  ·rename_i K' V' l' hc
   obtain ⟨l2, hl, e⟩ := Option.map_eq_some_iff.1 he
   injection e with e1 e2
   subst e1
   obtain ⟨e3, e4⟩ := qdz hl
   injection e3 with _ e3
   injection e3 with e5 e6
   subst e5; subst e6
   have e7 : l2 = l' := e4
   have e8 : l = l' := by rw [← e2]; exact e7
   subst e8
   obtain ⟨b, o, k1, k2, k3, k4, _⟩ := hm.obj hR hc
   obtain ⟨es, clock, rfl, q⟩ := k4
   exact ⟨hR, hc, b, es, clock, k1, k3, q⟩
  ·cases he
 ·cases he
theorem lookR_rel {Vs : Sh} (hf : Vs.flat = true) {y : Den Vs} (hy : okD Vs y) (c ok : Bool) {o : Option (Den Vs)} (h1 : o.getD (dz Vs) = y) (h2 : o.isSome = ok) : VR w Z γ (lookR Vs o c) (if c then .tuple #[valD Vs y, .bool ok] else valD Vs y) := by
 unfold lookR
 rw [h1, h2]
 cases c with
 | false => exact avOf_valD hf hy
 | true =>
  refine .tup _ _ rfl fun j a v ha hv => ?_
  match j, ha, hv with
  | 0, ha, hv => simp at ha hv; subst ha; subst hv; exact avOf_valD hf hy
  | 1, ha, hv => simp at ha hv; subst ha; subst hv; exact .cr (.val _ trivial)
theorem alookup_sound (hT : TyOK E.P E.ty) (hm : MemR w0 K w Z own γ h used) {t : TypeId} {C : List Prop} {c : Bool} (he : alookup E h t A B c = some (C, a)) (hA : VR w Z γ A V) (hB : VR w Z γ B U) :
  ∃ v, (Instr.lookup t V U c).run E.P w = .ok v w ∧ VR w Z γ a v := by
 unfold alookup at he
 split at he
 ·rename_i M k hM
  obtain ⟨kt, vt, d, h1, h2, h3, h4, h5, h6, h7⟩ := mapT_spec (w := w) hT hM
  split at he
  ·rename_i x hx
   obtain ⟨rfl, ho, _⟩ := keyD_ok hx
   have hv := hB.val_inv
   subst hv
   split at he
   ·rename_i r
    obtain ⟨b, hb, rfl⟩ := hA.mp_inv
    split at he
    ·rename_i R l hl
     injection he with he
     injection he with e1 e2
     subst e1; subst e2
     obtain ⟨_, _, b', es, clock, q1, q2, q3⟩ := mapAt_spec hm hl
     rw [hb] at q1
     injection q1 with q1
     subst q1
     rcases findNow_ok h7 x 0 q3 with ⟨g1, g2⟩ | ⟨j, y, g1, g2, g3, _⟩
     ·refine ⟨_, ?_, lookR_rel h5 (okD_zero h5) c false (by rw [g1]; rfl) (by rw [g1]; rfl)⟩
      simp only [Instr.lookup, Sem.run_bind, run_underlying h1, Result.andThen_ok, MapKept.run_getObj_map q2, MapKept.run_checkKey h2 (h3 x), MapKept.run_findKey h2 g2, h6, Sem.run_pure]
     ·refine ⟨_, ?_, lookR_rel h5 g2 c true (by rw [g1]; rfl) (by rw [g1]; rfl)⟩
      simp only [Instr.lookup, Sem.run_bind, run_underlying h1, Result.andThen_ok, MapKept.run_getObj_map q2, MapKept.run_checkKey h2 (h3 x), MapKept.run_findKey h2 g3, Sem.run_pure]
    ·cases he
   ·injection he with he
    injection he with e1 e2
    subst e1; subst e2
    have hV := hA.val_inv
    subst hV
    refine ⟨_, ?_, lookR_rel h5 (okD_zero h5) c false rfl rfl⟩
    have g2 : Instr.findNow d (valD M.K x) (#[] : Array MapEntry).toList 0 = some none := rfl
    simp only [Instr.lookup, Sem.run_bind, run_underlying h1, Result.andThen_ok, MapKept.run_checkKey h2 (h3 x), MapKept.run_findKey h2 g2, h6, Sem.run_pure]
   ·cases he
  ·cases he
 ·cases he
theorem flatD_sound {Vs : Sh} (hf : Vs.flat = true) {y : Den Vs} (he : flatD Vs A = some y) (hA : VR w Z γ A V) : V = valD Vs y ∧ okD Vs y := by
 unfold flatD at he
 split at he
 ·rename_i T x
  obtain ⟨e, rfl⟩ := qdz he
  subst e
  cases hA with
  | cr hA =>
   cases hA with
   | tva _ _ vs hS h =>
    obtain ⟨e1, e2⟩ := (FR.vals hf).1 h
    refine ⟨?_, e2⟩
    unfold valD
    rw [if_pos hS]
    show _ = Value.agg (valsD T x).toArray
    rw [← e1]
   | tv1 _ _ v hS h =>
    obtain ⟨e1, e2⟩ := (FR.vals hf).1 h
    refine ⟨?_, e2⟩
    unfold valD
    rw [hS]
    show V = (valsD T x).headD undef
    rw [← e1]
    rfl
 ·rename_i cs
  split at he
  ·rename_i hS
   simp only [Bool.and_eq_true] at hS
   obtain ⟨hS, hcl⟩ := hS
   split at he
   ·rename_i x hx
    injection he with he
    subst he
    obtain ⟨arr, rfl, hr⟩ := hA.agg_inv
    have hc : CRs w Z cs arr.toList := ⟨hr.1, fun j a v ha hv => (hr.2 j a v ha hv).toCR (closedAll_at hcl j a ha)⟩
    obtain ⟨us, ws, e1, e2, e3⟩ := qfy hx hc
    have e4 : ws = [] := by have := e3.1; simp at this; exact List.eq_nil_of_length_eq_zero this.symm
    rw [e4, List.append_nil] at e1
    obtain ⟨e5, e6⟩ := (FR.vals hf).1 e2
    refine ⟨?_, e6⟩
    unfold valD
    rw [if_pos hS, ← e5, ← e1]
   ·cases he
  ·cases he
 ·obtain ⟨e1, e2, _⟩ := keyD_ok he
  have hV := hA.val_inv
  subst hV
  exact ⟨e1, e2 hA.val_ok⟩
 ·cases he
theorem amapUpd_sound (hT : TyOK E.P E.ty) (hm : MemR w0 K w Z own γ h used) (hu : ∀ s, used s → used' s) {t : TypeId} {C : List Prop} {ws : List (Nat × Option Root)} {sk : Bool} {D : AV} {W : Value} (he : amapUpd E h t A B D = .w C a ws sk) (hA : VR w Z γ A V) (hB : VR w Z γ B U) (hD : VR w Z γ D W) :
  sk = true ∧ a = .val undef ∧ ∃ w' Z' own' γ', (Instr.mapUpdate t V U W).run E.P w = .ok () w' ∧ Stay w Z w' Z' ∧ Gst.Ext used γ γ' ∧ MemR w0 K w' Z' own' γ' (qav h ws) used' := by
 unfold amapUpd at he
 split at he
 ·rename_i M r k hM
  obtain ⟨kt, vt, d, h1, h2, h3, h4, h5, h6, h7⟩ := mapT_spec (w := w) hT hM
  split at he
  ·rename_i x y R l hx hy hl
   injection he with e1 e2 e3 e4
   subst e1; subst e2; subst e3; subst e4
   obtain ⟨rfl, ho, _⟩ := keyD_ok hx
   have hox := ho hB.val_ok
   have hv := hB.val_inv
   subst hv
   obtain ⟨b, hb, rfl⟩ := hA.mp_inv
   obtain ⟨rfl, hoy⟩ := flatD_sound h5 hy hD
   obtain ⟨hR, hc, b', es, clock, q1, q2, q3⟩ := mapAt_spec hm hl
   rw [hb] at q1
   injection q1 with q1
   subst q1
   refine ⟨rfl, rfl, ?_⟩
   rcases findNow_ok h7 x 0 q3 with ⟨g1, g2⟩ | ⟨j, z, g1, g2, g3, g4, g5, m, g6, x', g7, g8⟩
   ·obtain ⟨m1, m2⟩ := hm.setObj (x' := .map M.K M.V (mput l x y)) (o' := .map (es.push { key := valD M.K x, val := valD M.V y, born := clock }) (clock + 1)) hR hc hb ⟨_, _, rfl, by rw [Array.toList_push]; exact mput_new h7 x y hox hoy clock q3 g1⟩
    refine ⟨_, Z, own, γ, ?_, m1, Gst.Ext.refl _ _, m2.used_mono hu⟩
    simp only [Instr.mapUpdate, Sem.run_bind, run_underlying h1, Result.andThen_ok, MapKept.run_getObj_map q2, MapKept.run_checkKey h2 (h3 x), MapKept.run_findKey h2 g2, MapKept.run_setObj_map _ q2]
   ·have hkey : m.key = valD M.K x := by
     have : denEq M.K x x' = true := g8
     rw [g7]
     exact (denEq_val h4 this).symm
    have hj : es[j]? = some m := by simpa using g6
    obtain ⟨m1, m2⟩ := hm.setObj (x' := .map M.K M.V (mput l x y)) (o' := .map (es.modify j fun e => { e with key := valD M.K x, val := valD M.V y }) clock) hR hc hb ⟨_, _, rfl, by rw [Array.toList_modify]; exact g5 y hoy hox⟩
    refine ⟨_, Z, own, γ, ?_, m1, Gst.Ext.refl _ _, m2.used_mono hu⟩
    simp only [Nat.zero_add] at g3
    simp only [Instr.mapUpdate, Sem.run_bind, run_underlying h1, Result.andThen_ok, MapKept.run_getObj_map q2, MapKept.run_checkKey h2 (h3 x), MapKept.run_findKey h2 g3, hj, Option.map_some, Option.getD_some, hkey, MapKept.run_keyThatStays (h3 x), MapKept.run_setObj_map _ q2]
  ·cases he
 ·cases he
theorem amakeMap_sound (hm : MemR w0 K w Z own γ h used) (hid : ¬ used id) (hu : ∀ s, used s → used' s) (hid' : used' id) {t : TypeId} {C : List Prop} {ws : List (Nat × Option Root)} {sk : Bool} (he : amakeMap E id t = .w C a ws sk) :
  sk = false ∧ WOK E.P w0 K w Z γ h used used' (Instr.makeMap t none) a ws := by
 unfold amakeMap at he
 split at he
 ·rename_i M hM
  injection he with e1 e2 e3 e4
  subst e1; subst e2; subst e3; subst e4
  obtain ⟨own', γ', g1, g2, g3, g4⟩ := hm.newObj hid hu hid' (x := .map M.K M.V []) (o := .map #[] 0) ⟨#[], 0, rfl, rfl⟩
  exact ⟨rfl, .map (some w.heap.size), w.alloc (.map #[] 0), Z, own', γ', rfl, g1, g2, g3, .mp _ _ g4⟩
 ·cases he
theorem VR.refx_inv {off n i : Nat} (h : VR w Z γ (.refx r off n i) v) : ∃ b, γ.β r = some b ∧ i < n ∧ v = .pointer (some ⟨b, off + i, none⟩) := by
 cases h with
 | cr h => cases h
 | refx _ _ _ _ b h hi => exact ⟨b, h, hi, rfl⟩
theorem aindexX_sound (hT : TyOK E.P E.ty) {t : TypeId} {k : IntKind} {i : Int} {C : List Prop} (he : aindexX E t A i = some (C, a)) (hC : AllP C) (hA : VR w Z γ A V) :
  ∃ v, (Instr.indexAt t V (.int k i)).run E.P w = .ok v w ∧ VR w Z γ a v := by
 unfold aindexX at he
 split at he
 ·rename_i n e _ _ _ _ r off hi
  obtain ⟨d, hd, hk⟩ := (hT t _ hi).desc
  simp only [TKOK] at hk
  subst hk
  split at he
  ·rename_i ie hie
   obtain ⟨tie, k1, k2, _⟩ := (hT e _ hie).info
   split at he
   ·rename_i h1
    injection he with he; injection he with h1 h2; subst h1; subst h2
    obtain ⟨b, hb, rfl⟩ := hA.ref_inv
    simp only [AllP, and_true] at hC
    refine ⟨.pointer (some ⟨b, off + i.toNat, none⟩), ?_, .refx _ _ _ _ _ hb (by omega)⟩
    simp only [Instr.indexAt, asIntOf, Sem.run_bind, Sem.run_pure, Result.andThen_ok, run_underlying hd, Instr.sureAddr, hC, and_self, if_true, qaw k1 k2, qee, h1, Nat.mul_one]
   ·cases he
  ·cases he
 ·cases he
theorem intsOf_eq {k : IntKind} : ∀ {cs : List AV} {l : List Int}, intsOf k cs = some l → cs = l.map (aint k)
 | [], l, h => by
  simp only [intsOf, Option.some.injEq] at h
  subst h
  rfl
 | c :: cs, l, h => by
  cases c with
  | val v =>
   cases v with
   | int k' x =>
    simp only [intsOf] at h
    split at h
    ·rename_i e
     subst e
     split at h
     ·rename_i xs hxs
      injection h with h
      subst h
      rw [intsOf_eq hxs]
      rfl
     ·cases h
    ·cases h
   | _ => cases h
  | _ => cases h
theorem aloadX_eq {t : TypeId} {off n i : Nat} {C : List Prop} (he : aloadX E h t r off n i = some (C, a)) (hi : i < n) : aload E h t (.ref r (off + i)) = some (C, a) := by
 unfold aloadX at he
 split at he
 ·rename_i ti R hti hR
  split at he
  ·rename_i k cs hk hc
   split at he
   ·rename_i hcond
    split at he
    ·rename_i l hl
     injection he with he
     have hcs := intsOf_eq hl
     have hget : cs[off + i]? = some (aint k (igd l i)) := by
      have h1 : ((cs.drop off).take n)[i]? = cs[off + i]? := by rw [List.getElem?_take, if_pos hi, List.getElem?_drop]
      have hlen : i < l.length := by
       have := congrArg List.length hcs
       simp only [List.length_take, List.length_drop, List.length_map] at this
       omega
      rw [← h1, hcs, List.getElem?_map, List.getElem?_eq_getElem hlen]
      simp [igd, hlen]
     have hag : ti.isAgg = false := by unfold TI.isAgg; rw [hk]
     simp only [aload, hti, hR, hc, takeVar, hag, Bool.false_eq_true, if_false, hget, Option.map_some]
     exact congrArg some he
    ·cases he
   ·cases he
  ·cases he
 ·cases he
theorem setCells_same {k : IntKind} {y : Int} {i : Nat} : ∀ {l : List Int} {cs : List AV} {off j : Nat}, (cs.drop off).take l.length = l.map (aint k) → i < j → setCells cs off (selCells k i y j l) = cs
 | [], cs, off, j, _, _ => rfl
 | x :: l, cs, off, j, h, h1 => by
  have hx : cs[off]? = some (aint k x) := by
   have := congrArg (fun q => q[0]?) h
   simpa [List.getElem?_take, List.getElem?_drop] using this
  have htl : (cs.drop (off + 1)).take l.length = l.map (aint k) := by
   have := congrArg (List.drop 1) h
   simpa [List.drop_take, List.drop_drop, Nat.add_comm] using this
  simp only [selCells, setCells]
  rw [isel, if_neg (by omega)]
  have hs : cs.set off (aint k x) = cs := by
   apply List.ext_getElem?
   intro q
   rw [List.getElem?_set]
   split
   ·rename_i e
    subst e
    split
    ·exact hx.symm
    ·rename_i hlt
     rw [List.getElem?_eq_none (by omega)]
   ·rfl
  rw [hs]
  exact setCells_same htl (by omega)
theorem setCells_sel {k : IntKind} {y : Int} : ∀ {l : List Int} {cs : List AV} {off i j : Nat}, (cs.drop off).take l.length = l.map (aint k) → j ≤ i → i < j + l.length → setCells cs off (selCells k i y j l) = cs.set (off + (i - j)) (aint k y)
 | [], cs, off, i, j, h, h1, h2 => by simp at h2; omega
 | x :: l, cs, off, i, j, h, h1, h2 => by
  have hx : cs[off]? = some (aint k x) := by
   have := congrArg (fun q => q[0]?) h
   simpa [List.getElem?_take, List.getElem?_drop] using this
  have htl : (cs.drop (off + 1)).take l.length = l.map (aint k) := by
   have := congrArg (List.drop 1) h
   simpa [List.drop_take, List.drop_drop, Nat.add_comm] using this
  simp only [selCells, setCells]
  by_cases hij : i = j
  ·subst hij
   rw [isel, if_pos rfl, Nat.sub_self, Nat.add_zero]
   exact setCells_same (k := k) (i := i) (y := y) (by
    rw [List.drop_set, if_pos (by omega)]
    exact htl) (by omega)
  ·rw [isel, if_neg hij]
   have hs : cs.set off (aint k x) = cs := by
    apply List.ext_getElem?
    intro q
    rw [List.getElem?_set]
    split
    ·rename_i e
     subst e
     split
     ·exact hx.symm
     ·rename_i hlt
      rw [List.getElem?_eq_none (by omega)]
    ·rfl
   rw [hs, setCells_sel htl (by omega) (by simp at h2; omega)]
   congr 1
   omega
theorem astoreX_eq {t : TypeId} {off n i : Nat} {C : List Prop} {ws : List (Nat × Option Root)} {sk : Bool} (he : astoreX E h t A r off n i = .w C a ws sk) (hi : i < n) : astore E h id t A (.ref r (off + i)) = .w C a ws sk := by
 unfold astoreX at he
 split at he
 ·rename_i ti R k y hti hR
  split at he
  ·rename_i k' cs hk hc
   split at he
   ·rename_i hcond
    obtain ⟨c1, c2, rfl⟩ := hcond
    split at he
    ·rename_i l hl
     have hcs := intsOf_eq hl
     have hlen : l.length = n := by
      have := congrArg List.length hcs
      simp only [List.length_take, List.length_drop, List.length_map] at this
      omega
     have h1 := setCells_sel (k := k) (y := y) (l := l) (cs := cs) (off := off) (i := i) (j := 0) (by rw [hlen]; exact hcs) (Nat.zero_le _) (by omega)
     rw [Nat.sub_zero] at h1
     rw [← he, h1]
     simp only [astore, hti, hR, hc, AV.cells]
     exact (if_pos ⟨by simp [c1], by rw [c1]; omega, rfl⟩).trans rfl
    ·cases he
   ·cases he
  ·cases he
 ·cases he
end
end Go.BE
namespace Go.BE
open Go.RowKit
def IsW (x : Out) : Prop := (∃ C a ws sk, x = .w C a ws sk) ∨ x = .no
theorem IsW.w {C : List Prop} {a : AV} {ws : List (Nat × Option Root)} {sk : Bool} : IsW (.w C a ws sk) := .inl ⟨C, a, ws, sk, rfl⟩
theorem IsW.n : IsW .no := .inr rfl
theorem abuildSlice_form (E : Ctx) (h : Heap) (id lv : Nat) (t : TypeId) (len : Nat) (ps : List (Nat × AV)) : IsW (abuildSlice E h id lv t len ps) := by
 unfold abuildSlice
 repeat' split
 all_goals first | exact IsW.n | exact IsW.w
theorem abuildCells_form (E : Ctx) (id : Nat) (t : TypeId) (len : Nat) (ps : List (Nat × AV)) : IsW (abuildCells E id t len ps) := by
 unfold abuildCells
 repeat' split
 all_goals first | exact IsW.n | exact IsW.w
theorem amakeSlice_form (E : Ctx) (id lv : Nat) (t : TypeId) (n m : Int) : IsW (amakeSlice E id lv t n m) := by
 unfold amakeSlice
 repeat' split
 all_goals first | exact IsW.n | exact IsW.w
theorem aappend_form (E : Ctx) (h : Heap) (id lv : Nat) (t : TypeId) (x y : AV) : IsW (aappend E h id lv t x y) := by
 unfold aappend
 repeat' split
 all_goals first | exact IsW.n | exact IsW.w
theorem aappIn_form (E : Ctx) (h : Heap) (t : TypeId) (x y : AV) : IsW (aappIn E h t x y) := by
 unfold aappIn
 repeat' split
 all_goals first | exact IsW.n | exact IsW.w
theorem aclear_form (E : Ctx) (h : Heap) (t : TypeId) (x : AV) : IsW (aclear E h t x) := by
 unfold aclear
 repeat' split
 all_goals first | exact IsW.n | exact IsW.w
theorem astorePend_form (h : Heap) (r s : Nat) (p : Pth) (i : Nat) (st : List St) (v : AV) : IsW (astorePend h r s p i st v) := by
 unfold astorePend
 repeat' split
 all_goals first | exact IsW.n | exact IsW.w
theorem astore_form (E : Ctx) (h : Heap) (id : Nat) (t : TypeId) (x y : AV) : IsW (astore E h id t x y) := by
 unfold astore
 repeat' split
 all_goals first | exact IsW.n | exact IsW.w | exact astorePend_form _ _ _ _ _ _ _
theorem astoreX_form (E : Ctx) (h : Heap) (t : TypeId) (x : AV) (r off n i : Nat) : IsW (astoreX E h t x r off n i) := by
 unfold astoreX
 repeat' split
 all_goals first | exact IsW.n | exact IsW.w
theorem amapUpd_form (E : Ctx) (h : Heap) (t : TypeId) (x y z : AV) : IsW (amapUpd E h t x y z) := by
 unfold amapUpd
 repeat' split
 all_goals first | exact IsW.n | exact IsW.w
theorem amakeMap_form (E : Ctx) (id : Nat) (t : TypeId) : IsW (amakeMap E id t) := by
 unfold amakeMap
 repeat' split
 all_goals first | exact IsW.n | exact IsW.w
theorem adata_form (h : Heap) (id lv : Nat) (i : TI) (cs : List AV) : IsW (adata h id lv i cs) := by
 unfold adata
 repeat' split
 all_goals first | exact IsW.n | exact IsW.w
theorem abox_form (id : Nat) (ro : Bool) (x : AV) : IsW (abox id ro x) := by
 unfold abox
 repeat' split
 all_goals first | exact IsW.n | exact IsW.w
section
variable {P : Program} {E : Ctx} {w w' w0 : World} {Z Z' : Nat → Prop} {K : Kp} {own own' : Own} {γ γ' : Gst} {h h' : Heap} {used used' : Nat → Prop} {r s d id : Nat} {R : Root} {a A B : AV} {v V U : Value} {cs ds : List AV} {vs us : List Value}
theorem WOK.formed {ρ : Operand → Value} {o : Oper} {m : Sem Value} {x : Out} (hf : IsW x) (ho : (execOp ρ o) = (do pure (.value (← m)))) (hx : ∀ C a ws sk, x = .w C a ws sk → AllP C → sk = false ∧ WOK E.P w0 K w Z γ h used used' m a ws) :
  OutOK E w0 K w Z γ h used used' ρ o x := WOK.mk_out ho hx hf
theorem optI_rel {ρa : Operand → AV} {ρ : Operand → Value} (hρ : ∀ x, VR w Z γ (ρa x) (ρ x)) {x : Option Operand} {i : Option Int} (he : optI ρa x = some i) : OI i (x.map ρ) := by
 cases x with
 | none =>
  simp only [optI, Option.some.injEq] at he
  subst he
  exact .inl ⟨rfl, rfl⟩
 | some y =>
  simp only [optI, Option.map_eq_some_iff] at he
  obtain ⟨n, hn, rfl⟩ := he
  obtain ⟨k, hk⟩ := asI_inv (hρ y) hn
  exact .inr ⟨n, k, rfl, by simp [hk]⟩
theorem append_congr {ats : Array TypeId} {t ty : TypeId} {args : Array Value} (h0 : ats[0]? = some t) (h1 : ats[1]? = some t) : Builtin.append_ ats ty args = Builtin.append_ #[t, t] ty args := by
 unfold Builtin.append_
 simp only [h0, h1]
 rfl
theorem clear_congr {ats : Array TypeId} {t ty : TypeId} {args : Array Value} (h0 : ats[0]? = some t) : Builtin.clear_ ats ty args = Builtin.clear_ #[t] ty args := by
 unfold Builtin.clear_
 simp only [h0]
 rfl
theorem rop_vals {cs : List AV} {v : Value} (hA : CR w Z (.rop cs 0) v) : ∃ b o us, v = .pointer (some ⟨b, o, none⟩) ∧ Z b ∧ Run w b o us ∧ CRs w Z cs us := by
 generalize hB : AV.rop cs 0 = B at hA
 cases hA with
 | rop cs' off b o u hz hc hr =>
  injection hB with h1 h2
  subst h1; subst h2
  refine ⟨b, o + 0, (List.range cs.length).map u, rfl, hz, fun j v hj => ?_, by simp, fun j x z hx hz => ?_⟩
  ·rw [List.getElem?_map] at hj
   obtain ⟨i, hi, rfl⟩ := Option.map_eq_some_iff.1 hj
   have hlt : j < cs.length := by
    have := (List.getElem?_eq_some_iff.1 hi).1
    simpa using this
   rw [List.getElem?_range hlt] at hi
   injection hi with hi
   subst hi
   exact hc j cs[j] (List.getElem?_eq_getElem hlt)
  ·rw [List.getElem?_map] at hz
   obtain ⟨i, hi, rfl⟩ := Option.map_eq_some_iff.1 hz
   rw [List.getElem?_range (List.getElem?_eq_some_iff.1 hx).1] at hi
   injection hi with hi
   subst hi
   exact hr _ x hx
 | _ => cases hB
theorem asliceArr_sound (hT : TyOK E.P E.ty) (hm : MemR w0 K w Z own γ h used) (hu : ∀ s, used s → used' s) {t : TypeId} {C : List Prop} {ws : List (Nat × Option Root)} (he : asliceArr E h t A = some (C, a, ws)) (hC : AllP C) (hA : VR w Z γ A V) :
  WOK E.P w0 K w Z γ h used used' (Instr.sliceAt t V none none none) a ws := by
 unfold asliceArr at he
 split at he
 ·rename_i n e _ _ _ _ hty
  obtain ⟨d, hd, hk⟩ := (hT t _ hty).desc
  simp only [TKOK] at hk
  subst hk
  split at he
  ·rename_i ie hie
   obtain ⟨tie, k1, k2, _⟩ := (hT e _ hie).info
   split at he
   ·rename_i S hS
    split at he
    ·rename_i hcond
     obtain ⟨c1, c2, c3, c4⟩ := hcond
     split at he
     ·rename_i r
      split at he
      ·rename_i C1 cs ws1 hcl
       obtain ⟨xs, hxs, e1⟩ := Option.map_eq_some_iff.1 he
       simp only [Prod.mk.injEq] at e1
       obtain ⟨rfl, rfl, rfl⟩ := e1
       obtain ⟨Z1, own1, q1, q2⟩ := qgg hm hcl hC hA
       obtain ⟨b, o, us, rfl, hz, hr, hcs⟩ := rop_vals q2
       obtain ⟨j1, j2, j3⟩ := elemsOf_sound n hxs hcs
       refine ⟨.slice (some ⟨b, o, none⟩) n n, w, Z1, own1, γ, ?_, q1.stay, Gst.Ext.refl _ _, q1.mem.used_mono hu, .cr (.tv1 _ _ _ rfl ⟨_, n, by rw [← j1], Nat.le_of_eq j1, ⟨by show (xs : List (Den S)).length * _ ≤ _; rw [j1]; exact c3, by show (xs : List (Den S)).length ≤ _; rw [j1]; exact c4⟩, fun _ => ⟨b, o, rfl, hz, fun i y hy => ⟨seg us (i * S.size) S.size, ?_, fun j v hj => ?_, j3 i y hy⟩⟩⟩)⟩
       ·simp only [Instr.sliceAt, Instr.sureAddr, asAddr, Instr.sliceBounds, Sem.run_bind, run_underlying hd, Result.andThen_ok, Sem.run_pure, qaw k1 k2, Nat.zero_mul, Nat.sub_zero]
        rw [if_neg (by omega)]
        simp [Addr.add]
       ·exact (j3 i y hy).len
       ·have hj' : us[i * S.size + j]? = some v := by
         have hlt := (List.getElem?_eq_some_iff.1 hj).1
         unfold BE.seg at hj hlt
         simp only [List.length_take] at hlt
         rw [List.getElem?_take_of_lt (by omega), List.getElem?_drop] at hj
         exact hj
        have := hr _ v hj'
        rw [← Nat.add_assoc] at this
        exact this
      ·cases he
     ·cases he
    ·cases he
   ·cases he
  ·cases he
 ·cases he
set_option maxHeartbeats 2000000 in
theorem valsOf_rel : ∀ {cs : List AV} {us vs : List Value}, valsOf cs = some us → VRs w Z γ cs vs → us = vs
 | [], us, [], h, _ => by injection h with h; exact h.symm
 | [], us, _ :: _, h, hr => by simp [VRs] at hr
 | a :: l, us, [], h, hr => by simp [VRs] at hr
 | a :: l, us, v :: vs, h, hr => by
  unfold valsOf at h
  split at h
  ·cases ‹_ :: _ = []›
  ·rename_i u l' heq
   injection heq with e1 e2
   subst e1; subst e2
   split at h
   ·rename_i us' hus
    injection h with h
    subst h
    have h1 := hr.head.val_inv
    have h2 := valsOf_rel hus hr.tail
    rw [h1, h2]
   ·cases h
  ·cases h
theorem okV1_of {u : Value} (h : okV u) : okV1 u := by cases u <;> first | exact h | trivial
theorem valsOf_ok : ∀ {cs : List AV} {us vs : List Value}, valsOf cs = some us → VRs w Z γ cs vs → ∀ (j : Nat) u, vs[j]? = some u → okV1 u
 | [], us, [], h, _, j, u, hj => by simp at hj
 | [], us, _ :: _, h, hr, _, _, _ => by simp [VRs] at hr
 | a :: l, us, [], h, hr, _, _, _ => by simp [VRs] at hr
 | a :: l, us, v :: vs, h, hr, j, u, hj => by
  unfold valsOf at h
  split at h
  ·cases ‹_ :: _ = []›
  ·rename_i u' l' heq
   injection heq with e1 e2
   subst e1; subst e2
   split at h
   ·rename_i us' hus
    cases j with
    | zero =>
     simp at hj
     subst hj
     have h0 := hr.head
     have h1 := h0.val_inv
     rw [h1]
     exact okV1_of h0.val_ok
    | succ j => exact valsOf_ok hus hr.tail j u (by simpa using hj)
   ·cases h
  ·cases h
theorem aiface_sound (hT : TyOK P E.ty) {t : TypeId} (he : aiface E t A = some a) (hA : VR w Z γ A V) : ∃ v, (Instr.makeInterface t V).run P w = .ok v w ∧ VR w Z γ a v := by
 unfold aiface at he
 split at he
 ·rename_i fs sz bs zz shp hi
  split at he
  ·rename_i cs hcs
   split at he
   ·rename_i us hus
    injection he with he
    subst he
    have hx := hA.expand
    rw [hcs] at hx
    obtain ⟨arr, rfl, hv⟩ := hx.agg_inv'
    have := valsOf_rel hus hv
    subst this
    obtain ⟨d, hd, hk⟩ := (hT t _ hi).desc
    obtain ⟨gs, hgs, _⟩ : ∃ gs, d = .struct gs ∧ True := by
     obtain ⟨gs, h1, _⟩ := hk
     exact ⟨gs, h1, trivial⟩
    subst hgs
    have hall : okV (.iface t (.agg arr)) := fun u hu => by
     obtain ⟨j, hj⟩ := List.mem_iff_getElem?.1 hu
     exact valsOf_ok hus hv j u hj
    refine ⟨.iface t (.agg arr), ?_, by simpa using VR.cr (.val (.iface t (.agg arr)) hall)⟩
    simp only [Instr.makeInterface, Sem.run_bind, run_underlying hd, Result.andThen_ok, Sem.run_pure]
   ·cases he
  ·cases he
 ·cases he
theorem fn_rel {f : FuncId} {arr : Array Operand} {ρa : Operand → AV} {ρ : Operand → Value} (hc : VRs w Z γ (arr.toList.map ρa) (arr.toList.map ρ)) : VR w Z γ (.fn f (arr.toList.map ρa)) (fnV f (arr.map ρ)) :=
 .fn _ _ _ (by simp) (fun j x y hx hy => hc.2 j x y hx (by rw [← Array.getElem?_toList] at hy; simpa using hy))
set_option maxHeartbeats 1600000 in
theorem aop1_sound (hT : TyOK E.P E.ty) (hm : MemR w0 K w Z own γ h used) (hid : ¬ used id) (hu : ∀ s, used s → used' s) (hid' : used' id) {si : Nat} {ρa : Operand → AV} {ρ : Operand → Value} (hρ : ∀ x, VR w Z γ (ρa x) (ρ x)) (o : Oper) : OutOK E w0 K w Z γ h used used' ρ o (aop1 E h id si ρa o.op) := by
 unfold aop1
 split
 ·rename_i x ho
  exact fun _ => ⟨ρ x, by simp only [execOp, ho, Sem.run_pure], hρ x⟩
 ·rename_i x ho
  exact fun _ => ⟨ρ x, by simp only [execOp, ho, Sem.run_pure], hρ x⟩
 ·trivial
 ·rename_i t ho
  split
  ·rename_i i hi
   split
   ·refine WOK.formed (adata_form _ _ _ _ _) (m := Instr.alloc t true (.tuple #[])) (by simp only [execOp, ho]) fun C a ws sk he hC => ?_
    obtain ⟨arr, e1, e2⟩ := alloc_sound (w := w) (Z := Z) (γ := γ) hT hi
    exact adata_sound hT hm hid hu hid' hi he hC e2 e1
   ·exact fun _ => WOK.out (m := Instr.alloc t true (.tuple #[])) (by simp only [execOp, ho]) (alloc_ok hT hm hid hu hid' hi)
  ·trivial
 ·rename_i t x ho
  split
  ·rename_i i hi
   split
   ·refine WOK.formed (adata_form _ _ _ _ _) (m := Instr.box t (ρ x)) (by simp only [execOp, ho]) fun C a ws sk he hC => ?_
    have hall : (ρa x).cells.all AV.one = true := by
     unfold adata at he
     split at he
     ·split at he
      ·rename_i hcond
       exact hcond.2.2.2
      ·cases he
     ·cases he
    obtain ⟨e1, e2⟩ := box_sound (P := E.P) (t := t) (hρ x) hall
    exact adata_sound hT hm hid hu hid' hi he hC e2 e1
   ·exact WOK.formed (abox_form _ _ _) (m := Instr.box t (ρ x)) (by simp only [execOp, ho]) fun C a ws sk he _ => abox_sound hm hid hu hid' he (hρ x)
  ·trivial
 ·rename_i t ps ho
  refine oV_ok fun a he => ?_
  obtain ⟨v, e1, e2⟩ := abuild_sound hT (parts hρ ps) he
  exact ⟨v, by simp only [execOp, ho, Sem.run_bind, e1, Result.andThen_ok, Sem.run_pure], e2⟩
 ·rename_i t len ps ho
  split
  ·exact WOK.formed (abuildCells_form _ _ _ _ _) (m := Instr.buildSlice t len (ps.map fun (i, x) => (i, ρ x))) (by simp only [execOp, ho]) fun C a ws sk he hC => abuildCells_sound (ps := ps.toList.map fun (i, x) => (i, ρa x)) (vps := ps.map fun (i, x) => (i, ρ x)) hT hm hid hu hid' (parts hρ ps) he hC
  exact WOK.formed (abuildSlice_form _ _ _ _ _ _ _) (m := Instr.buildSlice t len (ps.map fun (i, x) => (i, ρ x))) (by simp only [execOp, ho]) fun C a ws sk he hC => abuildSlice_sound (ps := ps.toList.map fun (i, x) => (i, ρa x)) (vps := ps.map fun (i, x) => (i, ρ x)) hT hm hid hu hid' (parts hρ ps) he hC
 ·rename_i t len cap ho
  split
  ·rename_i n m hn hm'
   obtain ⟨k1, e1⟩ := asI_inv (hρ len) hn
   obtain ⟨k2, e2⟩ := asI_inv (hρ cap) hm'
   exact WOK.formed (amakeSlice_form _ _ _ _ _ _) (m := Instr.makeSlice t (.int k1 n) (.int k2 m)) (by simp only [execOp, ho, e1, e2]) fun C a ws sk he hC => amakeSlice_sound hT hm hid hu hid' he hC
  ·trivial
 ·rename_i t x ho
  split
  ·rename_i r off n i hx
   refine oC_ok fun C a he hC => ?_
   have hv := hρ x
   rw [hx] at hv
   obtain ⟨b, hb, hi, hv⟩ := hv.refx_inv
   obtain ⟨v, e1, e2⟩ := aload_sound hT hm (aloadX_eq he hi) hC (.ref _ _ _ hb)
   exact ⟨v, by simp only [execOp, ho, Sem.run_bind, hv, e1, Result.andThen_ok, Sem.run_pure], e2⟩
  ·refine oC_ok fun C a he hC => ?_
   obtain ⟨v, e1, e2⟩ := aload_sound hT hm he hC (hρ x)
   exact ⟨v, by simp only [execOp, ho, Sem.run_bind, e1, Result.andThen_ok, Sem.run_pure], e2⟩
 ·rename_i t x y ho
  split
  ·rename_i r off n i hx
   have hv := hρ x
   rw [hx] at hv
   obtain ⟨b, hb, hi, hv⟩ := hv.refx_inv
   rcases astoreX_form E h t (ρa y) r off n i with ⟨C, a, ws, sk, he⟩ | he
   ·rw [he]
    intro hC
    obtain ⟨rfl, rfl, w', Z', own', γ', e1, e2, e3, e4⟩ := astore_sound (id := id) hT hm hid hu hid' (astoreX_eq he hi) hC (hρ y) (.ref _ _ _ hb)
    exact ⟨.skip, undef, w', Z', own', γ', by simp only [execOp, ho, hv, Sem.run_bind, e1, Result.andThen_ok, Sem.run_pure], by rw [if_pos rfl]; exact ⟨rfl, rfl⟩, e2, e3, e4, .cr (.val _ trivial)⟩
   ·rw [he]
    trivial
  ·rcases astore_form E h id t (ρa y) (ρa x) with ⟨C, a, ws, sk, he⟩ | he
   ·rw [he]
    intro hC
    obtain ⟨rfl, rfl, w', Z', own', γ', e1, e2, e3, e4⟩ := astore_sound hT hm hid hu hid' he hC (hρ y) (hρ x)
    exact ⟨.skip, undef, w', Z', own', γ', by simp only [execOp, ho, Sem.run_bind, e1, Result.andThen_ok, Sem.run_pure], by rw [if_pos rfl]; exact ⟨rfl, rfl⟩, e2, e3, e4, .cr (.val _ trivial)⟩
   ·rw [he]
    trivial
 ·rename_i x ho
  have hx := hρ x
  split
  ·rename_i r off hr
   rw [hr] at hx
   intro _
   obtain ⟨b, hb, hv⟩ := hx.ref_inv
   exact ⟨.pointer (some ⟨b, off, none⟩), by simp only [execOp, ho, hv, Sem.run_pure], .ref _ _ _ hb⟩
  ·rename_i cs off hr
   rw [hr] at hx
   intro _
   obtain ⟨b, off', hv, hb⟩ := hx.rop_inv
   exact ⟨.pointer (some ⟨b, off' + off, none⟩), by simp only [execOp, ho, hv, Sem.run_pure], hb off⟩
  ·rename_i S y hr
   rw [hr] at hx
   intro _
   obtain ⟨b, o', us, hv, h1, h2, h3⟩ := hx.rtp_inv
   exact ⟨.pointer (some ⟨b, o', none⟩), by simp only [execOp, ho, hv, Sem.run_pure], .cr (.rtp _ _ _ _ _ h1 h2 h3)⟩
  ·rename_i r s p i st hr
   rw [hr] at hx
   intro _
   obtain ⟨hd, b, o', so, T, h1, h2, h3, h4, hv⟩ := hx.tref_inv
   exact ⟨_, by simp only [execOp, ho, hv, Sem.run_pure], .tref _ _ _ _ _ hd b o' so T h1 h2 h3 h4⟩
  ·rename_i r s p hr
   rw [hr] at hx
   split
   ·rename_i N hN
    intro hC
    obtain ⟨hC1, hC2, _⟩ := AllP.append.1 hC
    cases hx with
    | cr h => cases h
    | optr _ _ _ _ hd0 q1 q2 q3 =>
     obtain ⟨z1, z2, z3, z4, z5, z6⟩ := hm.hdA hN hC1 q1
     unfold HVal at q3
     rw [if_pos q2] at q3
     rcases q3 with ⟨k1, _⟩ | ⟨b, o', k1, k2, hv⟩
     ·omega
     ·refine ⟨.pointer (some ⟨b, o', none⟩), by simp only [execOp, ho, hv, Sem.run_pure], ?_⟩
      have := VR.tref (w := w) (Z := Z) r s p 0 [] hd0 b o' 0 hd0.S q1 (by omega) k1 (by cases hd0.S <;> rfl)
      simpa using this
   ·trivial
  ·rename_i S z hr
   rw [hr] at hx
   intro hC
   obtain ⟨hz, _⟩ := hC
   rcases (hx.toCR rfl).ptr_inv with ⟨rfl, _⟩ | ⟨y, b, o', us, rfl, hv, h1, h2, h3, h4⟩
   ·cases hz
   ·exact ⟨.pointer (some ⟨b, o', none⟩), by simp only [execOp, ho, hv, Sem.run_pure], .cr (.rtp _ _ _ _ us h1 h3 h4)⟩
  ·trivial
 ·rename_i op t x y yt ho
  split
  ·rename_i p hp
   obtain ⟨b, e1, e2⟩ := anil_sound (xo := x) (yo := y) hT hp (hρ x) (hρ y)
   exact ⟨b, e1, by simp only [execOp, ho]; rw [Sem.run_bind, e2]; rfl⟩
  ·split
   ·rename_i C a hp
    intro hC
    obtain ⟨v, e1, e2⟩ := aptr_sound (xo := x) (yo := y) hT hm hp hC (hρ x) (hρ y)
    exact ⟨v, by simp only [execOp, ho]; rw [Sem.run_bind, e1]; rfl, e2⟩
   refine oC_ok fun C a he hC => ?_
   obtain ⟨v, e1, e2⟩ := abin_sound (xo := x) (yo := y) hT he hC (hρ x) (hρ y)
   exact ⟨v, by simp only [execOp, ho]; rw [Sem.run_bind, e1]; rfl, e2⟩
 ·rename_i op t x ho
  refine oC_ok fun C a he hC => ?_
  obtain ⟨v, e1, e2⟩ := aun_sound (P := E.P) he (hρ x)
  exact ⟨v, by simp only [execOp, ho, Sem.run_bind, e1, Result.andThen_ok, Sem.run_pure], e2⟩
 ·rename_i s d x ho
  refine oC_ok fun C a he hC => ?_
  obtain ⟨v, e1, e2⟩ := aconv_sound hT he (hρ x)
  exact ⟨v, by simp only [execOp, ho, Sem.run_bind, e1, Result.andThen_ok, Sem.run_pure], e2⟩
 ·rename_i f first caps ho
  split
  ·rename_i hlt
   split
   ·rename_i hf
    have hf' : first = #[] := by simpa [Array.isEmpty] using hf
    subst hf'
    intro _
    have hc := maps hρ caps.toList
    refine ⟨fnV f (caps.map ρ), by rw [fnV_lt hlt]; simp [execOp, ho, Instr.makeFunc], fn_rel hc⟩
   ·split
    ·rename_i hf
     have hf' : caps = #[] := by simpa [Array.isEmpty] using hf
     subst hf'
     intro _
     have hc := maps hρ first.toList
     exact ⟨fnV (f + bndB) (first.map ρ), by rw [fnV_bnd]; simp [execOp, ho, Instr.makeFunc], fn_rel hc⟩
    ·trivial
  ·trivial
 ·rename_i s x f ho
  refine oC_ok fun C a he hC => ?_
  obtain ⟨v, e1, e2⟩ := afieldAddr_sound hT hm he hC (hρ x)
  exact ⟨v, by simp only [execOp, ho, Sem.run_bind, e1, Result.andThen_ok, Sem.run_pure], e2⟩
 ·rename_i t x f ho
  refine oV_ok fun a he => ?_
  obtain ⟨v, e1, e2⟩ := afield_sound hT he (hρ x)
  exact ⟨v, by simp only [execOp, ho, Sem.run_bind, e1, Result.andThen_ok, Sem.run_pure], e2⟩
 ·rename_i t x i ho
  split
  ·rename_i n hn
   obtain ⟨k, hk⟩ := asI_inv (hρ i) hn
   split
   ·refine oC_ok fun C a he hC => ?_
    obtain ⟨v, e1, e2⟩ := aindexX_sound (k := k) hT he hC (hρ x)
    exact ⟨v, by simp only [execOp, ho, hk, Sem.run_bind, e1, Result.andThen_ok, Sem.run_pure], e2⟩
   ·refine oC_ok fun C a he hC => ?_
    obtain ⟨v, e1, e2⟩ := aindexAddr_sound (k := k) hT hm he hC (hρ x)
    exact ⟨v, by simp only [execOp, ho, hk, Sem.run_bind, e1, Result.andThen_ok, Sem.run_pure], e2⟩
  ·trivial
 ·rename_i t x y c ho
  refine oC_ok fun C a he hC => ?_
  obtain ⟨v, e1, e2⟩ := alookup_sound hT hm he (hρ x) (hρ y)
  exact ⟨v, by simp only [execOp, ho, Sem.run_bind, e1, Result.andThen_ok, Sem.run_pure], e2⟩
 ·rename_i t x y z ho
  rcases amapUpd_form E h t (ρa x) (ρa y) (ρa z) with ⟨C, a, ws, sk, he⟩ | he
  ·rw [he]
   intro hC
   obtain ⟨rfl, rfl, w', Z', own', γ', e1, e2, e3, e4⟩ := amapUpd_sound hT hm hu he (hρ x) (hρ y) (hρ z)
   exact ⟨.skip, undef, w', Z', own', γ', by simp only [execOp, ho, Sem.run_bind, e1, Result.andThen_ok, Sem.run_pure], by rw [if_pos rfl]; exact ⟨rfl, rfl⟩, e2, e3, e4, .cr (.val _ trivial)⟩
  ·rw [he]
   trivial
 ·rename_i t x y z ho
  rcases amapUpd_form E h t (ρa x) (ρa y) (ρa z) with ⟨C, a, ws, sk, he⟩ | he
  ·rw [he]
   intro hC
   obtain ⟨rfl, rfl, w', Z', own', γ', e1, e2, e3, e4⟩ := amapUpd_sound hT hm hu he (hρ x) (hρ y) (hρ z)
   exact ⟨.skip, undef, w', Z', own', γ', by simp only [execOp, ho, Sem.run_bind, e1, Result.andThen_ok, Sem.run_pure], by rw [if_pos rfl]; exact ⟨rfl, rfl⟩, e2, e3, e4, .cr (.val _ trivial)⟩
  ·rw [he]
   trivial
 ·rename_i t ho
  exact WOK.formed (amakeMap_form _ _ _) (m := Instr.makeMap t none) (by simp only [execOp, ho, Option.map_none]) fun C a ws sk he hC => amakeMap_sound hm hid hu hid' he
 ·rename_i t x i ho
  split
  ·rename_i n hn
   obtain ⟨k, hk⟩ := asI_inv (hρ i) hn
   refine oC_ok fun C a he hC => ?_
   obtain ⟨v, e1, e2⟩ := aindex_sound (k := k) hT he hC (hρ x)
   exact ⟨v, by simp only [execOp, ho, hk, Sem.run_bind, e1, Result.andThen_ok, Sem.run_pure], e2⟩
  ·trivial
 ·rename_i t x lo hi mx ho
  split
  ·rename_i lo' hi' mx' h1 h2 h3
   have hnone : ∀ {y : Option Operand} {i : Option Int}, optI ρa y = some i → i.isNone = true → y = none := fun {y i} hy hi => by
    cases y with
    | none => rfl
    | some y =>
     simp only [optI, Option.map_eq_some_iff] at hy
     obtain ⟨_, _, rfl⟩ := hy
     cases hi
   split
   ·rename_i C a ws hs
    refine WOK.formed IsW.w (m := Instr.sliceAt t (ρ x) (lo.map ρ) (hi.map ρ) (mx.map ρ)) (by simp only [execOp, ho]) fun C' a' ws' sk he hC => ?_
    injection he with q1 q2 q3 q4
    subst q1; subst q2; subst q3; subst q4
    exact ⟨rfl, aclip_sound hT hm hid hu hid' (optI_rel hρ h1) (optI_rel hρ h2) (optI_rel hρ h3) hs hC (hρ x)⟩
   split
   ·rename_i C a ws hb hs
    simp only [Bool.and_eq_true] at hb
    have g1 := hnone h1 hb.1.1
    have g2 := hnone h2 hb.1.2
    have g3 := hnone h3 hb.2
    subst g1; subst g2; subst g3
    refine WOK.formed IsW.w (m := Instr.sliceAt t (ρ x) none none none) (by simp only [execOp, ho, Option.map_none]) fun C' a' ws' sk he hC => ?_
    injection he with q1 q2 q3 q4
    subst q1; subst q2; subst q3; subst q4
    exact ⟨rfl, asliceArr_sound hT hm hu hs hC (hρ x)⟩
   ·refine oC_ok fun C a he hC => ?_
    obtain ⟨v, e1, e2⟩ := aslice_sound hT hm (optI_rel hρ h1) (optI_rel hρ h2) (optI_rel hρ h3) he hC (hρ x)
    exact ⟨v, by simp only [execOp, ho, Sem.run_bind, e1, Result.andThen_ok, Sem.run_pure], e2⟩
  ·trivial
 ·rename_i t i ho
  refine oV_ok fun a he => ?_
  obtain ⟨v, e1, e2⟩ := aextract_sound (P := E.P) he (hρ t)
  exact ⟨v, by simp only [execOp, ho, Sem.run_bind, e1, Result.andThen_ok, Sem.run_pure], e2⟩
 ·rename_i t x ho
  split
  ·rename_i i s hi hs
   have hx := hρ x
   rw [hs] at hx
   have hv := hx.val_inv
   have hok : okV (.string s) := hx.val_ok
   obtain ⟨d, hd, hk⟩ := (hT t _ hi).desc
   have hk : d = .string := hk
   subst hk
   obtain ⟨own', γ', g1, g2, g3, g4⟩ := hm.newObj hid hu hid' (x := .iter s 0) (o := .stringIter s 0) ⟨rfl, hok⟩
   refine fun _ => WOK.out (m := Instr.range t (ρ x)) (by simp only [execOp, ho]) ⟨.pointer (some ⟨w.heap.size, 0, none⟩), w.alloc (.stringIter s 0), Z, own', γ', ?_, g1, g2, g3, .ref _ _ _ g4⟩
   rw [hv]
   simp [Instr.range, run_underlying hd]
  ·trivial
 ·rename_i t x ho
  refine oV_ok fun a he => ?_
  obtain ⟨v, e1, e2⟩ := aiface_sound (P := E.P) hT he (hρ x)
  exact ⟨v, by simp only [execOp, ho, Sem.run_bind, e1, Result.andThen_ok, Sem.run_pure], e2⟩
 ·rename_i f args ats ho
  split
  ·rename_i g caps hg
   have hf := hρ f
   rw [hg] at hf
   obtain ⟨us, hv, hc⟩ := hf.fn_inv
   split
   ·rename_i hlt
    rw [fnV_lt hlt] at hv
    refine ⟨(args.toList.map ρ) ++ us.toList, ?_, (maps hρ args.toList).append hc⟩
    simp only [execOp, ho, resolve, hv, Deferred.ofValue, Sem.run_bind, Sem.run_pure, Result.andThen_ok, invoke]
    congr 2
    apply Array.ext'
    simp
   ·rename_i hlt
    rw [fnV_ge hlt] at hv
    refine ⟨us.toList ++ (args.toList.map ρ), ?_, hc.append (maps hρ args.toList)⟩
    simp only [execOp, ho, resolve, hv, Deferred.ofValue, Sem.run_bind, Sem.run_pure, Result.andThen_ok, invoke]
    congr 2
    apply Array.ext'
    simp
  ·trivial
 ·rename_i args ats ho
  split
  ·rename_i t x ht hx
   refine oC_ok fun C a he hC => ?_
   obtain ⟨v, e1, e2⟩ := alen_sound (rt := o.type) (ats := ats) (args := args.map ρ) hT hm ht (by rw [Array.getElem?_map, hx]; rfl) he hC (hρ x)
   exact ⟨v, by simp only [execOp, ho, resolve, invoke, builtin, Sem.run_bind, Sem.run_pure, Result.andThen_ok, e1], e2⟩
  ·trivial
 ·rename_i args ats ho
  split
  ·rename_i t u x y ht hu2 hxy
   split
   ·rename_i htu
    subst htu
    have hargs : args = #[x, y] := by apply Array.ext'; simpa using hxy
    split
    ·refine WOK.formed (aappIn_form _ _ _ _ _) (m := Builtin.append_ #[t, t] o.type #[ρ x, ρ y]) ?_ fun C a ws sk he hC => aappIn_sound hT hm hu he hC (hρ x) (hρ y)
     rw [← append_congr ht hu2]
     simp only [execOp, ho, resolve, invoke, builtin, hargs, pure_bind, List.map_toArray, List.map_cons, List.map_nil]
    ·refine WOK.formed (aappend_form _ _ _ _ _ _ _) (m := Builtin.append_ #[t, t] o.type #[ρ x, ρ y]) ?_ fun C a ws sk he hC => aappend_sound hT hm hid hu hid' he hC (hρ x) (hρ y)
     rw [← append_congr ht hu2]
     simp only [execOp, ho, resolve, invoke, builtin, hargs, pure_bind, List.map_toArray, List.map_cons, List.map_nil]
   ·trivial
  ·trivial
 ·rename_i args ats ho
  split
  ·rename_i t x ht hxy
   have hargs : args = #[x] := by apply Array.ext'; simpa using hxy
   refine WOK.formed (aclear_form _ _ _ _) (m := Builtin.clear_ #[t] o.type #[ρ x]) ?_ fun C a ws sk he hC => aclear_sound hT hm hu he hC (hρ x)
   rw [← clear_congr ht]
   simp only [execOp, ho, resolve, invoke, builtin, hargs, pure_bind, List.map_toArray, List.map_cons, List.map_nil]
  ·trivial
 ·rename_i args ats ho
  split
  ·rename_i x r hx
   refine oV_ok fun a he => ?_
   obtain ⟨v, e1, e2⟩ := amax_sound (P := E.P) he (hρ x) (maps hρ r)
   exact ⟨v, by simp only [execOp, ho, resolve, invoke, builtin, Builtin.max_, Sem.run_bind, Sem.run_pure, Result.andThen_ok, Array.toList_map, hx, List.map_cons, e1], e2⟩
  ·trivial
 ·rename_i args ats ho
  split
  ·rename_i x r hx
   refine oV_ok fun a he => ?_
   obtain ⟨v, e1, e2⟩ := amin_sound (P := E.P) he (hρ x) (maps hρ r)
   exact ⟨v, by simp only [execOp, ho, resolve, invoke, builtin, Builtin.min_, Sem.run_bind, Sem.run_pure, Result.andThen_ok, Array.toList_map, hx, List.map_cons, e1], e2⟩
  ·trivial
 ·trivial
end
end Go.BE
namespace Go.BE
def Pin.root : Pin → Option Nat
 | .b r _ => some r
 | .g r _ _ => some r
 | .dead => none
mutual
/-- the roots that a value leads to, but those that are read-only -/
def AV.live (h : Heap) : AV → List Nat
 | .agg cs => liveL h cs
 | .tup cs => liveL h cs
 | .fn _ cs => liveL h cs
 | .ref r _ => [r]
 | .tref r .. => [r]
 | .osl r .. => match hget h r with | some R => if R.fz then [] else [r] | none => []
 | .optr r .. => [r]
 | .csl r .. => [r]
 | .yld r => [r]
 | .mp r => [r]
 | .refx r .. => [r]
 | _ => []
def liveL (h : Heap) : List AV → List Nat
 | [] => []
 | a :: l => a.live h ++ liveL h l
end
def AFr.liveX (F : AFr) : List Nat := (match F.rng with | some g => [g.r] | none => []) ++ ((match F.rnd with | some (some r, _) => [r] | _ => []) ++ F.marks.filterMap (·.1))
def liveF (h : Heap) : List AFr → List Nat
 | [] => []
 | F :: Fs => liveL h F.fr ++ (F.liveX ++ liveF h Fs)
def liveC (h : Heap) : Cont → List Nat
 | .cells cs => liveL h cs
 | .pins l => l.filterMap Pin.root
 | _ => []
def pinned : Heap → List Nat
 | [] => []
 | (r, R) :: h => match R.cont with | .pins _ => r :: pinned h | _ => pinned h
def closeR (h : Heap) : Nat → List Nat → List Nat → List Nat
 | 0, _, done => done
 | _ + 1, [], done => done
 | n + 1, r :: l, done => if done.contains r then closeR h n l done else match hget h r with
  | some R => if R.pend.isSome then closeR h n l done else closeR h n (l ++ liveC h R.cont) (done ++ [r])
  | none => closeR h n l done
def pinnedIn : Heap → List Nat
 | [] => []
 | (_, R) :: h => match R.cont with | .pins l => l.filterMap Pin.root ++ pinnedIn h | _ => pinnedIn h
def keepR (h : Heap) (l : List Nat) : List Nat := closeR h 100 (pinned h ++ (pinnedIn h ++ l)) []
def number : List Nat → Nat → List (Nat × Nat)
 | [], _ => []
 | r :: l, i => (r, i) :: number l (i + 1)
def alook : List (Nat × Nat) → Nat → Option Nat
 | [], _ => none
 | (k, r) :: l, t => if k = t then some r else alook l t
def renO (h : Heap) (f : Nat → Option Nat) (r s : Nat) (p : Pth) : Option Nat := match f r, hget h r with
 | some r', some R => if R.valid s p.length then some r' else none
 | _, _ => none
def renH (h : Heap) (f : Nat → Option Nat) : AV → AV
 | .osl r s p w => match renO h f r s p with | some r' => .osl r' r' p w | none => .bad
 | a => a
mutual
def AV.ren (h : Heap) (f : Nat → Option Nat) : AV → AV
 | .agg cs => .agg (renL h f cs)
 | .tup cs => .tup (renL h f cs)
 | .fn g cs => .fn g (renL h f cs)
 | .ref r o => match f r with | some r' => .ref r' o | none => .bad
 | .tref r s p i st => match renO h f r s p with | some r' => .tref r' r' p i st | none => .bad
 | .osl r s p w => renH h f (norm h (.osl r s p w))
 | .optr r s p => match renO h f r s p with | some r' => .optr r' r' p | none => .bad
 | .csl r o n => match f r with | some r' => .csl r' o n | none => .bad
 | .yld r => match f r with | some r' => .yld r' | none => .bad
 | .mp r => match f r with | some r' => .mp r' | none => .bad
 | .refx r o n i => match f r with | some r' => .refx r' o n i | none => .bad
 | a => a
def renL (h : Heap) (f : Nat → Option Nat) : List AV → List AV
 | [] => []
 | a :: l => a.ren h f :: renL h f l
end
def keepT (keep : List Nat) : List AV → Nat → List AV
 | [], _ => []
 | a :: l, i => (if keep.contains i then a else .bad) :: keepT keep l (i + 1)
def Pin.ren (h : Heap) (f : Nat → Option Nat) : Pin → Pin
 | .b r v => match f r with | some r' => .b r' v | none => .dead
 | .g r s hd => match renO h f r s [] with | some r' => .g r' r' hd | none => .dead
 | .dead => .dead
def Cont.ren (h : Heap) (f : Nat → Option Nat) : Cont → Cont
 | .cells cs => .cells (renL h f cs)
 | .pins l => .pins (l.map (Pin.ren h f))
 | c => c
def keepH (h : Heap) (f : Nat → Option Nat) : List (Nat × Nat) → Heap
 | [] => []
 | (r, r') :: l => match hget h r with
  | some R => if R.pend.isSome || R.fz then keepH h f l else (r', { cont := R.cont.ren h f, cur := r', old := [], fz := false, pend := none }) :: keepH h f l
  | none => keepH h f l
def AFr.renX (f : Nat → Option Nat) (F : AFr) : AFr := { F with
 rng := match F.rng with | some g => (match f g.r with | some r => some { g with r := r } | none => none) | none => none
 rnd := match F.rnd with | some (some r, R) => some (f r, R) | x => x
 marks := F.marks.map fun x => (x.1.bind f, x.2) }
def renF (h : Heap) (f : Nat → Option Nat) : List AFr → List AFr
 | [] => []
 | F :: Fs => { F.renX f with fr := renL h f F.fr } :: renF h f Fs
def keepF : List (List Nat) → List AFr → List AFr
 | k :: ks, F :: Fs => { F with fr := keepT k F.fr 0 } :: keepF ks Fs
 | _, Fs => Fs
def qeq (nx : Nat) : List (Nat × Nat) → Bool
 | [] => true
 | (r, r') :: l => decide (r' < nx) && l.all (fun x => x.1 != r && x.2 != r') && qeq nx l
def Cfg.cut (roots : List (Nat × Nat)) (keep : List Nat) (kc : List (List Nat)) (nx : Nat) (c : Cfg) : Cfg :=
 { cur := { c.cur.renX (alook roots) with fr := renL c.h (alook roots) (keepT keep c.cur.fr 0) }, callers := renF c.h (alook roots) (keepF kc c.callers), h := keepH c.h (alook roots) roots, nx := nx }
def maskH (h : Heap) : List Nat → Heap
 | [] => []
 | r :: rs => match hget h r with | some R => (r, R) :: maskH h rs | none => maskH h rs
mutual
/-- leads to roots alone -/
def AV.thin : AV → Bool
 | .agg cs => thinL cs
 | .tup cs => thinL cs
 | .fn _ cs => thinL cs
 | .tv S _ => S.flat
 | .rtp .. | .rop .. => false
 | _ => true
def thinL : List AV → Bool
 | [] => true
 | a :: l => a.thin && thinL l
end
def Sh.owned : Nat → Sh → Bool
 | m, .pair a b => a.owned m && b.owned m
 | m, .arr _ a => a.owned m
 | m + 1, .sl _ a => a.owned m
 | m + 1, .ptr a => a.owned m
 | 0, .sl .. => false
 | 0, .ptr _ => false
 | _, _ => true
def Cont.thin : Cont → Bool
 | .cells cs => thinL cs
 | .arr m _ S _ => S.owned m
 | .obj _ => true
 | .pins _ => false
def thinW : List (Nat × Option Root) → Bool
 | [] => true
 | (_, some R) :: l => R.cont.thin && !R.fz && R.pend.isNone && thinW l
 | (_, none) :: l => thinW l
end Go.BE
namespace Go.BE
open Go.RowKit
def upW : List (Nat × Option Root) → (Nat → Option Root) → Nat → Option Root
 | [], g => g
 | (k, R) :: ws, g => upW ws fun x => if x = k then R else g x
theorem qcw : ∀ (ws : List (Nat × Option Root)) (h : Heap), hget (qav h ws) = upW ws (hget h)
 | [], h => rfl
 | (k, some R) :: ws, h => by
  rw [qav, qcw ws, upW]
  congr 1
  funext x
  exact qbr h k x R
 | (k, none) :: ws, h => by
  rw [qav, qcw ws, upW]
  congr 1
  funext x
  exact hget_hdel h k x
theorem upW_not {x : Nat} : ∀ {ws : List (Nat × Option Root)} {g : Nat → Option Root}, x ∉ ws.map (·.1) → upW ws g x = g x
 | [], g, _ => rfl
 | (k, R) :: ws, g, h => by
  simp only [List.map_cons, List.mem_cons, not_or] at h
  rw [upW, upW_not h.2, if_neg h.1]
theorem upW_in {x : Nat} : ∀ {ws : List (Nat × Option Root)} {g g' : Nat → Option Root}, (x ∈ ws.map (·.1) ∨ g x = g' x) → upW ws g x = upW ws g' x
 | [], g, g', h => by
  rcases h with h | h
  ·cases h
  ·exact h
 | (k, R) :: ws, g, g', h => by
  rw [upW, upW]
  by_cases hk : x = k
  ·exact upW_in (.inr (by simp [hk]))
  ·refine upW_in ?_
   rcases h with h | h
   ·simp only [List.map_cons, List.mem_cons] at h
    exact .inl (h.resolve_left hk)
   ·exact .inr (by simp [hk, h])
section
variable {w w' w0 : World} {Z Z' Z1 Z2 : Nat → Prop} {K : Kp} {own own' own1 own5 : Own} {γ γ' : Gst} {h h1 : Heap} {used used' : Nat → Prop} {r : Nat} {R : Root} {a : AV} {v : Value} {cs : List AV} {vs : List Value}
theorem FR.plain : ∀ {S : Sh} {x : Den S} {us : List Value}, S.flat = true → FR w Z S x us → FR w' Z' S x us := by
 intro S
 induction S with
 | int k => intro x us _ h; exact h
 | bool => intro x us _ h; exact h
 | str => intro x us _ h; exact h
 | unit => intro x us _ h; exact h
 | pair a b iha ihb =>
  intro x us hf ⟨u1, u2, h1, h2, h3⟩
  simp only [Sh.flat, Bool.and_eq_true] at hf
  exact ⟨u1, u2, h1, iha hf.1 h2, ihb hf.2 h3⟩
 | arr n a ih => intro x us hf h; exact FRV.imp (f := FR w Z a) (fun _ _ h => ih hf h) h
 | sl => intro x us hf; cases hf
 | ptr => intro x us hf; cases hf
theorem thinL_at : ∀ {l : List AV}, thinL l = true → ∀ (j : Nat) (a : AV), l[j]? = some a → a.thin = true
 | [], _, j, a, ha => by simp at ha
 | x :: l, h, j, a, ha => by
  simp only [thinL, Bool.and_eq_true] at h
  cases j with
  | zero => simp at ha; subst ha; exact h.1
  | succ j => exact thinL_at h.2 j a (by simpa using ha)
theorem CR.thin (h : CR w Z a v) : a.thin = true → CR w' Z' a v := by
 induction h with
 | val v h => exact fun _ => .val v h
 | tva S x vs hS h => exact fun ht => .tva S x vs hS (FR.plain (by simpa [AV.thin] using ht) h)
 | tv1 S x v hS h => exact fun ht => .tv1 S x v hS (FR.plain (by simpa [AV.thin] using ht) h)
 | rtp S x b o us hz hr h => intro ht; simp [AV.thin] at ht
 | rop cs off b o u hz hc hr ih => intro ht; simp [AV.thin] at ht
 | agg cs vs hl hrel ih => exact fun ht => .agg cs vs hl fun j a v ha hv => ih j a v ha hv (thinL_at (by simpa [AV.thin] using ht) j a ha)
 | tup cs vs hl hrel ih => exact fun ht => .tup cs vs hl fun j a v ha hv => ih j a v ha hv (thinL_at (by simpa [AV.thin] using ht) j a ha)
 | fn f cs vs hl hrel ih => exact fun ht => .fn f cs vs hl fun j a v ha hv => ih j a v ha hv (thinL_at (by simpa [AV.thin] using ht) j a ha)
theorem VR.thin (h : VR w Z γ a v) : a.thin = true → VR w' Z' γ a v := by
 induction h with
 | bad v => exact fun _ => .bad v
 | cr h => exact fun ht => .cr (h.thin ht)
 | ref r off b h => exact fun _ => .ref r off b h
 | tref r s p i st hd b o so T h hi hb hst => exact fun _ => .tref r s p i st hd b o so T h hi hb hst
 | osl r s p win v hd h hv => exact fun _ => .osl r s p win v hd h hv
 | optr r s p v hd h hp hv => exact fun _ => .optr r s p v hd h hp hv
 | csl r off n b c h hc hr => exact fun _ => .csl r off n b c h hc hr
 | yld r l h => exact fun _ => .yld r l h
 | mp r b h => exact fun _ => .mp r b h
 | refx r off n i b h hi => exact fun _ => .refx r off n i b h hi
 | agg cs vs hl hrel ih => exact fun ht => .agg cs vs hl fun j a v ha hv => ih j a v ha hv (thinL_at (by simpa [AV.thin] using ht) j a ha)
 | tup cs vs hl hrel ih => exact fun ht => .tup cs vs hl fun j a v ha hv => ih j a v ha hv (thinL_at (by simpa [AV.thin] using ht) j a ha)
 | fn f cs vs hl hrel ih => exact fun ht => .fn f cs vs hl fun j a v ha hv => ih j a v ha hv (thinL_at (by simpa [AV.thin] using ht) j a ha)
theorem ORV.imp' {α : Type} {f f' : α → List St → List Value → Prop} {st : List St} (h : ∀ x s vs, f x s vs → f' x s vs) : ∀ {n k : Nat} {x : DenV α n} {vs : List Value}, ORV f st n k x vs → ORV f' st n k x vs
 | 0, _, _, _, hv => hv
 | _ + 1, _, _, _, ⟨us, ws, h1, h2, h3⟩ => ⟨us, ws, h1, h _ _ _ h2, ORV.imp' h h3⟩
theorem OR.thin {M : Rows} {g : Pth → Option Hd} (hb : ∀ b q, own b = some (r, q) → own' b = some (r, q)) : ∀ {S : Sh} {m : Nat} {x : Den S} {p : Pth} {i : Nat} {st : List St} {vs : List Value}, S.owned m = true → OR w Z M own r g S m x p i st vs → OR w Z' M own' r g S m x p i st vs := by
 intro S
 induction S with
 | int k => intro m x p i st vs _ h; exact h
 | bool => intro m x p i st vs _ h; exact h
 | str => intro m x p i st vs _ h; exact h
 | unit => intro m x p i st vs _ h; exact h
 | pair a b iha ihb =>
  intro m x p i st vs hm ⟨us, ws, h1, h2, h3⟩
  have hm : (a.owned m && b.owned m) = true := by cases m <;> exact hm
  simp only [Bool.and_eq_true] at hm
  exact ⟨us, ws, h1, iha hm.1 h2, ihb hm.2 h3⟩
 | arr n a ih =>
  intro m x p i st vs hm h
  have hm : a.owned m = true := by cases m <;> exact hm
  exact ORV.imp' (f' := fun y st us => OR w Z' M own' r g a m y p i st us) (fun _ _ _ h => ih hm h) h
 | sl by_ a ih =>
  intro m x p i st vs hm h
  cases m with
  | zero => cases hm
  | succ m =>
   obtain ⟨v, hd, h1, h2, h3, h4, h5, h6, h7, h8, h9, h10⟩ := h
   refine ⟨v, hd, h1, h2, h3, h4, h5, h6, h7, h8, h9, fun hc => ?_⟩
   obtain ⟨b, o, row, e1, e2, e3, e4, e5⟩ := h10 hc
   exact ⟨b, o, row, e1, hb _ _ e2, e3, e4, fun j hj => by
    obtain ⟨y, hy, hor⟩ := e5 j hj
    exact ⟨y, hy, ih hm hor⟩⟩
 | ptr a ih =>
  intro m x p i st vs hm h
  cases m with
  | zero => cases hm
  | succ m =>
   obtain ⟨v, hd, h1, h2, h3, h4, h5, h6, h8, h9, h10⟩ := h
   refine ⟨v, hd, h1, h2, h3, h4, h5, h6, h8, h9, fun hc => ?_⟩
   obtain ⟨b, o, row, e1, e2, e3, e4, e5⟩ := h10 hc
   exact ⟨b, o, row, e1, hb _ _ e2, e3, e4, fun j hj => by
    obtain ⟨y, hy, hor⟩ := e5 j hj
    exact ⟨y, hy, ih hm hor⟩⟩
theorem RootR.thin (hb : ∀ b q, own b = some (r, q) → own' b = some (r, q)) (ht : R.cont.thin = true) (hf : R.fz = false) (hp : R.pend = none) (h : RootR w Z own γ r R) : RootR w Z' own' γ r R := by
 refine ⟨h.old, ?_⟩
 have hc := h.cont
 unfold ContR at hc ⊢
 split
 ·rename_i cs hcs
  simp only [hcs] at hc
  rw [hcs] at ht
  obtain ⟨e1, e2, b, arr, e, k1, k2, k3, k4⟩ := hc
  exact ⟨e1, e2, b, arr, e, k1, hb _ _ k2, k3, k4.1, fun j a v ha hv => (k4.2 j a v ha hv).thin (thinL_at ht j a ha)⟩
 ·rename_i x hcs
  simp only [hcs] at hc
  obtain ⟨e1, e2, b, o, k1, k2, k3, k4⟩ := hc
  exact ⟨e1, e2, b, o, k1, hb _ _ k2, k3, k4⟩
 ·rename_i m by_ S xs hcs
  simp only [hcs] at hc
  rw [hcs] at ht
  simp only [hf, hp, Bool.false_eq_true, if_false] at hc ⊢
  obtain ⟨c1, hd, h2, h3, h4, h5, h8, h9, h10⟩ := hc
  refine ⟨c1, hd, h2, h3, h4, h5, h8, h9, fun hc => ?_⟩
  obtain ⟨b, o, row, e1, e2, e3, e4, e5⟩ := h10 hc
  exact ⟨b, o, row, e1, hb _ _ e2, e3, e4, fun j hj => by
   obtain ⟨y, hy, hor⟩ := e5 j hj
   exact ⟨y, hy, OR.thin hb ht hor⟩⟩
 ·rename_i l hcs
  rw [hcs] at ht
  cases ht
theorem thinW_mem {x : Nat} : ∀ {ws : List (Nat × Option Root)}, thinW ws = true → (x, some R) ∈ ws → R.cont.thin = true ∧ R.fz = false ∧ R.pend = none
 | [], _, hm => by cases hm
 | (k, some Q) :: ws, h, hm => by
  simp only [thinW, Bool.and_eq_true, Bool.not_eq_true', Option.isNone_iff_eq_none] at h
  rcases List.mem_cons.1 hm with e | hm
  ·injection e with _ e
   injection e with e
   subst e
   exact ⟨h.1.1.1, h.1.1.2, h.1.2⟩
  ·exact thinW_mem h.2 hm
 | (k, none) :: ws, h, hm => by
  rcases List.mem_cons.1 hm with e | hm
  ·injection e with _ e
   cases e
  ·exact thinW_mem (ws := ws) (by simpa [thinW] using h) hm
theorem upW_mem {x : Nat} : ∀ {ws : List (Nat × Option Root)} {g : Nat → Option Root}, x ∈ ws.map (·.1) → upW ws g x = some R → (x, some R) ∈ ws
 | [], _, h, _ => by simp at h
 | (k, Q) :: ws, g, h, hu => by
  rw [upW] at hu
  by_cases hin : x ∈ ws.map (·.1)
  ·exact List.mem_cons_of_mem _ (upW_mem hin hu)
  ·rw [upW_not hin] at hu
   simp only [List.map_cons, List.mem_cons, hin, or_false] at h
   rw [if_pos h] at hu
   subst h; subst hu
   exact List.mem_cons_self
theorem MemR.thaw (hm : MemR w0 K w Z own γ h used) (hc : Closed w0 K w Z own γ h1 used Z1 own1) {ws : List (Nat × Option Root)} (hs : Stay w Z1 w' Z2) (he : Gst.Ext used γ γ') (hu : ∀ s, used s → used' s) (hsz : w.heap.size ≤ w'.heap.size)
  (h5 : MemR w0 K w' Z2 own5 γ' (qav h1 ws) used') (hold : ∀ b o, own1 b = some o → o.1 ∉ ws.map (·.1) → own5 b = some o ∧ w'.heap[b]? = w.heap[b]?) (ht : thinW ws = true) :
  ∃ own6 Z6, Stay w Z w' Z6 ∧ MemR w0 K w' Z6 own6 γ' (qav h ws) used' := by
 classical
 let B : Nat → Prop := fun b => (own b).isSome = true ∧ Z1 b
 let own6 : Own := fun b => if B b then own b else own5 b
 let Z6 : Nat → Prop := fun b => Z2 b ∧ ¬ B b
 have hs6 : Stay w Z w' Z6 := ⟨fun b hb => hs.heap b (hc.stay.sub b hb), fun b hb => ⟨hs.sub b (hc.stay.sub b hb), fun ⟨h1, _⟩ => by
  cases ho : own b with
  | none => rw [ho] at h1; cases h1
  | some o => exact hm.ownZ b o ho hb⟩⟩
 have hle := he.le hm.fresh
 refine ⟨own6, Z6, hs6, h5.os, h5.tape, h5.output, h5.size, h5.kept, fun b hb => h5.zin b hb.1, fun b hb => h5.zlt b hb.1, fun b o ho => ?_, fun b o ho => ?_, fun b o ho => ?_, fun x R hg => ?_, fun x R hg => ?_, h5.fresh⟩
 ·simp only [own6] at ho
  split at ho
  ·exact Nat.lt_of_lt_of_le (hm.ownlt b o ho) hsz
  ·exact h5.ownlt b o ho
 ·simp only [own6] at ho
  split at ho
  ·rename_i hB
   exact fun hz => hz.2 hB
  ·exact fun hz => h5.ownZ b o ho hz.1
 ·simp only [own6] at ho
  split at ho
  ·exact hm.ownK b o ho
  ·exact h5.ownK b o ho
 ·by_cases hin : x ∈ ws.map (·.1)
  ·have hg' : hget (qav h1 ws) x = some R := by
    rw [qcw] at hg ⊢
    rw [upW_in (.inl hin)] at hg
    exact hg
   have hmem : (x, some R) ∈ ws := by
    rw [qcw] at hg
    exact upW_mem hin hg
   obtain ⟨t1, t2, t3⟩ := thinW_mem ht hmem
   refine RootR.thin (fun b q ho => ?_) t1 t2 t3 (h5.root x R hg')
   simp only [own6]
   rw [if_neg (fun hB => h5.ownZ b _ ho (hs.sub b hB.2))]
   exact ho
  ·rw [qcw, upW_not hin] at hg
   obtain ⟨k1, k2, k3⟩ := hm.keys x R hg
   refine RootR.frame hs6 hle he ⟨k2, k3⟩ (fun b q ho => ?_) (hm.root x R hg)
   by_cases hz : Z1 b
   ·refine ⟨?_, hs.heap b hz⟩
    simp only [own6]
    rw [if_pos ⟨by rw [ho]; rfl, hz⟩]
    exact ho
   ·have ho1 : own1 b = some (x, q) := (hc.blk b _ ho).resolve_right hz
    obtain ⟨q1, q2⟩ := hold b _ ho1 hin
    refine ⟨?_, q2⟩
    simp only [own6]
    rw [if_neg (fun hB => hz hB.2)]
    exact q1
 ·by_cases hin : x ∈ ws.map (·.1)
  ·have hg' : hget (qav h1 ws) x = some R := by
    rw [qcw] at hg ⊢
    rw [upW_in (.inl hin)] at hg
    exact hg
   exact h5.keys x R hg'
  ·rw [qcw, upW_not hin] at hg
   obtain ⟨k1, k2, k3⟩ := hm.keys x R hg
   exact ⟨hu _ k1, hu _ k2, fun e he => hu _ (k3 e he)⟩
end
end Go.BE
namespace Go.BE
inductive Tre (α : Type) : Type where
 | ok (a : α)
 | ite (b : Bool) (t e : Tre α)
 | chk (C : Prop) (t : Tre α)
 | know (K : Prop) (t : Tre α)
 | any (p : Bool → Prop) (k : Bool → Tre α)
 | rg (k : RgL → Tre α)
 | bad
def Tre.bind {α β : Type} : Tre α → (α → Tre β) → Tre β
 | .ok a, f => f a
 | .ite b t e, f => .ite b (t.bind f) (e.bind f)
 | .chk C t, f => .chk C (t.bind f)
 | .know K t, f => .know K (t.bind f)
 | .any p k, f => .any p fun b => (k b).bind f
 | .rg k, f => .rg fun R => (k R).bind f
 | .bad, _ => .bad
def chks {α : Type} : List Prop → Tre α → Tre α
 | [], t => t
 | C :: l, t => .chk C (chks l t)
def Tre.wp {α : Type} (Q : α → Prop) : Tre α → Prop
 | .ok a => Q a
 | .ite b t e => (b = true → t.wp Q) ∧ (b = false → e.wp Q)
 | .chk C t => C ∧ (C → t.wp Q)
 | .know K t => K → t.wp Q
 | .any p k => ∀ b, p b → (k b).wp Q
 | .rg k => ∀ R, (k R).wp Q
 | .bad => False
mutual
/-- what is known of a value that occurs -/
def okAV : AV → Prop
 | .val (.int k n) => k.has n
 | .val (.string s) => s.size ≤ roomB
 | .tv S x => okD S x
 | .rtp S x => okD S x
 | .agg cs => okAVs cs
 | .tup cs => okAVs cs
 | .fn _ cs => okAVs cs
 | .rop cs _ => okAVs cs
 | _ => True
def okAVs : List AV → Prop
 | [] => True
 | a :: l => okAV a ∧ okAVs l
end
def okCont : Cont → Prop
 | .obj _ => True
 | .cells cs => okAVs cs
 | .arr _ b S xs => room b xs.length ∧ ∀ y ∈ xs, okD S y
 | .pins _ => True
def okHeap : Heap → Prop
 | [] => True
 | (_, R) :: h => okCont R.cont ∧ okHeap h

inductive Fin where
 | at_ (c : Cfg)
 | ret (v : AV) (h : Heap) (nx : Nat)
 | pan (v : AV) (h : Heap) (nx : Nat)   -- all frames are left by a panic with that value
def und : AV := .val undef
def putT (fr : List AV) : Option Tmp → AV → List AV
 | some d, a => fr.set d a
 | none, _ => fr
def opTmp : Operand → Option Nat
 | .tmp t => some t
 | _ => none
def setB (fr : List AV) (x : Option Nat) (b : Bool) : List AV := match x with | some t => fr.set t (abool b) | none => fr
def aresults (E : Ctx) (h : Heap) (fr : List AV) : List ResultVar → Option (List Prop × List AV)
 | [] => some ([], [])
 | .tmp t :: r => match aresults E h fr r with | some (C, l) => some (C, lget fr t :: l) | none => none
 | .cell a t :: r => match aload E h t (lget fr a), aresults E h fr r with
  | some (C, v), some (C', l) => some (C ++ C', v :: l)
  | _, _ => none
def retv : List AV → AV
 | [a] => a
 | l => .tup l
def enter (E : Ctx) (f : FuncId) (args : List AV) : Option AFr :=
 match E.P.funcs[f]? with
 | some fn => match fn.body with
  | some c => if args.length ≤ fn.ntmps then some { fn := f, todo := [.code c], fr := args ++ List.replicate (fn.ntmps - args.length) und } else none
  | none => none
 | none => none
def AFr.fin (F : AFr) (ops : Array Oper) (dst : Option Tmp) (rest : List Nat) (k : List Item) (a : AV) : AFr :=
 { F with todo := .inRegion ops rest :: k, fr := putT F.fr dst a, rng := none }
def AFr.to (F : AFr) (t : List Item) : AFr := { F with todo := t, rng := none }
mutual
def AV.sh (base : Nat) : AV → AV
 | .agg cs => .agg (shL base cs)
 | .tup cs => .tup (shL base cs)
 | .fn g cs => .fn g (shL base cs)
 | .ref r o => .ref (base + r) o
 | .tref r s p i st => .tref (base + r) (base + s) p i st
 | .osl r s p w => .osl (base + r) (base + s) p w
 | .optr r s p => .optr (base + r) (base + s) p
 | .csl r o n => .csl (base + r) o n
 | .yld r => .yld (base + r)
 | .mp r => .mp (base + r)
 | .refx r o n i => .refx (base + r) o n i
 | a => a
def shL (base : Nat) : List AV → List AV
 | [] => []
 | a :: l => a.sh base :: shL base l
end
def Cont.sh (base : Nat) : Cont → Cont
 | .cells cs => .cells (shL base cs)
 | .pins _ => .pins []
 | c => c
def Root.sh (base : Nat) (R : Root) : Root := { R with cont := R.cont.sh base, cur := base + R.cur, old := [] }
def newRoots (base : Nat) : List (Nat × Root) → List (Nat × Option Root)
 | [] => []
 | (r, R) :: l => newRoots base l ++ [(base + r, some (R.sh base))]
def SRes.fits (r : SRes) : Bool := r.roots.all fun x => decide (x.1 < 16) && decide (x.2.cur < 16) && x.2.pend.isNone
def acall (E : Ctx) (h : Heap) (id : Nat) (f : FuncId) (args : List AV) : Option (List Prop × Prop × AV × List (Nat × Option Root)) :=
 match closeL h args with
 | some (C, args', ws) => match E.env f args' with
  | some r => if r.pan.isNone && r.fits then (if r.res.plain && r.roots.isEmpty then some (C ++ [r.pre], okAV r.res, r.res, []) else if (r.res.sh id).thin && thinW (newRoots id r.roots) then some (C ++ [r.pre], okAV r.res, r.res.sh id, newRoots id r.roots) else some (C ++ [r.pre], okAV r.res, r.res.sh id, ws ++ newRoots id r.roots)) else none
  | none => none
 | none => none
def ioArg (h : Heap) : AV → Option Nat
 | .ref r 0 => match hget h r with
  | some R => match R.cont with | .cells _ => some r | _ => none
  | none => none
 | .tref r s [] 0 [] => match rdata h r s 0 with | some _ => some r | none => none
 | .osl r s [] none => match rdata h r s 0 with | some _ => some r | none => none
 | _ => none
def closeM (h : Heap) : List Bool → List AV → Option (List Prop × List AV × List (Nat × Option Root))
 | [], [] => some ([], [], [])
 | true :: bs, a :: l => match closeM h bs l with
  | some (C, l, ws) => some (C, a :: l, ws)
  | none => none
 | false :: bs, a :: l => match closeC h a with
  | some (C, a, ws) => match closeM (qav h ws) bs l with
   | some (C', l, ws') => some (C ++ C', a :: l, ws ++ ws')
   | none => none
  | none => none
 | _, _ => none
def ioRoots (h : Heap) : List Bool → List AV → Option (List Nat)
 | [], [] => some []
 | true :: bs, a :: l => match ioArg h a, ioRoots h bs l with
  | some r, some rs => some (r :: rs)
  | _, _ => none
 | false :: bs, a :: l => if a.closed then ioRoots h bs l else none
 | _, _ => none
def shG (m : List (Nat × Nat)) (base : Nat) (j : Nat) : Nat := match m.find? (fun x => x.2 == j) with
 | some x => x.1
 | none => base + j
mutual
def AV.shM (m : List (Nat × Nat)) (base : Nat) : AV → AV
 | .agg cs => .agg (shML m base cs)
 | .tup cs => .tup (shML m base cs)
 | .fn g cs => .fn g (shML m base cs)
 | .ref r o => .ref (shG m base r) o
 | .tref r s p i st => .tref (shG m base r) (base + s) p i st
 | .osl r s p w => .osl (shG m base r) (base + s) p w
 | .optr r s p => .optr (shG m base r) (base + s) p
 | .csl r o n => .csl (shG m base r) o n
 | .yld r => .yld (shG m base r)
 | .mp r => .mp (shG m base r)
 | .refx r o n i => .refx (shG m base r) o n i
 | a => a
def shML (m : List (Nat × Nat)) (base : Nat) : List AV → List AV
 | [] => []
 | a :: l => a.shM m base :: shML m base l
end
def Cont.shM (m : List (Nat × Nat)) (base : Nat) : Cont → Cont
 | .cells cs => .cells (shML m base cs)
 | .pins _ => .pins []
 | c => c
def keptOld (h : Heap) (ps : List Nat) (j r : Nat) : List (Nat × List Nat × Nat) := match ps.contains j, hget h r with
 | true, some R => match R.cont with
  | .arr .. => if R.pend.isNone && !R.fz then (R.cur, [], 1) :: oldCut 1 R.old else []
  | _ => []
 | _, _ => []
def Root.shM (h : Heap) (ps : List Nat) (m : List (Nat × Nat)) (base : Nat) (j : Nat) (R : Root) : Root := { R with cont := R.cont.shM m base, cur := base + R.cur, old := keptOld h ps j (shG m base j) }
def ioPuts (h : Heap) (as : List Nat) (m : List (Nat × Nat)) (base : Nat) : List (Nat × Root) → List (Nat × Option Root)
 | [] => []
 | (j, R) :: l => ioPuts h as m base l ++ [(shG m base j, some (R.shM h as m base j))]
mutual
/-- the roots of cells that are named -/
def AV.refs : AV → List Nat
 | .agg cs => refsL cs
 | .tup cs => refsL cs
 | .fn _ cs => refsL cs
 | .ref r _ => [r]
 | .csl r .. => [r]
 | .yld r => [r]
 | .mp r => [r]
 | .refx r .. => [r]
 | _ => []
def refsL : List AV → List Nat
 | [] => []
 | a :: l => a.refs ++ refsL l
end
def rootRefs (j : Nat) : Cont → List Nat
 | .cells cs => j :: refsL cs
 | .obj _ => [j]
 | _ => []
def isCells (h : Heap) (j : Nat) : Bool := match hget h j with
 | some R => match R.cont with | .cells _ => true | _ => false
 | none => false
def okRefs (h : Heap) (m : List (Nat × Nat)) (l : List Nat) : Bool := l.all fun j => (m.find? fun x => x.2 == j).isNone || isCells h j
def ioFits (h : Heap) (m : List (Nat × Nat)) (r : SRes) : Bool := r.pan.isNone && r.fits && okRefs h m r.res.refs && r.roots.all fun x => decide (0 < x.1) && x.2.cur == x.1 && okRefs h m (rootRefs x.1 x.2.cont)
def acallIO (E : Ctx) (h : Heap) (id : Nat) (bs : List Bool) (f : FuncId) (args : List AV) : Option (List Prop × Prop × AV × List (Nat × Option Root)) :=
 match closeM h bs args with
 | some (C, args, ws) => let h1 := qav h ws
  match ioRoots h1 bs args with
  | some as => let m := number (closeR h1 100 as []) 1
   let hm := maskH h1 (closeR h1 100 as [])
   if qeq 16 m && (closeR h1 100 as []).all (fun r => (hget h1 r).isSome) then (match E.io f (renL hm (alook m) args) (keepH hm (alook m) m) with
    | some r => if ioFits (keepH hm (alook m) m) m r then (if (r.res.shM m id).thin && thinW (ioPuts h1 (E.iopin f) m id r.roots) then some (C ++ [r.pre], okAV r.res, r.res.shM m id, mvDel (closeR h1 100 as []) ++ ioPuts h1 (E.iopin f) m id r.roots)
     else some (C ++ [r.pre], okAV r.res, r.res.shM m id, ws ++ (mvDel (closeR h1 100 as []) ++ ioPuts h1 (E.iopin f) m id r.roots))) else none
    | none => none) else none
  | none => none
 | none => none
def acallB (E : Ctx) (h : Heap) (id : Nat) (f : FuncId) (args : List AV) : Option (List Prop × Prop × AV × List (Nat × Option Root)) :=
 match E.iok f with
 | some bs => acallIO E h id bs f args
 | none => acall E h id f args
def unpA : AV → List Prop × AV
 | .tv (.ptr S) z => ([Option.isNone (α := Den S) z = false], .rtp S (Option.getD (α := Den S) z (dz S)))
 | a => ([], a)
def unpL : List AV → List Prop × List AV
 | [] => ([], [])
 | a :: l => ((unpA a).1 ++ (unpL l).1, (unpA a).2 :: (unpL l).2)
def acallA (E : Ctx) (h : Heap) (id : Nat) (f : FuncId) (args : List AV) : Option (List Prop × Prop × AV × List (Nat × Option Root)) :=
 match acallB E h id f args with
 | some r => some r
 | none => match acallB E h id f (unpL args).2 with
  | some (C, Kn, a, ws) => some ((unpL args).1 ++ C, Kn, a, ws)
  | none => none
def acallP (E : Ctx) (h : Heap) (f : FuncId) (args : List AV) : Option (List Prop × Bool × AV × AV) :=
 match closeL h args with
 | some (C, args', _) => match E.env f args' with
  | some r => match r.pan with
   | some (b, v) => if r.res.plain && r.roots.isEmpty then some (C ++ [r.pre], b, v, r.res) else none
   | none => none
  | none => none
 | none => none
def okFns (E : Ctx) (c : Cfg) : Bool := c.cur.marks.isEmpty && (E.P.funcs[c.cur.fn]?).isSome && c.callers.all fun F => F.marks.isEmpty && (E.P.funcs[F.fn]?).isSome
def panT (E : Ctx) (c : Cfg) (v : AV) : Tre Fin := match okFns E c with
 | true => .ok (.pan v c.h c.nx)
 | false => .bad
def qba : Nat := 16
def findRng (r : Nat) : List AFr → Option (AFr × Rng)
 | [] => none
 | F :: Fs => match F.rng with
  | some g => if g.r = r then some (F, g) else findRng r Fs
  | none => findRng r Fs
def setPs : List AV → List Tmp → List AV → List AV
 | fr, p :: ps, a :: as => setPs (fr.set p a) ps as
 | fr, _, _ => fr
def yieldT (c : Cfg) (r : Nat) (args : List AV) : Tre Fin := match hget c.h r, findRng r c.callers with
 | some Q, some (F, g) => match Q.cont with
  | .obj (.loop R _ _) => if args.length = g.params.size then .chk (R = g.R) (.ok (.at_ { c with cur := { fn := F.fn, todo := [.code g.assign, .beginRound, .code g.body], fr := setPs F.fr g.params.toList args, rnd := some (some r, g.R) }, callers := c.cur :: c.callers })) else .bad
  | _ => .bad
 | _, _ => .bad
def yldOf (ρ : Operand → AV) : Op → Option (Nat × List AV)
 | .call { callee := .value f, args, .. } => match ρ f with
  | .yld r => some (r, args.toList.map ρ)
  | _ => none
 | _ => none
def runOp0 (E : Ctx) (c : Cfg) (ops : Array Oper) (o : Oper) (rest : List Nat) (k : List Item) : Tre Fin :=
 match o.op with
 | .pick x y z => match asB (ev E c.cur.fr x) with
  | some b => .ite b (.ok (.at_ { c with cur := { c.cur with fr := setB c.cur.fr (opTmp x) true }.fin ops o.dst rest k (ev E c.cur.fr y) }))
    (.ok (.at_ { c with cur := { c.cur with fr := setB c.cur.fr (opTmp x) false }.fin ops o.dst rest k (ev E c.cur.fr z) }))
  | none => .bad
 | .panic x => match ev E c.cur.fr x with
  | .val (.iface t v) => panT E c (.val (.iface t v))
  | _ => .bad
 | .next x true => match ev E c.cur.fr x with
  | .ref r 0 => match hget c.h r with
   | some R => match R.cont with
    | .obj (.iter s pos) => .ite (decide (pos < s.size))
     (.ok (.at_ { c with cur := c.cur.fin ops o.dst rest k (.tup [abool true, aint .i64 (pos : Nat), aint .i32 (runeAt s pos)]), h := hput c.h r { R with cont := .obj (.iter s (pos + runeW s pos)) } }))
     (.ok (.at_ { c with cur := c.cur.fin ops o.dst rest k (.tup [abool false]) }))
    | _ => .bad
   | none => .bad
  | _ => .bad
 | op => match aop E c.h c.nx (siteOp E c.cur.fn o.dst) (ev E c.cur.fr) op with
  | .v C a => chks C (.ok (.at_ { c with cur := c.cur.fin ops o.dst rest k a, nx := c.nx + qba }))
  | .w C a ws _ => chks C (.ok (.at_ { c with cur := c.cur.fin ops o.dst rest k a, h := qav c.h ws, nx := c.nx + qba }))
  | .any p => .any p fun b => .ok (.at_ { c with cur := c.cur.fin ops o.dst rest k (abool b), nx := c.nx + qba })
  | .call f args => if E.fns f then (match acallA E c.h c.nx f args with
   | some (C, K, a, ws) => chks C (.know K (.ok (.at_ { c with cur := c.cur.fin ops o.dst rest k a, h := qav c.h ws, nx := c.nx + qba })))
   | none => match acallP E c.h f args with
    | some (C, b, v, a) => chks C (.ite b (panT E c v) (.ok (.at_ { c with cur := c.cur.fin ops o.dst rest k a, nx := c.nx + qba })))
    | none => match enter E f args with
     | some F => .ok (.at_ { c with cur := F, callers := c.cur :: c.callers })
     | none => .bad) else .bad
  | .no => .bad
def runOp (E : Ctx) (c : Cfg) (ops : Array Oper) (o : Oper) (rest : List Nat) (k : List Item) : Tre Fin :=
 match yldOf (ev E c.cur.fr) o.op with
 | some (r, args) => yieldT c r args
 | none => runOp0 E c ops o rest k
def todoC (c : Cfg) (t : List Item) : Tre Fin := .ok (.at_ { c with cur := c.cur.to t })
def dropMarks (h : Heap) : List (Option Nat × RgL) → Option Heap
 | [] => some h
 | (some r, _) :: l => match hget h r with
  | some R => (match R.cont with | .obj .defd => dropMarks (hdel h r) l | _ => none)
  | none => none
 | (none, _) :: _ => none
def leave0 (E : Ctx) (c : Cfg) (h : Heap) : Tre Fin :=
 match E.P.funcs[c.cur.fn]? with
 | none => .bad
 | some fn => match aresults E h c.cur.fr fn.results.toList with
  | none => .bad
  | some (C, vs) => match c.callers with
   | [] => chks C (.ok (.ret (retv vs) h c.nx))
   | F :: Fs => match F.todo with
    | .inRegion ops (i :: rest) :: k => match ops[i]? with
     | some o => chks C (.ok (.at_ { c with cur := F.fin ops o.dst rest k (retv vs), callers := Fs, h := h }))
     | none => .bad
    | .inRangeFunc l :: k => chks C (.ok (.at_ { c with cur := { F with todo := .endRangeFunc l :: k }, callers := Fs, h := h }))
    | _ => .bad
def endRnd (c : Cfg) (jump : Option Code) : Tre Fin := match c.cur.rnd with
 | some (some r, _) => match hget c.h r with
  | some Q => match Q.cont with
   | .obj (.loop R _ _) => match c.callers with
    | F :: Fs => match F.todo with
     | .inRegion ops (i :: rest) :: k => match ops[i]? with
      | some o => .ok (.at_ { c with cur := F.fin ops o.dst rest k (abool jump.isNone), callers := Fs, h := hput c.h r { Q with cont := .obj (.loop R (if jump.isNone then .ready else .done) jump) } })
      | none => .bad
     | _ => .bad
    | [] => .bad
   | _ => .bad
  | none => .bad
 | _ => .bad
def leave (E : Ctx) (c : Cfg) (jump : Option Code) : Tre Fin := match c.cur.rnd with
 | none => (match dropMarks c.h c.cur.marks with
  | some h => leave0 E c h
  | none => .bad)
 | some _ => endRnd c jump
def beginRnd (c : Cfg) (k : List Item) : Tre Fin := match c.cur.rnd with
 | some (some r, _) => match hget c.h r with
  | some Q => match Q.cont with
   | .obj (.loop R .ready pend) => .ok (.at_ { c with cur := c.cur.to k, h := hput c.h r { Q with cont := .obj (.loop R .busy pend) } })
   | _ => .bad
  | none => .bad
 | _ => .bad
def endRng (c : Cfg) (k : List Item) : Tre Fin := match c.cur.rng with
 | some g => match hget c.h g.r with
  | some Q => match Q.cont with
   | .obj (.loop _ st pend) => (match st with
    | .busy => .bad
    | _ => .ok (.at_ { c with cur := c.cur.to ((pend.map Item.code).toList ++ k), h := hdel c.h g.r }))
   | _ => .bad
  | none => .bad
 | none => .bad
def rangeT (E : Ctx) (c : Cfg) (f : Operand) (params : Array Tmp) (assign body : Code) (k : List Item) : Tre Fin := match ev E c.cur.fr f, c.cur.rnd with
 | .fn g caps, none => if E.fns g && Nat.blt g bndB then .rg fun R => (match enter E g (.yld (c.nx + 1) :: caps) with
   | some F => .ok (.at_ { cur := F, callers := { c.cur with todo := .inRangeFunc R.l :: k, rng := some { r := c.nx + 1, R := R, params := params, assign := assign, body := body }, marks := (some c.nx, R) :: c.cur.marks } :: c.callers, h := hput (hput c.h c.nx (qcy c.nx (.obj .defd))) (c.nx + 1) (qcy (c.nx + 1) (.obj (.loop R .ready none))), nx := c.nx + qba })
   | none => .bad) else .bad
 | _, _ => .bad

def names (ops : Array Oper) (o : Oper) : List Nat :=
 o.dst.toList ++ o.op.operands.toList.filterMap opTmp ++ (match o.guard with | some (j, _) => ((ops[j]?).bind (·.dst)).toList | none => [])
def maskF (ns : List Nat) : List AV → Nat → List AV
 | [], _ => []
 | a :: l, i => (if ns.contains i then a else .bad) :: maskF ns l (i + 1)
mutual
def AV.rts : AV → List Nat
 | .agg cs => rtsL cs
 | .tup cs => rtsL cs
 | .fn _ cs => rtsL cs
 | .ref r _ => [r]
 | .tref r .. => [r]
 | .osl r .. => [r]
 | .optr r .. => [r]
 | .csl r .. => [r]
 | .yld r => [r]
 | .mp r => [r]
 | .refx r .. => [r]
 | _ => []
def rtsL : List AV → List Nat
 | [] => []
 | a :: l => a.rts ++ rtsL l
end
def rdOf (fr : List AV) : List Nat → List Nat
 | [] => []
 | t :: l => (lget fr t).rts ++ rdOf fr l
def refOnly : AV → List Nat → List Nat
 | .ref .., _ => []
 | _, l => l
def allRef (fm : List AV) : List Operand → Bool
 | [] => true
 | .tmp t :: l => (match lget fm t with | .ref .. => true | _ => false) && allRef fm l
 | _ :: l => allRef fm l
def rdFor (fm : List AV) : Op → List Nat → List Nat
 | .makeFunc _ a b, l => match allRef fm a.toList && allRef fm b.toList with
  | true => []
  | false => l
 | .move _, _ => []
 | .assign _, _ => []
 | .nilCheck (.tmp t), l => refOnly (lget fm t) l
 | .fieldAddr _ (.tmp t) _, l => refOnly (lget fm t) l
 | _, l => l
def innerR (h : Heap) : List Nat → List Nat
 | [] => []
 | r :: l => (match hget h r with
  | some R => match R.cont with | .cells cs => rtsL cs | _ => []
  | none => []) ++ innerR h l
def rdDeep (h : Heap) : Op → List Nat → List Nat
 | .call { callee := .value _, .. }, l => l ++ innerR h l
 | _, l => l
structure Rc where
 dst : Option Tmp
 val : AV
 ws : List (Nat × Option Root)
 nm : List Nat
 rd : List Nat
 call : Bool := false
def dval (E : Ctx) (ro : Nat) (id : Nat) (o : Oper) (ns : List Nat) (fm : List AV) (rd : List Nat) (hm : Heap) : Tre Rc :=
 match o.op with
 | .pick x y z => match asB (ev E fm x) with
  | some b => .ite b (.ok ⟨o.dst, ev E fm y, [], ns, rd, false⟩) (.ok ⟨o.dst, ev E fm z, [], ns, rd, false⟩)
  | none => .bad
 | op => match aop E hm id ro (ev E fm) op with
  | .v C a => chks C (.ok ⟨o.dst, a, [], ns, rd, false⟩)
  | .w C a ws _ => chks C (.ok ⟨o.dst, a, ws, ns, rd, false⟩)
  | .any _ => .bad
  | .call f args => if E.fns f then (match acallA E hm id f args with
   | some (C, _, a, ws) => chks C (.ok ⟨o.dst, a, ws, ns, rd, true⟩)
   | none => .bad) else .bad
  | .no => .bad
def dop (E : Ctx) (fn : FuncId) (ops : Array Oper) (id : Nat) (o : Oper) (fr : List AV) (h : Heap) : Tre Rc :=
 let ns := names ops o
 let fm := maskF ns fr 0
 let rd := rdDeep h o.op (rdFor fm o.op (rdOf fm ns))
 let hm := maskH h rd
 let ro := siteOp E fn o.dst
 match o.guard with
 | none => dval E ro id o ns fm rd hm
 | some (j, want) => match (ops[j]?).bind (·.dst) with
  | none => .bad
  | some t => match lget fm t with
   | .val (.bool b) => if want then .ite b (dval E ro id o ns fm rd hm) (.ok ⟨o.dst, und, [], ns, rd, false⟩) else .ite b (.ok ⟨o.dst, und, [], ns, rd, false⟩) (dval E ro id o ns fm rd hm)
   | .val (.tuple _) => .ok ⟨o.dst, und, [], ns, rd, false⟩
   | _ => .bad
def guardT (ops : Array Oper) (o : Oper) : Option Nat := match o.guard with | some (j, _) => (ops[j]?).bind (·.dst) | none => (match o.op with | .pick x _ _ => opTmp x | _ => none)
def decideT (fr : List AV) : Option Nat → (List AV → Tre (List Rc × List AV × Heap)) → Tre (List Rc × List AV × Heap)
 | some t, k => match lget fr t with
  | .val (.bool b) => .ite b (k (fr.set t (abool true))) (k (fr.set t (abool false)))
  | _ => k fr
 | none, k => k fr
def drun (E : Ctx) (fn : FuncId) (ops : Array Oper) (base : Nat) : Nat → List Oper → List AV → Heap → Tre (List Rc × List AV × Heap)
 | _, [], fr, h => .ok ([], fr, h)
 | i, o :: os, fr, h => decideT fr (guardT ops o) fun fr => (dop E fn ops (base + i * qba) o fr h).bind fun r =>
   (drun E fn ops base (i + 1) os (putT fr r.dst r.val) (qav h r.ws)).bind fun x => .ok (r :: x.1, x.2.1, x.2.2)
def addN (l : List Nat) (x : Nat) : List Nat := if l.contains x then l else x :: l
def addAll (l : List Nat) : List Nat → List Nat
 | [] => l
 | x :: xs => addAll (addN l x) xs
def ancOf (acc : List (List Nat)) (j : Nat) : List Go.Edge → Option (List Nat)
 | [] => some []
 | e :: es => if Region.binds .any e then (if e.on < j then (match ancOf acc j es with | some l => some (addAll (addN l e.on) (acc.getD e.on [])) | none => none) else none) else ancOf acc j es
def ancs : List (List Nat) → List Oper → Option (List (List Nat))
 | acc, [] => some acc
 | acc, o :: os => match ancOf acc acc.length o.after.toList with
  | some l => ancs (acc ++ [l]) os
  | none => none
def meets (l m : List Nat) : Bool := l.any fun x => m.contains x
def wrs (r : Rc) : List Nat := r.ws.map (·.1)
def conf (a b : Rc) : Bool := meets a.dst.toList b.nm || meets b.dst.toList a.nm || meets (wrs a) (wrs b ++ b.rd) || meets (wrs b) (wrs a ++ a.rd)
def okAgainst (anc : List Nat) (r : Rc) : Nat → List Rc → Bool
 | _, [] => true
 | i, q :: qs => (!conf q r || anc.contains i) && okAgainst anc r (i + 1) qs
def okAll (A : List (List Nat)) : Nat → List Rc → List Rc → Bool
 | _, _, [] => true
 | j, done, r :: rs => okAgainst (A.getD j []) r 0 done && okAll A (j + 1) (done ++ [r]) rs
def tells : List Rc → List Prop
 | [] => []
 | r :: rs => if r.call then okAV r.val :: tells rs else tells rs
def knows {α : Type} : List Prop → Tre α → Tre α
 | [], t => t
 | K :: l, t => .know K (knows l t)
def allIn (l : List Nat) : Nat → Bool
 | 0 => true
 | n + 1 => l.contains n && allIn l n
def chainFrom (A : List (List Nat)) : Nat → Nat → Bool
 | _, 0 => true
 | j, k + 1 => allIn (A.getD j []) j && chainFrom A (j + 1) k
def adraw0 (E : Ctx) (fn : FuncId) (ops : Array Oper) (m : Nat) (fr : List AV) (h : Heap) (nx : Nat) : Tre (List Rc × List AV × Heap) :=
 match ancs [] ops.toList with
 | some A => if decide (m ≤ ops.size) && chainFrom A m (ops.size - m) then (drun E fn ops nx 0 (ops.toList.take m) fr h).bind fun x => if okAll A 0 [] x.1 then .ok x else .bad else .bad
 | none => .bad
def flat : Tre Rc → Option (List Prop × Rc)
 | .ok r => some ([], r)
 | .chk C t => match flat t with | some (l, r) => some (C :: l, r) | none => none
 | .ite b t e => match b with | true => flat t | false => flat e
 | _ => none
def splitPick (l : List Nat) (t : Nat) : List Oper → Option (List Oper × Oper × Nat × List Oper)
 | [] => none
 | o :: os => match o.op, o.dst with
  | .pick (.tmp u) _ _, some d => (match u == t with
   | true => (match l.contains d with | true => some ([], o, d, os) | false => none)
   | false => (match splitPick l t os with | some (p, x, d, r) => some (o :: p, x, d, r) | none => none))
  | _, _ => (match splitPick l t os with | some (p, x, d, r) => some (o :: p, x, d, r) | none => none)
structure Grp where
 t : Nat
 b : Bool
 p : List Oper
 x : Oper
 d : Nat
 r : List Oper
def mgroup (l : List Nat) (ops : Array Oper) (o : Oper) (os : List Oper) (fr : List AV) (ex : List Nat) : Option Grp :=
 match guardT ops o with
 | some t => (match ex.contains t with
  | true => none
  | false => (match lget fr t with
   | .val (.bool b) => (match splitPick l t (o :: os) with
    | some (p, x, d, r) => some ⟨t, b, p, x, d, r⟩
    | none => none)
   | _ => none))
 | none => none
def joinV (b : Bool) : AV → AV → Option AV
 | .val (.bool x), .val (.bool y) => some (abool (cond b x y))
 | _, _ => none
def whenP (b v : Bool) : List Prop → List Prop
 | [] => []
 | C :: l => (b = v → C) :: whenP b v l
def forgetF : List Nat → List AV → List AV
 | [], fr => fr
 | t :: l, fr => forgetF l (fr.set t .bad)
def dsts : List Oper → List Nat
 | [] => []
 | o :: os => o.dst.toList ++ dsts os
def joinRc : List Rc → List Rc → List Rc
 | r :: rs, q :: qs => ⟨r.dst, .bad, [], r.nm, r.rd ++ q.rd, false⟩ :: joinRc rs qs
 | _, _ => []
structure FRes where
 C : List Prop
 rs : List Rc
 fr : List AV
 F : List Nat
def mergeT (g : Grp) (F : List Nat) (fr : List AV) (A B : Option FRes) : Option (List Prop × List Rc × List AV × List Nat) :=
 match A, B with
 | some ⟨C1, r1, f1, _⟩, some ⟨C2, r2, f2, _⟩ => (match joinV g.b (lget f1 g.d) (lget f2 g.d), decide (g.d < fr.length) with
  | some v, true => some (whenP g.b true C1 ++ whenP g.b false C2, joinRc r1 r2, (forgetF (dsts g.p) fr).set g.d v, dsts g.p ++ F)
  | _, _ => none)
 | _, _ => none
def drunF (E : Ctx) (fn : FuncId) (ops : Array Oper) (base : Nat) (l : List Nat) (h : Heap) : Nat → List Nat → List Nat → Nat → List Oper → List AV → Option FRes
 | 0, _, _, _, _, _ => none
 | _ + 1, _, F, _, [], fr => some ⟨[], [], fr, F⟩
 | n + 1, ex, F, i, o :: os, fr => match mgroup l ops o os fr ex with
  | some g => (match mergeT g F fr (drunF E fn ops base l h n (g.t :: ex) F i (g.p ++ [g.x]) (fr.set g.t (abool true))) (drunF E fn ops base l h n (g.t :: ex) F i (g.p ++ [g.x]) (fr.set g.t (abool false))) with
   | some (C, rs, fr, F) => (match drunF E fn ops base l h n ex F (i + g.p.length + 1) g.r fr with
    | some ⟨C', rs', fr', F'⟩ => some ⟨C ++ C', rs ++ rs', fr', F'⟩
    | none => none)
   | none => none)
  | none => (match meets (names ops o) F with
   | true => none
   | false => (match flat (dop E fn ops (base + i * qba) o fr h) with
    | some (C, q) => (match q.ws with
     | [] => (match drunF E fn ops base l h n ex F (i + 1) os (putT fr o.dst q.val) with
      | some ⟨C', rs, fr', F'⟩ => some ⟨C ++ C', ⟨o.dst, q.val, [], names ops o, q.rd, q.call⟩ :: rs, fr', F'⟩
      | none => none)
     | _ => none)
    | none => none))
def drunM (E : Ctx) (fn : FuncId) (ops : Array Oper) (base : Nat) (l : List Nat) : Nat → List Nat → Nat → List Oper → List AV → Heap → Tre (List Rc × List AV × Heap)
 | 0, _, _, _, _, _ => .bad
 | _ + 1, _, _, [], fr, h => .ok ([], fr, h)
 | n + 1, F, i, o :: os, fr, h => match mgroup l ops o os fr [] with
  | some g => (match mergeT g F fr (drunF E fn ops base l h n [g.t] F i (g.p ++ [g.x]) (fr.set g.t (abool true))) (drunF E fn ops base l h n [g.t] F i (g.p ++ [g.x]) (fr.set g.t (abool false))) with
   | some (C, rs, fr, F) => chks C ((drunM E fn ops base l n F (i + g.p.length + 1) g.r fr h).bind fun x => .ok (rs ++ x.1, x.2.1, x.2.2))
   | none => .bad)
  | none => (match meets (names ops o) F with
   | true => .bad
   | false => decideT fr (guardT ops o) fun fr => (dop E fn ops (base + i * qba) o fr h).bind fun r =>
     (drunM E fn ops base l n F (i + 1) os (putT fr r.dst r.val) (qav h r.ws)).bind fun x => .ok (r :: x.1, x.2.1, x.2.2))

def adrawM (E : Ctx) (fn : FuncId) (ops : Array Oper) (m : Nat) (l : List Nat) (fr : List AV) (h : Heap) (nx : Nat) : Tre (List Rc × List AV × Heap) :=
 match ancs [] ops.toList with
 | some A => if decide (m ≤ ops.size) && chainFrom A m (ops.size - m) then (drunM E fn ops nx l 4000 [] 0 (ops.toList.take m) fr h).bind fun x => if okAll A 0 [] x.1 then .ok x else .bad else .bad
 | none => .bad
def mergeHere : List Nat → Array Oper → Bool
 | [], _ => false
 | d :: l, ops => ops.toList.any fun o => match o.op, o.dst with | .pick .., some t => (d :: l).contains t | _, _ => false
def adraw (E : Ctx) (fn : FuncId) (ops : Array Oper) (m : Nat) (fr : List AV) (h : Heap) (nx : Nat) : Tre (List Rc × List AV × Heap) :=
 match E.mrg fn with
 | [] => adraw0 E fn ops m fr h nx
 | d :: l => adrawM E fn ops m (d :: l) fr h nx
def lastPan (E : Ctx) (ops : Array Oper) : Bool := match ops[ops.size - 1]? with
 | some { op := .call { callee := .value (.func f), .. }, .. } => E.pans f
 | _ => false
def firstTmp (E : Ctx) : List Oper → Nat → Option Nat
 | [], _ => none
 | o :: os, i => match o.op with
  | .call { callee := .value (.tmp _), .. } => some i
  | .call { callee := .value (.func f), .. } => if E.pans f then some i else firstTmp E os (i + 1)
  | _ => firstTmp E os (i + 1)
def cutIdx (E : Ctx) (ops : Array Oper) : Nat := match lastPan E ops with
 | true => ops.size - 1
 | false => match firstTmp E ops.toList 0 with
  | some i => (match ancs [] ops.toList with
   | some A => (match chainFrom A i (ops.size - i) with | true => i | false => ops.size)
   | none => ops.size)
  | none => ops.size
def restI (ops : Array Oper) (m : Nat) (k : List Item) : List Item := match Nat.beq m ops.size with
 | true => k
 | false => .inRegion ops (List.range' m (ops.size - m)) :: k
def astep (E : Ctx) (c : Cfg) : Tre Fin :=
 match c.cur.todo with
 | [] => leave E c none
 | .code .ret :: _ => leave E c (some .ret)
 | .code .skip :: k | .code (.label _) :: k | .inBlock _ :: k | .inScope _ :: k => todoC c k
 | .code (.seq a b) :: k => todoC c (.code a :: .code b :: k)
 | .code (.cond x a b) :: k => match asB (ev E c.cur.fr x) with
  | some t => .ite t (.ok (.at_ { c with cur := { c.cur.to (.code a :: k) with fr := setB c.cur.fr (opTmp x) true } })) (.ok (.at_ { c with cur := { c.cur.to (.code b :: k) with fr := setB c.cur.fr (opTmp x) false } }))
  | none => .bad
 | .code (.block id a) :: k => todoC c (.code a :: .inBlock id :: k)
 | .code (.loop a) :: k | .inLoop a :: k => todoC c (.code a :: .inLoop a :: k)
 | .code (.scope a) :: k => todoC c (.code a :: .inScope a :: k)
 | .code (.goto l) :: k => match gotoIn l k with | some k' => todoC c k' | none => .bad
 | .code (.exit id) :: k => match exitTo id k with | some k' => todoC c k' | none => (match c.cur.rnd with | some _ => endRnd c (some (.exit id)) | none => .bad)
 | .code (.region _ ops false) :: k => match mergeHere (E.mrg c.cur.fn) ops with
  | true => (drunM E c.cur.fn ops c.nx (E.mrg c.cur.fn) 4000 [] 0 ops.toList c.cur.fr c.h).bind fun x => knows (tells x.1) (.ok (.at_ { c with cur := { c.cur.to k with fr := x.2.1 }, h := x.2.2, nx := c.nx + ops.size * qba }))
  | false => todoC c (.inRegion ops (List.range ops.size) :: k)
 | .code (.region _ ops true) :: k => (adraw E c.cur.fn ops (cutIdx E ops) c.cur.fr c.h c.nx).bind fun x => knows (tells x.1) (.ok (.at_ { c with cur := { c.cur.to (restI ops (cutIdx E ops) k) with fr := x.2.1 }, h := x.2.2, nx := c.nx + ops.size * qba }))
 | .code (.rangeFunc f params assign body) :: k => rangeT E c f params assign body k
 | .beginRound :: k => beginRnd c k
 | .endRangeFunc _ :: k => endRng c k
 | .inRegion _ [] :: k => todoC c k
 | .inRegion ops (i :: rest) :: k => match ops[i]? with
  | none => .bad
  | some o => match o.guard with
   | none => runOp E c ops o rest k
   | some (j, want) => match (ops[j]?).bind (·.dst) with
    | none => .bad
    | some t => match lget c.cur.fr t with
     | .val (.bool b) =>
      let yes (d : Bool) : Tre Fin := runOp E { c with cur := { c.cur with fr := c.cur.fr.set t (abool d) } } ops o rest k
      let no (d : Bool) : Tre Fin := .ok (.at_ { c with cur := { c.cur with fr := c.cur.fr.set t (abool d) }.fin ops o.dst rest k und })
      if want then .ite b (yes true) (no false) else .ite b (no true) (yes false)
     | .val (.tuple _) => .ok (.at_ { c with cur := c.cur.fin ops o.dst rest k und })
     | _ => .bad
 | _ => .bad
end Go.BE

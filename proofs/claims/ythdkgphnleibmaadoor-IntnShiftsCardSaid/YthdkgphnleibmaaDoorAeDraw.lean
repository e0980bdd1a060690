/- A part of the proofs over this program: an abstract machine that the kernel evaluates, its soundness, and what the functions compute (Draw). -/
import Derived.Test.YthdkgphnleibmaaDoorAeStep
import Derived.Test.YthdkgphnleibmaaDoorAeDrawA
import Derived.Orders
/-! Drawn orders: any order that the region's edges allow does what the canonical one does. -/
namespace Go.AE
open Go.RowKit
theorem allP_eq : ∀ (l : List Prop), AllP' l = AllP l
  | [] => rfl
  | p :: l => by simp only [AllP', AllP, allP_eq l]
section
variable {P : Program} {E : Ctx} {w w0 w' : World} {Z Z0 Z' : Nat → Prop} {β β' : Nat → Option Nat} {N nx : Nat} {h : Heap} {A B : AV} {v V U : Value} {cs ds : List AV} {vs us : List Value} {a : Act}
theorem βnew_old1 {b : Nat} (hf : β nx = none) : ∀ r k, β r = some k → βnew β nx b r = some k := by
  intro r k hk
  unfold βnew
  split
  · rename_i hr
    subst hr
    rw [hf] at hk
    cases hk
  · exact hk
theorem MemR.newAt {w0 : World} {Z0 : Nat → Prop} {N : Nat} (hm : MemR w0 Z0 w Z β h N) (hid : nx < N) (hbn : β nx = none) (arr : Array Value) (e : TypeId) (hr : VRs w Z β cs arr.toList) :
    Stay w Z (w.alloc (.cells arr e)) Z ∧ MemR w0 Z0 (w.alloc (.cells arr e)) Z (βnew β nx w.heap.size) ((nx, cs) :: h) N := by
  have hst : Stay w Z (w.alloc (.cells arr e)) Z := ⟨fun b hb => by
    have := hm.zlt b hb
    simp only [World.alloc, Array.getElem?_push]
    rw [if_neg (by omega)], fun _ h => h⟩
  have hβ := βnew_old1 (b := w.heap.size) hbn
  refine ⟨hst, ⟨fun r cs' hg => ?_, fun r1 r2 k cs1 cs2 hg1 hg2 hb1 hb2 => ?_, fun r hr => ?_, fun r cs' hg => ?_⟩, fun b hb => ?_, hm.zin, hm.below.alloc hm.below.size _⟩
  · simp only [hget] at hg
    split at hg
    · rename_i hr'
      injection hg with hg
      subst hg
      refine ⟨w.heap.size, by simp [βnew, hr'], hm.below.size, fun hz => Nat.lt_irrefl _ (hm.zlt _ hz), arr, e, by show (w.heap.push _)[_]? = _; simp, hr.mono hst hβ⟩
    · obtain ⟨b, hb, hro⟩ := hm.heap.row r cs' hg
      obtain ⟨arr2, t2, hrow2, hrel2⟩ := hro.row
      refine ⟨b, hβ _ _ hb, hro.lo, hro.nz, arr2, t2, ?_, hrel2.mono hst hβ⟩
      have := (Array.getElem?_eq_some_iff.1 hrow2).1
      simp only [World.alloc, Array.getElem?_push]
      rw [if_neg (by omega)]
      exact hrow2
  · have old : ∀ r cs' k, r ≠ nx → hget ((nx, cs) :: h) r = some cs' → βnew β nx w.heap.size r = some k → hget h r = some cs' ∧ β r = some k ∧ k < w.heap.size := by
      intro r cs' k hne hg hb
      simp only [hget, if_neg (Ne.symm hne)] at hg
      simp only [βnew, if_neg hne] at hb
      obtain ⟨b, hb', hro⟩ := hm.heap.row r cs' hg
      rw [hb] at hb'
      injection hb' with hb'
      subst hb'
      obtain ⟨_, _, hrow, _⟩ := hro.row
      exact ⟨hg, hb, (Array.getElem?_eq_some_iff.1 hrow).1⟩
    by_cases h1 : r1 = nx <;> by_cases h2 : r2 = nx
    · rw [h1, h2]
    · subst h1
      obtain ⟨_, _, hlt⟩ := old r2 cs2 k h2 hg2 hb2
      simp [βnew] at hb1
      omega
    · subst h2
      obtain ⟨_, _, hlt⟩ := old r1 cs1 k h1 hg1 hb1
      simp [βnew] at hb2
      omega
    · obtain ⟨g1, b1, _⟩ := old r1 cs1 k h1 hg1 hb1
      obtain ⟨g2, b2, _⟩ := old r2 cs2 k h2 hg2 hb2
      exact hm.heap.inj r1 r2 k cs1 cs2 g1 g2 b1 b2
  · simp only [βnew]
    rw [if_neg (by omega)]
    exact hm.heap.fresh r (by omega)
  · simp only [hget] at hg
    split at hg
    · rename_i hr'
      exact hr' ▸ hid
    · exact hm.heap.keys r cs' hg
  · have := hm.zlt b hb
    simp
    omega
theorem yielded_at' {ops : Array Oper} {tmps : Array Value} {j t : Nat} (hj : (ops[j]?).bind (·.dst) = some t) : yielded ops tmps j = match tmps[t]? with | some (.bool b) => some b | _ => none := by
  unfold yielded
  rw [hj]
  rfl

/-- behind a call that is known by its contract -/
theorem MemR.call (hm : MemR w0 Z0 w Z β h nx) (hb : Below w.heap.size w w') (hs : ∀ b, Z b → Z' b) (hn : ∀ b, Z' b → Z b ∨ w.heap.size ≤ b) (hl : ∀ b, Z' b → b < w'.heap.size) : Stay w Z w' Z' ∧ MemR w0 Z0 w' Z' β h nx := by
  have hst : Stay w Z w' Z' := ⟨fun b hz => hb.block b (hm.zlt b hz), hs⟩
  refine ⟨hst, ⟨fun r cs hg => ?_, hm.heap.inj, hm.heap.fresh, hm.heap.keys⟩, hl, fun b hz => ?_, Below.trans hm.below ⟨hb.os, hb.tape, hb.output, hb.size, fun i hi => hb.block i (Nat.lt_of_lt_of_le hi hm.below.size)⟩⟩
  · obtain ⟨b, hbr, hr⟩ := hm.heap.row r cs hg
    obtain ⟨arr, e, hrow, hrel⟩ := hr.row
    have hlt := (Array.getElem?_eq_some_iff.1 hrow).1
    refine ⟨b, hbr, hr.lo, fun hz => (hn b hz).elim hr.nz (fun h => by omega), arr, e, (hb.block b hlt).trans hrow, hrel.mono hst (fun _ _ h => h)⟩
  · rcases hn b hz with h | h
    · exact hm.zin b h
    · have := hm.below.size
      exact .inr (by omega)
theorem aop_mask {H : Heap} {ρ : Operand → AV} (op : Op) (hns : ∀ t x y, op ≠ .store t x y) : aop E (maskH H (rdOf ρ op)) ρ op = aop E H ρ op := by
  cases op
  case load t x =>
    simp only [aop, rdOf]
    congr 1
    cases hx : ρ x with
    | ref r off =>
      simp only [refRoot, maskH, aload]
      cases hg : hget H r with
      | none => simp [hget]
      | some cs => simp [hget]
    | _ => rfl
  case store t x y => exact absurd rfl (hns t x y)
  case call c =>
    obtain ⟨callee, args, ats⟩ := c
    cases callee
    case builtin b => cases b <;> rfl
    all_goals rfl
  case makeFunc fn first caps => cases fn <;> rfl
  all_goals rfl
theorem aop_mask_store {H h' : Heap} {ρ : Operand → AV} {t : TypeId} {x y : Operand} {C : List Prop} (he : aop E (maskH H (rdOf ρ (.store t x y))) ρ (.store t x y) = .u C h') :
    ∃ r cs cs' H', rdOf ρ (.store t x y) = [r] ∧ hget H r = some cs ∧ hget h' r = some cs' ∧ aop E H ρ (.store t x y) = .u C H' ∧ ∀ k, hget H' k = if k = r then some cs' else hget H k := by
  simp only [aop, rdOf] at he ⊢
  cases hx : ρ x with
  | ref r off =>
    rw [hx] at he
    simp only [refRoot, maskH, astore] at he ⊢
    cases hg : hget H r with
    | none =>
      rw [hg] at he
      simp only [hget] at he
      split at he
      · rename_i hh
        split at hh
        · rename_i hq
          cases hq
        · cases hh
      · cases he
    | some cs =>
      rw [hg] at he
      simp only [hget, if_true] at he ⊢
      cases hi : E.ty t with
      | none => rw [hi] at he; cases he
      | some i =>
        rw [hi] at he
        simp only at he ⊢
        by_cases hc : (ρ y).cells.length = i.size ∧ off + i.size ≤ cs.length ∧ (ρ y).cells.all AV.one = true
        · rw [if_pos hc] at he ⊢
          simp only [Out.u.injEq] at he ⊢
          obtain ⟨rfl, rfl⟩ := he
          exact ⟨r, cs, setCells cs off (ρ y).cells, _, rfl, hg, by simp [hset, hget], ⟨rfl, rfl⟩, fun k => hget_hset_eq hg k⟩
        · rw [if_neg hc] at he
          cases he
  | _ => rw [hx] at he; simp [astore] at he
theorem mask_VRs {ns : List Nat} {F : List AV} (h : VRs w Z β F vs) : VRs w Z β (maskF ns F 0) vs := by
  have hl : (maskF ns F 0).length = F.length := by
    have : ∀ (F : List AV) (i : Nat), (maskF ns F i).length = F.length := by
      intro F
      induction F with
      | nil => intro i; rfl
      | cons a F ih => intro i; simp [maskF, ih]
    exact this F 0
  refine ⟨hl.trans h.1, fun j x y hx hy => ?_⟩
  rw [maskF_get] at hx
  cases hF : F[j]? with
  | none => rw [hF] at hx; cases hx
  | some z =>
    rw [hF] at hx
    simp only [Option.map_some, Option.some.injEq] at hx
    subst hx
    split
    · exact h.2 j z y hF hy
    · exact .bad _

/-- what one operation leaves behind it -/
structure Did (E : Ctx) (w0 : World) (Z0 : Nat → Prop) (w : World) (Z : Nat → Prop) (β : Nat → Option Nat) (H : Heap) (N id : Nat) (r : Rc) (v : Value) (w' : World) (Z' : Nat → Prop) (β' : Nat → Option Nat) (H' : Heap) : Prop where
  val : VR w' Z' β' r.val v
  stay : Stay w Z w' Z'
  ext : ∀ r b, β r = some b → β' r = some b
  only : ∀ x, x ≠ id → β' x = β x
  mem : MemR w0 Z0 w' Z' β' H' N
  heap : ∀ x, hget H' x = upd (hget H) r.wr x
  wr : ∀ k cs, r.wr = some (k, cs) → k = id ∨ ∃ cs, hget H k = some cs
theorem dv_run (hE : EOK E) {b : Frame} {k : List Item} {fs : List Frame} {ops : Array Oper} {i : Nat} {rest : List Nat} {o : Oper} {ns : List Nat} {fm : List AV} {H : Heap} {r : Rc} {id : Nat} (hm : MemR w0 Z0 w Z β H N) (hg : GlR E w Z)
    (hf : VRs w Z β fm a.tmps.toList) (hd : DV E id o ns fm H r) (ho : ops[i]? = some o) (hw : Region.wanted o (yielded ops a.tmps) = true) (hid : id < N) (hb : β id = none) :
    ∃ v w' Z' β' H', Did E w0 Z0 w Z β H N id r v w' Z' β' H' ∧ Steps E.P (lone (b.at a (.inRegion ops (i :: rest) :: k)) fs w) (lone (b.at (a.put r.dst v) (.inRegion ops rest :: k)) fs w') := by
  have hfr : FrR w Z β ⟨0, [], fm, []⟩ { a with defers := [] } := ⟨rfl, hf, fun t d h => by simp [dlook] at h⟩
  have hev : ∀ x, VR w Z β (ev E fm x) (a.eval x) := fun x => by
    have := ev_rel hg hfr x
    cases x <;> exact this
  rw [hd.nm.2]
  rcases hd with ⟨x, y, z, b', hop, hb', rfl⟩ | ⟨hnp, hd⟩
  · have hv := asB_inv (hev x) hb'
    have hrun : (execOp a.eval o).run E.P w = .ok (.value (a.eval (if b' then y else z))) w := by
      simp only [execOp, hop, hv, asBool, Sem.run_bind, Sem.run_pure, Result.andThen_ok]
      cases b' <;> rfl
    exact ⟨_, w, Z, β, H, ⟨hev _, Stay.refl _ _, fun _ _ h => h, fun _ _ => rfl, hm, fun x => rfl, fun k cs h => by cases h⟩, .one (op_value ho hw hrun)⟩
  · by_cases hst : ∃ t x y, o.op = .store t x y
    · obtain ⟨t, x, y, hop⟩ := hst
      have hop' := aop_sound (Z0 := Z0) hE.ty hm hev o
      rw [hop] at hd hop'
      revert hd
      generalize hout : aop E (maskH H (rdOf (ev E fm) (.store t x y))) (ev E fm) (.store t x y) = out
      intro hd
      cases out with
      | u C h' =>
        obtain ⟨hC, x', cs', hrd, hg', rfl⟩ := hd
        obtain ⟨r', cs, cs2, H', e1, e2, e3, e4, e5⟩ := aop_mask_store hout
        rw [e1] at hrd
        injection hrd with hrd
        subst hrd
        rw [e3] at hg'
        injection hg' with hg'
        subst hg'
        rw [e4] at hop'
        obtain ⟨w', h1, h2, h3⟩ := hop' (allP_eq C ▸ hC)
        exact ⟨undef, w', Z, β, H', ⟨.cr (.val _), h2, fun _ _ h => h, fun _ _ => rfl, h3, e5, fun k cs'' h => by
          simp only [Option.some.injEq, Prod.mk.injEq] at h
          exact .inr ⟨cs, h.1 ▸ e2⟩⟩, .one (op_skipv ho hw h1)⟩
      | v C a =>
        simp only [aop] at hout
        split at hout <;> cases hout
      | new cs mk =>
        simp only [aop] at hout
        split at hout <;> cases hout
      | call f args =>
        simp only [aop] at hout
        split at hout <;> cases hout
      | no => exact hd.elim
    · rw [aop_mask o.op (fun t x y hh => hst ⟨t, x, y, hh⟩)] at hd
      have hop' := aop_sound (Z0 := Z0) hE.ty hm hev o
      revert hd hop'
      generalize hout : aop E H (ev E fm) o.op = out
      intro hd hop'
      cases out with
      | v C x =>
        obtain ⟨hC, rfl⟩ := hd
        obtain ⟨v, h1, h2⟩ := hop' (allP_eq C ▸ hC)
        exact ⟨v, w, Z, β, H, ⟨h2, Stay.refl _ _, fun _ _ h => h, fun _ _ => rfl, hm, fun x => rfl, fun k cs h => by cases h⟩, .one (op_value ho hw h1)⟩
      | u C h' =>
        exfalso
        obtain ⟨hC, x, cs, hrd, hg', rfl⟩ := hd
        revert hrd
        unfold rdOf
        split
        · rename_i t x' hop
          rw [hop] at hout
          simp only [aop] at hout
          unfold oV at hout
          split at hout <;> cases hout
        · rename_i t x' y hop
          exact absurd ⟨_, _, _, hop⟩ hst
        · intro hh; cases hh
      | new cs mk =>
        obtain rfl := hd
        obtain ⟨arr, e, v, h1, h2, h3⟩ := hop'
        obtain ⟨h4, h5⟩ := hm.newAt hid hb arr e h2
        refine ⟨v, _, Z, _, _, ⟨h3 _ _ _ (by simp [βnew]), h4, βnew_old1 hb, fun x hx => by simp [βnew, hx], h5, fun x => ?_, fun k cs' h => ?_⟩, .one (op_value ho hw h1)⟩
        · simp only [hget, upd, eq_comm]
        · simp only [Option.some.injEq, Prod.mk.injEq] at h
          exact .inl h.1.symm
      | call g args =>
        obtain ⟨hgf, hcl, q, hq, hpre, rfl⟩ := hd
        obtain ⟨vs, h1, h2⟩ := hop'
        have hrun : (execOp a.eval o).run E.P w = .ok (.enter g vs.toArray) w := by rw [h1]; exact hE.fns g hgf _ w
        have hvs : VRs w Z (fun _ => none) args vs := ⟨h2.1, fun j x y hx hy => .cr ((h2.2 j x y hx hy).toCR (closedAll_at hcl j x hx))⟩
        have hcall := hE.env g args q hcl hq hpre w Z vs hg hm.zlt hvs
        obtain ⟨e, w', fr, ⟨v, Z', rfl, q1, q2, q3, q4, q5⟩, hcomes, hfn, hleave⟩ := hcall (b.at a (.inRegion ops (i :: rest) :: k) :: fs)
        obtain ⟨h3, h4⟩ := hm.call q1 q2 q3 q4
        exact ⟨v, w', Z', β, H, ⟨.cr q5, h3, fun _ _ h => h, fun _ _ => rfl, h4, fun x => rfl, fun k cs h => by cases h⟩, .head (op_enter ho hw hrun) (Steps.trans hcomes (.one (op_back ho hleave)))⟩
      | no => exact hd.elim
theorem dok_run (hE : EOK E) {b : Frame} {k : List Item} {fs : List Frame} {ops : Array Oper} {i : Nat} {rest : List Nat} {o : Oper} {F : List AV} {H : Heap} {r : Rc} {id : Nat} (hm : MemR w0 Z0 w Z β H N) (hg : GlR E w Z)
    (hf : VRs w Z β F a.tmps.toList) (hd : DOK E ops id o F H r) (ho : ops[i]? = some o) (hid : id < N) (hb : β id = none) :
    ∃ v w' Z' β' H', Did E w0 Z0 w Z β H N id r v w' Z' β' H' ∧ Steps E.P (lone (b.at a (.inRegion ops (i :: rest) :: k)) fs w) (lone (b.at (a.put r.dst v) (.inRegion ops rest :: k)) fs w') := by
  have hfm : VRs w Z β (maskF (names ops o) F 0) a.tmps.toList := mask_VRs hf
  have hskip : r = skipR ops o → ((ops[i]?).map (Region.wanted · (yielded ops a.tmps))).getD false = false →
      ∃ v w' Z' β' H', Did E w0 Z0 w Z β H N id r v w' Z' β' H' ∧ Steps E.P (lone (b.at a (.inRegion ops (i :: rest) :: k)) fs w) (lone (b.at (a.put r.dst v) (.inRegion ops rest :: k)) fs w') := by
    rintro rfl hw
    have := step_op_skip (P := E.P) (b := b) (a := a) (k := k) (cs := fs) (w := w) (ops := ops) (i := i) (rest := rest) hw
    rw [ho] at this
    exact ⟨undef, w, Z, β, H, ⟨.cr (.val _), Stay.refl _ _, fun _ _ h => h, fun _ _ => rfl, hm, fun x => rfl, fun k cs h => by cases h⟩, .one this⟩
  unfold DOK at hd
  split at hd
  · rename_i hgd
    exact dv_run hE hm hg hfm hd ho (by simp [Region.wanted, hgd]) hid hb
  · rename_i j want hgd
    obtain ⟨t, ht, hd⟩ := hd
    rcases hd with ⟨b', hb', hd⟩ | ⟨vs, hb', rfl⟩
    · have hbt := lget_val hfm hb'
      rw [Array.getElem?_toList] at hbt
      rcases hd with ⟨rfl, hd⟩ | ⟨hne, hr⟩
      · refine dv_run hE hm hg hfm hd ho ?_ hid hb
        simp only [Region.wanted, hgd, yielded_at' ht, hbt]
        simp
      · refine hskip hr ?_
        simp only [ho, Option.map_some, Option.getD_some, Region.wanted, hgd, yielded_at' ht, hbt]
        simpa using hne
    · have hbt := lget_val hfm hb'
      rw [Array.getElem?_toList] at hbt
      refine hskip rfl ?_
      simp only [ho, Option.map_some, Option.getD_some, Region.wanted, hgd, yielded_at' ht, hbt]
      rfl
end
end Go.AE

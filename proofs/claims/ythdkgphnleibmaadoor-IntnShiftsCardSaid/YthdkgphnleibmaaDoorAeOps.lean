/- A part of the proofs over this program: an abstract machine that the kernel evaluates, its soundness, and what the functions compute (Ops). -/
import Derived.Test.YthdkgphnleibmaaDoorAeRun
import Derived.Laws.Slices
import Derived.Tactics
namespace Go.AE
structure RowR (w : World) (Z : Nat → Prop) (β : Nat → Option Nat) (N0 b : Nat) (cs : List AV) : Prop where
  lo : N0 ≤ b
  nz : ¬ Z b
  row : ∃ arr e, w.heap[b]? = some (.cells arr e (0, 0)) ∧ VRs w Z β cs arr.toList
structure HeapR (w : World) (Z : Nat → Prop) (β : Nat → Option Nat) (N0 : Nat) (h : Heap) (nx : Nat) : Prop where
  row : ∀ r cs, hget h r = some cs → ∃ b, β r = some b ∧ RowR w Z β N0 b cs
  inj : ∀ r r' b cs cs', hget h r = some cs → hget h r' = some cs' → β r = some b → β r' = some b → r = r'
  fresh : ∀ r, nx ≤ r → β r = none
  keys : ∀ r cs, hget h r = some cs → r < nx

section
variable {P : Program} {E : Ctx} {w : World} {Z : Nat → Prop} {β : Nat → Option Nat} {N0 nx : Nat} {h : Heap} {a A : AV} {v V : Value}
theorem RowR.cells {b : Nat} {cs : List AV} (hr : RowR w Z β N0 b cs) : Cells w Z β b 0 cs := by
  obtain ⟨arr, e, hb, hv⟩ := hr.row
  intro j a hj
  obtain ⟨v, h1, h2⟩ := hv.get hj
  refine ⟨v, ?_, h2⟩
  simp only [Nat.zero_add]
  unfold CellAt World.cell?
  simp only [hb]
  simpa using h1
theorem aload_sound (hT : TyOK E.P E.ty) (hh : HeapR w Z β N0 h nx) {t : TypeId} (he : aload E h t A = some a) (hA : VR w Z β A V) :
    ∃ v, (Instr.loadAt t V).run E.P w = .ok v w ∧ VR w Z β a v := by
  unfold aload at he
  split at he
  · rename_i cs off
    split at he
    · rename_i i hi
      cases hA with
      | cr hA =>
        cases hA with
        | rop _ _ b o u hz hcell hrel =>
          obtain ⟨v, h1, h2⟩ := load_var (w := w) (Z := Z) (β := β) (hT t i hi) (b := b) (o := o) (off := off) (cs := cs) (fun j a hj => ⟨u j, hcell j a hj, .cr (hrel j a hj)⟩) he
          exact ⟨v, by simp only [Instr.loadAt, Instr.sureAddr, Sem.run_bind, Sem.run_pure, Result.andThen_ok, h1], h2⟩
    · cases he
  · rename_i r off
    split at he
    · rename_i i cs hi hg
      obtain ⟨b, hb, hr⟩ := hh.row r cs hg
      cases hA with
      | cr hA => cases hA
      | ref _ _ b' hb' =>
        rw [hb] at hb'
        injection hb' with hb'
        subst hb'
        obtain ⟨v, h1, h2⟩ := load_var (hT t i hi) (off := off) hr.cells he
        simp only [Nat.zero_add] at h1
        exact ⟨v, by simp only [Instr.loadAt, Instr.sureAddr, Sem.run_bind, Sem.run_pure, Result.andThen_ok, h1], h2⟩
    · cases he
  · cases he

/-- an answer that needs conditions -/
def AllP : List Prop → Prop
  | [] => True
  | p :: l => p ∧ AllP l
theorem AllP.append {l m : List Prop} : AllP (l ++ m) ↔ AllP l ∧ AllP m := by
  induction l with
  | nil => simp [AllP]
  | cons p l ih => simp [AllP, ih, and_assoc]

theorem VR.val_inv {u : Value} (h : VR w Z β (.val u) v) : v = u := by
  cases h with
  | cr h => cases h; rfl
theorem VR.int_inv {k : IntKind} {n : Int} (h : VR w Z β (.val (.int k n)) v) : v = .int k n := h.val_inv
theorem ashift_sound {op : BinOp} {k k' : IntKind} {x y : Int} {C : List Prop} (he : ashift op k x y = some (C, a)) (hC : AllP C) :
    ∃ v, (Op.shift op k x k' y).run P w = .ok v w ∧ VR w Z β a v := by
  unfold ashift at he
  split at he
  · injection he with he; injection he with h1 h2; subst h1; subst h2
    have hy : ¬ y < 0 := by simp [AllP] at hC; omega
    exact ⟨_, by simp only [Op.shift, hy, if_false, Sem.run_pure], .cr (.val _)⟩
  · injection he with he; injection he with h1 h2; subst h1; subst h2
    have hy : ¬ y < 0 := by simp [AllP] at hC; omega
    exact ⟨_, by simp only [Op.shift, hy, if_false, Sem.run_pure], .cr (.val _)⟩
  · cases he
theorem okv_inv {C : List Prop} {x : AV} (he : okv x = some (C, a)) : a = x := by
  unfold okv at he
  injection he with he
  injection he with h1 h2
  exact h2.symm
theorem aarith_sound {op : BinOp} {t : TypeId} {k : IntKind} {x y : Int} {C : List Prop} (hs : isShift op = false) (he : aarith op k x y = some (C, a)) (hC : AllP C) :
    ∃ v, (binOp op t (.int k x) (.int k y)).run P w = .ok v w ∧ VR w Z β a v := by
  unfold aarith at he
  cases op <;> simp only [isShift, Bool.true_eq_false] at hs <;> simp only at he
  case quo =>
    injection he with he; injection he with h1 h2; subst h1; subst h2
    have hy : ¬ y = 0 := by simpa [AllP] using hC
    exact ⟨_, by simp only [binOp, Op.intDiv, hy, ne_eq, not_true_eq_false, if_false, Sem.run_pure], .cr (.val _)⟩
  case rem =>
    injection he with he; injection he with h1 h2; subst h1; subst h2
    have hy : ¬ y = 0 := by simpa [AllP] using hC
    exact ⟨_, by simp only [binOp, Op.intDiv, hy, ne_eq, not_true_eq_false, if_false, Sem.run_pure], .cr (.val _)⟩
  all_goals
    obtain rfl := okv_inv he
    exact ⟨_, by simp only [binOp, ne_eq, not_true_eq_false, if_false, Op.intArith, Op.intBits, Op.intCmp, Sem.run_pure], .cr (.val _)⟩
theorem eqGuard_int {op : BinOp} {t : TypeId} {x y : Operand} {k k' : IntKind} {m n : Int} : eqGuard op t x y (.int k m) (.int k' n) = pure () := by cases op <;> rfl
theorem eqGuard_bool {op : BinOp} {t : TypeId} {x y : Operand} {m n : Bool} : eqGuard op t x y (.bool m) (.bool n) = pure () := by cases op <;> rfl
theorem eqGuard_string {op : BinOp} {t : TypeId} {x y : Operand} {m n : ByteArray} : eqGuard op t x y (.string m) (.string n) = pure () := by cases op <;> rfl
theorem equalIn_bool (d : Nat) {t : TypeId} {x y : Bool} (h : P.underlying t = some .bool) : (Op.equalIn (d + 1) t (.bool x) (.bool y)).run P w = .ok (x == y) w := by
  simp only [Op.equalIn, Sem.run_bind, run_underlying h, Result.andThen_ok, Sem.run_pure]
theorem equal_bool {t : TypeId} {x y : Bool} (h : P.underlying t = some .bool) : (Op.equal t (.bool x) (.bool y)).run P w = .ok (x == y) w := equalIn_bool 9999 h
theorem run_part' {t : TypeId} {cs : List AV} {arr : Array Value} {off : Nat} (hr : VRs w Z β cs arr.toList) (he : apart P t cs off = some a) : ∃ v, (part t arr off).run P w = .ok v w ∧ VR w Z β a v := by
  unfold apart at he
  split at he
  · rename_i d ti h3 h1
    simp only [part, Sem.run_bind, run_isAgg' h3, Result.andThen_ok]
    cases hg : isAggD d
    · rw [hg] at he
      simp only [Bool.false_eq_true, if_false] at he ⊢
      obtain ⟨v, hv, hr⟩ := hr.get he
      rw [Array.getElem?_toList] at hv
      exact ⟨v, by simp [hv], hr⟩
    · rw [hg] at he
      simp only [if_true] at he ⊢
      split at he
      · injection he with he
        subst he
        refine ⟨.agg (arr.extract off (off + ti.size)), by simp only [Sem.run_bind, run_sizeOf' h1 rfl, Result.andThen_ok, Sem.run_pure], ?_⟩
        have h5 := (hr.drop off).take ti.size
        have h6 : (arr.extract off (off + ti.size)).toList = (arr.toList.drop off).take ti.size := by simp [List.extract_eq_take_drop]
        exact .agg _ _ (by have := h5.1; rwa [← h6, Array.length_toList] at this) (fun j x y hx hy => h5.2 j x y hx (by rwa [← h6, Array.getElem?_toList]))
      · cases he
  · cases he
theorem run_forIn_all {α : Type} (q : α → Bool) (step : α → Option Bool × Unit → Sem (ForInStep (Option Bool × Unit))) : ∀ l : List α, (∀ f ∈ l, ∀ s, (step f s).run P w = .ok (if q f then .yield (none, ()) else .done (some false, ())) w) →
    (forIn l (none, ()) step).run P w = .ok (if l.all q then (none, ()) else (some false, ())) w
  | [], _ => by simp
  | f :: l, h => by
    rw [List.forIn_cons, Sem.run_bind, h f (by simp), Result.andThen_ok]
    cases hq : q f
    · simp [hq]
    · simp only [if_true, List.all_cons, hq, Bool.true_and]
      exact run_forIn_all q step l fun g hg s => h g (by simp [hg]) s
theorem aeqPart_sound {eq : TypeId → AV → AV → Option Bool} {d : Nat} (hd : ∀ t A B b V U, eq t A B = some b → VR w Z β A V → VR w Z β B U → (Op.equalIn d t V U).run P w = .ok b w) {t : TypeId} {cs ds : List AV} {xs ys : Array Value} {off : Nat} {b : Bool}
    (hx : VRs w Z β cs xs.toList) (hy : VRs w Z β ds ys.toList) (he : aeqPart eq P t cs ds off = some b) : ∃ u v, (part t xs off).run P w = .ok u w ∧ (part t ys off).run P w = .ok v w ∧ (Op.equalIn d t u v).run P w = .ok b w := by
  unfold aeqPart at he
  split at he
  · rename_i A B hA hB
    obtain ⟨u, h1, h2⟩ := run_part' hx hA
    obtain ⟨v, h3, h4⟩ := run_part' hy hB
    exact ⟨u, v, h1, h3, hd t A B b u v he h2 h4⟩
  · cases he
theorem VR.agg_inv' {cs : List AV} (h : VR w Z β (.agg cs) v) : ∃ arr, v = .agg arr ∧ VRs w Z β cs arr.toList := by
  cases h with
  | cr h =>
    cases h with
    | agg cs vs hl hrel => exact ⟨vs, rfl, by simpa using hl, fun j x y hx hy => .cr (hrel j x y hx (by simpa using hy))⟩
  | agg cs vs hl hrel => exact ⟨vs, rfl, by simpa using hl, fun j x y hx hy => hrel j x y hx (by simpa using hy)⟩
theorem fields_sound {eq : TypeId → AV → AV → Option Bool} {d : Nat} (hd : ∀ t A B b V U, eq t A B = some b → VR w Z β A V → VR w Z β B U → (Op.equalIn d t V U).run P w = .ok b w) {cs ds : List AV} {xs ys : Array Value}
    (hx : VRs w Z β cs xs.toList) (hy : VRs w Z β ds ys.toList) : ∀ {fs : List Field} {b : Bool}, aeqFields eq P cs ds fs = some b → ∃ q : Field → Bool, fs.all q = b ∧ ∀ f ∈ fs, (f.name = "_" ∧ q f = true) ∨
      (f.name ≠ "_" ∧ ∃ u v, (part f.type xs f.offset).run P w = .ok u w ∧ (part f.type ys f.offset).run P w = .ok v w ∧ (Op.equalIn d f.type u v).run P w = .ok (q f) w)
  | [], b, he => ⟨fun _ => true, by simpa [aeqFields] using he, fun f hf => by cases hf⟩
  | f :: fs, b, he => by
    refine ⟨fun g => if g.name = "_" then true else (aeqPart eq P g.type cs ds g.offset).getD true, ?_⟩
    have key : ∀ {fs : List Field} {b : Bool}, aeqFields eq P cs ds fs = some b → fs.all (fun g => if g.name = "_" then true else (aeqPart eq P g.type cs ds g.offset).getD true) = b ∧
        ∀ g ∈ fs, g.name ≠ "_" → ∃ b, aeqPart eq P g.type cs ds g.offset = some b := by
      intro fs
      induction fs with
      | nil => intro b he; exact ⟨by simpa [aeqFields] using he, fun g hg => by cases hg⟩
      | cons g fs ih =>
        intro b he
        simp only [aeqFields] at he
        split at he
        · rename_i hn
          obtain ⟨h1, h2⟩ := ih he
          refine ⟨by simp only [List.all_cons, hn, if_true, Bool.true_and]; exact h1, fun k hk hkn => ?_⟩
          simp only [List.mem_cons] at hk
          rcases hk with rfl | hk
          · exact absurd hn hkn
          · exact h2 k hk hkn
        · rename_i hn
          split at he
          · rename_i x y hx' hy'
            injection he with he
            subst he
            obtain ⟨h1, h2⟩ := ih hy'
            refine ⟨by simp only [List.all_cons, hn, if_false, hx', Option.getD_some]; rw [h1], fun k hk hkn => ?_⟩
            simp only [List.mem_cons] at hk
            rcases hk with rfl | hk
            · exact ⟨x, hx'⟩
            · exact h2 k hk hkn
          · cases he
    obtain ⟨h1, h2⟩ := key he
    refine ⟨h1, fun g hg => ?_⟩
    by_cases hn : g.name = "_"
    · exact .inl ⟨hn, by simp [hn]⟩
    · obtain ⟨b', hb'⟩ := h2 g hg hn
      obtain ⟨u, v, e1, e2, e3⟩ := aeqPart_sound hd hx hy hb'
      exact .inr ⟨hn, u, v, e1, e2, by simpa [hn, hb'] using e3⟩
theorem elems_sound {eq : TypeId → AV → AV → Option Bool} {d : Nat} (hd : ∀ t A B b V U, eq t A B = some b → VR w Z β A V → VR w Z β B U → (Op.equalIn d t V U).run P w = .ok b w) {cs ds : List AV} {xs ys : Array Value} {e m : Nat}
    (hx : VRs w Z β cs xs.toList) (hy : VRs w Z β ds ys.toList) : ∀ {n i : Nat} {b : Bool}, aeqElems eq P e m cs ds n i = some b → (List.range' i n).all (fun j => (aeqPart eq P e cs ds (j * m)).getD true) = b ∧
      ∀ j ∈ List.range' i n, ∃ u v, (part e xs (j * m)).run P w = .ok u w ∧ (part e ys (j * m)).run P w = .ok v w ∧ (Op.equalIn d e u v).run P w = .ok ((aeqPart eq P e cs ds (j * m)).getD true) w
  | 0, i, b, he => ⟨by simpa [aeqElems] using he, fun j hj => by simp at hj⟩
  | n + 1, i, b, he => by
    simp only [aeqElems] at he
    split at he
    · rename_i x y hx' hy'
      injection he with he
      subst he
      obtain ⟨h1, h2⟩ := elems_sound hd hx hy hy'
      rw [List.range'_succ]
      refine ⟨by simp only [List.all_cons, hx', Option.getD_some]; rw [h1], fun j hj => ?_⟩
      simp only [List.mem_cons] at hj
      rcases hj with rfl | hj
      · obtain ⟨u, v, e1, e2, e3⟩ := aeqPart_sound hd hx hy hx'
        exact ⟨u, v, e1, e2, by rw [hx']; exact e3⟩
      · exact h2 j hj
    · cases he
theorem aeqT_sound : ∀ (d D : Nat), d ≤ D → ∀ (t : TypeId) (A B : AV) (b : Bool) (V U : Value), aeqT P d t A B = some b → VR w Z β A V → VR w Z β B U → (Op.equalIn D t V U).run P w = .ok b w
  | 0, D, _, t, A, B, b, V, U, he, _, _ => by simp [aeqT] at he
  | d + 1, 0, hD, _, _, _, _, _, _, _, _, _ => by omega
  | d + 1, D + 1, hD, t, A, B, b, V, U, he, hA, hB => by
    have ih := aeqT_sound d D (by omega)
    unfold aeqT at he
    split at he
    · rename_i hu
      obtain rfl := hA.val_inv
      obtain rfl := hB.val_inv
      injection he with he
      subst he
      simp only [Op.equalIn, Sem.run_bind, run_underlying hu, Result.andThen_ok, Sem.run_pure]
    · rename_i hu
      obtain rfl := hA.val_inv
      obtain rfl := hB.val_inv
      split at he
      · rename_i hk
        injection he with he
        subst he
        simp only [Op.equalIn, Sem.run_bind, run_underlying hu, Result.andThen_ok, hk, if_true, Sem.run_pure]
      · cases he
    · rename_i hu
      obtain rfl := hA.val_inv
      obtain rfl := hB.val_inv
      injection he with he
      subst he
      simp only [Op.equalIn, Sem.run_bind, run_underlying hu, Result.andThen_ok, Sem.run_pure]
    · rename_i fs cs ds hu
      obtain ⟨xs, rfl, hx⟩ := hA.agg_inv'
      obtain ⟨ys, rfl, hy⟩ := hB.agg_inv'
      split at he
      · cases he
      · rename_i hs
        obtain ⟨q, hq, hall⟩ := fields_sound ih hx hy he
        have hloop := run_forIn_all (P := P) (w := w) q (fun f s => if f.name ≠ "_" then (do
            let a ← part f.type xs f.offset
            let b ← part f.type ys f.offset
            let r ← Op.equalIn D f.type a b
            if (!r) = true then pure (ForInStep.done (some false, ())) else pure (ForInStep.yield (none, ()))) else pure (ForInStep.yield (none, ()))) fs.toList (fun f hf s => by
          rcases hall f hf with ⟨hn, h2⟩ | ⟨hn, u, v, e1, e2, e3⟩
          · simp [hn, h2]
          · simp only [ne_eq, hn, not_false_eq_true, if_true, Sem.run_bind, e1, e2, e3, Result.andThen_ok]
            cases q f <;> rfl)
        rw [Array.forIn_toList] at hloop
        have hprog : (program).run P w = .ok P w := rfl
        simp only [Op.equalIn, Sem.run_bind, run_underlying hu, Result.andThen_ok, hprog, hs, Bool.false_eq_true, if_false, hloop, hq]
        cases b <;> rfl
    · rename_i n e cs ds hu
      obtain ⟨xs, rfl, hx⟩ := hA.agg_inv'
      obtain ⟨ys, rfl, hy⟩ := hB.agg_inv'
      split at he
      · rename_i ti hti
        obtain ⟨hq, hall⟩ := elems_sound ih hx hy he
        have hloop := run_forIn_all (P := P) (w := w) (fun j => (aeqPart (aeqT P d) P e cs ds (j * ti.size)).getD true) (fun i s => (do
            let a ← part e xs (i * ti.size)
            let b ← part e ys (i * ti.size)
            let r ← Op.equalIn D e a b
            if (!r) = true then pure (ForInStep.done (some false, ())) else pure (ForInStep.yield (none, ())))) (List.range' 0 n) (fun f hf s => by
          obtain ⟨u, v, e1, e2, e3⟩ := hall f hf
          simp only [Sem.run_bind, e1, e2, e3, Result.andThen_ok]
          cases (aeqPart (aeqT P d) P e cs ds (f * ti.size)).getD true <;> rfl)
        simp only [Op.equalIn, Sem.run_bind, run_underlying hu, Result.andThen_ok, run_sizeOf' hti rfl, Std.Legacy.Range.forIn_eq_forIn_range', Std.Legacy.Range.size, Nat.sub_zero, Nat.add_sub_cancel, Nat.div_one]
        rw [hloop, hq]
        cases b <;> rfl
      · cases he
    · cases he
theorem aeqAgg_sound {t : TypeId} {cs ds : List AV} {b : Bool} (he : aeqAgg P t (.agg cs) (.agg ds) = some b) (hA : VR w Z β (.agg cs) V) (hB : VR w Z β (.agg ds) v) (op : BinOp) (xo yo : Operand) : (eqGuard op t xo yo V v).run P w = .ok () w ∧ (Op.equal t V v).run P w = .ok b w := by
  unfold aeqAgg at he
  split at he
  · cases he
  · rename_i hg
    refine ⟨?_, aeqT_sound 8 10000 (by decide) t _ _ b V v he hA hB⟩
    obtain ⟨xs, rfl, _⟩ := hA.agg_inv'
    obtain ⟨ys, rfl, _⟩ := hB.agg_inv'
    have hprog : (program).run P w = .ok P w := rfl
    unfold eqGuard
    cases op <;> simp [hprog, hg]
theorem abin_sound (hT : TyOK E.P E.ty) {op : BinOp} {t : TypeId} {xo yo : Operand} {B : AV} {U : Value} {C : List Prop} (he : abin E op t A B = some (C, a)) (hC : AllP C) (hA : VR w Z β A V) (hB : VR w Z β B U) :
    ∃ v, (do eqGuard op t xo yo V U; binOp op t V U : Sem Value).run E.P w = .ok v w ∧ VR w Z β a v := by
  unfold abin at he
  split at he
  · rename_i k x k' y
    obtain rfl := hA.int_inv
    obtain rfl := hB.int_inv
    simp only [eqGuard_int, pure_bind]
    split at he
    · rename_i hs
      have : binOp op t (.int k x) (.int k' y) = Op.shift op k x k' y := by cases op <;> simp [isShift] at hs <;> rfl
      rw [this]
      exact ashift_sound he hC
    · rename_i hs
      split at he
      · rename_i hk
        subst hk
        exact aarith_sound (by simpa using hs) he hC
      · cases he
  · rename_i x y
    obtain rfl := hA.val_inv
    obtain rfl := hB.val_inv
    simp only [eqGuard_bool, pure_bind]
    split at he
    · rename_i hty
      obtain rfl := okv_inv he
      obtain ⟨d, hd, hk⟩ := (hT t _ hty).desc
      simp only [TKOK] at hk
      subst hk
      exact ⟨_, by simp only [binOp, Sem.run_bind, equal_bool hd, Result.andThen_ok, Sem.run_pure], .cr (.val _)⟩
    · rename_i hty
      obtain rfl := okv_inv he
      obtain ⟨d, hd, hk⟩ := (hT t _ hty).desc
      simp only [TKOK] at hk
      subst hk
      exact ⟨_, by simp only [binOp, Sem.run_bind, equal_bool hd, Result.andThen_ok, Sem.run_pure], .cr (.val _)⟩
    · cases he
  · rename_i x y
    obtain rfl := hA.val_inv
    obtain rfl := hB.val_inv
    simp only [eqGuard_string, pure_bind]
    unfold astr at he
    split at he
    · obtain rfl := okv_inv he
      exact ⟨_, by simp only [binOp, Op.stringOp, Sem.run_pure], .cr (.val _)⟩
    · obtain rfl := okv_inv he
      exact ⟨_, by simp only [binOp, Op.stringOp, Sem.run_pure], .cr (.val _)⟩
    · cases he
  · rename_i cs ds
    obtain ⟨xs, hxs, _⟩ := hA.agg_inv'
    obtain ⟨ys, hys, _⟩ := hB.agg_inv'
    split at he
    · split at he
      · rename_i b hb
        obtain rfl := okv_inv he
        obtain ⟨h1, h2⟩ := aeqAgg_sound hb hA hB .eql xo yo
        subst hxs; subst hys
        exact ⟨_, by simp only [Sem.run_bind, h1, Result.andThen_ok, binOp, h2, Sem.run_pure], .cr (.val _)⟩
      · cases he
    · split at he
      · rename_i b hb
        obtain rfl := okv_inv he
        obtain ⟨h1, h2⟩ := aeqAgg_sound hb hA hB .neq xo yo
        subst hxs; subst hys
        exact ⟨_, by simp only [Sem.run_bind, h1, Result.andThen_ok, binOp, h2, Sem.run_pure], .cr (.val _)⟩
      · cases he
    · cases he
  · cases he
theorem aun_sound {op : UnOp} {C : List Prop} (he : aun op A = some (C, a)) (hA : VR w Z β A V) : ∃ v, (Op.unary op V).run P w = .ok v w ∧ VR w Z β a v := by
  unfold aun at he
  split at he
  · obtain rfl := hA.val_inv
    split at he
    · obtain rfl := okv_inv he
      exact ⟨_, by simp only [Op.unary, Sem.run_pure], .cr (.val _)⟩
    · cases he
  · obtain rfl := hA.val_inv
    split at he
    · obtain rfl := okv_inv he
      exact ⟨_, by simp only [Op.unary, Op.intArith, Sem.run_pure], .cr (.val _)⟩
    · obtain rfl := okv_inv he
      exact ⟨_, by simp only [Op.unary, Op.intBits, Sem.run_pure], .cr (.val _)⟩
    · cases he
  · cases he
theorem aconv_sound (hT : TyOK E.P E.ty) {s d : TypeId} {C : List Prop} (he : aconv E s d A = some (C, a)) (hA : VR w Z β A V) : ∃ v, (convert s d V).run E.P w = .ok v w ∧ VR w Z β a v := by
  unfold aconv at he
  split at he
  · obtain rfl := hA.val_inv
    split at he
    · rename_i h1 h2
      obtain rfl := okv_inv he
      obtain ⟨e, hd, hk⟩ := (hT d _ h1).desc
      obtain ⟨f, hs, _⟩ := (hT s _ h2).desc
      simp only [TKOK] at hk
      subst hk
      refine ⟨_, ?_, .cr (.val _)⟩
      simp only [convert, Sem.run_bind, run_underlying hs, run_underlying hd, Result.andThen_ok, Conv.intToInt, Sem.run_pure]
    · cases he
  · obtain rfl := hA.val_inv
    split at he
    · rename_i h1 h2
      obtain rfl := okv_inv he
      obtain ⟨e, hd, hk⟩ := (hT d _ h1).desc
      obtain ⟨f, hs, _⟩ := (hT s _ h2).desc
      simp only [TKOK] at hk
      subst hk
      refine ⟨_, ?_, .cr (.val _)⟩
      simp only [convert, Sem.run_bind, run_underlying hs, run_underlying hd, Result.andThen_ok, Sem.run_pure]
    · cases he
  · cases he
end
end Go.AE

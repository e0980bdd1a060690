/- A part of the proofs over this program: an abstract machine that the kernel evaluates, its soundness, and what the functions compute (Ops). -/
import Derived.Test.YthdkgphnleibmaaDoorAeRun
import Derived.Laws.Slices
import Derived.Tactics
namespace Go.AE
structure RowR (w : World) (Z : Nat → Prop) (β : Nat → Option Nat) (N0 b : Nat) (cs : List AV) : Prop where
  lo : N0 ≤ b
  nz : ¬ Z b
  row : ∃ arr e, w.heap[b]? = some (.cells arr e (0, 0)) ∧ VRs w Z β cs arr.toList
structure HeapR (w : World) (Z : Nat → Prop) (β : Nat → Option Nat) (N0 : Nat) (h : Heap) (nx : Nat) : Prop where
  row : ∀ r cs, hget h r = some cs → ∃ b, β r = some b ∧ RowR w Z β N0 b cs
  inj : ∀ r r' b cs cs', hget h r = some cs → hget h r' = some cs' → β r = some b → β r' = some b → r = r'
  fresh : ∀ r, nx ≤ r → β r = none
  keys : ∀ r cs, hget h r = some cs → r < nx

section
variable {P : Program} {E : Ctx} {w : World} {Z : Nat → Prop} {β : Nat → Option Nat} {N0 nx : Nat} {h : Heap} {a A : AV} {v V : Value}
theorem RowR.cells {b : Nat} {cs : List AV} (hr : RowR w Z β N0 b cs) : Cells w Z β b 0 cs := by
  obtain ⟨arr, e, hb, hv⟩ := hr.row
  intro j a hj
  obtain ⟨v, h1, h2⟩ := hv.get hj
  refine ⟨v, ?_, h2⟩
  simp only [Nat.zero_add]
  unfold CellAt World.cell?
  simp only [hb]
  simpa using h1
theorem aload_sound (hT : TyOK E.P E.ty) (hh : HeapR w Z β N0 h nx) {t : TypeId} (he : aload E h t A = some a) (hA : VR w Z β A V) :
    ∃ v, (Instr.loadAt t V).run E.P w = .ok v w ∧ VR w Z β a v := by
  unfold aload at he
  split at he
  · rename_i cs off
    split at he
    · rename_i i hi
      cases hA with
      | cr hA =>
        cases hA with
        | rop _ _ b o u hz hcell hrel =>
          obtain ⟨v, h1, h2⟩ := load_var (w := w) (Z := Z) (β := β) (hT t i hi) (b := b) (o := o) (off := off) (cs := cs) (fun j a hj => ⟨u j, hcell j a hj, .cr (hrel j a hj)⟩) he
          exact ⟨v, by simp only [Instr.loadAt, Instr.sureAddr, Sem.run_bind, Sem.run_pure, Result.andThen_ok, h1], h2⟩
    · cases he
  · rename_i r off
    split at he
    · rename_i i cs hi hg
      obtain ⟨b, hb, hr⟩ := hh.row r cs hg
      cases hA with
      | cr hA => cases hA
      | ref _ _ b' hb' =>
        rw [hb] at hb'
        injection hb' with hb'
        subst hb'
        obtain ⟨v, h1, h2⟩ := load_var (hT t i hi) (off := off) hr.cells he
        simp only [Nat.zero_add] at h1
        exact ⟨v, by simp only [Instr.loadAt, Instr.sureAddr, Sem.run_bind, Sem.run_pure, Result.andThen_ok, h1], h2⟩
    · cases he
  · cases he

/-- an answer that needs conditions -/
def AllP : List Prop → Prop
  | [] => True
  | p :: l => p ∧ AllP l
theorem AllP.append {l m : List Prop} : AllP (l ++ m) ↔ AllP l ∧ AllP m := by
  induction l with
  | nil => simp [AllP]
  | cons p l ih => simp [AllP, ih, and_assoc]

theorem VR.val_inv {u : Value} (h : VR w Z β (.val u) v) : v = u := by
  cases h with
  | cr h => cases h; rfl
theorem VR.int_inv {k : IntKind} {n : Int} (h : VR w Z β (.val (.int k n)) v) : v = .int k n := h.val_inv
theorem ashift_sound {op : BinOp} {k k' : IntKind} {x y : Int} {C : List Prop} (he : ashift op k x y = some (C, a)) (hC : AllP C) :
    ∃ v, (Op.shift op k x k' y).run P w = .ok v w ∧ VR w Z β a v := by
  unfold ashift at he
  split at he
  · injection he with he; injection he with h1 h2; subst h1; subst h2
    have hy : ¬ y < 0 := by simp [AllP] at hC; omega
    exact ⟨_, by simp only [Op.shift, hy, if_false, Sem.run_pure], .cr (.val _)⟩
  · injection he with he; injection he with h1 h2; subst h1; subst h2
    have hy : ¬ y < 0 := by simp [AllP] at hC; omega
    exact ⟨_, by simp only [Op.shift, hy, if_false, Sem.run_pure], .cr (.val _)⟩
  · cases he
theorem okv_inv {C : List Prop} {x : AV} (he : okv x = some (C, a)) : a = x := by
  unfold okv at he
  injection he with he
  injection he with h1 h2
  exact h2.symm
theorem aarith_sound {op : BinOp} {t : TypeId} {k : IntKind} {x y : Int} {C : List Prop} (hs : isShift op = false) (he : aarith op k x y = some (C, a)) (hC : AllP C) :
    ∃ v, (binOp op t (.int k x) (.int k y)).run P w = .ok v w ∧ VR w Z β a v := by
  unfold aarith at he
  cases op <;> simp only [isShift, Bool.true_eq_false] at hs <;> simp only at he
  case quo =>
    injection he with he; injection he with h1 h2; subst h1; subst h2
    have hy : ¬ y = 0 := by simpa [AllP] using hC
    exact ⟨_, by simp only [binOp, Op.intDiv, hy, ne_eq, not_true_eq_false, if_false, Sem.run_pure], .cr (.val _)⟩
  case rem =>
    injection he with he; injection he with h1 h2; subst h1; subst h2
    have hy : ¬ y = 0 := by simpa [AllP] using hC
    exact ⟨_, by simp only [binOp, Op.intDiv, hy, ne_eq, not_true_eq_false, if_false, Sem.run_pure], .cr (.val _)⟩
  all_goals
    obtain rfl := okv_inv he
    exact ⟨_, by simp only [binOp, ne_eq, not_true_eq_false, if_false, Op.intArith, Op.intBits, Op.intCmp, Sem.run_pure], .cr (.val _)⟩
theorem eqGuard_int {op : BinOp} {t : TypeId} {x y : Operand} {k k' : IntKind} {m n : Int} : eqGuard op t x y (.int k m) (.int k' n) = pure () := by cases op <;> rfl
theorem eqGuard_bool {op : BinOp} {t : TypeId} {x y : Operand} {m n : Bool} : eqGuard op t x y (.bool m) (.bool n) = pure () := by cases op <;> rfl
theorem eqGuard_string {op : BinOp} {t : TypeId} {x y : Operand} {m n : ByteArray} : eqGuard op t x y (.string m) (.string n) = pure () := by cases op <;> rfl
theorem equalIn_bool (d : Nat) {t : TypeId} {x y : Bool} (h : P.underlying t = some .bool) : (Op.equalIn (d + 1) t (.bool x) (.bool y)).run P w = .ok (x == y) w := by
  simp only [Op.equalIn, Sem.run_bind, run_underlying h, Result.andThen_ok, Sem.run_pure]
theorem equal_bool {t : TypeId} {x y : Bool} (h : P.underlying t = some .bool) : (Op.equal t (.bool x) (.bool y)).run P w = .ok (x == y) w := equalIn_bool 9999 h
theorem abin_sound (hT : TyOK E.P E.ty) {op : BinOp} {t : TypeId} {xo yo : Operand} {B : AV} {U : Value} {C : List Prop} (he : abin E op t A B = some (C, a)) (hC : AllP C) (hA : VR w Z β A V) (hB : VR w Z β B U) :
    ∃ v, (do eqGuard op t xo yo V U; binOp op t V U : Sem Value).run E.P w = .ok v w ∧ VR w Z β a v := by
  unfold abin at he
  split at he
  · rename_i k x k' y
    obtain rfl := hA.int_inv
    obtain rfl := hB.int_inv
    simp only [eqGuard_int, pure_bind]
    split at he
    · rename_i hs
      have : binOp op t (.int k x) (.int k' y) = Op.shift op k x k' y := by cases op <;> simp [isShift] at hs <;> rfl
      rw [this]
      exact ashift_sound he hC
    · rename_i hs
      split at he
      · rename_i hk
        subst hk
        exact aarith_sound (by simpa using hs) he hC
      · cases he
  · rename_i x y
    obtain rfl := hA.val_inv
    obtain rfl := hB.val_inv
    simp only [eqGuard_bool, pure_bind]
    split at he
    · rename_i hty
      obtain rfl := okv_inv he
      obtain ⟨d, hd, hk⟩ := (hT t _ hty).desc
      simp only [TKOK] at hk
      subst hk
      exact ⟨_, by simp only [binOp, Sem.run_bind, equal_bool hd, Result.andThen_ok, Sem.run_pure], .cr (.val _)⟩
    · rename_i hty
      obtain rfl := okv_inv he
      obtain ⟨d, hd, hk⟩ := (hT t _ hty).desc
      simp only [TKOK] at hk
      subst hk
      exact ⟨_, by simp only [binOp, Sem.run_bind, equal_bool hd, Result.andThen_ok, Sem.run_pure], .cr (.val _)⟩
    · cases he
  · rename_i x y
    obtain rfl := hA.val_inv
    obtain rfl := hB.val_inv
    simp only [eqGuard_string, pure_bind]
    unfold astr at he
    split at he
    · obtain rfl := okv_inv he
      exact ⟨_, by simp only [binOp, Op.stringOp, Sem.run_pure], .cr (.val _)⟩
    · obtain rfl := okv_inv he
      exact ⟨_, by simp only [binOp, Op.stringOp, Sem.run_pure], .cr (.val _)⟩
    · cases he
  · cases he
theorem aun_sound {op : UnOp} {C : List Prop} (he : aun op A = some (C, a)) (hA : VR w Z β A V) : ∃ v, (Op.unary op V).run P w = .ok v w ∧ VR w Z β a v := by
  unfold aun at he
  split at he
  · obtain rfl := hA.val_inv
    split at he
    · obtain rfl := okv_inv he
      exact ⟨_, by simp only [Op.unary, Sem.run_pure], .cr (.val _)⟩
    · cases he
  · obtain rfl := hA.val_inv
    split at he
    · obtain rfl := okv_inv he
      exact ⟨_, by simp only [Op.unary, Op.intArith, Sem.run_pure], .cr (.val _)⟩
    · obtain rfl := okv_inv he
      exact ⟨_, by simp only [Op.unary, Op.intBits, Sem.run_pure], .cr (.val _)⟩
    · cases he
  · cases he
theorem aconv_sound (hT : TyOK E.P E.ty) {s d : TypeId} {C : List Prop} (he : aconv E s d A = some (C, a)) (hA : VR w Z β A V) : ∃ v, (convert s d V).run E.P w = .ok v w ∧ VR w Z β a v := by
  unfold aconv at he
  split at he
  · obtain rfl := hA.val_inv
    split at he
    · rename_i h1 h2
      obtain rfl := okv_inv he
      obtain ⟨e, hd, hk⟩ := (hT d _ h1).desc
      obtain ⟨f, hs, _⟩ := (hT s _ h2).desc
      simp only [TKOK] at hk
      subst hk
      refine ⟨_, ?_, .cr (.val _)⟩
      simp only [convert, Sem.run_bind, run_underlying hs, run_underlying hd, Result.andThen_ok, Conv.intToInt, Sem.run_pure]
    · cases he
  · obtain rfl := hA.val_inv
    split at he
    · rename_i h1 h2
      obtain rfl := okv_inv he
      obtain ⟨e, hd, hk⟩ := (hT d _ h1).desc
      obtain ⟨f, hs, _⟩ := (hT s _ h2).desc
      simp only [TKOK] at hk
      subst hk
      refine ⟨_, ?_, .cr (.val _)⟩
      simp only [convert, Sem.run_bind, run_underlying hs, run_underlying hd, Result.andThen_ok, Sem.run_pure]
    · cases he
  · cases he
end
end Go.AE

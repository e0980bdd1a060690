/- A part of the proofs over this program: an abstract machine that the kernel evaluates, its soundness, and what the functions compute (Chk). -/
import Derived.Test.YthdkgphnleibmaaDoorAeReach
namespace Go.AE
open Go.RowKit
/-! ### closed checks, for the kernel -/
def eqV : Value → Value → Bool
  | .bool a, .bool b => a == b
  | .int k a, .int l b => decide (k = l) && decide (a = b)
  | .string a, .string b => decide (a.data.toList = b.data.toList)
  | .pointer none, .pointer none => true
  | .slice none a b, .slice none c d => decide (a = c) && decide (b = d)
  | .map none, .map none => true
  | .chan none, .chan none => true
  | .nilFunc, .nilFunc => true
  | .nilIface, .nilIface => true
  | _, _ => false
theorem eqV_ok {a b : Value} (h : eqV a b = true) : a = b := by
  unfold eqV at h
  split at h
  case h_3 a b =>
    cases a; cases b
    simp only [decide_eq_true_eq] at h
    have := Array.ext' h
    rw [this]
  all_goals simp_all
def eqVs : List Value → List Value → Bool
  | [], [] => true
  | a :: l, b :: m => eqV a b && eqVs l m
  | _, _ => false
theorem eqVs_ok : ∀ {l m : List Value}, eqVs l m = true → l = m
  | [], [], _ => rfl
  | a :: l, b :: m, h => by
    simp only [eqVs, Bool.and_eq_true] at h
    rw [eqV_ok h.1, eqVs_ok h.2]
  | [], _ :: _, h => by simp [eqVs] at h
  | _ :: _, [], h => by simp [eqVs] at h
def chkF (P : Program) (f : FI) (g : Field) : Bool :=
  decide (g.offset = f.off) && (match P.info? g.type with | some ti => decide (ti.size = f.size) | none => false) &&
    (match P.underlying g.type with | some d => isAggD d == f.agg | none => false)
theorem chkF_ok {P : Program} {f : FI} {g : Field} (h : chkF P f g = true) : FIOK P f g := by
  simp only [chkF, Bool.and_eq_true, decide_eq_true_eq] at h
  obtain ⟨⟨h1, h2⟩, h3⟩ := h
  refine ⟨h1, ?_, ?_⟩
  · split at h2
    · rename_i ti hti
      exact ⟨ti, hti, by simpa using h2⟩
    · cases h2
  · split at h3
    · rename_i d hd
      exact ⟨d, hd, by simpa using h3⟩
    · cases h3
def chkFs (P : Program) : List FI → List Field → Bool
  | [], [] => true
  | f :: fs, g :: gs => chkF P f g && chkFs P fs gs
  | _, _ => false
theorem chkFs_ok {P : Program} : ∀ {fs : List FI} {gs : List Field}, chkFs P fs gs = true → fs.length = gs.length ∧ ∀ (j : Nat) f, fs[j]? = some f → ∃ g, gs[j]? = some g ∧ FIOK P f g
  | [], [], _ => ⟨rfl, fun j f h => by simp at h⟩
  | f :: fs, g :: gs, h => by
    simp only [chkFs, Bool.and_eq_true] at h
    obtain ⟨h1, h2⟩ := chkFs_ok h.2
    refine ⟨by simp [h1], fun j f' hj => ?_⟩
    cases j with
    | zero => simp at hj; subst hj; exact ⟨g, rfl, chkF_ok h.1⟩
    | succ j => exact h2 j f' (by simpa using hj)
  | [], _ :: _, h => by simp [chkFs] at h
  | _ :: _, [], h => by simp [chkFs] at h
def chkK (P : Program) : TK → TypeDesc → Bool
  | .int k, .int k' => decide (k = k')
  | .bool, .bool => true
  | .str, .string => true
  | .ptr, .pointer _ => true
  | .slice e, .slice e' => decide (e = e')
  | .arr n e, .array n' e' => decide (n = n') && decide (e = e')
  | .struct fs, .struct gs => chkFs P fs gs.toList
  | .other, d => !isAggD d
  | _, _ => false
theorem chkK_ok {P : Program} {k : TK} {d : TypeDesc} (h : chkK P k d = true) : TKOK P k d := by
  unfold chkK at h
  split at h
  · simp only [decide_eq_true_eq] at h; subst h; rfl
  · rfl
  · rfl
  · exact ⟨_, rfl⟩
  · simp only [decide_eq_true_eq] at h; subst h; rfl
  · simp only [Bool.and_eq_true, decide_eq_true_eq] at h; obtain ⟨rfl, rfl⟩ := h; rfl
  · obtain ⟨h1, h2⟩ := chkFs_ok h
    exact ⟨_, rfl, by simpa using h1, fun j f hj => by simpa using h2 j f hj⟩
  · simpa [TKOK] using h
  · cases h
def chkT (P : Program) (t : TypeId) (i : TI) : Bool :=
  (match P.info? t with
   | some ti => decide (ti.size = i.size) && decide (ti.bytes = i.bytes) && (match ti.zero with | some z => eqVs z.cells.toList i.zero | none => false)
   | none => false) &&
  (match P.underlying t with | some d => chkK P i.tk d | none => false)
theorem chkT_ok {P : Program} {t : TypeId} {i : TI} (h : chkT P t i = true) : TIOK P t i := by
  simp only [chkT, Bool.and_eq_true] at h
  obtain ⟨h1, h2⟩ := h
  refine ⟨?_, ?_⟩
  · split at h1
    · rename_i ti hti
      simp only [Bool.and_eq_true, decide_eq_true_eq] at h1
      obtain ⟨⟨a, b⟩, c⟩ := h1
      split at c
      · rename_i z hz
        exact ⟨ti, hti, a, b, z, hz, eqVs_ok c⟩
      · cases c
    · cases h1
  · split at h2
    · rename_i d hd
      exact ⟨d, hd, chkK_ok h2⟩
    · cases h2
/-- a table below a bound -/
def tyOf (n : Nat) (tr : Tr TI) : Ty := fun t => if t < n then tr.get t else none
def chkTy (P : Program) (tr : Tr TI) : Nat → Bool
  | 0 => true
  | n + 1 => chkTy P tr n && (match tr.get n with | some i => chkT P n i | none => true)
theorem chkTy_ok {P : Program} {tr : Tr TI} : ∀ {n : Nat}, chkTy P tr n = true → TyOK P (tyOf n tr)
  | 0, _, t, i, h => by simp [tyOf] at h
  | n + 1, hc, t, i, h => by
    simp only [chkTy, Bool.and_eq_true] at hc
    simp only [tyOf] at h
    split at h
    · rename_i ht
      rcases Nat.lt_or_ge t n with hlt | hge
      · exact chkTy_ok hc.1 t i (by simp only [tyOf]; rw [if_pos hlt]; exact h)
      · obtain rfl : t = n := Nat.le_antisymm (Nat.lt_succ_iff.1 ht) hge
        have h2 := hc.2
        rw [h] at h2
        exact chkT_ok h2
    · cases h
def chkFn (P : Program) (f : Nat) : Bool :=
  match P.funcs[f]? with
  | some fn => fn.body.isSome && !(fn.name == "runtime.NumGoroutine")
  | none => false
theorem chkFn_ok {P : Program} {f : Nat} (h : chkFn P f = true) : ∀ args w, (callFunc f args).run P w = .ok (.enter f args) w := by
  intro args w
  unfold chkFn at h
  split at h
  · rename_i fn hfn
    simp only [Bool.and_eq_true, Bool.not_eq_true'] at h
    obtain ⟨h1, h2⟩ := h
    have h3 : fn.body.isNone = false := by cases hb : fn.body <;> simp_all
    simp only [callFunc, Sem.run_bind, run_program, Result.andThen_ok, hfn, h2, h3, Bool.false_eq_true, if_false, Sem.run_pure]
  · cases h
def fnsOf (lo hi : Nat) : Nat → Bool := fun f => decide (lo ≤ f) && decide (f < hi)
def chkFns (P : Program) (lo : Nat) : Nat → Bool
  | 0 => true
  | n + 1 => chkFns P lo n && chkFn P (lo + n)
theorem chkFns_ok {P : Program} {lo : Nat} : ∀ {n : Nat}, chkFns P lo n = true → ∀ f, fnsOf lo (lo + n) f = true → ∀ args w, (callFunc f args).run P w = .ok (.enter f args) w
  | 0, _, f, h => by simp [fnsOf] at h; omega
  | n + 1, hc, f, h => by
    simp only [chkFns, Bool.and_eq_true] at hc
    simp only [fnsOf, Bool.and_eq_true, decide_eq_true_eq] at h
    rcases Nat.lt_or_ge f (lo + n) with hlt | hge
    · exact chkFns_ok hc.1 f (by simp [fnsOf]; omega)
    · obtain rfl : f = lo + n := by omega
      exact chkFn_ok hc.2
end Go.AE

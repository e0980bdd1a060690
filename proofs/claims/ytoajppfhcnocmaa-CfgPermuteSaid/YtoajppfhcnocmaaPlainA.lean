/- Plain arithmetic for the proofs. No conditions beyond those written. -/
import Derived.Test.YtoajppfhcnocmaaEngineD
/-! lists of lists -/
namespace Burn.Cfg
open Go Go.BE
def eqL {α : Type} (e : α → α → Bool) : List α → List α → Bool
  | [], [] => true
  | a :: l, b :: m => e a b && eqL e l m
  | _, _ => false
theorem eqL_len {α : Type} {e : α → α → Bool} : ∀ {l m : List α}, l.length ≠ m.length → eqL e l m = false
  | [], [], h => absurd rfl h
  | [], _ :: _, _ => rfl
  | _ :: _, [], _ => rfl
  | a :: l, b :: m, h => by
    rw [eqL, eqL_len (l := l) (m := m) (by simpa using h), Bool.and_false]
theorem eqL_refl {α : Type} {e : α → α → Bool} (h : ∀ a, e a a = true) : ∀ l, eqL e l l = true
  | [] => rfl
  | a :: l => by rw [eqL, h, eqL_refl h l]; rfl
theorem and_step {E : Ctx} {c : Cfg} {b r : Bool} (hn : Runs E c (fun x h => x = vb r ∧ h = [])) : ((!b) = true → vb false = vb (b && r)) ∧ ((!b) = false → Runs E c (fun x h => x = vb (b && r) ∧ h = [])) := ite_step hn
theorem or3_step {E : Ctx} {c : Cfg} {a b d r : Bool} (hn : Runs E c (fun x h => x = vb r ∧ h = [])) : (a = true → vb true = vb ((a || (b || d)) || r)) ∧ (a = false → (b = true → vb true = vb ((a || (b || d)) || r)) ∧ (b = false → (d = true → vb true = vb ((a || (b || d)) || r)) ∧ (d = false → Runs E c (fun x h => x = vb ((a || (b || d)) || r) ∧ h = [])))) := by
  cases a <;> cases b <;> cases d <;> simp <;> exact hn
theorem and7 (a b c d e f g r : Bool) : (a = true → (b = true → (c = true → (d = true → (e = true → (f = true → (g = true → vb r = vb (a && (b && (c && (d && (e && (f && (g && r)))))))) ∧ (g = false → vb false = vb (a && (b && (c && (d && (e && (f && (g && r))))))))) ∧ (f = false → vb false = vb (a && (b && (c && (d && (e && (f && (g && r))))))))) ∧ (e = false → vb false = vb (a && (b && (c && (d && (e && (f && (g && r))))))))) ∧ (d = false → vb false = vb (a && (b && (c && (d && (e && (f && (g && r))))))))) ∧ (c = false → vb false = vb (a && (b && (c && (d && (e && (f && (g && r))))))))) ∧ (b = false → vb false = vb (a && (b && (c && (d && (e && (f && (g && r))))))))) ∧ (a = false → vb false = vb (a && (b && (c && (d && (e && (f && (g && r)))))))) := by
  cases a <;> cases b <;> cases c <;> cases d <;> cases e <;> cases f <;> cases g <;> simp
/-- the number of elements of all lists in it, with one for each list -/
def szV {α : Type} (f : α → Nat) : (n : Nat) → DenV α n → Nat
  | 0, _ => 0
  | n + 1, x => f x.1 + szV f n x.2
def szD : (S : Sh) → Den S → Nat
  | .int _, _ | .bool, _ | .unit, _ => 0
  | .str, x => ByteArray.size x
  | .pair a b, x => szD a x.1 + szD b x.2
  | .arr n a, x => szV (szD a) n x
  | .sl _ a, x => List.foldr (α := Den a) (fun y n => szD a y + 1 + n) 0 x
  | .ptr a, x => match (x : Option (Den a)) with | some y => szD a y | none => 0
end Burn.Cfg

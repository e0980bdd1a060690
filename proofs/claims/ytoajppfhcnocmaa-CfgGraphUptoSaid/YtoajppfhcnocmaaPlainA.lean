/- Plain arithmetic for the proofs. No conditions beyond those written. -/
import Derived.Test.YtoajppfhcnocmaaEngineC
import Derived.Test.YtoajppfhcnocmaaRowingA
/-! lists of lists -/
namespace Burn.Cfg
open Go Go.BE
def eqL {α : Type} (e : α → α → Bool) : List α → List α → Bool
  | [], [] => true
  | a :: l, b :: m => e a b && eqL e l m
  | _, _ => false
theorem eqL_len {α : Type} {e : α → α → Bool} : ∀ {l m : List α}, l.length ≠ m.length → eqL e l m = false
  | [], [], h => absurd rfl h
  | [], _ :: _, _ => rfl
  | _ :: _, [], _ => rfl
  | a :: l, b :: m, h => by
    rw [eqL, eqL_len (l := l) (m := m) (by simpa using h), Bool.and_false]
theorem eqL_refl {α : Type} {e : α → α → Bool} (h : ∀ a, e a a = true) : ∀ l, eqL e l l = true
  | [] => rfl
  | a :: l => by rw [eqL, h, eqL_refl h l]; rfl
theorem and_step {E : Ctx} {c : Cfg} {b r : Bool} (hn : Runs E c (fun x h => x = vb r ∧ h = [])) : ((!b) = true → vb false = vb (b && r)) ∧ ((!b) = false → Runs E c (fun x h => x = vb (b && r) ∧ h = [])) := ite_step hn
theorem or3_step {E : Ctx} {c : Cfg} {a b d r : Bool} (hn : Runs E c (fun x h => x = vb r ∧ h = [])) : (a = true → vb true = vb ((a || (b || d)) || r)) ∧ (a = false → (b = true → vb true = vb ((a || (b || d)) || r)) ∧ (b = false → (d = true → vb true = vb ((a || (b || d)) || r)) ∧ (d = false → Runs E c (fun x h => x = vb ((a || (b || d)) || r) ∧ h = [])))) := by
  cases a <;> cases b <;> cases d <;> simp <;> exact hn
theorem and7 (a b c d e f g r : Bool) : (a = true → (b = true → (c = true → (d = true → (e = true → (f = true → (g = true → vb r = vb (a && (b && (c && (d && (e && (f && (g && r)))))))) ∧ (g = false → vb false = vb (a && (b && (c && (d && (e && (f && (g && r))))))))) ∧ (f = false → vb false = vb (a && (b && (c && (d && (e && (f && (g && r))))))))) ∧ (e = false → vb false = vb (a && (b && (c && (d && (e && (f && (g && r))))))))) ∧ (d = false → vb false = vb (a && (b && (c && (d && (e && (f && (g && r))))))))) ∧ (c = false → vb false = vb (a && (b && (c && (d && (e && (f && (g && r))))))))) ∧ (b = false → vb false = vb (a && (b && (c && (d && (e && (f && (g && r))))))))) ∧ (a = false → vb false = vb (a && (b && (c && (d && (e && (f && (g && r)))))))) := by
  cases a <;> cases b <;> cases c <;> cases d <;> cases e <;> cases f <;> cases g <;> simp
/-- the number of elements of all lists in it, with one for each list -/
def szV {α : Type} (f : α → Nat) : (n : Nat) → DenV α n → Nat
  | 0, _ => 0
  | n + 1, x => f x.1 + szV f n x.2
def szD : (S : Sh) → Den S → Nat
  | .int _, _ | .bool, _ | .unit, _ => 0
  | .str, x => ByteArray.size x
  | .pair a b, x => szD a x.1 + szD b x.2
  | .arr n a, x => szV (szD a) n x
  | .sl _ a, x => List.foldr (α := Den a) (fun y n => szD a y + 1 + n) 0 x
  | .ptr a, x => match (x : Option (Den a)) with | some y => szD a y | none => 0
end Burn.Cfg
/-! the size of data against the bulk of its reading -/
namespace Burn.Cfg
open Go Go.BE
theorem sz_bulk {H : Type} {B : DataW H → Nat} {BA : List (DataW H) → Nat} (hl : ∀ l s, BA l + 1 ≤ B (.slice l s)) (ha : ∀ l, BA l + 1 ≤ B (.agg l)) (hp : ∀ d, B d + 1 ≤ B (.ptr d)) (ht : ∀ b, List.length b + 1 ≤ B (.lit (.string b))) (hc : ∀ d l, B d + BA l ≤ BA (d :: l)) (h1 : ∀ d, 1 ≤ B d) :
    ∀ (S : Sh), (∀ d x, rdX S false [d] = some x → szD S x + 1 ≤ B d) ∧ (∀ l x, rdX S true l = some x → szD S x ≤ BA l) := by
  have up : ∀ {S : Sh}, (∀ l x, rdX (H := H) S true l = some x → ∃ d, l = [d] ∧ rdX S false [d] = some x) → (∀ d x, rdX S false [d] = some x → szD S x + 1 ≤ B d) → (∀ d x, rdX S false [d] = some x → szD S x + 1 ≤ B d) ∧ (∀ l x, rdX S true l = some x → szD S x ≤ BA l) := fun {S} h k => ⟨k, fun l x hx => by
    obtain ⟨d, rfl, hd⟩ := h l x hx
    have := k d x hd
    have := hc d []
    omega⟩
  intro S
  induction S with
  | int k =>
    refine up (fun l x hx => ?_) fun d x _ => by show 0 + 1 ≤ B d; exact h1 d
    match l, hx with
    | [d], hx => exact ⟨d, rfl, hx⟩
    | [], hx => cases hx
    | _ :: _ :: _, hx => simp [rdX] at hx
  | bool =>
    refine up (fun l x hx => ?_) fun d x _ => by show 0 + 1 ≤ B d; exact h1 d
    match l, hx with
    | [d], hx => exact ⟨d, rfl, hx⟩
    | [], hx => cases hx
    | _ :: _ :: _, hx => simp [rdX] at hx
  | str =>
    refine up (fun l x hx => ?_) fun d x hx => ?_
    · match l, hx with
      | [d], hx => exact ⟨d, rfl, hx⟩
      | [], hx => cases hx
      | _ :: _ :: _, hx => simp [rdX] at hx
    · unfold rdX at hx
      split at hx
      · rename_i b hb
        injection hx with hx
        subst hx
        injection hb with hb
        subst hb
        have := ht b
        show ByteArray.size ⟨b.toArray⟩ + 1 ≤ _
        simpa [ByteArray.size] using this
      · cases hx
  | unit => exact ⟨fun d x _ => by show 0 + 1 ≤ B d; exact h1 d, fun l x _ => Nat.zero_le _⟩
  | pair a b iha ihb =>
    have ht : ∀ l x, rdX (.pair a b) true l = some x → szD (.pair a b) x ≤ BA l := fun l x hx => by
      match l, hx with
      | [], hx => cases hx
      | d :: l, hx =>
        have hx : ((rdX a false [d]).bind fun x => (rdX b true l).map fun y => (x, y)) = some x := hx
        obtain ⟨u, h1, h2⟩ := Option.bind_eq_some_iff.1 hx
        obtain ⟨v, h3, rfl⟩ := Option.map_eq_some_iff.1 h2
        have k1 := iha.1 d u h1
        have k2 := ihb.2 l v h3
        have k3 := hc d l
        show szD a u + szD b v ≤ _
        omega
    refine ⟨fun d x hx => ?_, ht⟩
    match d, hx with
    | .agg l, hx =>
      have := ht l x hx
      have := ha l
      omega
    | .lit _, hx => cases hx
    | .nil, hx => cases hx
    | .ptr _, hx => cases hx
    | .slice _ _, hx => cases hx
    | .iface _ _, hx => cases hx
    | .map _, hx => cases hx
    | .held _, hx => cases hx
  | arr n a ih =>
    have key : ∀ n l x, rdV (fun d => rdX a false [d]) n l = some x → szV (szD a) n x ≤ BA l := by
      intro n
      induction n with
      | zero => exact fun l x _ => Nat.zero_le _
      | succ n ihn =>
        intro l x hx
        match l, hx with
        | [], hx => cases hx
        | d :: l, hx =>
          have hx : ((rdX a false [d]).bind fun x => (rdV (fun d => rdX a false [d]) n l).map fun y => (x, y)) = some x := hx
          obtain ⟨u, h1, h2⟩ := Option.bind_eq_some_iff.1 hx
          obtain ⟨v, h3, rfl⟩ := Option.map_eq_some_iff.1 h2
          have k1 := ih.1 d u h1
          have k2 := ihn l v h3
          have k3 := hc d l
          show szD a u + szV (szD a) n v ≤ _
          omega
    refine up (fun l x hx => ?_) fun d x hx => ?_
    · match l, hx with
      | [d], hx => exact ⟨d, rfl, hx⟩
      | [], hx => cases hx
      | _ :: _ :: _, hx => simp [rdX] at hx
    · match d, hx with
      | .agg l, hx =>
        have := key n l x hx
        have := ha l
        show szV (szD a) n x + 1 ≤ _
        omega
      | .lit _, hx => cases hx
      | .nil, hx => cases hx
      | .ptr _, hx => cases hx
      | .slice _ _, hx => cases hx
      | .iface _ _, hx => cases hx
      | .map _, hx => cases hx
      | .held _, hx => cases hx
  | sl b a ih =>
    have key : ∀ l (x : List (Den a)), l.mapM (fun d => rdX a false [d]) = some x → szD (.sl b a) x ≤ BA l := by
      intro l
      induction l with
      | nil =>
        intro x hx
        simp at hx
        subst hx
        exact Nat.zero_le _
      | cons d l ihl =>
        intro x hx
        rw [List.mapM_cons] at hx
        obtain ⟨u, h1, h2⟩ := Option.bind_eq_some_iff.1 hx
        obtain ⟨v, h3, h4⟩ := Option.bind_eq_some_iff.1 h2
        injection h4 with h4
        subst h4
        have k1 := ih.1 d u h1
        have k2 := ihl v h3
        have k3 := hc d l
        show szD a u + 1 + szD (.sl b a) v ≤ _
        omega
    refine up (fun l x hx => ?_) fun d x hx => ?_
    · match l, hx with
      | [d], hx => exact ⟨d, rfl, hx⟩
      | [], hx => cases hx
      | _ :: _ :: _, hx => simp [rdX] at hx
    · match d, hx with
      | .nil, hx =>
        injection hx with hx
        subst hx
        show 0 + 1 ≤ _
        exact h1 _
      | .slice l s, hx =>
        have := key l x hx
        have := hl l s
        omega
      | .lit _, hx => cases hx
      | .agg _, hx => cases hx
      | .ptr _, hx => cases hx
      | .iface _ _, hx => cases hx
      | .map _, hx => cases hx
      | .held _, hx => cases hx
  | ptr a ih =>
    refine up (fun l x hx => ?_) fun d x hx => ?_
    · match l, hx with
      | [d], hx => exact ⟨d, rfl, hx⟩
      | [], hx => cases hx
      | _ :: _ :: _, hx => simp [rdX] at hx
    · match d, hx with
      | .nil, hx =>
        injection hx with hx
        subst hx
        show 0 + 1 ≤ _
        exact h1 _
      | .ptr d, hx =>
        obtain ⟨u, h2, rfl⟩ := Option.map_eq_some_iff.1 (show (rdX a false [d]).map some = some x from hx)
        have := ih.1 d u h2
        have := hp d
        show szD a u + 1 ≤ _
        omega
      | .lit _, hx => cases hx
      | .agg _, hx => cases hx
      | .slice _ _, hx => cases hx
      | .iface _ _, hx => cases hx
      | .map _, hx => cases hx
      | .held _, hx => cases hx
end Burn.Cfg

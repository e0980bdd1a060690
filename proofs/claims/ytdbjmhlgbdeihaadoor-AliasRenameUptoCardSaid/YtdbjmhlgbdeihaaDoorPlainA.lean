/- Plain arithmetic for the proofs. No conditions beyond those written. -/
import Derived.Test.YtdbjmhlgbdeihaaDoorEngineC
import GoSem.Core.View
import Derived.Test.YtdbjmhlgbdeihaaDoorRowingA
namespace Burn.Cfg
open Go Go.BE
def szV {α : Type} (f : α → Nat) : (n : Nat) → DenV α n → Nat
  | 0, _ => 0
  | n + 1, x => f x.1 + szV f n x.2
def szD : (S : Sh) → Den S → Nat
  | .int _, _ | .bool, _ | .unit, _ => 0
  | .str, x => ByteArray.size x
  | .pair a b, x => szD a x.1 + szD b x.2
  | .arr n a, x => szV (szD a) n x
  | .sl _ a, x => List.foldr (α := Den a) (fun y n => szD a y + 1 + n) 0 x
  | .ptr a, x => match (x : Option (Den a)) with | some y => szD a y | none => 0
end Burn.Cfg
namespace Burn.Intn
open Go
theorem w64 (n : Int) : IntKind.i64.wrap n = (n + 9223372036854775808) % 18446744073709551616 - 9223372036854775808 := by
  simp only [IntKind.wrap, IntKind.bits, IntKind.signed, Bool.true_and]
  split <;> rename_i h <;> simp only [ge_iff_le, decide_eq_true_eq] at h <;> omega
theorem u64 (n : Int) : IntKind.u64.wrap n = n % 18446744073709551616 := by
  simp only [IntKind.wrap, IntKind.bits, IntKind.signed, Bool.false_and, Bool.false_eq_true, if_false]
  rfl
def bitsZ (t : Int) : Int := if t = 1 then 1 else if t = 2 then 8 else if t = 3 then 32 else if t = 4 then 64 else 0
def mZ (t : Int) : Int := if t = 1 then 2 else if t = 2 then 256 else if t = 3 then 4294967296 else if t = 4 then 18446744073709551616 else 1
def hZ (t : Int) : Int := if t = 2 then 128 else if t = 3 then 2147483648 else if t = 4 then 9223372036854775808 else 0
def wrapZ (t n : Int) : Int := (n + hZ t) % mZ t - hZ t
def unsZ (t n : Int) : Int := n % mZ t
theorem tcases (t : Int) : t = 1 ∨ t = 2 ∨ t = 3 ∨ t = 4 ∨ (t ≠ 1 ∧ t ≠ 2 ∧ t ≠ 3 ∧ t ≠ 4) := by omega
theorem other {t : Int} (h : t ≠ 1 ∧ t ≠ 2 ∧ t ≠ 3 ∧ t ≠ 4) : bitsZ t = 0 ∧ mZ t = 1 ∧ hZ t = 0 := by
  obtain ⟨h1, h2, h3, h4⟩ := h
  simp [bitsZ, mZ, hZ, h1, h2, h3, h4]
theorem wrap_other {t : Int} (h : t ≠ 1 ∧ t ≠ 2 ∧ t ≠ 3 ∧ t ≠ 4) (n : Int) : wrapZ t n = 0 := by
  obtain ⟨_, h2, h3⟩ := other h
  simp only [wrapZ, h2, h3]; omega
theorem uns_other {t : Int} (h : t ≠ 1 ∧ t ≠ 2 ∧ t ≠ 3 ∧ t ≠ 4) (n : Int) : unsZ t n = 0 := by
  obtain ⟨_, h2, h3⟩ := other h
  simp only [unsZ, h2]; omega
theorem wrap1 (n : Int) : wrapZ 1 n = n % 2 := by simp [wrapZ, hZ, mZ]
theorem wrap2 (n : Int) : wrapZ 2 n = (n + 128) % 256 - 128 := by simp [wrapZ, hZ, mZ]
theorem wrap3 (n : Int) : wrapZ 3 n = (n + 2147483648) % 4294967296 - 2147483648 := by simp [wrapZ, hZ, mZ]
theorem wrap4 (n : Int) : wrapZ 4 n = (n + 9223372036854775808) % 18446744073709551616 - 9223372036854775808 := by simp [wrapZ, hZ, mZ]
theorem and1 (n : Int) : IntKind.i64.wrap ((BitVec.ofInt IntKind.i64.bits n &&& BitVec.ofInt IntKind.i64.bits 1).toNat : Int) = n % 2 := by
  have h : ((BitVec.ofInt IntKind.i64.bits n &&& BitVec.ofInt IntKind.i64.bits 1).toNat : Int) = n % 2 := by
    show ((BitVec.ofInt 64 n &&& BitVec.ofInt 64 1).toNat : Int) = n % 2
    rw [BitVec.toNat_and, BitVec.toNat_ofInt, BitVec.toNat_ofInt, show ((1 : Int) % ((2 ^ 64 : Nat) : Int)).toNat = 1 from by decide, Nat.and_one_is_mod]
    omega
  rw [h, w64]
  omega
theorem sh (n : Int) (j : Nat) (hj : j = 56 ∨ j = 32 ∨ j = 0) : (IntKind.i64.wrap (n * 2 ^ j)).fdiv (2 ^ j) = wrapZ (if j = 56 then 2 else if j = 32 then 3 else 4) n := by
  rcases hj with rfl | rfl | rfl
  · rw [Int.fdiv_eq_ediv_of_nonneg _ (by decide), w64]; simp only [if_true, wrap2]; omega
  · rw [Int.fdiv_eq_ediv_of_nonneg _ (by decide), w64]; simp only [if_true, wrap3, Nat.reduceEqDiff, if_false]; omega
  · rw [Int.fdiv_eq_ediv_of_nonneg _ (by decide), w64]; simp only [wrap4, Nat.reduceEqDiff, if_false]; omega
end Burn.Intn
namespace Burn.Intn
open Go
end Burn.Intn
namespace Burn.Ref
open Go Burn.Intn
structure LaneP where
  n : Int
  p : Bool
  u : Bool
structure ValP where
  t : Int
  o : Int
  l0 : LaneP
  l1 : LaneP
  l2 : LaneP
  l3 : LaneP
end Burn.Ref
namespace Burn.Cfg
open Go Go.BE
theorem sz_bulk {H : Type} {B : DataW H → Nat} {BA : List (DataW H) → Nat} (hl : ∀ l s, BA l + 1 ≤ B (.slice l s)) (ha : ∀ l, BA l + 1 ≤ B (.agg l)) (hp : ∀ d, B d + 1 ≤ B (.ptr d)) (ht : ∀ b, List.length b + 1 ≤ B (.lit (.string b))) (hc : ∀ d l, B d + BA l ≤ BA (d :: l)) (h1 : ∀ d, 1 ≤ B d) :
    ∀ (S : Sh), (∀ d x, rdX S false [d] = some x → szD S x + 1 ≤ B d) ∧ (∀ l x, rdX S true l = some x → szD S x ≤ BA l) := by
  have up : ∀ {S : Sh}, (∀ l x, rdX (H := H) S true l = some x → ∃ d, l = [d] ∧ rdX S false [d] = some x) → (∀ d x, rdX S false [d] = some x → szD S x + 1 ≤ B d) → (∀ d x, rdX S false [d] = some x → szD S x + 1 ≤ B d) ∧ (∀ l x, rdX S true l = some x → szD S x ≤ BA l) := fun {S} h k => ⟨k, fun l x hx => by
    obtain ⟨d, rfl, hd⟩ := h l x hx
    have := k d x hd
    have := hc d []
    omega⟩
  intro S
  induction S with
  | int k =>
    refine up (fun l x hx => ?_) fun d x _ => by show 0 + 1 ≤ B d; exact h1 d
    match l, hx with
    | [d], hx => exact ⟨d, rfl, hx⟩
    | [], hx => cases hx
    | _ :: _ :: _, hx => simp [rdX] at hx
  | bool =>
    refine up (fun l x hx => ?_) fun d x _ => by show 0 + 1 ≤ B d; exact h1 d
    match l, hx with
    | [d], hx => exact ⟨d, rfl, hx⟩
    | [], hx => cases hx
    | _ :: _ :: _, hx => simp [rdX] at hx
  | str =>
    refine up (fun l x hx => ?_) fun d x hx => ?_
    · match l, hx with
      | [d], hx => exact ⟨d, rfl, hx⟩
      | [], hx => cases hx
      | _ :: _ :: _, hx => simp [rdX] at hx
    · unfold rdX at hx
      split at hx
      · rename_i b hb
        injection hx with hx
        subst hx
        injection hb with hb
        subst hb
        have := ht b
        show ByteArray.size ⟨b.toArray⟩ + 1 ≤ _
        simpa [ByteArray.size] using this
      · cases hx
  | unit => exact ⟨fun d x _ => by show 0 + 1 ≤ B d; exact h1 d, fun l x _ => Nat.zero_le _⟩
  | pair a b iha ihb =>
    have ht : ∀ l x, rdX (.pair a b) true l = some x → szD (.pair a b) x ≤ BA l := fun l x hx => by
      match l, hx with
      | [], hx => cases hx
      | d :: l, hx =>
        have hx : ((rdX a false [d]).bind fun x => (rdX b true l).map fun y => (x, y)) = some x := hx
        obtain ⟨u, h1, h2⟩ := Option.bind_eq_some_iff.1 hx
        obtain ⟨v, h3, rfl⟩ := Option.map_eq_some_iff.1 h2
        have k1 := iha.1 d u h1
        have k2 := ihb.2 l v h3
        have k3 := hc d l
        show szD a u + szD b v ≤ _
        omega
    refine ⟨fun d x hx => ?_, ht⟩
    match d, hx with
    | .agg l, hx =>
      have := ht l x hx
      have := ha l
      omega
    | .lit _, hx => cases hx
    | .nil, hx => cases hx
    | .ptr _, hx => cases hx
    | .slice _ _, hx => cases hx
    | .iface _ _, hx => cases hx
    | .map _, hx => cases hx
    | .held _, hx => cases hx
  | arr n a ih =>
    have key : ∀ n l x, rdV (fun d => rdX a false [d]) n l = some x → szV (szD a) n x ≤ BA l := by
      intro n
      induction n with
      | zero => exact fun l x _ => Nat.zero_le _
      | succ n ihn =>
        intro l x hx
        match l, hx with
        | [], hx => cases hx
        | d :: l, hx =>
          have hx : ((rdX a false [d]).bind fun x => (rdV (fun d => rdX a false [d]) n l).map fun y => (x, y)) = some x := hx
          obtain ⟨u, h1, h2⟩ := Option.bind_eq_some_iff.1 hx
          obtain ⟨v, h3, rfl⟩ := Option.map_eq_some_iff.1 h2
          have k1 := ih.1 d u h1
          have k2 := ihn l v h3
          have k3 := hc d l
          show szD a u + szV (szD a) n v ≤ _
          omega
    refine up (fun l x hx => ?_) fun d x hx => ?_
    · match l, hx with
      | [d], hx => exact ⟨d, rfl, hx⟩
      | [], hx => cases hx
      | _ :: _ :: _, hx => simp [rdX] at hx
    · match d, hx with
      | .agg l, hx =>
        have := key n l x hx
        have := ha l
        show szV (szD a) n x + 1 ≤ _
        omega
      | .lit _, hx => cases hx
      | .nil, hx => cases hx
      | .ptr _, hx => cases hx
      | .slice _ _, hx => cases hx
      | .iface _ _, hx => cases hx
      | .map _, hx => cases hx
      | .held _, hx => cases hx
  | sl b a ih =>
    have key : ∀ l (x : List (Den a)), l.mapM (fun d => rdX a false [d]) = some x → szD (.sl b a) x ≤ BA l := by
      intro l
      induction l with
      | nil =>
        intro x hx
        simp at hx
        subst hx
        exact Nat.zero_le _
      | cons d l ihl =>
        intro x hx
        rw [List.mapM_cons] at hx
        obtain ⟨u, h1, h2⟩ := Option.bind_eq_some_iff.1 hx
        obtain ⟨v, h3, h4⟩ := Option.bind_eq_some_iff.1 h2
        injection h4 with h4
        subst h4
        have k1 := ih.1 d u h1
        have k2 := ihl v h3
        have k3 := hc d l
        show szD a u + 1 + szD (.sl b a) v ≤ _
        omega
    refine up (fun l x hx => ?_) fun d x hx => ?_
    · match l, hx with
      | [d], hx => exact ⟨d, rfl, hx⟩
      | [], hx => cases hx
      | _ :: _ :: _, hx => simp [rdX] at hx
    · match d, hx with
      | .nil, hx =>
        injection hx with hx
        subst hx
        show 0 + 1 ≤ _
        exact h1 _
      | .slice l s, hx =>
        have := key l x hx
        have := hl l s
        omega
      | .lit _, hx => cases hx
      | .agg _, hx => cases hx
      | .ptr _, hx => cases hx
      | .iface _ _, hx => cases hx
      | .map _, hx => cases hx
      | .held _, hx => cases hx
  | ptr a ih =>
    refine up (fun l x hx => ?_) fun d x hx => ?_
    · match l, hx with
      | [d], hx => exact ⟨d, rfl, hx⟩
      | [], hx => cases hx
      | _ :: _ :: _, hx => simp [rdX] at hx
    · match d, hx with
      | .nil, hx =>
        injection hx with hx
        subst hx
        show 0 + 1 ≤ _
        exact h1 _
      | .ptr d, hx =>
        obtain ⟨u, h2, rfl⟩ := Option.map_eq_some_iff.1 (show (rdX a false [d]).map some = some x from hx)
        have := ih.1 d u h2
        have := hp d
        show szD a u + 1 ≤ _
        omega
      | .lit _, hx => cases hx
      | .agg _, hx => cases hx
      | .slice _ _, hx => cases hx
      | .iface _ _, hx => cases hx
      | .map _, hx => cases hx
      | .held _, hx => cases hx
end Burn.Cfg

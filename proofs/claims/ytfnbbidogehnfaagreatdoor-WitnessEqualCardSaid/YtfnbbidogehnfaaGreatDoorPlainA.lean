/- Plain arithmetic for the proofs. No conditions beyond those written. -/
import Derived.Test.YtfnbbidogehnfaaGreatDoorEngineE
namespace Burn.Bit
open Go Go.BE
def tb (w : Int) (k : Nat) : Bool := w.toNat.testBit k
def u64 (w : Int) : Prop := 0 ≤ w ∧ w < 18446744073709551616
theorem wrapU {x : Int} (h : u64 x) : IntKind.wrap .u64 x = x := by
 have h1 : IntKind.wrap .u64 x = x % 18446744073709551616 := by
  simp [IntKind.wrap, IntKind.signed, IntKind.bits]
 rw [h1]
 exact Int.emod_eq_of_lt h.1 h.2
theorem u64_wrap (x : Int) : u64 (IntKind.wrap .u64 x) := by
 have h1 : IntKind.wrap .u64 x = x % 18446744073709551616 := by
  simp [IntKind.wrap, IntKind.signed, IntKind.bits]
 rw [h1]
 exact ⟨Int.emod_nonneg _ (by omega), Int.emod_lt_of_pos _ (by omega)⟩
theorem ofInt_nat {x : Int} (h : u64 x) : (BitVec.ofInt 64 x).toNat = x.toNat := by
 rw [BitVec.toNat_ofInt]
 congr 1
 exact Int.emod_eq_of_lt h.1 h.2
theorem u64_bv (v : BitVec 64) : u64 (v.toNat : Int) := by
 have := v.isLt
 exact ⟨by omega, by omega⟩
theorem or_tb {a b : Int} (ha : u64 a) (hb : u64 b) (k : Nat) : tb (IntKind.wrap .u64 (bvor .u64 a b)) k = (tb a k || tb b k) := by
 have h : IntKind.wrap .u64 (bvor .u64 a b) = ((BitVec.ofInt 64 a ||| BitVec.ofInt 64 b).toNat : Int) := wrapU (u64_bv _)
 rw [h]
 unfold tb
 rw [Int.toNat_natCast, BitVec.toNat_or, Nat.testBit_or, ofInt_nat ha, ofInt_nat hb]
theorem and_tb {a b : Int} (ha : u64 a) (hb : u64 b) (k : Nat) : tb (IntKind.wrap .u64 (bvand .u64 a b)) k = (tb a k && tb b k) := by
 have h : IntKind.wrap .u64 (bvand .u64 a b) = ((BitVec.ofInt 64 a &&& BitVec.ofInt 64 b).toNat : Int) := wrapU (u64_bv _)
 rw [h]
 unfold tb
 rw [Int.toNat_natCast, BitVec.toNat_and, Nat.testBit_and, ofInt_nat ha, ofInt_nat hb]
theorem tb_big {a : Int} (ha : u64 a) {k : Nat} (hk : 64 ≤ k) : tb a k = false := by
 unfold tb
 apply Nat.testBit_lt_two_pow
 have : (2 : Nat) ^ 64 ≤ 2 ^ k := Nat.pow_le_pow_right (by omega) hk
 have := ha.1
 have := ha.2
 omega
theorem andn_tb {a b : Int} (ha : u64 a) (hb : u64 b) (k : Nat) : tb (IntKind.wrap .u64 (bvandn .u64 a b)) k = (tb a k && !tb b k) := by
 have h : IntKind.wrap .u64 (bvandn .u64 a b) = ((BitVec.ofInt 64 a &&& ~~~(BitVec.ofInt 64 b)).toNat : Int) := wrapU (u64_bv _)
 rw [h]
 unfold tb
 rw [Int.toNat_natCast, ← ofInt_nat ha, ← ofInt_nat hb]
 show (BitVec.ofInt 64 a &&& ~~~(BitVec.ofInt 64 b)).getLsbD k = ((BitVec.ofInt 64 a).getLsbD k && !(BitVec.ofInt 64 b).getLsbD k)
 rw [BitVec.getLsbD_and, BitVec.getLsbD_not]
 by_cases hk : k < 64
 ·simp [hk]
 ·rw [BitVec.getLsbD_of_ge _ _ (by omega)]
  simp
theorem tb_ext {a b : Int} (ha : u64 a) (hb : u64 b) (h : ∀ k, k < 64 → tb a k = tb b k) : a = b := by
 have : a.toNat = b.toNat := Nat.eq_of_testBit_eq fun k => by
  by_cases hk : k < 64
  ·exact h k hk
  ·have h1 := tb_big ha (k := k) (by omega)
   have h2 := tb_big hb (k := k) (by omega)
   unfold tb at h1 h2
   rw [h1, h2]
 have := ha.1
 have := hb.1
 omega
theorem has_tb {w : Int} (hw : u64 w) {k : Nat} (hk : k < 64) : (IntKind.wrap .u64 (bvand .u64 (Int.fdiv w (2 ^ min k (IntKind.bits .u64))) (1 : Int)) == (1 : Int)) = tb w k := by
 have hm : min k (IntKind.bits .u64) = k := by
  show min k 64 = k
  omega
 rw [hm]
 have hf : Int.fdiv w (2 ^ k) = ((w.toNat / 2 ^ k : Nat) : Int) := by
  have e : w = (w.toNat : Int) := by have := hw.1; omega
  rw [e]
  rw [show ((2 : Int) ^ k) = ((2 ^ k : Nat) : Int) by simp]
  rw [Int.fdiv_eq_ediv_of_nonneg _ (Int.natCast_nonneg _), Int.toNat_natCast, Int.natCast_ediv]
 rw [hf]
 have hle : w.toNat / 2 ^ k ≤ w.toNat := Nat.div_le_self _ _
 have hu : u64 ((w.toNat / 2 ^ k : Nat) : Int) := by
  have h1 : ((w.toNat / 2 ^ k : Nat) : Int) ≤ (w.toNat : Int) := Int.ofNat_le.2 hle
  have h2 := hw.1
  have h3 := hw.2
  exact ⟨Int.natCast_nonneg _, by omega⟩
 have h1 : IntKind.wrap .u64 (bvand .u64 ((w.toNat / 2 ^ k : Nat) : Int) (1 : Int)) = ((w.toNat / 2 ^ k % 2 : Nat) : Int) := by
  have h : IntKind.wrap .u64 (bvand .u64 ((w.toNat / 2 ^ k : Nat) : Int) (1 : Int)) = ((BitVec.ofInt 64 ((w.toNat / 2 ^ k : Nat) : Int) &&& BitVec.ofInt 64 1).toNat : Int) := wrapU (u64_bv _)
  rw [h, BitVec.toNat_and, ofInt_nat hu, ofInt_nat ⟨by omega, by omega⟩, Int.toNat_natCast]
  show ((w.toNat / 2 ^ k &&& 1 : Nat) : Int) = _
  rw [Nat.and_one_is_mod]
 rw [h1]
 unfold tb
 rw [Nat.testBit_eq_decide_div_mod_eq]
 have : w.toNat / 2 ^ k % 2 < 2 := Nat.mod_lt _ (by omega)
 by_cases h : w.toNat / 2 ^ k % 2 = 1
 ·simp [h]
 ·have : w.toNat / 2 ^ k % 2 = 0 := by omega
  simp [this]
theorem bit_eq {k : Nat} (hk : k < 64) : IntKind.wrap .u64 ((1 : Int) * 2 ^ min k (IntKind.bits .u64)) = ((2 ^ k : Nat) : Int) ∧ u64 ((2 ^ k : Nat) : Int) := by
 have hm : min k (IntKind.bits .u64) = k := by
  show min k 64 = k
  omega
 have hu : u64 ((2 ^ k : Nat) : Int) := by
  have : 2 ^ k < 2 ^ 64 := Nat.pow_lt_pow_right (by omega) hk
  have h2 : ((2 ^ k : Nat) : Int) < ((2 ^ 64 : Nat) : Int) := Int.ofNat_lt.2 this
  exact ⟨Int.natCast_nonneg _, by simpa using h2⟩
 refine ⟨?_, hu⟩
 rw [hm, Int.one_mul, show ((2 : Int) ^ k) = ((2 ^ k : Nat) : Int) by simp]
 exact wrapU hu
theorem tb_bit (k j : Nat) : tb ((2 ^ k : Nat) : Int) j = decide (k = j) := by
 unfold tb
 rw [Int.toNat_natCast, Nat.testBit_two_pow]
theorem tb_zero (k : Nat) : tb 0 k = false := by simp [tb]
def memW (ws : List Int) (r : Nat) : Bool := tb (ws.getD (r / 64) 0) (r % 64)
structure OkW (n : Nat) (ws : List Int) : Prop where
 len : ws.length = (n + 63) / 64
 u : ∀ w ∈ ws, u64 w
 top : ∀ r, n ≤ r → memW ws r = false
theorem OkW.get {n : Nat} {ws : List Int} (h : OkW n ws) (i : Nat) : u64 (ws.getD i 0) := by
 rw [List.getD_eq_getElem?_getD]
 cases hx : ws[i]? with
 | none => exact ⟨by simp, by simp⟩
 | some x => exact h.u x (List.mem_of_getElem? hx)
theorem OkW.lt {n : Nat} {ws : List Int} (h : OkW n ws) {r : Nat} (hr : r < n) : r / 64 < ws.length := by
 rw [h.len]
 omega
theorem okW_new (n : Nat) : OkW n (List.replicate ((n + 63) / 64) 0) := by
 refine ⟨by simp, fun w hw => ?_, fun r _ => ?_⟩
 ·rw [(List.mem_replicate.1 hw).2]
  exact ⟨by omega, by omega⟩
 ·unfold memW
  rw [List.getD_eq_getElem?_getD, List.getElem?_replicate]
  split <;> exact tb_zero _
theorem getD_set (ws : List Int) (i : Nat) (w : Int) (j : Nat) : (ws.set i w).getD j 0 = if i = j ∧ i < ws.length then w else ws.getD j 0 := by
 rw [List.getD_eq_getElem?_getD, List.getD_eq_getElem?_getD, List.getElem?_set]
 by_cases h : i = j
 ·subst h
  by_cases hl : i < ws.length
  ·simp [hl]
  ·simp [hl]
 ·simp [h]
theorem memW_set {ws : List Int} {i : Nat} {w : Int} {v : Bool} (hi : i / 64 < ws.length) (h : ∀ k, k < 64 → tb w k = if k = i % 64 then v else tb (ws.getD (i / 64) 0) k) (r : Nat) :
  memW (ws.set (i / 64) w) r = if r = i then v else memW ws r := by
 unfold memW
 rw [getD_set]
 by_cases hr : i / 64 = r / 64
 ·rw [if_pos ⟨hr, hi⟩, h _ (Nat.mod_lt _ (by omega))]
  by_cases hk : r % 64 = i % 64
  ·have : r = i := by omega
   rw [if_pos hk, if_pos this]
  ·rw [if_neg hk, if_neg (by intro e; subst e; exact hk rfl), hr]
 ·rw [if_neg (fun h => hr h.1), if_neg (by intro e; subst e; exact hr rfl)]
theorem okW_set {n : Nat} {ws : List Int} (h : OkW n ws) {i : Nat} {w : Int} {v : Bool} (hi : i < n) (hw : u64 w) (hb : ∀ k, k < 64 → tb w k = if k = i % 64 then v else tb (ws.getD (i / 64) 0) k) : OkW n (ws.set (i / 64) w) := by
 refine ⟨by simpa using h.len, fun x hx => ?_, fun r hr => ?_⟩
 ·rcases List.mem_or_eq_of_mem_set hx with hx | rfl
  ·exact h.u x hx
  ·exact hw
 ·rw [memW_set (h.lt hi) hb, if_neg (by omega)]
  exact h.top r hr
def orB (w : Int) (k : Nat) : Int := IntKind.wrap .u64 (bvor .u64 w (IntKind.wrap .u64 ((1 : Int) * 2 ^ min k (IntKind.bits .u64))))
def clB (w : Int) (k : Nat) : Int := IntKind.wrap .u64 (bvandn .u64 w (IntKind.wrap .u64 ((1 : Int) * 2 ^ min k (IntKind.bits .u64))))
theorem orB_tb {w : Int} (hw : u64 w) {k : Nat} (hk : k < 64) (j : Nat) : tb (orB w k) j = if j = k then true else tb w j := by
 unfold orB
 rw [(bit_eq hk).1, or_tb hw (bit_eq hk).2, tb_bit]
 by_cases h : j = k
 ·subst h; simp
 ·rw [if_neg h]
  simp [Ne.symm h]
theorem clB_tb {w : Int} (hw : u64 w) {k : Nat} (hk : k < 64) (j : Nat) : tb (clB w k) j = if j = k then false else tb w j := by
 unfold clB
 rw [(bit_eq hk).1, andn_tb hw (bit_eq hk).2, tb_bit]
 by_cases h : j = k
 ·subst h; simp
 ·rw [if_neg h]
  simp [Ne.symm h]
def addW (ws : List Int) (i : Nat) : List Int := ws.set (i / 64) (orB (ws.getD (i / 64) 0) (i % 64))
def remW (ws : List Int) (i : Nat) : List Int := ws.set (i / 64) (clB (ws.getD (i / 64) 0) (i % 64))
theorem okW_add {n : Nat} {ws : List Int} (h : OkW n ws) {i : Nat} (hi : i < n) : OkW n (addW ws i) :=
 okW_set (v := true) h hi (u64_wrap _) fun k _ => by rw [orB_tb (h.get _) (Nat.mod_lt _ (by omega))]
theorem okW_rem {n : Nat} {ws : List Int} (h : OkW n ws) {i : Nat} (hi : i < n) : OkW n (remW ws i) :=
 okW_set (v := false) h hi (u64_wrap _) fun k _ => by rw [clB_tb (h.get _) (Nat.mod_lt _ (by omega))]
def orWd (a b : Int) : Int := IntKind.wrap .u64 (bvor .u64 a b)
def orWs (a b : List Int) : List Int := (List.range a.length).map fun i => orWd (a.getD i 0) (b.getD i 0)
theorem orWs_get {a b : List Int} {i : Nat} (hi : i < a.length) : (orWs a b).getD i 0 = orWd (a.getD i 0) (b.getD i 0) := by
 unfold orWs
 rw [List.getD_eq_getElem?_getD, List.getElem?_map, List.getElem?_range hi]
 rfl
theorem memW_or {n : Nat} {a b : List Int} (ha : OkW n a) (hb : OkW n b) (r : Nat) : memW (orWs a b) r = (memW a r || memW b r) := by
 have hlen : a.length = b.length := ha.len.trans hb.len.symm
 unfold memW
 by_cases hi : r / 64 < a.length
 ·rw [orWs_get hi]
  exact or_tb (ha.get _) (hb.get _) _
 ·have h1 : (orWs a b).getD (r / 64) 0 = 0 := by
   rw [List.getD_eq_getElem?_getD, List.getElem?_eq_none (by simp [orWs]; omega)]
   rfl
  have h2 : a.getD (r / 64) 0 = 0 := by
   rw [List.getD_eq_getElem?_getD, List.getElem?_eq_none (by omega)]
   rfl
  have h3 : b.getD (r / 64) 0 = 0 := by
   rw [List.getD_eq_getElem?_getD, List.getElem?_eq_none (by omega)]
   rfl
  rw [h1, h2, h3, tb_zero]
  rfl
theorem okW_or {n : Nat} {a b : List Int} (ha : OkW n a) (hb : OkW n b) : OkW n (orWs a b) := by
 refine ⟨by simp [orWs, ha.len], fun w hw => ?_, fun r hr => ?_⟩
 ·obtain ⟨i, _, rfl⟩ := List.mem_map.1 hw
  exact u64_wrap _
 ·rw [memW_or ha hb, ha.top r hr, hb.top r hr]
  rfl
theorem memW_ext {n : Nat} {a b : List Int} (ha : OkW n a) (hb : OkW n b) (h : ∀ r, r < n → memW a r = memW b r) : a = b := by
 have hlen : a.length = b.length := ha.len.trans hb.len.symm
 refine List.ext_getElem hlen fun i h1 h2 => ?_
 have e1 : a.getD i 0 = a[i] := by rw [List.getD_eq_getElem?_getD, List.getElem?_eq_getElem h1]; rfl
 have e2 : b.getD i 0 = b[i] := by rw [List.getD_eq_getElem?_getD, List.getElem?_eq_getElem h2]; rfl
 rw [← e1, ← e2]
 refine tb_ext (ha.get _) (hb.get _) fun k hk => ?_
 have key : memW a (64 * i + k) = memW b (64 * i + k) := by
  by_cases hr : 64 * i + k < n
  ·exact h _ hr
  ·rw [ha.top _ (by omega), hb.top _ (by omega)]
 unfold memW at key
 rw [show (64 * i + k) / 64 = i by omega, show (64 * i + k) % 64 = k by omega] at key
 exact key
def stp (a b : List Int) (i : Nat) : List Int := (List.range a.length).map fun j => if j < i then orWd (a.getD j 0) (b.getD j 0) else a.getD j 0
def chgd (a b : List Int) (i : Nat) : Bool := (List.range i).any fun j => orWd (a.getD j 0) (b.getD j 0) != a.getD j 0
theorem stp_len (a b : List Int) (i : Nat) : (stp a b i).length = a.length := by simp [stp]
theorem stp_zero (a b : List Int) : stp a b 0 = a := by
 unfold stp
 refine List.ext_getElem (by simp) fun j h1 h2 => ?_
 rw [List.getElem_map, List.getElem_range, if_neg (by omega), List.getD_eq_getElem?_getD, List.getElem?_eq_getElem h2]
 rfl
theorem stp_get {a b : List Int} {i : Nat} (hi : i < a.length) : (stp a b i).getD i 0 = a.getD i 0 := by
 unfold stp
 rw [List.getD_eq_getElem?_getD, List.getElem?_map, List.getElem?_range hi]
 simp
theorem stp_set {a b : List Int} {i : Nat} (hi : i < a.length) : (stp a b i).set i (orWd (a.getD i 0) (b.getD i 0)) = stp a b (i + 1) := by
 refine List.ext_getElem (by simp [stp]) fun j h1 h2 => ?_
 rw [List.getElem_set]
 by_cases hj : i = j
 ·subst hj
  rw [if_pos rfl]
  simp [stp]
 ·rw [if_neg hj]
  simp only [stp, List.getElem_map, List.getElem_range]
  by_cases hl : j < i
  ·rw [if_pos hl, if_pos (by omega)]
  ·rw [if_neg hl, if_neg (by omega)]
theorem stp_all (a b : List Int) : stp a b a.length = orWs a b := by
 unfold stp orWs
 exact List.map_congr_left fun j hj => by rw [if_pos (List.mem_range.1 hj)]
theorem chgd_succ (a b : List Int) (i : Nat) : chgd a b (i + 1) = (chgd a b i || (orWd (a.getD i 0) (b.getD i 0) != a.getD i 0)) := by
 unfold chgd
 rw [List.range_succ, List.any_append]
 simp
theorem chgd_all (a b : List Int) : chgd a b a.length = decide (orWs a b ≠ a) := by
 have key : chgd a b a.length = false ↔ orWs a b = a := by
  unfold chgd
  rw [List.any_eq_false]
  constructor
  ·intro h
   refine List.ext_getElem (by simp [orWs]) fun j h1 h2 => ?_
   have := h j (List.mem_range.2 h2)
   have e : a.getD j 0 = a[j] := by rw [List.getD_eq_getElem?_getD, List.getElem?_eq_getElem h2]; rfl
   simp only [bne_iff_ne, ne_eq, Decidable.not_not] at this
   simp only [orWs, List.getElem_map, List.getElem_range]
   rw [this, e]
  ·intro h j hj
   have hj := List.mem_range.1 hj
   have := orWs_get (b := b) hj
   rw [h] at this
   simp only [bne_iff_ne, ne_eq, Decidable.not_not]
   exact this.symm
 cases hc : chgd a b a.length with
 | false => rw [decide_eq_false (by simpa using key.1 hc)]
 | true =>
  rw [decide_eq_true]
  intro h
  rw [key.2 h] at hc
  cases hc
def low : Nat → Nat → Nat → Nat
 | 0, _, k => k
 | n + 1, w, k => if w.testBit k then k else low n w (k + 1)
theorem low_spec : ∀ {n w k : Nat}, (∀ j, j < k → w.testBit j = false) → w < 2 ^ (k + n) → w ≠ 0 → low n w k < k + n ∧ w.testBit (low n w k) = true ∧ ∀ j, j < low n w k → w.testBit j = false
 | 0, w, k, h, hl, h0 => by
  exfalso
  apply h0
  apply Nat.eq_of_testBit_eq
  intro j
  rw [Nat.zero_testBit]
  by_cases hj : j < k
  ·exact h j hj
  ·exact Nat.testBit_lt_two_pow (Nat.lt_of_lt_of_le hl (Nat.pow_le_pow_right (by omega) (by omega)))
 | n + 1, w, k, h, hl, h0 => by
  unfold low
  cases hb : w.testBit k with
  | true =>
   rw [if_pos rfl]
   exact ⟨by omega, hb, h⟩
  | false =>
   rw [if_neg (by decide)]
   have := low_spec (n := n) (w := w) (k := k + 1) (fun j hj => by
    by_cases e : j = k
    ·subst e; exact hb
    ·exact h j (by omega)) (by rw [show k + 1 + n = k + (n + 1) by omega]; exact hl) h0
   exact ⟨by omega, this.2⟩
theorem pred_bits {w k : Nat} (hk : w.testBit k = true) (hl : ∀ j, j < k → w.testBit j = false) (i : Nat) : (w - 1).testBit i = if i < k then true else if i = k then false else w.testBit i := by
 have h1 : w % 2 ^ (k + 1) = 2 ^ k := by
  apply Nat.eq_of_testBit_eq
  intro j
  rw [Nat.testBit_mod_two_pow, Nat.testBit_two_pow]
  by_cases h : j < k
  ·rw [hl j h, decide_eq_false (show ¬ k = j by omega), Bool.and_false]
  ·by_cases e : j = k
   ·subst e; rw [hk]; simp
   ·rw [decide_eq_false (show ¬ j < k + 1 by omega), decide_eq_false (show ¬ k = j by omega), Bool.false_and]
 have h2 : w = 2 ^ (k + 1) * (w / 2 ^ (k + 1)) + 2 ^ k := by
  have := Nat.div_add_mod w (2 ^ (k + 1))
  rw [h1] at this
  exact this.symm
 have hp : 0 < 2 ^ k := Nat.pow_pos (by omega)
 have hlt : 2 ^ k < 2 ^ (k + 1) := Nat.pow_lt_pow_right (by omega) (by omega)
 generalize ht : w / 2 ^ (k + 1) = t at h2
 have h3 : w - 1 = 2 ^ (k + 1) * t + (2 ^ k - 1) := by omega
 rw [h3, Nat.testBit_two_pow_mul_add _ (by omega), Nat.testBit_two_pow_sub_one]
 by_cases h : i < k
 ·rw [if_pos (by omega), if_pos h, decide_eq_true h]
 ·rw [if_neg h]
  by_cases e : i = k
  ·subst e
   rw [if_pos (by omega), if_pos rfl, decide_eq_false (by omega)]
  ·rw [if_neg (by omega), if_neg e]
   rw [h2, Nat.testBit_two_pow_mul_add _ hlt, if_neg (by omega)]
def tzI (w : Int) : Int := if w = 0 then 64 else (low 64 w.toNat 0 : Int)
theorem tz_spec {w : Int} (hw : u64 w) (h0 : w ≠ 0) : tzI w = (low 64 w.toNat 0 : Int) ∧ low 64 w.toNat 0 < 64 ∧ tb w (low 64 w.toNat 0) = true ∧ ∀ j, j < low 64 w.toNat 0 → tb w j = false := by
 have hlt : w.toNat < 2 ^ (0 + 64) := by
  have := hw.1
  have := hw.2
  omega
 obtain ⟨h1, h2, h3⟩ := low_spec (n := 64) (w := w.toNat) (k := 0) (fun j hj => absurd hj (by omega)) hlt (by have := hw.1; omega)
 exact ⟨if_neg h0, by omega, h2, h3⟩
theorem clear_tb {w : Int} (hw : u64 w) (h0 : w ≠ 0) : u64 (IntKind.wrap .u64 (bvand .u64 w (IntKind.wrap .u64 (w - (1 : Int))))) ∧ (IntKind.wrap .u64 (bvand .u64 w (IntKind.wrap .u64 (w - (1 : Int))))).toNat < w.toNat ∧ ∀ j, tb (IntKind.wrap .u64 (bvand .u64 w (IntKind.wrap .u64 (w - (1 : Int))))) j = (tb w j && !decide (j = low 64 w.toNat 0)) := by
 have h1 : u64 (w - 1) := by have := hw.1; have := hw.2; exact ⟨by omega, by omega⟩
 obtain ⟨_, hk, hb, hl⟩ := tz_spec hw h0
 rw [wrapU h1]
 have hx : ∀ j, tb (IntKind.wrap .u64 (bvand .u64 w (w - 1))) j = (tb w j && !decide (j = low 64 w.toNat 0)) := fun j => by
  rw [and_tb hw h1]
  unfold tb
  rw [show (w - 1).toNat = w.toNat - 1 by omega, pred_bits hb hl]
  by_cases h : j < low 64 w.toNat 0
  ·rw [if_pos h, decide_eq_false (by omega)]; rfl
  ·rw [if_neg h]
   by_cases e : j = low 64 w.toNat 0
   ·rw [if_pos e, decide_eq_true e]; rfl
   ·rw [if_neg e, decide_eq_false e]
    cases w.toNat.testBit j <;> rfl
 refine ⟨u64_wrap _, ?_, hx⟩
 have hle : (IntKind.wrap .u64 (bvand .u64 w (w - 1))).toNat = w.toNat &&& (w.toNat - 1) := by
  apply Nat.eq_of_testBit_eq
  intro j
  rw [Nat.testBit_and]
  have := and_tb hw h1 j
  unfold tb at this
  rw [this, show (w - 1).toNat = w.toNat - 1 by omega]
 rw [hle]
 have : w.toNat &&& (w.toNat - 1) ≤ w.toNat - 1 := Nat.and_le_right
 have := hw.1
 omega
theorem lone {w : Int} (hw : u64 w) (h0 : w ≠ 0) : IntKind.wrap .u64 (bvand .u64 w (IntKind.wrap .u64 ((0 : Int) - w))) = ((2 ^ low 64 w.toNat 0 : Nat) : Int) := by
 obtain ⟨_, hk, hb, hl⟩ := tz_spec hw h0
 have h1 : IntKind.wrap .u64 ((0 : Int) - w) = 18446744073709551616 - w := by
  have h1 : IntKind.wrap .u64 ((0 : Int) - w) = ((0 : Int) - w) % 18446744073709551616 := by
   simp [IntKind.wrap, IntKind.signed, IntKind.bits]
  rw [h1]
  have := hw.1
  have := hw.2
  omega
 have hu : u64 (18446744073709551616 - w) := by have := hw.1; have := hw.2; exact ⟨by omega, by omega⟩
 rw [h1]
 refine tb_ext (u64_wrap _) (bit_eq hk).2 fun j hj => ?_
 rw [and_tb hw hu, tb_bit]
 unfold tb
 have e : (18446744073709551616 - w).toNat = 2 ^ 64 - ((w.toNat - 1) + 1) := by
  have := hw.1
  have := hw.2
  omega
 rw [e, Nat.testBit_two_pow_sub_succ (by have := hw.1; have := hw.2; omega), pred_bits hb hl, decide_eq_true hj, Bool.true_and]
 by_cases h : j < low 64 w.toNat 0
 ·rw [if_pos h, decide_eq_false (show ¬ low 64 w.toNat 0 = j by omega)]
  simp
 ·rw [if_neg h]
  by_cases e : j = low 64 w.toNat 0
  ·rw [if_pos e, decide_eq_true e.symm, e]
   have hb : w.toNat.testBit (low 64 w.toNat 0) = true := hb
   rw [hb]; rfl
  ·rw [if_neg e, decide_eq_false (fun h => e h.symm)]
   cases w.toNat.testBit j <;> rfl
def outP (n : Nat) (p : Nat → Bool) : List Bool := (List.range n).map p
theorem outP_len (n : Nat) (p : Nat → Bool) : (outP n p).length = n := by simp [outP]
theorem outP_set (n : Nat) (p : Nat → Bool) (i : Nat) (v : Bool) : (outP n p).set i v = outP n (fun r => if r = i then v else p r) := by
 apply List.ext_getElem?
 intro j
 unfold outP
 rw [List.getElem?_set, List.getElem?_map, List.getElem?_map]
 by_cases h : j < n
 ·rw [List.getElem?_range h]
  by_cases e : i = j
  ·subst e
   simp [h]
  ·simp [e, Ne.symm e]
 ·rw [List.getElem?_eq_none (by simp; omega)]
  by_cases e : i = j
  ·subst e
   simp [h]
  ·simp [e]
theorem outP_false (n : Nat) : List.replicate n false = outP n (fun _ => false) := by
 unfold outP
 rw [List.map_const']
 simp
theorem outP_ext {n : Nat} {p q : Nat → Bool} (h : ∀ r, r < n → p r = q r) : outP n p = outP n q := by
 unfold outP
 exact List.map_congr_left fun r hr => h r (List.mem_range.1 hr)
end Burn.Bit
namespace Burn.Cfg
open Go Go.BE
def szV {α : Type} (f : α → Nat) : (n : Nat) → DenV α n → Nat
 | 0, _ => 0
 | n + 1, x => f x.1 + szV f n x.2
def szD : (S : Sh) → Den S → Nat
 | .int _, _ | .bool, _ | .unit, _ => 0
 | .str, x => ByteArray.size x
 | .pair a b, x => szD a x.1 + szD b x.2
 | .arr n a, x => szV (szD a) n x
 | .sl _ a, x => List.foldr (α := Den a) (fun y n => szD a y + 1 + n) 0 x
 | .ptr a, x => match (x : Option (Den a)) with | some y => szD a y | none => 0
end Burn.Cfg

/- A part of the proofs over this program: an abstract machine that the kernel evaluates, its soundness, and what the functions compute (IntnS2). -/
import Derived.Test.YthdkgphnleibmaaDoorAeIntnPaths2
import Derived.Test.YthdkgphnleibmaaDoorAeIntnS1
import Derived.Lib.Mul64
namespace Burn.Intn
open Go Go.AE Go.Proofs
set_option maxRecDepth 100000
theorem rmax_ok : SpecOK E0 17 sMax := specOK_of (E := E3) fun args r hs _ => by
  unfold sMax at hs
  split at hs
  · rename_i t
    injection hs with hs
    subst hs
    refine ⟨by kernel_rfl, rfl, ?_⟩
    rcases tcases t with rfl | rfl | rfl | rfl | h
    · exact gives E3_ok (rmax_0 1) (by simp [AllP, b1]) rfl
    · exact gives E3_ok (rmax_2 2) (by simp [AllP, b2]) rfl
    · exact gives E3_ok (rmax_2 3) (by simp [AllP, b3]) rfl
    · exact gives E3_ok (rmax_2 4) (by simp [AllP, b4]) rfl
    · exact gives E3_ok (rmax_1 t) (by simp [AllP, other h]) (vi (by simp [maxZ, other h]))
  · cases hs
theorem fit_ok : SpecOK E0 44 sFit := specOK_of (E := E3) fun args r hs _ => by
  unfold sFit at hs
  split at hs
  · rename_i t n w
    injection hs with hs
    subst hs
    refine ⟨by kernel_rfl, rfl, ?_⟩
    by_cases h : bitsZ t = 0
    · exact gives E3_ok (fit_0 t n w) (by simp [AllP, h]) (by rw [wrap_other (bits0 h)]; simp [fitB, h, aint, abool])
    · cases w
      · exact gives E3_ok (fit_2 t n false) (by simp [AllP, h]) (by simp [fitB, h, aint, abool])
      · exact gives E3_ok (fit_1 t n true) (by simp [AllP, h]) (by simp [fitB, h, aint, abool])
  · cases hs
theorem and32 (n : Int) : IntKind.u64.wrap ((BitVec.ofInt IntKind.u64.bits n &&& BitVec.ofInt IntKind.u64.bits 4294967295).toNat : Int) = n % 4294967296 := by
  have h : ((BitVec.ofInt IntKind.u64.bits n &&& BitVec.ofInt IntKind.u64.bits 4294967295).toNat : Int) = n % 4294967296 := by
    show ((BitVec.ofInt 64 n &&& BitVec.ofInt 64 4294967295).toNat : Int) = n % 4294967296
    rw [BitVec.toNat_and, BitVec.toNat_ofInt, BitVec.toNat_ofInt, show ((4294967295 : Int) % ((2 ^ 64 : Nat) : Int)).toNat = 2 ^ 32 - 1 from by decide, Nat.and_two_pow_sub_one_eq_mod]
    omega
  rw [h, u64]
  omega
theorem fd32 (n : Int) : n.fdiv (2 ^ min (Int.toNat 32) IntKind.u64.bits) = n / 4294967296 := by
  rw [show (2 : Int) ^ min (Int.toNat 32) IntKind.u64.bits = 4294967296 from by decide, Int.fdiv_eq_ediv_of_nonneg _ (by decide)]
theorem mul64_ok : SpecOK E0 45 sMul64 := specOK_of fun args r hs hp => by
  unfold sMul64 at hs
  split at hs
  · rename_i x y
    injection hs with hs
    subst hs
    obtain ⟨⟨hx, hx2⟩, hy, hy2⟩ := hp
    refine ⟨by kernel_rfl, rfl, ?_⟩
    refine gives E0_ok (mul64_0 x y) (by simp [AllP]) ?_
    obtain ⟨X, rfl⟩ := Int.eq_ofNat_of_zero_le hx
    obtain ⟨Y, rfl⟩ := Int.eq_ofNat_of_zero_le hy
    obtain ⟨k1, k2, k3, k4⟩ := Go.Lib.mul64_hi X Y (by omega) (by omega)
    simp only [and32, fd32]
    have d1 : (X : Int) / 4294967296 = ((X / 4294967296 : Nat) : Int) := by omega
    have d2 : (Y : Int) / 4294967296 = ((Y / 4294967296 : Nat) : Int) := by omega
    have m1 : (X : Int) % 4294967296 = ((X % 4294967296 : Nat) : Int) := by omega
    have m2 : (Y : Int) % 4294967296 = ((Y % 4294967296 : Nat) : Int) := by omega
    have hxy : X * Y < 18446744073709551616 * 18446744073709551616 := Nat.mul_lt_mul'' (by omega) (by omega)
    simp only [d1, d2, m1, m2, ← Int.natCast_mul, u64]
    generalize X / 4294967296 * (Y / 4294967296) = p at *
    generalize X / 4294967296 * (Y % 4294967296) = q at *
    generalize X % 4294967296 * (Y / 4294967296) = s at *
    generalize X % 4294967296 * (Y % 4294967296) = u at *
    generalize X * Y = v at *
    congr 3
    congr 1
    congr 1
    omega
  · cases hs
theorem E4_ok : EOK E4 := ctx_ok (l := L4) (by
  unfold L4
  simp only [List.forall_mem_cons]
  exact ⟨bits_ok, rbits_ok, wrap_ok, uns_ok, runs_ok, rwrap_ok, rmin_ok, mag_ok, rmag_ok, rmax_ok, mul64_ok, fit_ok, fun _ h => by cases h⟩)
theorem ult_ok : SpecOK E0 18 sUlt := specOK_of (E := E4) fun args r hs _ => by
  unfold sUlt at hs
  split at hs
  · rename_i t a b
    injection hs with hs
    subst hs
    exact ⟨by kernel_rfl, rfl, gives E4_ok (ult_0 t a b) (by simp [AllP]) rfl⟩
  · cases hs
theorem rult_ok : SpecOK E0 19 sUlt := specOK_of (E := E4) fun args r hs _ => by
  unfold sUlt at hs
  split at hs
  · rename_i t a b
    injection hs with hs
    subst hs
    exact ⟨by kernel_rfl, rfl, gives E4_ok (rult_0 t a b) (by simp [AllP]) rfl⟩
  · cases hs
theorem zext_ok : SpecOK E0 20 sZext := specOK_of (E := E4) fun args r hs _ => by
  unfold sZext at hs
  split at hs
  · rename_i t a b
    injection hs with hs
    subst hs
    exact ⟨by kernel_rfl, rfl, gives E4_ok (zext_0 t a b) (by simp [AllP]) (vi (wrap_w64 _ _))⟩
  · cases hs
theorem rzext_ok : SpecOK E0 21 sZext := specOK_of (E := E4) fun args r hs _ => by
  unfold sZext at hs
  split at hs
  · rename_i t a b
    injection hs with hs
    subst hs
    exact ⟨by kernel_rfl, rfl, gives E4_ok (rzext_0 t a b) (by simp [AllP]) (vi (wrap_w64 _ _))⟩
  · cases hs
theorem ti {x y : Int} {p q : Bool} (h : x = y) (k : p = q) : AV.tup [AV.val (.int .i64 x), AV.val (.bool p)] = .tup [aint .i64 y, abool q] := by subst h; subst k; rfl
theorem wbits (t : Int) : IntKind.u64.wrap (bitsZ t) = bitsZ t ∧ 0 ≤ bitsZ t ∧ bitsZ t ≤ 64 := by
  rcases tcases t with rfl | rfl | rfl | rfl | h
  · exact ⟨rfl, by decide⟩
  · exact ⟨rfl, by decide⟩
  · exact ⟨rfl, by decide⟩
  · exact ⟨rfl, by decide⟩
  · rw [(other h).1]; exact ⟨rfl, by decide⟩
theorem uns0 (t n : Int) : 0 ≤ unsZ t n := by
  rcases tcases t with rfl | rfl | rfl | rfl | h
  · rw [u1]; omega
  · rw [u2]; omega
  · rw [u3]; omega
  · rw [u4]; omega
  · rw [uns_other h]; omega
theorem minb {k : Nat} (h : k ≤ 64) : min k 64 = k := Nat.min_eq_left h
theorem shl_ok : SpecOK E0 22 sShl := specOK_of (E := E4) fun args r hs _ => by
  unfold sShl at hs
  split at hs
  · rename_i t a n
    injection hs with hs
    subst hs
    refine ⟨by kernel_rfl, rfl, ?_⟩
    have hb := wbits t
    have hu := uns0 t n
    by_cases h : bitsZ t ≤ unsZ t n
    · exact gives E4_ok (shl_0 t a n) (by simp [AllP, hb.1, h]) (ti (by rw [if_pos h]) (by simp; omega))
    · exact gives E4_ok (shl_1 t a n) (by simp [AllP, hb.1]; omega) (ti (by
        rw [if_neg h, wrap_w64]
        show wrapZ t (a * 2 ^ min (unsZ t n).toNat 64) = _
        rw [minb (by omega)]) (by simp; omega))
  · cases hs
theorem lshr_ok : SpecOK E0 24 sLshr := specOK_of (E := E4) fun args r hs _ => by
  unfold sLshr at hs
  split at hs
  · rename_i t a n
    injection hs with hs
    subst hs
    refine ⟨by kernel_rfl, rfl, ?_⟩
    have hb := wbits t
    have hu := uns0 t n
    by_cases h : bitsZ t ≤ unsZ t n
    · exact gives E4_ok (lshr_0 t a n) (by simp [AllP, hb.1, h]) (ti (by rw [if_pos h]) (by simp; omega))
    · exact gives E4_ok (lshr_1 t a n) (by simp [AllP, hb.1]; omega) (ti (by
        rw [if_neg h, wrap_w64]
        show wrapZ t ((unsZ t a).fdiv (2 ^ min (unsZ t n).toNat 64)) = _
        rw [minb (by omega), Int.fdiv_eq_ediv_of_nonneg _ (Int.le_of_lt (Int.pow_pos (by decide)))]) (by simp; omega))
  · cases hs
theorem div_pow {t x : Int} (h1 : minZ t ≤ x) (h2 : x ≤ maxZ t) (k : Nat) : wrapZ t (x / 2 ^ k) = x / 2 ^ k := by
  have hm := minmax t
  have hp : (0 : Int) < 2 ^ k := Int.pow_pos (by decide)
  refine wrap_id ?_ ?_
  · by_cases hx : 0 ≤ x
    · have := Int.ediv_nonneg hx (Int.le_of_lt hp)
      omega
    · have : x ≤ x / 2 ^ k := Int.le_ediv_of_mul_le hp (by
        have := Int.mul_le_mul_of_nonpos_left (a := x) (b := 2 ^ k) (c := 1) (by omega) (by omega)
        omega)
      omega
  · by_cases hx : 0 ≤ x
    · have := Int.ediv_le_self (2 ^ k) hx
      omega
    · have := Int.ediv_neg_of_neg_of_pos (show x < 0 by omega) hp
      omega
theorem ashr_ok : SpecOK E0 26 sAshr := specOK_of (E := E4) fun args r hs _ => by
  unfold sAshr at hs
  split at hs
  · rename_i t a n
    injection hs with hs
    subst hs
    refine ⟨by kernel_rfl, rfl, ?_⟩
    have hb := wbits t
    have hu := uns0 t n
    have hr := wr t a
    by_cases h : bitsZ t ≤ unsZ t n
    · exact gives E4_ok (ashr_0 t a n) (by simp [AllP, hb.1, h]) (ti (by rw [if_pos h]) (by simp; omega))
    · refine gives E4_ok (ashr_1 t a n) (by simp [AllP, hb.1, w64]; omega) (ti ?_ (by simp; omega))
      rw [if_neg h]
      show wrapZ t (Int.fdiv _ (2 ^ min (unsZ t n).toNat 64)) = _
      rw [minb (by omega), Int.fdiv_eq_ediv_of_nonneg _ (Int.le_of_lt (Int.pow_pos (by decide)))]
      rcases tcases t with rfl | rfl | rfl | rfl | ht
      · have h0 : unsZ 1 n = 0 := by rw [b1] at h; omega
        rw [h0]
        show wrapZ 1 (((IntKind.i64.wrap (a * 2 ^ 63)).fdiv (2 ^ 63)) / 1) = wrapZ 1 a / 1
        rw [Int.ediv_one, Int.ediv_one, Int.fdiv_eq_ediv_of_nonneg _ (by decide), w64, wrap1, wrap1]
        omega
      · rw [show ((IntKind.i64.wrap (a * 2 ^ min (IntKind.i64.wrap (64 - bitsZ 2)).toNat IntKind.i64.bits)).fdiv (2 ^ min (IntKind.i64.wrap (64 - bitsZ 2)).toNat IntKind.i64.bits)) = wrapZ 2 a from sh a 56 (.inl rfl)]
        exact div_pow hr.1 hr.2 _
      · rw [show ((IntKind.i64.wrap (a * 2 ^ min (IntKind.i64.wrap (64 - bitsZ 3)).toNat IntKind.i64.bits)).fdiv (2 ^ min (IntKind.i64.wrap (64 - bitsZ 3)).toNat IntKind.i64.bits)) = wrapZ 3 a from sh a 32 (.inr (.inl rfl))]
        exact div_pow hr.1 hr.2 _
      · rw [show ((IntKind.i64.wrap (a * 2 ^ min (IntKind.i64.wrap (64 - bitsZ 4)).toNat IntKind.i64.bits)).fdiv (2 ^ min (IntKind.i64.wrap (64 - bitsZ 4)).toNat IntKind.i64.bits)) = wrapZ 4 a from sh a 0 (.inr (.inr rfl))]
        exact div_pow hr.1 hr.2 _
      · exfalso
        rw [(other ht).1] at h
        omega
  · cases hs
theorem add_ok : SpecOK E0 28 sAdd := specOK_of (E := E4) fun args r hs _ => by
  unfold sAdd at hs
  split at hs
  · rename_i t a b
    injection hs with hs
    subst hs
    refine ⟨by kernel_rfl, rfl, ?_⟩
    refine gives E4_ok (add_0 t a b) (by simp [AllP, w64]) (ti (wrap_w64 _ _) ?_)
    exact fit_eq (add_wide (wr64 t a) (wr64 t b)) fun h => by rw [wrap_other (bits0 h), wrap_other (bits0 h)]; rfl
  · cases hs
theorem sub_ok : SpecOK E0 30 sSub := specOK_of (E := E4) fun args r hs _ => by
  unfold sSub at hs
  split at hs
  · rename_i t a b
    injection hs with hs
    subst hs
    refine ⟨by kernel_rfl, rfl, ?_⟩
    refine gives E4_ok (sub_0 t a b) (by simp [AllP, w64]) (ti (wrap_w64 _ _) ?_)
    exact fit_eq (sub_wide (wr64 t a) (wr64 t b)) fun h => by rw [wrap_other (bits0 h), wrap_other (bits0 h)]; rfl
  · cases hs
end Burn.Intn

/- A part of the proofs over this program: an abstract machine that the kernel evaluates, its soundness, and what the functions compute (IntnS1). -/
import Derived.Test.YthdkgphnleibmaaDoorAeIntnPaths1
namespace Burn.Intn
open Go Go.AE Go.Proofs
set_option maxRecDepth 100000
theorem E0_ok : EOK E0 := ctx_ok (l := []) fun _ h => by cases h
theorem vi {k : IntKind} {a b : Int} (h : a = b) : AV.val (.int k a) = aint k b := h ▸ rfl
theorem b1 : bitsZ 1 = 1 := rfl
theorem b2 : bitsZ 2 = 8 := rfl
theorem b3 : bitsZ 3 = 32 := rfl
theorem b4 : bitsZ 4 = 64 := rfl
theorem u1 (n : Int) : unsZ 1 n = n % 2 := rfl
theorem u2 (n : Int) : unsZ 2 n = n % 256 := rfl
theorem u3 (n : Int) : unsZ 3 n = n % 4294967296 := rfl
theorem u4 (n : Int) : unsZ 4 n = n % 18446744073709551616 := rfl
theorem bits_other {t : Int} (h : t < 0 ∨ t ≥ 5 ∨ t = 0) : bitsZ t = 0 := (other (by omega)).1
theorem bits_ok : SpecOK E0 11 sBits := specOK_of fun args r hs _ => by
  unfold sBits at hs
  split at hs
  · rename_i t
    injection hs with hs
    subst hs
    refine ⟨by kernel_rfl, rfl, ?_⟩
    rcases (show t < 0 ∨ t ≥ 5 ∨ t = 0 ∨ t = 1 ∨ t = 2 ∨ t = 3 ∨ t = 4 by omega) with h | h | rfl | rfl | rfl | rfl | rfl
    · exact gives E0_ok (bits_0 t) (by simp [AllP, h]) (vi (bits_other (.inl h)).symm)
    · exact gives E0_ok (bits_1 t) (by simp [AllP, h] <;> omega) (vi (bits_other (.inr (.inl h))).symm)
    · exact gives E0_ok bits0_0 (by simp [AllP]) rfl
    · exact gives E0_ok bits1_0 (by simp [AllP]) rfl
    · exact gives E0_ok bits2_0 (by simp [AllP]) rfl
    · exact gives E0_ok bits3_0 (by simp [AllP]) rfl
    · exact gives E0_ok bits4_0 (by simp [AllP]) rfl
  · cases hs
theorem rbits_ok : SpecOK E0 14 sBits := specOK_of fun args r hs _ => by
  unfold sBits at hs
  split at hs
  · rename_i t
    injection hs with hs
    subst hs
    refine ⟨by kernel_rfl, rfl, ?_⟩
    rcases tcases t with rfl | rfl | rfl | rfl | h
    · exact gives E0_ok (rbits_0 1) (by simp [AllP]) rfl
    · exact gives E0_ok (rbits_1 2) (by simp [AllP]) rfl
    · exact gives E0_ok (rbits_2 3) (by simp [AllP]) rfl
    · exact gives E0_ok (rbits_3 4) (by simp [AllP]) rfl
    · exact gives E0_ok (rbits_4 t) (by simp [AllP, h]) (vi (other h).1.symm)
  · cases hs
theorem magv (n : Int) (h : -9223372036854775808 ≤ n ∧ n ≤ 9223372036854775807) : (n < 0 → IntKind.u64.wrap (0 - IntKind.u64.wrap n) = n.natAbs) ∧ (¬ n < 0 → IntKind.u64.wrap n = n.natAbs) := by
  rw [u64, u64]
  omega
theorem mag_ok : SpecOK E0 46 sMag := specOK_of fun args r hs hp => by
  unfold sMag at hs
  split at hs
  · rename_i n
    injection hs with hs
    subst hs
    refine ⟨by kernel_rfl, rfl, ?_⟩
    by_cases h : n < 0
    · exact gives E0_ok (mag_0 n) (by simp [AllP, h]) (vi ((magv n hp).1 h))
    · exact gives E0_ok (mag_1 n) (by simp [AllP, h] <;> omega) (vi ((magv n hp).2 h))
  · cases hs
theorem rmag_ok : SpecOK E0 47 sMag := specOK_of fun args r hs hp => by
  unfold sMag at hs
  split at hs
  · rename_i n
    injection hs with hs
    subst hs
    refine ⟨by kernel_rfl, rfl, ?_⟩
    by_cases h : n < 0
    · exact gives E0_ok (rmag_0 n) (by simp [AllP, h]) (vi ((magv n hp).1 h))
    · exact gives E0_ok (rmag_1 n) (by simp [AllP, h] <;> omega) (vi ((magv n hp).2 h))
  · cases hs
theorem E1_ok : EOK E1 := ctx_ok (l := L1) (by
  unfold L1
  simp only [List.forall_mem_cons]
  exact ⟨bits_ok, rbits_ok, fun _ h => by cases h⟩)
theorem wrap_ok : SpecOK E0 9 sWrap := specOK_of (E := E1) fun args r hs _ => by
  unfold sWrap at hs
  split at hs
  · rename_i t n
    injection hs with hs
    subst hs
    refine ⟨by kernel_rfl, rfl, ?_⟩
    rcases tcases t with rfl | rfl | rfl | rfl | h
    · exact gives E1_ok (wrap_1 1 n) (by simp [AllP, b1]) (vi ((and1 n).trans (wrap1 n).symm))
    · exact gives E1_ok (wrap_2 2 n) (by simp [AllP, b2, w64]) (vi (sh n 56 (.inl rfl)))
    · exact gives E1_ok (wrap_2 3 n) (by simp [AllP, b3, w64]) (vi (sh n 32 (.inr (.inl rfl))))
    · exact gives E1_ok (wrap_2 4 n) (by simp [AllP, b4, w64]) (vi (sh n 0 (.inr (.inr rfl))))
    · exact gives E1_ok (wrap_0 t n) (by simp [AllP, other h]) (vi (wrap_other h n).symm)
  · cases hs
theorem uns_ok : SpecOK E0 10 sUns := specOK_of (E := E1) fun args r hs _ => by
  unfold sUns at hs
  split at hs
  · rename_i t n
    injection hs with hs
    subst hs
    refine ⟨by kernel_rfl, rfl, ?_⟩
    rcases tcases t with rfl | rfl | rfl | rfl | h
    · exact gives E1_ok (uns_1 1 n) (by simp [AllP, b1, w64]) (vi (ush n 63 (.inl rfl)))
    · exact gives E1_ok (uns_1 2 n) (by simp [AllP, b2, w64]) (vi (ush n 56 (.inr (.inl rfl))))
    · exact gives E1_ok (uns_1 3 n) (by simp [AllP, b3, w64]) (vi (ush n 32 (.inr (.inr (.inl rfl)))))
    · exact gives E1_ok (uns_1 4 n) (by simp [AllP, b4, w64]) (vi (ush n 0 (.inr (.inr (.inr rfl)))))
    · exact gives E1_ok (uns_0 t n) (by simp [AllP, other h]) (vi (uns_other h n).symm)
  · cases hs
theorem tmod_pos (n m : Int) (hm : 0 < m) : (n % 18446744073709551616).tmod m = n % 18446744073709551616 % m := by
  rw [Int.tmod_eq_emod_of_nonneg (Int.emod_nonneg _ (by decide))]
theorem runs_ok : SpecOK E0 13 sUns := specOK_of (E := E1) fun args r hs _ => by
  unfold sUns at hs
  split at hs
  · rename_i t n
    injection hs with hs
    subst hs
    refine ⟨by kernel_rfl, rfl, ?_⟩
    rcases tcases t with rfl | rfl | rfl | rfl | h
    · exact gives E1_ok (runs_0 1 n) (by simp [AllP, b1]) (vi (by rw [u64, tmod_pos _ _ (by decide), u1]; omega))
    · exact gives E1_ok (runs_1 2 n) (by simp [AllP, b2]) (vi (by rw [u64, tmod_pos _ _ (by decide), u2]; omega))
    · exact gives E1_ok (runs_2 3 n) (by simp [AllP, b3]) (vi (by rw [u64, tmod_pos _ _ (by decide), u3]; omega))
    · exact gives E1_ok (runs_3 4 n) (by simp [AllP, b4]) (vi (by rw [u64, u4]))
    · exact gives E1_ok (runs_4 t n) (by simp [AllP, other h]) (vi (uns_other h n).symm)
  · cases hs
theorem rmin_ok : SpecOK E0 16 sMin := specOK_of (E := E1) fun args r hs _ => by
  unfold sMin at hs
  split at hs
  · rename_i t
    injection hs with hs
    subst hs
    refine ⟨by kernel_rfl, rfl, ?_⟩
    rcases tcases t with rfl | rfl | rfl | rfl | h
    · exact gives E1_ok (rmin_3 1) (by simp [AllP, b1]) rfl
    · exact gives E1_ok (rmin_0 2) (by simp [AllP, b2]) rfl
    · exact gives E1_ok (rmin_1 3) (by simp [AllP, b3]) rfl
    · exact gives E1_ok (rmin_2 4) (by simp [AllP, b4]) rfl
    · exact gives E1_ok (rmin_3 t) (by simp [AllP, other h]) (vi (by simp [minZ, other h]))
  · cases hs
theorem E2_ok : EOK E2 := ctx_ok (l := L2) (by
  unfold L2
  simp only [List.forall_mem_cons]
  exact ⟨bits_ok, rbits_ok, wrap_ok, uns_ok, runs_ok, fun _ h => by cases h⟩)
theorem rwrap_ok : SpecOK E0 12 sWrap := specOK_of (E := E2) fun args r hs _ => by
  unfold sWrap at hs
  split at hs
  · rename_i t n
    injection hs with hs
    subst hs
    refine ⟨by kernel_rfl, rfl, ?_⟩
    rcases tcases t with rfl | rfl | rfl | rfl | h
    · exact gives E2_ok (rwrap_4 1 n) (by simp [AllP, b1]) (vi (by rw [u1, w64, wrap1]; omega))
    · by_cases h : unsZ 2 n ≥ 128
      · exact gives E2_ok (rwrap_0 2 n) (by simp [AllP, b2, h] <;> omega) (vi (by rw [u2] at *; rw [w64, w64, wrap2]; omega))
      · exact gives E2_ok (rwrap_1 2 n) (by simp [AllP, b2, h] <;> omega) (vi (by rw [u2] at *; rw [w64, wrap2]; omega))
    · by_cases h : unsZ 3 n ≥ 2147483648
      · exact gives E2_ok (rwrap_2 3 n) (by simp [AllP, b3, h] <;> omega) (vi (by rw [u3] at *; rw [w64, w64, wrap3]; omega))
      · exact gives E2_ok (rwrap_3 3 n) (by simp [AllP, b3, h] <;> omega) (vi (by rw [u3] at *; rw [w64, wrap3]; omega))
    · exact gives E2_ok (rwrap_4 4 n) (by simp [AllP, b4]) (vi (by rw [u4, w64, wrap4]; omega))
    · exact gives E2_ok (rwrap_4 t n) (by simp [AllP, other h]) (vi (by rw [uns_other h, wrap_other h]; rfl))
  · cases hs
theorem E3_ok : EOK E3 := ctx_ok (l := L3) (by
  unfold L3
  simp only [List.forall_mem_cons]
  exact ⟨bits_ok, rbits_ok, wrap_ok, uns_ok, runs_ok, rwrap_ok, rmin_ok, mag_ok, rmag_ok, fun _ h => by cases h⟩)
end Burn.Intn

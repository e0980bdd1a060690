/- A part of the proofs over this program: an abstract machine that the kernel evaluates, its soundness, and what the functions compute (IntnLaws). -/
import Derived.Test.YthdkgphnleibmaaDoorAeIntnPaths3
namespace Burn.Intn
open Go Go.AE Go.Proofs
set_option maxRecDepth 100000
theorem wrap_sub (t n : Int) : ∃ k, wrapZ t n = n + mZ t * k := ⟨-((n + hZ t) / mZ t), by
  have := Int.emod_add_mul_ediv (n + hZ t) (mZ t)
  simp only [wrapZ, Int.mul_neg]
  omega⟩
theorem wrap_of {t x y : Int} (h : ∃ k, x = y + mZ t * k) : wrapZ t x = wrapZ t y := by
  obtain ⟨k, rfl⟩ := h
  simp only [wrapZ]
  rw [show y + mZ t * k + hZ t = y + hZ t + mZ t * k by omega, Int.add_mul_emod_self_left]
theorem wrap_idem (t n : Int) : wrapZ t (wrapZ t n) = wrapZ t n := wrap_of (wrap_sub t n)
theorem uns_wrap (t n : Int) : unsZ t (wrapZ t n) = unsZ t n := by
  obtain ⟨k, hk⟩ := wrap_sub t n
  simp only [unsZ, hk, Int.add_mul_emod_self_left]
theorem wrap_addl (t x y : Int) : wrapZ t (wrapZ t x + y) = wrapZ t (x + y) := by
  obtain ⟨k, hk⟩ := wrap_sub t x
  exact wrap_of ⟨k, by omega⟩
theorem wrap_addr (t x y : Int) : wrapZ t (x + wrapZ t y) = wrapZ t (x + y) := by
  obtain ⟨k, hk⟩ := wrap_sub t y
  exact wrap_of ⟨k, by omega⟩
theorem wrap_subl (t x y : Int) : wrapZ t (wrapZ t x - y) = wrapZ t (x - y) := by
  obtain ⟨k, hk⟩ := wrap_sub t x
  exact wrap_of ⟨k, by omega⟩
theorem wrap_mull (t x y : Int) : wrapZ t (wrapZ t x * y) = wrapZ t (x * y) := by
  obtain ⟨k, hk⟩ := wrap_sub t x
  exact wrap_of ⟨k * y, by rw [hk, Int.add_mul, Int.mul_assoc]⟩
theorem vt {b : Bool} (h : b = true) : AV.val (.bool b) = abool true := h ▸ rfl
theorem awake_ok : SpecOK E0 15 sAwake := specOK_of (E := E5) fun args r hs _ => by
  unfold sAwake at hs
  split at hs
  · injection hs with hs
    subst hs
    exact ⟨by kernel_rfl, rfl, gives E5_ok awake_0 (by simp only [AllP]; decide) rfl⟩
  · cases hs
theorem E6_ok : EOK E6 := ctx_ok (l := L6) (by
  unfold L6 L5 L4
  simp only [List.forall_mem_cons]
  exact ⟨awake_ok, ult_ok, rult_ok, zext_ok, rzext_ok, shl_ok, lshr_ok, ashr_ok, add_ok, radd_ok, sub_ok, rsub_ok, mul_ok, rmul_ok, sdiv_ok, srem_ok, rsdiv_ok, rsrem_ok, bits_ok, rbits_ok, wrap_ok, uns_ok, runs_ok, rwrap_ok, rmin_ok, mag_ok, rmag_ok, rmax_ok, mul64_ok, fit_ok, fun _ h => by cases h⟩)
theorem law_wraps (t n : Int) : Gives E6 (AE.start E6 3 [aint .i64 t, aint .i64 n]) (abool true) := by
  have hr := wr t n
  exact gives E6_ok (wraps_0 t n) (by simp [AllP, wrap_idem, uns_wrap, hr.1]) (vt (by simp [hr.2]))
theorem uns_lt (t a b : Int) : (unsZ t a = unsZ t b ↔ wrapZ t a = wrapZ t b) := by
  rcases tcases t with rfl | rfl | rfl | rfl | h
  · rw [u1, u1, wrap1, wrap1]
  · rw [u2, u2, wrap2, wrap2]; omega
  · rw [u3, u3, wrap3, wrap3]; omega
  · rw [u4, u4, wrap4, wrap4]; omega
  · rw [uns_other h, uns_other h, wrap_other h, wrap_other h]
theorem law_compares (t u a b : Int) : Gives E6 (AE.start E6 4 [.agg [aint .i64 t, aint .i64 u], aint .i64 a, aint .i64 b]) (abool true) := by
  have he := uns_lt t a b
  by_cases h1 : unsZ t a < unsZ t b
  · have h2 : ¬ unsZ t b < unsZ t a := by omega
    exact gives E6_ok (compares_1 t u a b) (by simp [AllP, h1, h2] <;> omega) (vt (by
      have : wrapZ t a ≠ wrapZ t b := fun h => by have := he.2 h; omega
      simp [w64, this]))
  · by_cases h2 : unsZ t b < unsZ t a
    · exact gives E6_ok (compares_2 t u a b) (by simp [AllP, h1, h2] <;> omega) (vt (by
        have : wrapZ t a ≠ wrapZ t b := fun h => by have := he.2 h; omega
        simp [w64, this]))
    · exact gives E6_ok (compares_3 t u a b) (by simp [AllP, h1, h2] <;> omega) (vt (by
        have : wrapZ t a = wrapZ t b := he.1 (by omega)
        simp [this]))
theorem law_sums (t a b : Int) : Gives E6 (AE.start E6 6 [aint .i64 t, aint .i64 a, aint .i64 b]) (abool true) :=
  gives E6_ok (sums_4 t a b) (by simp [AllP, wrap_idem]) (vt (by simp [wrap_idem]))
theorem law_ring (t a b c : Int) : Gives E6 (AE.start E6 7 [aint .i64 t, .agg [aint .i64 a, aint .i64 b, aint .i64 c]]) (abool true) :=
  gives E6_ok (ring_0 t a b c) (by
    have h1 : wrapZ t b + wrapZ t a = wrapZ t a + wrapZ t b := Int.add_comm _ _
    have h2 : wrapZ t b * wrapZ t a = wrapZ t a * wrapZ t b := Int.mul_comm _ _
    simp [AllP, h1, h2, wrap_idem, wrap_subl, Int.add_sub_cancel]) (vt (by
    simp [wrap_idem, wrap_addl, wrap_addr, wrap_mull, Int.add_mul]))
theorem law_divides (t a b : Int) : Gives E6 (AE.start E6 8 [aint .i64 t, aint .i64 a, aint .i64 b]) (abool true) := by
  by_cases h : wrapZ t b = 0
  · exact gives E6_ok (divides_1 t a b) (by simp [AllP, h]) rfl
  · exact gives E6_ok (divides_2 t a b) (by simp [AllP, h]) (vt (by
      simp only [if_neg h, wrap_idem, wrap_mull, wrap_addl, wrap_addr, beq_iff_eq]
      rw [Int.mul_comm, Int.mul_tdiv_add_tmod, wrap_idem]))
end Burn.Intn

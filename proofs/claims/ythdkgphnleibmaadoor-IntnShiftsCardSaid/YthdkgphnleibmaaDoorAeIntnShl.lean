/- A part of the proofs over this program: an abstract machine that the kernel evaluates, its soundness, and what the functions compute (IntnShl). -/
import Derived.Test.YthdkgphnleibmaaDoorAeIntnShDefs
import Derived.Test.YthdkgphnleibmaaDoorAeIntnLaws
namespace Burn.Intn
open Go Go.AE Go.Proofs
set_option maxRecDepth 100000
theorem rshl_0 (t a b : Int) : apr E4 5000 [true, true] (AE.start E4 23 [aint .i64 t, aint .i64 a, aint .i64 b]) = some ([True, True, decide (unsZ t b ≥ IntKind.u64.wrap (bitsZ t)) = true, (!false) = true], AV.tup [AV.val (.int .i64 0), AV.val (.bool false)]) := by kernel_rfl
theorem rshl_1 (t a b : Int) : apl E4 5000 [false, false] [0, 8, 10, 11] [] 0 (AE.start E4 23 [aint .i64 t, aint .i64 a, aint .i64 b]) = some ([True, True, decide (unsZ t b ≥ IntKind.u64.wrap (bitsZ t)) = false, (!true) = false, True], shlL t (IntKind.i64.wrap (unsZ t b)) (unsZ t a) 0) := by kernel_rfl
theorem rshl_2 (t k u i : Int) : apl E4 5000 [true] [0, 8, 10, 11] [] 0 (shlL t k u i) = some ([decide (i < k) = true], shlL t k (IntKind.u64.wrap (u * 2)) (IntKind.i64.wrap (i + 1))) := by kernel_rfl
theorem rshl_3 (t k u i : Int) : apr E4 5000 [false] (shlL t k u i) = some ([decide (i < k) = false, True], AV.tup [AV.val (.int .i64 (wrapZ t (IntKind.i64.wrap u))), AV.val (.bool true)]) := by kernel_rfl
theorem rlshr_0 (t a b : Int) : apr E4 5000 [true, true] (AE.start E4 25 [aint .i64 t, aint .i64 a, aint .i64 b]) = some ([True, True, decide (unsZ t b ≥ IntKind.u64.wrap (bitsZ t)) = true, (!false) = true], AV.tup [AV.val (.int .i64 0), AV.val (.bool false)]) := by kernel_rfl
theorem rlshr_1 (t a b : Int) : apl E4 5000 [false, false] [0, 8, 10, 11] [] 0 (AE.start E4 25 [aint .i64 t, aint .i64 a, aint .i64 b]) = some ([True, True, decide (unsZ t b ≥ IntKind.u64.wrap (bitsZ t)) = false, (!true) = false, True], lshrL t (IntKind.i64.wrap (unsZ t b)) (unsZ t a) 0) := by kernel_rfl
theorem rlshr_2 (t k u i : Int) : apl E4 5000 [true] [0, 8, 10, 11] [] 0 (lshrL t k u i) = some ([decide (i < k) = true, (2 : Int) ≠ 0], lshrL t k (IntKind.u64.wrap (u.tdiv 2)) (IntKind.i64.wrap (i + 1))) := by kernel_rfl
theorem rlshr_3 (t k u i : Int) : apr E4 5000 [false] (lshrL t k u i) = some ([decide (i < k) = false, True], AV.tup [AV.val (.int .i64 (wrapZ t (IntKind.i64.wrap u))), AV.val (.bool true)]) := by kernel_rfl
theorem rashr_0 (t a b : Int) : apr E4 5000 [true, true] (AE.start E4 27 [aint .i64 t, aint .i64 a, aint .i64 b]) = some ([True, True, decide (unsZ t b ≥ IntKind.u64.wrap (bitsZ t)) = true, (!false) = true], AV.tup [AV.val (.int .i64 0), AV.val (.bool false)]) := by kernel_rfl
theorem rashr_1 (t a b : Int) : apl E4 5000 [false, false] [0, 1, 8, 10] [] 0 (AE.start E4 27 [aint .i64 t, aint .i64 a, aint .i64 b]) = some ([True, True, decide (unsZ t b ≥ IntKind.u64.wrap (bitsZ t)) = false, (!true) = false, True], ashrL t (IntKind.i64.wrap (unsZ t b)) (wrapZ t a) 0) := by kernel_rfl
theorem rashr_2 (t k u i : Int) : apl E4 5000 [true, true] [0, 1, 8, 10] [] 0 (ashrL t k u i) = some ([decide (i < k) = true, decide (u < 0) = true, (2 : Int) ≠ 0], ashrL t k (IntKind.i64.wrap (-1 - IntKind.i64.wrap ((IntKind.i64.wrap (-1 - u)).tdiv 2))) (IntKind.i64.wrap (i + 1))) := by kernel_rfl
theorem rashr_3 (t k u i : Int) : apl E4 5000 [true, false] [0, 1, 8, 10] [] 0 (ashrL t k u i) = some ([decide (i < k) = true, decide (u < 0) = false, (2 : Int) ≠ 0], ashrL t k (IntKind.i64.wrap (u.tdiv 2)) (IntKind.i64.wrap (i + 1))) := by kernel_rfl
theorem rashr_4 (t k u i : Int) : apr E4 5000 [false] (ashrL t k u i) = some ([decide (i < k) = false], AV.tup [AV.val (.int .i64 u), AV.val (.bool true)]) := by kernel_rfl

theorem uns_mul (t x y : Int) : wrapZ t (unsZ t x * y) = wrapZ t (x * y) := wrap_of ⟨-(x / mZ t) * y, by
  have := Int.emod_add_mul_ediv x (mZ t)
  have e : unsZ t x = x + mZ t * -(x / mZ t) := by simp only [unsZ, Int.mul_neg]; omega
  rw [e, Int.add_mul, Int.mul_assoc]⟩
theorem u64_mul (t x y : Int) : wrapZ t (IntKind.u64.wrap x * y) = wrapZ t (x * y) := by
  rw [← wrap_mull, wrap_u64, wrap_mull]
theorem toNat_succ {k i : Int} (h : i < k) : (k - i).toNat = (k - (i + 1)).toNat + 1 := by omega
theorem i64s {k i : Int} (h0 : 0 ≤ i) (h : i < k) (hk : k ≤ 64) : IntKind.i64.wrap (i + 1) = i + 1 := by rw [w64]; omega
theorem shl_loop (t k : Int) (hk : k ≤ 64) : ∀ (n : Nat) (u i : Int), (k - i).toNat = n → 0 ≤ i → i ≤ k → Gives E4 (shlL t k u i) (.tup [aint .i64 (wrapZ t (u * 2 ^ n)), abool true])
  | 0, u, i, hn, h0, hi => gives E4_ok (rshl_3 t k u i) (by simp [AllP]; omega) (ti (by rw [wrap_w64]; simp) rfl)
  | n + 1, u, i, hn, h0, hi => by
    have hlt : i < k := by omega
    refine Reach.gives (Reach.apl E4_ok (rshl_2 t k u i) (by simp [AllP, hlt])) ?_
    rw [i64s h0 hlt hk]
    have := shl_loop t k hk n (IntKind.u64.wrap (u * 2)) (i + 1) (by omega) (by omega) (by omega)
    rw [u64_mul, Int.mul_assoc, show (2 : Int) * 2 ^ n = 2 ^ (n + 1) by rw [Int.pow_succ, Int.mul_comm]] at this
    exact this
theorem lshr_loop (t k : Int) (hk : k ≤ 64) : ∀ (n : Nat) (u i : Int), (k - i).toNat = n → 0 ≤ i → i ≤ k → 0 ≤ u → u < 18446744073709551616 → Gives E4 (lshrL t k u i) (.tup [aint .i64 (wrapZ t (u / 2 ^ n)), abool true])
  | 0, u, i, hn, h0, hi, hu, hu2 => gives E4_ok (rlshr_3 t k u i) (by simp [AllP]; omega) (ti (by rw [wrap_w64]; simp) rfl)
  | n + 1, u, i, hn, h0, hi, hu, hu2 => by
    have hlt : i < k := by omega
    refine Reach.gives (Reach.apl E4_ok (rlshr_2 t k u i) (by simp [AllP, hlt])) ?_
    have e : IntKind.u64.wrap (u.tdiv 2) = u / 2 := by rw [Int.tdiv_eq_ediv_of_nonneg hu, u64]; omega
    rw [i64s h0 hlt hk, e]
    have := lshr_loop t k hk n (u / 2) (i + 1) (by omega) (by omega) (by omega) (by omega) (by omega)
    rw [Int.ediv_ediv_of_nonneg (by decide), show (2 : Int) * 2 ^ n = 2 ^ (n + 1) by rw [Int.pow_succ, Int.mul_comm]] at this
    exact this
theorem ashr_loop (t k : Int) (hk : k ≤ 64) : ∀ (n : Nat) (u i : Int), (k - i).toNat = n → 0 ≤ i → i ≤ k → -9223372036854775808 ≤ u → u ≤ 9223372036854775807 → Gives E4 (ashrL t k u i) (.tup [aint .i64 (u / 2 ^ n), abool true])
  | 0, u, i, hn, h0, hi, hu, hu2 => gives E4_ok (rashr_4 t k u i) (by simp [AllP]; omega) (ti (by simp) rfl)
  | n + 1, u, i, hn, h0, hi, hu, hu2 => by
    have hlt : i < k := by omega
    have this := ashr_loop t k hk n (u / 2) (i + 1) (by omega) (by omega) (by omega) (by omega) (by omega)
    rw [Int.ediv_ediv_of_nonneg (by decide), show (2 : Int) * 2 ^ n = 2 ^ (n + 1) by rw [Int.pow_succ, Int.mul_comm]] at this
    by_cases hneg : u < 0
    · refine Reach.gives (Reach.apl E4_ok (rashr_2 t k u i) (by simp [AllP, hlt, hneg])) ?_
      have e1 : IntKind.i64.wrap (-1 - u) = -1 - u := by rw [w64]; omega
      have e2 : IntKind.i64.wrap ((-1 - u).tdiv 2) = (-1 - u) / 2 := by rw [Int.tdiv_eq_ediv_of_nonneg (by omega), w64]; omega
      have e3 : IntKind.i64.wrap (-1 - (-1 - u) / 2) = u / 2 := by rw [w64]; omega
      rw [i64s h0 hlt hk, e1, e2, e3]
      exact this
    · refine Reach.gives (Reach.apl E4_ok (rashr_3 t k u i) (by simp [AllP, hlt, hneg] <;> omega)) ?_
      have e2 : IntKind.i64.wrap (u.tdiv 2) = u / 2 := by rw [Int.tdiv_eq_ediv_of_nonneg (by omega), w64]; omega
      rw [i64s h0 hlt hk, e2]
      exact this
theorem uns64 (t n : Int) : unsZ t n < 18446744073709551616 := by
  rcases tcases t with rfl | rfl | rfl | rfl | h
  · rw [u1]; omega
  · rw [u2]; omega
  · rw [u3]; omega
  · rw [u4]; omega
  · rw [uns_other h]; omega
theorem rshl_ok : SpecOK E0 23 sShl := specOK_of (E := E4) fun args r hs _ => by
  unfold sShl at hs
  split at hs
  · rename_i t a n
    injection hs with hs
    subst hs
    refine ⟨by kernel_rfl, rfl, ?_⟩
    have hb := wbits t
    have hu := uns0 t n
    by_cases h : bitsZ t ≤ unsZ t n
    · exact gives E4_ok (rshl_0 t a n) (by simp [AllP, hb.1, h]) (ti (by rw [if_pos h]) (by simp; omega))
    · have e : IntKind.i64.wrap (unsZ t n) = unsZ t n := by rw [w64]; omega
      refine Reach.gives (Reach.apl E4_ok (rshl_1 t a n) (by simp [AllP, hb.1]; omega)) ?_
      rw [e]
      have := shl_loop t (unsZ t n) (by omega) (unsZ t n).toNat (unsZ t a) 0 (by simp) (by omega) hu
      rw [uns_mul] at this
      have e2 : (AV.tup [aint .i64 (wrapZ t (a * 2 ^ (unsZ t n).toNat)), abool true]) = shV t n (wrapZ t (a * 2 ^ (unsZ t n).toNat)) := ti (by rw [if_neg h]) (by simp; omega)
      exact e2 ▸ this
  · cases hs
theorem rlshr_ok : SpecOK E0 25 sLshr := specOK_of (E := E4) fun args r hs _ => by
  unfold sLshr at hs
  split at hs
  · rename_i t a n
    injection hs with hs
    subst hs
    refine ⟨by kernel_rfl, rfl, ?_⟩
    have hb := wbits t
    have hu := uns0 t n
    by_cases h : bitsZ t ≤ unsZ t n
    · exact gives E4_ok (rlshr_0 t a n) (by simp [AllP, hb.1, h]) (ti (by rw [if_pos h]) (by simp; omega))
    · have e : IntKind.i64.wrap (unsZ t n) = unsZ t n := by rw [w64]; omega
      refine Reach.gives (Reach.apl E4_ok (rlshr_1 t a n) (by simp [AllP, hb.1]; omega)) ?_
      rw [e]
      have := lshr_loop t (unsZ t n) (by omega) (unsZ t n).toNat (unsZ t a) 0 (by simp) (by omega) hu (uns0 t a) (uns64 t a)
      have e2 : (AV.tup [aint .i64 (wrapZ t (unsZ t a / 2 ^ (unsZ t n).toNat)), abool true]) = shV t n (wrapZ t (unsZ t a / 2 ^ (unsZ t n).toNat)) := ti (by rw [if_neg h]) (by simp; omega)
      exact e2 ▸ this
  · cases hs
theorem rashr_ok : SpecOK E0 27 sAshr := specOK_of (E := E4) fun args r hs _ => by
  unfold sAshr at hs
  split at hs
  · rename_i t a n
    injection hs with hs
    subst hs
    refine ⟨by kernel_rfl, rfl, ?_⟩
    have hb := wbits t
    have hu := uns0 t n
    by_cases h : bitsZ t ≤ unsZ t n
    · exact gives E4_ok (rashr_0 t a n) (by simp [AllP, hb.1, h]) (ti (by rw [if_pos h]) (by simp; omega))
    · have e : IntKind.i64.wrap (unsZ t n) = unsZ t n := by rw [w64]; omega
      refine Reach.gives (Reach.apl E4_ok (rashr_1 t a n) (by simp [AllP, hb.1]; omega)) ?_
      rw [e]
      have := ashr_loop t (unsZ t n) (by omega) (unsZ t n).toNat (wrapZ t a) 0 (by simp) (by omega) hu (wr64 t a).1 (wr64 t a).2
      have e2 : (AV.tup [aint .i64 (wrapZ t a / 2 ^ (unsZ t n).toNat), abool true]) = shV t n (wrapZ t a / 2 ^ (unsZ t n).toNat) := ti (by rw [if_neg h]) (by simp; omega)
      exact e2 ▸ this
  · cases hs
def L7 : List (FuncId × FSpec) := (23, sShl) :: (25, sLshr) :: (27, sAshr) :: L6
noncomputable def E7 : Ctx := ctx L7
theorem E7_ok : EOK E7 := ctx_ok (l := L7) (by
  unfold L7 L6 L5 L4
  simp only [List.forall_mem_cons]
  exact ⟨rshl_ok, rlshr_ok, rashr_ok, awake_ok, ult_ok, rult_ok, zext_ok, rzext_ok, shl_ok, lshr_ok, ashr_ok, add_ok, radd_ok, sub_ok, rsub_ok, mul_ok, rmul_ok, sdiv_ok, srem_ok, rsdiv_ok, rsrem_ok, bits_ok, rbits_ok, wrap_ok, uns_ok, runs_ok, rwrap_ok, rmin_ok, mag_ok, rmag_ok, rmax_ok, mul64_ok, fit_ok, fun _ h => by cases h⟩)
end Burn.Intn

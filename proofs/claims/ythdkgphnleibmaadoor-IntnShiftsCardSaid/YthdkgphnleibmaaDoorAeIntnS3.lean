/- A part of the proofs over this program: an abstract machine that the kernel evaluates, its soundness, and what the functions compute (IntnS3). -/
import Derived.Test.YthdkgphnleibmaaDoorAeIntnS2
namespace Burn.Intn
open Go Go.AE Go.Proofs
set_option maxRecDepth 100000
theorem same_b (x y : Int) : (decide (x < 0) == decide (y < 0)) = decide (x < 0 ↔ y < 0) := by
  by_cases h1 : x < 0 <;> by_cases h2 : y < 0 <;> simp [h1, h2]
theorem zeroW {t : Int} (h : bitsZ t = 0) (n : Int) : wrapZ t n = 0 := wrap_other (bits0 h) n
theorem mul_ok : SpecOK E0 32 sMul := specOK_of (E := E4) fun args r hs _ => by
  unfold sMul at hs
  split at hs
  · rename_i t a b
    injection hs with hs
    subst hs
    refine ⟨by kernel_rfl, rfl, ?_⟩
    have ha := wr64 t a
    have hb := wr64 t b
    have hz : bitsZ t = 0 → wrapZ t a * wrapZ t b = 0 := fun h => by rw [zeroW h, zeroW h]; rfl
    have hm := mul_abs (a := wrapZ t a) (b := wrapZ t b)
    rw [Int.natCast_mul] at hm
    have hp := mul64b ha hb
    rw [Int.natCast_mul] at hp
    have hp0 : (0 : Int) ≤ ((wrapZ t a).natAbs : Int) * ((wrapZ t b).natAbs : Int) := Int.mul_nonneg (by omega) (by omega)
    by_cases hs : (wrapZ t a < 0 ↔ wrapZ t b < 0)
    · have hm := hm.2 hs
      by_cases hh : ((wrapZ t a).natAbs : Int) * ((wrapZ t b).natAbs : Int) / 18446744073709551616 = 0
      · refine gives E4_ok (mul_1 t a b) (by rw [same_b]; simp [AllP, w64, hs, hh, ha, hb]; omega) (ti (wrap_w64 _ _) (fit_eq ?_ hz))
        rw [hm, u64]
        apply decide_eq_decide.2
        generalize ((wrapZ t a).natAbs : Int) * ((wrapZ t b).natAbs : Int) = p at *
        omega
      · refine gives E4_ok (mul_0 t a b) (by rw [same_b]; simp [AllP, w64, hs, hh, ha, hb]; omega) (ti (wrap_w64 _ _) (fit_eq ?_ hz))
        rw [hm]
        symm
        rw [decide_eq_true_eq]
        generalize ((wrapZ t a).natAbs : Int) * ((wrapZ t b).natAbs : Int) = p at *
        omega
    · have hm := hm.1 hs
      by_cases hh : ((wrapZ t a).natAbs : Int) * ((wrapZ t b).natAbs : Int) / 18446744073709551616 = 0
      · refine gives E4_ok (mul_3 t a b) (by rw [same_b]; simp [AllP, w64, hs, hh, ha, hb]; omega) (ti (wrap_w64 _ _) (fit_eq ?_ hz))
        rw [hm]
        apply decide_eq_decide.2
        generalize ((wrapZ t a).natAbs : Int) * ((wrapZ t b).natAbs : Int) = p at *
        omega
      · refine gives E4_ok (mul_2 t a b) (by rw [same_b]; simp [AllP, w64, hs, hh, ha, hb]; omega) (ti (wrap_w64 _ _) (fit_eq ?_ hz))
        rw [hm]
        symm
        rw [decide_eq_true_eq]
        generalize ((wrapZ t a).natAbs : Int) * ((wrapZ t b).natAbs : Int) = p at *
        omega
  · cases hs
theorem radd_ok : SpecOK E0 29 sAdd := specOK_of (E := E4) fun args r hs _ => by
  unfold sAdd at hs
  split at hs
  · rename_i t a b
    injection hs with hs
    subst hs
    refine ⟨by kernel_rfl, rfl, ?_⟩
    have hm := minmax t
    have ha := wr t a
    have hb := wr t b
    have w1 : 0 ≤ wrapZ t b → IntKind.i64.wrap (maxZ t - wrapZ t b) = maxZ t - wrapZ t b := fun h => by rw [w64]; omega
    have w2 : wrapZ t b ≤ 0 → IntKind.i64.wrap (minZ t - wrapZ t b) = minZ t - wrapZ t b := fun h => by rw [w64]; omega
    by_cases hz : bitsZ t = 0
    · exact gives E4_ok (radd_0 t a b) (by simp [AllP, hz]) (ti (zeroW hz _).symm (by
        symm
        rw [decide_eq_false_iff_not, zeroW hz, zeroW hz]
        omega))
    · by_cases h1 : wrapZ t b > 0
      · have w1 := w1 (by omega)
        by_cases h2 : wrapZ t a > maxZ t - wrapZ t b
        · exact gives E4_ok (radd_1 t a b) (by simp [AllP, hz, h1, w1, h2]) (ti (wrap_w64 _ _) (by
            symm
            rw [decide_eq_true_eq]
            omega))
        · exact gives E4_ok (radd_3 t a b) (by simp [AllP, hz, h1, w1, h2]; omega) (ti (wrap_w64 _ _) (by
            symm
            rw [decide_eq_false_iff_not]
            omega))
      · have w2 := w2 (by omega)
        by_cases h2 : wrapZ t b < 0
        · exact gives E4_ok (radd_4 t a b) (by simp [AllP, hz, h1, h2] <;> omega) (ti (wrap_w64 _ _) (by
            rw [w2]
            apply decide_eq_decide.2
            omega))
        · exact gives E4_ok (radd_5 t a b) (by simp [AllP, hz, h1, h2] <;> omega) (ti (wrap_w64 _ _) (by
            symm
            rw [decide_eq_false_iff_not]
            omega))
  · cases hs
theorem rsub_ok : SpecOK E0 31 sSub := specOK_of (E := E4) fun args r hs _ => by
  unfold sSub at hs
  split at hs
  · rename_i t a b
    injection hs with hs
    subst hs
    refine ⟨by kernel_rfl, rfl, ?_⟩
    have hm := minmax t
    have ha := wr t a
    have hb := wr t b
    have w1 : 0 ≤ wrapZ t b → IntKind.i64.wrap (minZ t + wrapZ t b) = minZ t + wrapZ t b := fun h => by rw [w64]; omega
    have w2 : wrapZ t b ≤ 0 → IntKind.i64.wrap (maxZ t + wrapZ t b) = maxZ t + wrapZ t b := fun h => by rw [w64]; omega
    by_cases hz : bitsZ t = 0
    · exact gives E4_ok (rsub_0 t a b) (by simp [AllP, hz]) (ti (zeroW hz _).symm (by
        symm
        rw [decide_eq_false_iff_not, zeroW hz, zeroW hz]
        omega))
    · by_cases h1 : wrapZ t b > 0
      · have w1 := w1 (by omega)
        by_cases h2 : wrapZ t a < minZ t + wrapZ t b
        · exact gives E4_ok (rsub_1 t a b) (by simp [AllP, hz, h1, w1, h2]) (ti (wrap_w64 _ _) (by
            symm
            rw [decide_eq_true_eq]
            omega))
        · exact gives E4_ok (rsub_3 t a b) (by simp [AllP, hz, h1, w1, h2]; omega) (ti (wrap_w64 _ _) (by
            symm
            rw [decide_eq_false_iff_not]
            omega))
      · have w2 := w2 (by omega)
        by_cases h2 : wrapZ t b < 0
        · exact gives E4_ok (rsub_4 t a b) (by simp [AllP, hz, h1, h2] <;> omega) (ti (wrap_w64 _ _) (by
            rw [w2]
            apply decide_eq_decide.2
            omega))
        · exact gives E4_ok (rsub_5 t a b) (by simp [AllP, hz, h1, h2] <;> omega) (ti (wrap_w64 _ _) (by
            symm
            rw [decide_eq_false_iff_not]
            omega))
  · cases hs
theorem over_div (x y m : Int) (hx : 0 ≤ x) (hy : 0 < y) (hm : 0 ≤ m) (hm2 : m ≤ 9223372036854775808) : decide (x > IntKind.u64.wrap (m.tdiv y)) = decide (m < x * y) := by
  have h1 : m.tdiv y = m / y := Int.tdiv_eq_ediv_of_nonneg hm
  have h2 : 0 ≤ m / y := Int.ediv_nonneg hm (Int.le_of_lt hy)
  have h3 : m / y ≤ m := Int.ediv_le_self _ hm
  rw [h1, u64, Int.emod_eq_of_lt h2 (by omega)]
  apply decide_eq_decide.2
  exact Int.ediv_lt_iff_lt_mul hy
theorem rmul_ok : SpecOK E0 33 sMul := specOK_of (E := E4) fun args r hs _ => by
  unfold sMul at hs
  split at hs
  · rename_i t a b
    injection hs with hs
    subst hs
    refine ⟨by kernel_rfl, rfl, ?_⟩
    have hmm := minmax t
    have ha := wr64 t a
    have hb := wr64 t b
    have hm := mul_abs (a := wrapZ t a) (b := wrapZ t b)
    rw [Int.natCast_mul] at hm
    have zero : wrapZ t a * wrapZ t b = 0 → (AV.tup [AV.val (.int .i64 0), AV.val (.bool false)] = fitV t (wrapZ t a * wrapZ t b)) := fun h => by
      rw [h]
      exact ti (wrap_id (by omega) (by omega)).symm (by
        symm
        rw [decide_eq_false_iff_not]
        omega)
    by_cases hz : bitsZ t = 0
    · exact gives E4_ok (rmul_0 t a b) (by simp [AllP, hz]) (zero (by rw [zeroW hz, Int.zero_mul]))
    · by_cases h1 : wrapZ t a = 0
      · exact gives E4_ok (rmul_1 t a b) (by simp [AllP, hz, h1]) (zero (by rw [h1, Int.zero_mul]))
      · by_cases h2 : wrapZ t b = 0
        · exact gives E4_ok (rmul_2 t a b) (by simp [AllP, hz, h1, h2]) (zero (by rw [h2, Int.mul_zero]))
        · by_cases hs : (wrapZ t a < 0 ↔ wrapZ t b < 0)
          · refine gives E4_ok (rmul_4 t a b) (by rw [same_b]; simp [AllP, hz, h1, h2, hs, ha, hb, hmm]; omega) (ti (wrap_w64 _ _) ?_)
            rw [over_div _ _ _ (by omega) (by omega) (by omega) (by omega), hm.2 hs]
            apply decide_eq_decide.2
            have hp0 : (0 : Int) ≤ ((wrapZ t a).natAbs : Int) * ((wrapZ t b).natAbs : Int) := Int.mul_nonneg (by omega) (by omega)
            generalize ((wrapZ t a).natAbs : Int) * ((wrapZ t b).natAbs : Int) = p at *
            omega
          · refine gives E4_ok (rmul_3 t a b) (by rw [same_b]; simp [AllP, hz, h1, h2, hs, ha, hb, hmm]; omega) (ti (wrap_w64 _ _) ?_)
            rw [over_div _ _ _ (by omega) (by omega) (by omega) (by omega), hm.1 hs]
            apply decide_eq_decide.2
            have hp0 : (0 : Int) ≤ ((wrapZ t a).natAbs : Int) * ((wrapZ t b).natAbs : Int) := Int.mul_nonneg (by omega) (by omega)
            generalize ((wrapZ t a).natAbs : Int) * ((wrapZ t b).natAbs : Int) = p at *
            omega
  · cases hs
theorem wrap_u64 (t s : Int) : wrapZ t (IntKind.u64.wrap s) = wrapZ t s := by
  rw [u64]
  rcases tcases t with rfl | rfl | rfl | rfl | h
  · rw [wrap1, wrap1]; omega
  · rw [wrap2, wrap2]; omega
  · rw [wrap3, wrap3]; omega
  · rw [wrap4, wrap4]; omega
  · rw [wrap_other h, wrap_other h]
theorem wrap_neg_u64 (t s : Int) : wrapZ t (0 - IntKind.u64.wrap s) = wrapZ t (-s) := by
  rw [u64]
  rcases tcases t with rfl | rfl | rfl | rfl | h
  · rw [wrap1, wrap1]; omega
  · rw [wrap2, wrap2]; omega
  · rw [wrap3, wrap3]; omega
  · rw [wrap4, wrap4]; omega
  · rw [wrap_other h, wrap_other h]
theorem tdiv_abs (a b : Int) : ((a < 0 ↔ b < 0) → a.tdiv b = (a.natAbs : Int).tdiv (b.natAbs : Int)) ∧ (¬ (a < 0 ↔ b < 0) → a.tdiv b = -((a.natAbs : Int).tdiv (b.natAbs : Int))) := by
  have h1 : (a.natAbs : Int) = if a < 0 then -a else a := by split <;> omega
  have h2 : (b.natAbs : Int) = if b < 0 then -b else b := by split <;> omega
  rw [h1, h2]
  by_cases ha : a < 0 <;> by_cases hb : b < 0 <;> simp [ha, hb, Int.neg_tdiv, Int.tdiv_neg]
theorem tmod_abs (a b : Int) : (¬ a < 0 → a.tmod b = (a.natAbs : Int).tmod (b.natAbs : Int)) ∧ (a < 0 → a.tmod b = -((a.natAbs : Int).tmod (b.natAbs : Int))) := by
  have h1 : (a.natAbs : Int) = if a < 0 then -a else a := by split <;> omega
  have h2 : (b.natAbs : Int) = if b < 0 then -b else b := by split <;> omega
  rw [h1, h2]
  by_cases ha : a < 0 <;> by_cases hb : b < 0 <;> simp [ha, hb, Int.neg_tmod, Int.tmod_neg]
theorem sdiv_ok : SpecOK E0 34 sDiv := specOK_of (E := E4) fun args r hs _ => by
  unfold sDiv at hs
  split at hs
  · rename_i t a b
    injection hs with hs
    subst hs
    refine ⟨by kernel_rfl, rfl, ?_⟩
    by_cases h : wrapZ t b = 0
    · exact gives E4_ok (sdiv_0 t a b) (by simp [AllP, w64, h]) (ti (by rw [if_pos h]) (by simp [h]))
    · exact gives E4_ok (sdiv_1 t a b) (by simp [AllP, w64, h]) (ti (by rw [if_neg h, wrap_w64]) (by simp [h]))
  · cases hs
theorem srem_ok : SpecOK E0 35 sRem := specOK_of (E := E4) fun args r hs _ => by
  unfold sRem at hs
  split at hs
  · rename_i t a b
    injection hs with hs
    subst hs
    refine ⟨by kernel_rfl, rfl, ?_⟩
    by_cases h : wrapZ t b = 0
    · exact gives E4_ok (srem_0 t a b) (by simp [AllP, w64, h]) (ti (by rw [if_pos h]) (by simp [h]))
    · exact gives E4_ok (srem_1 t a b) (by simp [AllP, w64, h]) (ti (by rw [if_neg h]) (by simp [h]))
  · cases hs
theorem rsdiv_ok : SpecOK E0 36 sDiv := specOK_of (E := E4) fun args r hs _ => by
  unfold sDiv at hs
  split at hs
  · rename_i t a b
    injection hs with hs
    subst hs
    refine ⟨by kernel_rfl, rfl, ?_⟩
    have ha := wr64 t a
    have hb := wr64 t b
    have hd := tdiv_abs (wrapZ t a) (wrapZ t b)
    by_cases h : wrapZ t b = 0
    · exact gives E4_ok (rsdiv_0 t a b) (by simp [AllP, h]) (ti (by rw [if_pos h]) (by simp [h]))
    · by_cases hs : (wrapZ t a < 0 ↔ wrapZ t b < 0)
      · exact gives E4_ok (rsdiv_2 t a b) (by rw [same_b]; simp [AllP, h, hs, ha, hb]) (ti (by rw [if_neg h, wrap_w64, wrap_u64, hd.1 hs]) (by simp [h]))
      · exact gives E4_ok (rsdiv_1 t a b) (by rw [same_b]; simp [AllP, h, hs, ha, hb]) (ti (by rw [if_neg h, wrap_w64, wrap_u64, wrap_neg_u64, hd.2 hs]) (by simp [h]))
  · cases hs
theorem rsrem_ok : SpecOK E0 37 sRem := specOK_of (E := E4) fun args r hs _ => by
  unfold sRem at hs
  split at hs
  · rename_i t a b
    injection hs with hs
    subst hs
    refine ⟨by kernel_rfl, rfl, ?_⟩
    have ha := wr64 t a
    have hb := wr64 t b
    have hd := tmod_abs (wrapZ t a) (wrapZ t b)
    by_cases h : wrapZ t b = 0
    · exact gives E4_ok (rsrem_0 t a b) (by simp [AllP, h]) (ti (by rw [if_pos h]) (by simp [h]))
    · by_cases hs : wrapZ t a < 0
      · exact gives E4_ok (rsrem_1 t a b) (by simp [AllP, h, hs, ha, hb]) (ti (by rw [if_neg h, wrap_w64, wrap_u64, Int.zero_sub, hd.2 hs]) (by simp [h]))
      · exact gives E4_ok (rsrem_2 t a b) (by simp [AllP, h, hs, ha, hb] <;> omega) (ti (by rw [if_neg h, wrap_w64, hd.1 hs]) (by simp [h]))
  · cases hs
end Burn.Intn

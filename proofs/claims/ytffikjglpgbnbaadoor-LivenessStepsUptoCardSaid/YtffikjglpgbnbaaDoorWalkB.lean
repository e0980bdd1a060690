/- What the functions that the law reaches compute, one contract each. No conditions beyond those written. -/
import Derived.Test.YtffikjglpgbnbaaDoorWalkA
namespace Burn.M21
open Go Go.BE Go.Proofs
set_option maxRecDepth 100000
set_option linter.unusedVariables false
set_option linter.unusedSimpArgs false
open Burn.Cfg
open Burn.Bit
noncomputable abbrev E_B15 : Ctx := ctx L_B14 LI_B14
theorem E_B15_ok : EOK E_B15 := ctx_ok L_B14_ok LI_B14_ok
def cuts_B15 : CutL := [([], 9, 0, [1, 3, 14, 15], [], []),
 ([], 9, 2, [1, 3, 5], [], []),
 ([], 9, 4, [1, 3, 5, 28, 29], [], []),
 ([], 9, 6, [1, 3, 5, 6, 7, 28, 29, 37, 38], [], [])]
def rets_B15 : FuncId → List (Option Fx)
 | 9 => [some (.dat (.sl 24 (.sl 1 .bool)))]
 | _ => []
def H_B15 : Hints := { cut := cutOf cuts_B15, ret := rets_B15 }
noncomputable def r21_In_L0 (f : Den qad) (t14 : Int) (t15 : Int) (live : List (Den (.sl 1 .bool))) : Cfg := hcfg E_B15 qdu 0 [(1, (.rtp qad f)), (3, (.osl 0 0 [] none)), (14, (vi t14)), (15, (vi t15))] [(0, ⟨(.arr 1 24 (.sl 1 .bool) live), 0, [], false, none⟩)] 1
noncomputable def r21_In_L2 (f : Den qad) (changed : Bool) (live : List (Den (.sl 1 .bool))) : Cfg := hcfg E_B15 qdu 2 [(1, (.rtp qad f)), (3, (.osl 0 0 [] none)), (5, (vb changed))] [(0, ⟨(.arr 1 24 (.sl 1 .bool) live), 0, [], false, none⟩)] 1
noncomputable def r21_In_L4 (f : Den qad) (changed : Bool) (t28 : Int) (t29 : Int) (live : List (Den (.sl 1 .bool))) : Cfg := hcfg E_B15 qdu 4 [(1, (.rtp qad f)), (3, (.osl 0 0 [] none)), (5, (vb changed)), (28, (vi t28)), (29, (vi t29))] [(0, ⟨(.arr 1 24 (.sl 1 .bool) live), 0, [], false, none⟩)] 1
noncomputable def r21_In_L6 (f : Den qad) (changed : Bool) (b : Int) (t28 : Int) (t29 : Int) (t37 : Int) (t38 : Int) (live : List (Den (.sl 1 .bool))) (l : List (Den .bool)) : Cfg := hcfg E_B15 qdu 6 [(1, (.rtp qad f)), (3, (.osl 0 0 [] none)), (5, (vb changed)), (6, (vi b)), (7, (.osl 1 1 [] none)), (28, (vi t28)), (29, (vi t29)), (37, (vi t37)), (38, (vi t38))] [(0, ⟨(.arr 1 24 (.sl 1 .bool) live), 0, [], false, none⟩), (1, ⟨(.arr 0 1 .bool l), 1, [], false, none⟩)] 2
theorem r21_In_t (f : Den qad) : run E_B15 H_B15 qdu 3000 (start E_B15 qdu [(.tv qad f)]) = (.chk (((ln qab f.2.2.2.2.1) : Int) = ((ln qab f.2.2.2.2.1) : Int)) (.chk (0 ≤ ((ln qab f.2.2.2.2.1) : Int)) (.chk ((ln qab f.2.2.2.2.1) * 24 ≤ roomB) (hd (r21_In_L0 f ((ln (.sl 1 .bool) (List.replicate (ln qab f.2.2.2.2.1) (dz (.sl 1 .bool)))) : Int) (0 : Int) (List.replicate (ln qab f.2.2.2.2.1) (dz (.sl 1 .bool)))))))) := by kernel_rfl
theorem r21_In_L0_t (f : Den qad) (t14 : Int) (t15 : Int) (live : List (Den (.sl 1 .bool))) : run E_B15 H_B15 qdu 3000 (r21_In_L0 f t14 t15 live) = (cond (decide (t15 < t14)) (.chk (((ln I f.2.2.2.1) : Int) = ((ln I f.2.2.2.1) : Int)) (.chk (0 ≤ ((ln I f.2.2.2.1) : Int)) (.chk ((ln I f.2.2.2.1) * 1 ≤ roomB) (.chk (0 ≤ t15 ∧ t15 < (ln (.sl 1 .bool) live)) (.chk (t15.toNat < (ln (.sl 1 .bool) live)) (hd (r21_In_L0 f t14 (IntKind.wrap .i64 (t15 + (1 : Int))) (st (.sl 1 .bool) live t15.toNat (List.replicate (ln I f.2.2.2.1) (dz .bool)))))))))) (hd (r21_In_L2 f true live))) := by kernel_rfl
theorem r21_In_L2_t (f : Den qad) (changed : Bool) (live : List (Den (.sl 1 .bool))) : run E_B15 H_B15 qdu 3000 (r21_In_L2 f changed live) = (cond changed (hd (r21_In_L4 f false ((ln (.sl 1 .bool) live) : Int) (0 : Int) live)) (rt (.tv (.sl 24 (.sl 1 .bool)) live) [])) := by kernel_rfl
theorem r21_In_L4_t (f : Den qad) (changed : Bool) (t28 : Int) (t29 : Int) (live : List (Den (.sl 1 .bool))) : run E_B15 H_B15 qdu 3000 (r21_In_L4 f changed t28 t29 live) = (cond (decide (t29 < t28)) (.chk (qan f ∧ WL f live ∧ (0 ≤ z t29 ∧ z t29 < (nB f : Int)) ∧ -1 ≤ z (-1 : Int) ∧ z (-1 : Int) ≤ nIns f t29) (.know True (hd (r21_In_L6 f changed t29 t28 t29 ((ln .bool (qci f t29 (-1 : Int) live)) : Int) (0 : Int) live (qci f t29 (-1 : Int) live))))) (hd (r21_In_L2 f changed live))) := by kernel_rfl
theorem r21_In_L6_t (f : Den qad) (changed : Bool) (b : Int) (t28 : Int) (t29 : Int) (t37 : Int) (t38 : Int) (live : List (Den (.sl 1 .bool))) (l : List (Den .bool)) : run E_B15 H_B15 qdu 3000 (r21_In_L6 f changed b t28 t29 t37 t38 live l) = (cond (decide (t38 < t37)) (cond changed (hd (r21_In_L6 f true b t28 t29 t37 (IntKind.wrap .i64 (t38 + (1 : Int))) live l)) (.chk (0 ≤ t38 ∧ t38 < (ln .bool l)) (.chk (t38.toNat < (ln .bool l)) (.chk (0 ≤ b ∧ b < (ln (.sl 1 .bool) live)) (.chk (b.toNat < (ln (.sl 1 .bool) live)) (.chk (b.toNat < (ln (.sl 1 .bool) live)) (.chk (0 ≤ t38 ∧ t38 < (ln .bool (gd (.sl 1 .bool) live b.toNat))) (.chk (b.toNat < (ln (.sl 1 .bool) live)) (.chk (t38.toNat < (ln .bool (gd (.sl 1 .bool) live b.toNat))) (hd (r21_In_L6 f (!((bOf (gd .bool l t38.toNat)) == (bOf (gd .bool (gd (.sl 1 .bool) live b.toNat) t38.toNat)))) b t28 t29 t37 (IntKind.wrap .i64 (t38 + (1 : Int))) live l))))))))))) (.chk (0 ≤ b ∧ b < (ln (.sl 1 .bool) live)) (.chk (b.toNat < (ln (.sl 1 .bool) live)) (hd (r21_In_L4 f changed t28 (IntKind.wrap .i64 (t29 + (1 : Int))) (st (.sl 1 .bool) live b.toNat l)))))) := by kernel_rfl
def neqN (n : Nat) (l m : BL) : Bool := (List.range n).any (fun r => !(gb l r == gb m r))
def rStep (f : Fn) (live : BLL) (b : Nat) : BLL := st (.sl 1 .bool) live b (qci f (b : Int) (-1) live)
def rCh (f : Fn) (live : BLL) (b : Nat) : Bool := neqN (nR f) (qci f (b : Int) (-1) live) (gd (.sl 1 .bool) live b)
def rPass (f : Fn) : Nat → Nat → BLL → Bool → BLL × Bool
 | 0, _, live, c => (live, c)
 | n + 1, b, live, c => rPass f n (b + 1) (rStep f live b) (c || rCh f live b)
def fixR (f : Fn) : Nat → BLL → BLL
 | 0, live => live
 | k + 1, live => cond (rPass f (nB f) 0 live false).2 (fixR f k (rPass f (nB f) 0 live false).1) (rPass f (nB f) 0 live false).1
def live0 (f : Fn) : BLL := mapN (nB f) (fun _ => List.replicate (nR f) false)
def rIn (f : Fn) : BLL := fixR f (nB f * nR f + 1) (live0 f)
theorem step_mono {f : Fn} {p : Den qag} {P Q : Nat → Bool} (h : ∀ r, P r = true → Q r = true) (r : Nat) (hr : stepP f p P r = true) : stepP f p Q r = true := by
 unfold stepP at hr ⊢
 simp only [Bool.or_eq_true, Bool.and_eq_true] at hr ⊢
 rcases hr with hr | ⟨h1, h2⟩
 ·exact .inl hr
 ·exact .inr ⟨h r h1, h2⟩
theorem back_mono {f : Fn} {b : Int} : ∀ {n : Nat} {i : Int} {P Q : Nat → Bool}, (∀ r, P r = true → Q r = true) → ∀ r, backP f b n i P r = true → backP f b n i Q r = true
 | 0, _, _, _, h => h
 | n + 1, i, P, Q, h => back_mono (n := n) (step_mono h)
theorem outQ_mono {f : Fn} {b : Int} {M N : Nat → Nat → Bool} (h : ∀ b r, M b r = true → N b r = true) (r : Nat) (hr : outQ f b M r = true) : outQ f b N r = true := by
 unfold outQ at hr ⊢
 rw [List.any_eq_true] at hr ⊢
 obtain ⟨e, h1, h2⟩ := hr
 refine ⟨e, h1, ?_⟩
 simp only [Bool.and_eq_true] at h2 ⊢
 exact ⟨h2.1, h _ _ h2.2⟩
theorem TP_mono {f : Fn} {b i : Int} {M N : Nat → Nat → Bool} (h : ∀ b r, M b r = true → N b r = true) (r : Nat) (hr : TP f M b i r = true) : TP f N b i r = true := back_mono (outQ_mono h) r hr
structure RL (f : Fn) (live : BLL) : Prop where
 w : WL f live
 up : ∀ b, b < nB f → ∀ r, mR live b r = true → TP f (mR live) b (-1) r = true
theorem mR_top {f : Fn} {live : BLL} (h : WL f live) {b r : Nat} (hb : b < nB f) (hm : mR live b r = true) : r < nR f := by
 refine Nat.lt_of_not_le fun hr => ?_
 have e : ln .bool (gd (.sl 1 .bool) live b) = nR f := h.row b hb
 have : mR live b r = false := by
  unfold mR gb
  show (gd (.sl 1 .bool) live b).getD r _ = false
  rw [List.getD_eq_getElem?_getD, List.getElem?_eq_none (by show ln .bool (gd (.sl 1 .bool) live b) ≤ r; omega)]
  rfl
 rw [this] at hm
 exact absurd hm (by decide)
theorem gd_st_ne {S : Sh} {l : List (Den S)} {i j : Nat} {x : Den S} (e : i ≠ j) : gd S (st S l i x) j = gd S l j := by
 show (List.set l i x).getD j _ = l.getD j _
 rw [List.getD_eq_getElem?_getD, List.getD_eq_getElem?_getD, List.getElem?_set, if_neg e]
theorem rStep_w {f : Fn} {live : BLL} (h : WL f live) {b : Nat} (hb : b < nB f) : WL f (rStep f live b) := by
 refine ⟨h.n, ln_st.trans h.len, fun i hi => ?_⟩
 unfold rStep
 by_cases e : b = i
 ·subst e
  rw [gd_st (by rw [h.len]; exact hb)]
  exact qck _ _
 ·rw [gd_st_ne e]
  exact h.row i hi
theorem rStep_mem {f : Fn} {live : BLL} (h : WL f live) {b : Nat} (hb : b < nB f) {i r : Nat} (hr : r < nR f) : mR (rStep f live b) i r = if b = i then TP f (mR live) b (-1) r else mR live i r := by
 unfold mR rStep
 by_cases e : b = i
 ·subst e
  rw [if_pos rfl, gd_st (by rw [h.len]; exact hb)]
  exact gb_out hr
 ·rw [if_neg e, gd_st_ne e]
theorem mR_big {f : Fn} {live : BLL} (h : WL f live) {b r : Nat} (hb : nB f ≤ b) : mR live b r = false := by
 unfold mR gb
 have e : gd (.sl 1 .bool) live b = [] := by
  show live.getD b _ = []
  rw [List.getD_eq_getElem?_getD, List.getElem?_eq_none (by show ln (.sl 1 .bool) live ≤ b; rw [h.len]; exact hb)]
  rfl
 rw [e]
 rfl
theorem rStep_le {f : Fn} {live : BLL} (h : RL f live) {b : Nat} (hb : b < nB f) {i r : Nat} (hm : mR live i r = true) : mR (rStep f live b) i r = true := by
 by_cases hi : i < nB f
 ·rw [rStep_mem h.w hb (mR_top h.w hi hm)]
  by_cases e : b = i
  ·subst e
   rw [if_pos rfl]
   exact h.up b hb r hm
  ·rw [if_neg e]
   exact hm
 ·rw [mR_big h.w (by omega)] at hm
  exact absurd hm (by decide)
theorem RL.step {f : Fn} {live : BLL} (h : RL f live) {b : Nat} (hb : b < nB f) : RL f (rStep f live b) := by
 refine ⟨rStep_w h.w hb, fun i hi r hm => ?_⟩
 have hr := mR_top (rStep_w h.w hb) hi hm
 rw [rStep_mem h.w hb hr] at hm
 by_cases e : b = i
 ·subst e
  rw [if_pos rfl] at hm
  exact TP_mono (fun b' r' => rStep_le h hb) r hm
 ·rw [if_neg e] at hm
  exact TP_mono (fun b' r' => rStep_le h hb) r (h.up i hi r hm)
theorem RL.pass {f : Fn} : ∀ {n b : Nat} {live : BLL} {c : Bool}, b + n ≤ nB f → RL f live → RL f (rPass f n b live c).1
 | 0, _, _, _, _, h => h
 | n + 1, _, _, _, hn, h => RL.pass (n := n) (by omega) (h.step (by omega))
theorem rpass_le {f : Fn} {i r : Nat} : ∀ {n b : Nat} {live : BLL} {c : Bool}, b + n ≤ nB f → RL f live → mR live i r = true → mR (rPass f n b live c).1 i r = true
 | 0, _, _, _, _, _, hm => hm
 | n + 1, _, _, _, hn, h, hm => rpass_le (n := n) (by omega) (h.step (by omega)) (rStep_le h (by omega) hm)
theorem neq_t {n : Nat} {l m : BL} (h : neqN n l m = true) : ∃ r, r < n ∧ gb l r ≠ gb m r := by
 unfold neqN at h
 rw [List.any_eq_true] at h
 obtain ⟨r, h1, h2⟩ := h
 exact ⟨r, List.mem_range.1 h1, by simpa using h2⟩
theorem neq_f {n : Nat} {l m : BL} (h : neqN n l m = false) (hl : ln .bool l = n) (hm : ln .bool m = n) : l = m := by
 unfold neqN at h
 rw [List.any_eq_false] at h
 apply List.ext_getElem?
 intro r
 by_cases hr : r < n
 ·have h1 := h r (List.mem_range.2 hr)
  have h2 : gb l r = gb m r := by simpa using h1
  have e1 : r < l.length := by show r < ln .bool l; omega
  have e2 : r < m.length := by show r < ln .bool m; omega
  have h3 : l.getD r (dz .bool) = m.getD r (dz .bool) := h2
  rw [List.getD_eq_getElem?_getD, List.getD_eq_getElem?_getD, List.getElem?_eq_getElem e1, List.getElem?_eq_getElem e2] at h3
  rw [List.getElem?_eq_getElem e1, List.getElem?_eq_getElem e2]
  exact congrArg some h3
 ·rw [List.getElem?_eq_none (by show ln .bool l ≤ r; omega), List.getElem?_eq_none (by show ln .bool m ≤ r; omega)]
theorem rpass_ch {f : Fn} : ∀ {n b : Nat} {live : BLL} {c : Bool}, b + n ≤ nB f → RL f live → (rPass f n b live c).2 = true → c = true ∨ ∃ i, i < nB f ∧ ∃ r, r < nR f ∧ mR live i r = false ∧ mR (rPass f n b live c).1 i r = true
 | 0, _, _, _, _, _, hc => .inl hc
 | n + 1, b, live, c, hn, h, hc => by
  have hb : b < nB f := by omega
  rcases rpass_ch (n := n) (by omega) (h.step hb) hc with h1 | ⟨i, hi, r, hr, h1, h2⟩
  ·cases hch : rCh f live b with
   | false => rw [hch, Bool.or_false] at h1; exact .inl h1
   | true =>
    obtain ⟨r, hr, hne⟩ := neq_t hch
    have e : gb (qci f (b : Int) (-1) live) r = TP f (mR live) b (-1) r := gb_out hr
    rw [e] at hne
    have hne : TP f (mR live) b (-1) r ≠ mR live b r := hne
    have hm : mR live b r = false := by
     cases hm : mR live b r with
     | false => rfl
     | true => exact absurd ((h.up b hb r hm).trans hm.symm) hne
    have ht : TP f (mR live) b (-1) r = true := by
     cases ht : TP f (mR live) b (-1) r with
     | true => rfl
     | false => exact absurd (ht.trans hm.symm) hne
    refine .inr ⟨b, hb, r, hr, hm, rpass_le (n := n) (by omega) (h.step hb) ?_⟩
    rw [rStep_mem h.w hb hr, if_pos rfl]
    exact ht
  ·refine .inr ⟨i, hi, r, hr, ?_, h2⟩
   cases h3 : mR live i r with
   | false => rfl
   | true => exact absurd (h1.symm.trans (rStep_le h hb h3)) (by decide)
theorem rpass_tr {f : Fn} : ∀ (n b : Nat) (live : BLL), (rPass f n b live true).2 = true
 | 0, _, _ => rfl
 | n + 1, b, live => by
  show (rPass f n (b + 1) (rStep f live b) (true || rCh f live b)).2 = true
  rw [Bool.true_or]
  exact rpass_tr n _ _
theorem rpass_fix {f : Fn} : ∀ {n b : Nat} {live : BLL}, b + n ≤ nB f → RL f live → (rPass f n b live false).2 = false → (rPass f n b live false).1 = live ∧ ∀ i, b ≤ i → i < b + n → qci f (i : Int) (-1) live = gd (.sl 1 .bool) live i
 | 0, _, _, _, _, _ => ⟨rfl, fun i h1 h2 => absurd h1 (by omega)⟩
 | n + 1, b, live, hn, h, hc => by
  have hb : b < nB f := by omega
  cases hch : rCh f live b with
  | true =>
   have e : (rPass f (n + 1) b live false).2 = (rPass f n (b + 1) (rStep f live b) true).2 := by
    show (rPass f n (b + 1) (rStep f live b) (false || rCh f live b)).2 = _
    rw [hch]; rfl
   rw [e, rpass_tr] at hc
   exact absurd hc (by decide)
  | false =>
   have el : qci f (b : Int) (-1) live = gd (.sl 1 .bool) live b := neq_f hch (qck _ _) (h.w.row b hb)
   have es : rStep f live b = live := by
    unfold rStep
    rw [el]
    exact st_gd
   have e : rPass f (n + 1) b live false = rPass f n (b + 1) live false := by
    show rPass f n (b + 1) (rStep f live b) (false || rCh f live b) = _
    rw [hch, es]; rfl
   rw [e] at hc ⊢
   obtain ⟨h1, h2⟩ := rpass_fix (n := n) (by omega) h hc
   refine ⟨h1, fun i i1 i2 => ?_⟩
   by_cases eb : i = b
   ·subst eb; exact el
   ·exact h2 i (by omega) (by omega)
theorem rpass_cnt {f : Fn} {live : BLL} (h : RL f live) (hc : (rPass f (nB f) 0 live false).2 = true) : cnt2 (nB f) (nR f) (mR live) < cnt2 (nB f) (nR f) (mR (rPass f (nB f) 0 live false).1) := by
 rcases rpass_ch (by omega) h hc with h1 | ⟨b, hb, r, hr, h1, h2⟩
 ·exact absurd h1 (by decide)
 ·exact cnt2_lt (fun b r => rpass_le (by omega) h) hb hr h1 h2
theorem mapN_get {α : Type} {n : Nat} {g : Nat → α} {i : Nat} (h : i < n) (d : α) : (mapN n g).getD i d = g i := by
 unfold mapN
 rw [List.getD_eq_getElem?_getD, List.getElem?_map, List.getElem?_range h]
 rfl
theorem mapN_set {α : Type} (n : Nat) (g : Nat → α) (i : Nat) (v : α) : (mapN n g).set i v = mapN n (fun r => if r = i then v else g r) := by
 apply List.ext_getElem?
 intro j
 unfold mapN
 rw [List.getElem?_set, List.getElem?_map, List.getElem?_map]
 by_cases h : j < n
 ·rw [List.getElem?_range h]
  by_cases e : i = j
  ·subst e
   simp [h]
  ·simp [e, Ne.symm e]
 ·rw [List.getElem?_eq_none (by simp; omega)]
  by_cases e : i = j
  ·subst e
   simp [h]
  ·simp [e]
theorem mapN_ext {α : Type} {n : Nat} {p q : Nat → α} (h : ∀ r, r < n → p r = q r) : mapN n p = mapN n q := by
 unfold mapN
 exact List.map_congr_left fun r hr => h r (List.mem_range.1 hr)
theorem mapN_rep {α : Type} (n : Nat) (a : α) : List.replicate n a = mapN n (fun _ => a) := by
 unfold mapN
 rw [List.map_const']
 simp
theorem rl0 {f : Fn} (h : nR f ≤ 65536) : RL f (live0 f) := by
 have hw : WL f (live0 f) := ⟨h, qdg _ _, fun i hi => by
  show ln .bool ((live0 f).getD i _) = nR f
  unfold live0
  rw [mapN_get hi]
  exact List.length_replicate⟩
 refine ⟨hw, fun b hb r hm => ?_⟩
 have hr := mR_top hw hb hm
 have : mR (live0 f) b r = false := by
  unfold mR gb
  show (List.getD ((live0 f).getD b _) r _ : Bool) = false
  unfold live0
  rw [mapN_get hb, List.getD_eq_getElem?_getD, List.getElem?_replicate, if_pos hr]
  rfl
 rw [this] at hm
 exact absurd hm (by decide)
theorem rI_row {Q : AV → Heap → Prop} (f : Fn) (hn : nR f ≤ 65536) (live : BLL) (hl : WL f live) (b : Nat) (hb : b < nB f) (t28 : Int) (c : Bool)
  (next : Runs E_B15 (r21_In_L4 f (c || rCh f live b) t28 (IntKind.wrap .i64 ((b : Int) + (1 : Int))) (rStep f live b)) Q) : ∀ k, k ≤ nR f → Runs E_B15 (r21_In_L6 f (c || (List.range k).any (fun r => !(gb (qci f (b : Int) (-1) live) r == gb (gd (.sl 1 .bool) live b) r))) b t28 b (nR f : Nat) k live (qci f (b : Int) (-1) live)) Q := by
 have hk0 : b < ln (.sl 1 .bool) live := by rw [hl.len]; exact hb
 have hi : 0 ≤ (b : Int) ∧ (b : Int) < (ln (.sl 1 .bool) live : Int) := ⟨Int.natCast_nonneg _, Int.ofNat_lt.2 hk0⟩
 have el : ln .bool (qci f (b : Int) (-1) live) = nR f := qck _ _
 have er : ln .bool (gd (.sl 1 .bool) live b) = nR f := hl.row b hb
 refine qcl ?_ fun k hk ih => ?_
 ·refine .tree E_B15_ok (r21_In_L6_t _ _ _ _ _ _ _ _ _) ?_
  refine qah (fun h => absurd (of_decide_eq_true h) (Int.lt_irrefl _)) fun _ => ⟨hi, fun _ => ⟨hk0, fun _ => ?_⟩⟩
  exact next
 ·refine .tree E_B15_ok (r21_In_L6_t _ _ _ _ _ _ _ _ _) ?_
  have hr : 0 ≤ (k : Int) ∧ (k : Int) < (nR f : Int) := ⟨Int.natCast_nonneg _, Int.ofNat_lt.2 hk⟩
  refine qah (fun _ => ?_) fun h => absurd (Int.ofNat_lt.2 hk) (of_decide_eq_false h)
  rw [List.range_succ, List.any_append, List.any_cons, List.any_nil, Bool.or_false, ← Bool.or_assoc] at ih
  rw [wrapS hk (by omega), Int.toNat_natCast, Int.toNat_natCast, el, er]
  refine qah (fun h => ?_) fun h => ?_
  ·rw [h, Bool.true_or] at ih
   exact ih
  ·rw [h, Bool.false_or] at ih
   exact ⟨hr, fun _ => ⟨hk, fun _ => ⟨hi, fun _ => ⟨hk0, fun _ => ⟨hk0, fun _ => ⟨hr, fun _ => ⟨hk0, fun _ => ⟨hk, fun _ => ih⟩⟩⟩⟩⟩⟩⟩⟩
theorem rI_pass {Q : AV → Heap → Prop} (f : Fn) (hsm : qan f) (hN : nB f < 9223372036854775807) : ∀ n (b : Nat) (c : Bool) (live : BLL), b + n = nB f → WL f live → Runs E_B15 (r21_In_L2 f (rPass f n b live c).2 (rPass f n b live c).1) Q → Runs E_B15 (r21_In_L4 f c (nB f : Nat) b live) Q
 | 0, b, c, live, hb, hl, hq => .tree E_B15_ok (r21_In_L4_t _ _ _ _ _) (by
  refine qah (fun h => absurd (of_decide_eq_true h) (by omega)) fun _ => ?_
  exact hq)
 | n + 1, b, c, live, hb, hl, hq => .tree E_B15_ok (r21_In_L4_t _ _ _ _ _) (by
  have hbn : b < nB f := by omega
  have hi : 0 ≤ (b : Int) ∧ (b : Int) < (nB f : Int) := ⟨Int.natCast_nonneg _, Int.ofNat_lt.2 hbn⟩
  refine qah (fun _ => ⟨⟨hsm, hl, hi, by decide, ?_⟩, fun _ _ => ?_⟩) fun h => absurd (Int.ofNat_lt.2 hbn) (of_decide_eq_false h)
  ·show (-1 : Int) ≤ nIns f (b : Int)
   unfold nIns
   omega
  ·have el : ln .bool (qci f (b : Int) (-1) live) = nR f := qck _ _
   rw [el]
   have ih := rI_pass f hsm hN n (b + 1) (c || rCh f live b) (rStep f live b) (by omega) (rStep_w hl hbn) hq
   have := rI_row f hl.n live hl b hbn (nB f : Nat) c (by rw [wrapS hbn hN]; exact ih) 0 (Nat.zero_le _)
   rw [List.range_zero, List.any_nil, Bool.or_false] at this
   exact this)
theorem rI_fix {Q : AV → Heap → Prop} (f : Fn) (hsm : qan f) (hN : nB f < 9223372036854775807) : ∀ m (live : BLL), nB f * nR f < cnt2 (nB f) (nR f) (mR live) + m → RL f live → Q (.tv (.sl 24 (.sl 1 .bool)) (fixR f m live)) [] → Runs E_B15 (r21_In_L2 f true live) Q
 | 0, live, hm, hl, hq => by
  have := cnt2_top (nB f) (nR f) (mR live)
  omega
 | m + 1, live, hm, hl, hq => .tree E_B15_ok (r21_In_L2_t _ _ _) (by
  have hx : Runs E_B15 (r21_In_L2 f (rPass f (nB f) 0 live false).2 (rPass f (nB f) 0 live false).1) Q := by
   cases h : (rPass f (nB f) 0 live false).2 with
   | true =>
    refine rI_fix f hsm hN m _ ?_ (RL.pass (by omega) hl) ?_
    ·have := rpass_cnt hl h
     omega
    ·have e : fixR f (m + 1) live = fixR f m (rPass f (nB f) 0 live false).1 := by
      show cond (rPass f (nB f) 0 live false).2 _ _ = _
      rw [h]; rfl
     rw [e] at hq
     exact hq
   | false =>
    refine .tree E_B15_ok (r21_In_L2_t _ _ _) ?_
    have e : fixR f (m + 1) live = (rPass f (nB f) 0 live false).1 := by
     show cond (rPass f (nB f) 0 live false).2 _ _ = _
     rw [h]; rfl
    rw [e] at hq
    exact hq
  have := rI_pass (Q := Q) f hsm hN (nB f) 0 false live (by omega) hl.w hx
  rw [← hl.w.len] at this
  exact this)
theorem rI_new {Q : AV → Heap → Prop} (f : Fn) (hsm : qan f) (hr : nR f ≤ 65536) (hN : nB f < 9223372036854775807) (hq : Q (.tv (.sl 24 (.sl 1 .bool)) (rIn f)) []) : ∀ i, i ≤ nB f → Runs E_B15 (r21_In_L0 f (nB f : Nat) i (mapN (nB f) (fun j => if j < i then List.replicate (nR f) false else []))) Q :=
 qcl (.tree E_B15_ok (r21_In_L0_t _ _ _ _) (by
  refine qah (fun h => absurd (of_decide_eq_true h) (Int.lt_irrefl _)) fun _ => ?_
  have e : mapN (nB f) (fun j => if j < nB f then List.replicate (nR f) false else []) = live0 f := mapN_ext fun r hr => if_pos hr
  rw [e]
  exact rI_fix f hsm hN (nB f * nR f + 1) (live0 f) (by omega) (rl0 hr) hq))
  fun i hi ih => .tree E_B15_ok (r21_In_L0_t _ _ _ _) (by
   have hr' : ln I f.2.2.2.1 ≤ 65536 := hr
   have el : ln (.sl 1 .bool) (mapN (nB f) (fun j => if j < i then List.replicate (nR f) false else []) : BLL) = nB f := qdg _ _
   refine qah (fun _ => ⟨rfl, fun _ => ⟨Int.natCast_nonneg _, fun _ => ⟨?_, fun _ => ⟨?_, fun _ => ⟨?_, fun _ => ?_⟩⟩⟩⟩⟩) fun h => absurd (Int.ofNat_lt.2 hi) (of_decide_eq_false h)
   ·simp only [roomB]
    omega
   ·rw [el]
    exact ⟨Int.natCast_nonneg _, Int.ofNat_lt.2 hi⟩
   ·rw [el, Int.toNat_natCast]
    exact hi
   ·rw [Int.toNat_natCast, wrapS hi hN]
    have e : st (.sl 1 .bool) (mapN (nB f) (fun j => if j < i then List.replicate (nR f) false else []) : BLL) i (List.replicate (ln I f.2.2.2.1) (dz .bool)) = (mapN (nB f) (fun j => if j < i + 1 then List.replicate (nR f) false else []) : BLL) := by
     refine (mapN_set (nB f) _ i _).trans (mapN_ext fun r _ => ?_)
     by_cases e : r = i
     ·rw [if_pos e, if_pos (by omega)]
      rfl
     ·rw [if_neg e]
      by_cases h : r < i
      ·rw [if_pos h, if_pos (by omega)]
      ·rw [if_neg h, if_neg (by omega)]
    rw [e]
    exact ih)
def k_r21_In : Con := con [.d qad] (.sl 24 (.sl 1 .bool)) (fun x => qan x.1 ∧ nR x.1 ≤ 65536) fun x => rIn x.1
theorem m_r21_In (f : Den qad) (h_f : okD qad f) (hp : qan f ∧ nR f ≤ 65536) : Runs E_B15 (start E_B15 qdu [(.tv qad f)]) (fun r_ h_ => r_ = (.tv (.sl 24 (.sl 1 .bool)) (rIn f)) ∧ h_ = []) := .tree E_B15_ok (r21_In_t f) (by
 obtain ⟨hsm, hr⟩ := hp
 have hroom : room 136 (nB f) := (okB_of h_f).1
 have h1 : nB f * 136 ≤ roomB := hroom.1
 refine ⟨rfl, fun _ => ⟨Int.natCast_nonneg _, fun _ => ⟨?_, fun _ => ?_⟩⟩⟩
 ·show nB f * 24 ≤ roomB
  omega
 have h := rI_new (Q := fun r_ h_ => r_ = .tv (.sl 24 (.sl 1 .bool)) (rIn f) ∧ h_ = []) f hsm hr (qcf hroom) ⟨rfl, rfl⟩ 0 (Nat.zero_le _)
 have e : (mapN (nB f) (fun j => if j < 0 then List.replicate (nR f) false else []) : BLL) = List.replicate (ln qab f.2.2.2.2.1) (dz (.sl 1 .bool)) :=
  (mapN_ext (q := fun _ => []) fun r _ => if_neg (Nat.not_lt_zero r)).trans (mapN_rep (nB f) []).symm
 rw [e] at h
 have el : ln (.sl 1 .bool) (List.replicate (ln qab f.2.2.2.2.1) (dz (.sl 1 .bool))) = nB f := List.length_replicate
 rw [el]
 exact h)
theorem c_r21_In : qas E_B15 qdu k_r21_In.spec := qbg fun x hx hp => ⟨rfl, m_r21_In x.1 hx.1 hp⟩
def L_B15 : List (FuncId × FSpec) := [(qdu, k_r21_In.spec)] ++ L_B14
theorem L_B15_ok : ∀ x ∈ L_B15, qas (ctx []) x.1 x.2 := by
 unfold L_B15
 simp only [List.cons_append, List.nil_append, List.forall_mem_cons]
 exact ⟨c_r21_In, L_B14_ok⟩
def LI_B15 : List IoT := [] ++ LI_B14
theorem LI_B15_ok : ∀ x ∈ LI_B15, qbn (ctx []) x.1 x.2.1 x.2.2 := by
 unfold LI_B15
 simp only [List.cons_append, List.nil_append, List.forall_mem_cons]
 exact LI_B14_ok
end Burn.M21
namespace Burn.M21
open Go Go.BE Go.Proofs
set_option maxRecDepth 100000
set_option linter.unusedVariables false
set_option linter.unusedSimpArgs false
open Burn.Cfg
open Burn.Bit
noncomputable abbrev E_B16 : Ctx := ctx L_B15 LI_B15
theorem E_B16_ok : EOK E_B16 := ctx_ok L_B15_ok LI_B15_ok
def cuts_B16 : CutL := [([], 11, 0, [1, 3, 4, 12, 13], [], [])]
def rets_B16 : FuncId → List (Option Fx)
 | 11 => [some (.dat (.sl 24 (.sl 1 .bool)))]
 | 14 => [some (.dat (.sl 1 .bool))]
 | 18 => [some (.dat qad)]
 | _ => []
def H_B16 : Hints := { cut := cutOf cuts_B16, ret := rets_B16 }
theorem law21_Header_t : run E_B16 H_B16 qec 3000 (start E_B16 qec []) = (rt (.tv qad (⟨#[102]⟩, ([(0 : Int)] : List (Den I)), (3 : Int), ([(1 : Int), (3 : Int), (3 : Int)] : List (Den I)), ([(([] : List (Den I)), ([((1 : Int), (3 : Int), (2 : Int), ([] : List (Den I)), (0 : Int), (0 : Int), (0 : Int), false, ())] : List (Den qaf)), ((1 : Int), ([] : List (Den I)), ([] : List (Den I)), ([((1 : Int), ([(2 : Int)] : List (Den I)), ())] : List (Den qae)), (0 : Int), ()), ()), (([(1 : Int)] : List (Den I)), ([] : List (Den qaf)), ((2 : Int), ([(0 : Int)] : List (Den I)), ([] : List (Den I)), ([((1 : Int), ([(1 : Int)] : List (Den I)), ()), ((2 : Int), ([] : List (Den I)), ())] : List (Den qae)), (0 : Int), ()), ()), (([] : List (Den I)), ([] : List (Den qaf)), ((4 : Int), ([(1 : Int)] : List (Den I)), ([] : List (Den I)), ([] : List (Den qae)), (0 : Int), ()), ())] : List (Den qab)), ())) []) := by kernel_rfl
noncomputable def r21_Out_L0 (f : Den qad) (live : List (Den (.sl 1 .bool))) (t12 : Int) (t13 : Int) (l : List (Den (.sl 1 .bool))) : Cfg := hcfg E_B16 f_r21_Out 0 [(1, (.rtp qad f)), (3, (.tv (.sl 24 (.sl 1 .bool)) live)), (4, (.osl 0 0 [] none)), (12, (vi t12)), (13, (vi t13))] [(0, ⟨(.arr 1 24 (.sl 1 .bool) l), 0, [], false, none⟩)] 1
theorem r21_Out_t (f : Den qad) : run E_B16 H_B16 f_r21_Out 3000 (start E_B16 f_r21_Out [(.tv qad f)]) = (.chk (qan f ∧ nR f ≤ 65536) (.know (okD (.sl 24 (.sl 1 .bool)) (rIn f)) (.chk (((ln (.sl 1 .bool) (rIn f)) : Int) = ((ln (.sl 1 .bool) (rIn f)) : Int)) (.chk (0 ≤ ((ln (.sl 1 .bool) (rIn f)) : Int)) (.chk ((ln (.sl 1 .bool) (rIn f)) * 24 ≤ roomB) (hd (r21_Out_L0 f (rIn f) ((ln (.sl 1 .bool) (List.replicate (ln (.sl 1 .bool) (rIn f)) (dz (.sl 1 .bool)))) : Int) (0 : Int) (List.replicate (ln (.sl 1 .bool) (rIn f)) (dz (.sl 1 .bool)))))))))) := by kernel_rfl
theorem r21_Out_L0_t (f : Den qad) (live : List (Den (.sl 1 .bool))) (t12 : Int) (t13 : Int) (l : List (Den (.sl 1 .bool))) : run E_B16 H_B16 f_r21_Out 3000 (r21_Out_L0 f live t12 t13 l) = (cond (decide (t13 < t12)) (.chk (WL f live ∧ 0 ≤ z t13 ∧ z t13 < (nB f : Int)) (.know True (.chk (0 ≤ t13 ∧ t13 < (ln (.sl 1 .bool) l)) (.chk (t13.toNat < (ln (.sl 1 .bool) l)) (hd (r21_Out_L0 f live t12 (IntKind.wrap .i64 (t13 + (1 : Int))) (st (.sl 1 .bool) l t13.toNat (rOut f t13 live)))))))) (rt (.tv (.sl 24 (.sl 1 .bool)) l) [])) := by kernel_rfl
theorem r21_Before_t (f : Den qad) (at_ : Den qag) : run E_B16 H_B16 f_r21_Before 3000 (start E_B16 f_r21_Before [(.tv qad f), (.tv qag at_)]) = (cond (decide ((z at_.1) < (0 : Int))) (rt (.tv (.sl 1 .bool) ([] : List (Den .bool))) []) (cond (decide ((z at_.1) ≥ ((ln qab f.2.2.2.2.1) : Int))) (rt (.tv (.sl 1 .bool) ([] : List (Den .bool))) []) (cond (decide ((z at_.2.1) < (-1 : Int))) (rt (.tv (.sl 1 .bool) ([] : List (Den .bool))) []) (.chk (0 ≤ (z at_.1) ∧ (z at_.1) < (ln qab f.2.2.2.2.1)) (cond (decide ((z at_.2.1) > ((ln qaf ((gd qab f.2.2.2.2.1 (((z at_.1)).toNat)).2.1)) : Int))) (rt (.tv (.sl 1 .bool) ([] : List (Den .bool))) []) (.chk (qan f ∧ nR f ≤ 65536) (.chk (qan f ∧ WL f (rIn f) ∧ (0 ≤ z at_.1 ∧ z at_.1 < (nB f : Int)) ∧ -1 ≤ z at_.2.1 ∧ z at_.2.1 ≤ nIns f at_.1) (.know (okD (.sl 24 (.sl 1 .bool)) (rIn f)) (.know True (rt (.tv (.sl 1 .bool) (qci f at_.1 at_.2.1 (rIn f))) [])))))))))) := by kernel_rfl
theorem RL.fix {f : Fn} : ∀ {m : Nat} {live : BLL}, RL f live → RL f (fixR f m live)
 | 0, _, h => h
 | m + 1, live, h => by
  show RL f (cond (rPass f (nB f) 0 live false).2 (fixR f m (rPass f (nB f) 0 live false).1) (rPass f (nB f) 0 live false).1)
  have hp := RL.pass (n := nB f) (b := 0) (c := false) (by omega) h
  cases (rPass f (nB f) 0 live false).2 with
  | true => exact RL.fix hp
  | false => exact hp
theorem rl_in {f : Fn} (h : nR f ≤ 65536) : RL f (rIn f) := (rl0 h).fix
def rOutF (f : Fn) : BLL := mapN (nB f) (fun b => rOut f (b : Int) (rIn f))
def rBeforeF (f : Fn) (p : Den qag) : BL := cond (posB f (z p.1) (z p.2.1)) (qci f (z p.1) (z p.2.1) (rIn f)) []
def qap : Fn := (⟨#[102]⟩, ([(0 : Int)] : List (Den I)), (3 : Int), ([(1 : Int), (3 : Int), (3 : Int)] : List (Den I)), ([(([] : List (Den I)), ([((1 : Int), (3 : Int), (2 : Int), ([] : List (Den I)), (0 : Int), (0 : Int), (0 : Int), false, ())] : List (Den qaf)), ((1 : Int), ([] : List (Den I)), ([] : List (Den I)), ([((1 : Int), ([(2 : Int)] : List (Den I)), ())] : List (Den qae)), (0 : Int), ()), ()), (([(1 : Int)] : List (Den I)), ([] : List (Den qaf)), ((2 : Int), ([(0 : Int)] : List (Den I)), ([] : List (Den I)), ([((1 : Int), ([(1 : Int)] : List (Den I)), ()), ((2 : Int), ([] : List (Den I)), ())] : List (Den qae)), (0 : Int), ()), ()), (([] : List (Den I)), ([] : List (Den qaf)), ((4 : Int), ([(1 : Int)] : List (Den I)), ([] : List (Den I)), ([] : List (Den qae)), (0 : Int), ()), ())] : List (Den qab)), ())

def k_law21_Header : Con := con [] qad (fun x => True) fun x => qap
theorem m_law21_Header (hp : True) : Runs E_B16 (start E_B16 qec []) (fun r_ h_ => r_ = (.tv qad (qap)) ∧ h_ = []) := .tree E_B16_ok (law21_Header_t) (by
 exact ⟨rfl, rfl⟩)
theorem c_law21_Header : qas E_B16 qec k_law21_Header.spec := qbg fun x hx hp => ⟨rfl, m_law21_Header hp⟩
theorem rO_l (f : Fn) (hr : nR f ≤ 65536) (hN : nB f < 9223372036854775807) : ∀ i, i ≤ nB f → Runs E_B16 (r21_Out_L0 f (rIn f) (nB f : Nat) i (mapN (nB f) (fun j => if j < i then rOut f (j : Int) (rIn f) else []))) (fun x h => x = .tv (.sl 24 (.sl 1 .bool)) (rOutF f) ∧ h = []) :=
 qcl (.tree E_B16_ok (r21_Out_L0_t _ _ _ _ _) (by
  refine qah (fun h => absurd (of_decide_eq_true h) (Int.lt_irrefl _)) fun _ => ?_
  have e : mapN (nB f) (fun j => if j < nB f then rOut f (j : Int) (rIn f) else []) = rOutF f := mapN_ext fun r hr => if_pos hr
  rw [e]
  exact ⟨rfl, rfl⟩))
  fun i hi ih => .tree E_B16_ok (r21_Out_L0_t _ _ _ _ _) (by
   have el : ln (.sl 1 .bool) (mapN (nB f) (fun j => if j < i then rOut f (j : Int) (rIn f) else []) : BLL) = nB f := qdg _ _
   have hii : 0 ≤ (i : Int) ∧ (i : Int) < (nB f : Int) := ⟨Int.natCast_nonneg _, Int.ofNat_lt.2 hi⟩
   refine qah (fun _ => ⟨⟨(rl_in hr).w, hii⟩, fun _ _ => ⟨?_, fun _ => ⟨?_, fun _ => ?_⟩⟩⟩) fun h => absurd (Int.ofNat_lt.2 hi) (of_decide_eq_false h)
   ·rw [el]
    exact hii
   ·rw [el, Int.toNat_natCast]
    exact hi
   ·rw [Int.toNat_natCast, wrapS hi hN]
    have e : st (.sl 1 .bool) (mapN (nB f) (fun j => if j < i then rOut f (j : Int) (rIn f) else []) : BLL) i (rOut f (i : Int) (rIn f)) = (mapN (nB f) (fun j => if j < i + 1 then rOut f (j : Int) (rIn f) else []) : BLL) := by
     refine (mapN_set (nB f) _ i _).trans (mapN_ext fun r _ => ?_)
     by_cases e : r = i
     ·rw [if_pos e, if_pos (by omega), e]
     ·rw [if_neg e]
      by_cases h : r < i
      ·rw [if_pos h, if_pos (by omega)]
      ·rw [if_neg h, if_neg (by omega)]
    rw [e]
    exact ih)
def k_r21_Out : Con := con [.d qad] (.sl 24 (.sl 1 .bool)) (fun x => qan x.1 ∧ nR x.1 ≤ 65536) fun x => rOutF x.1
theorem m_r21_Out (f : Den qad) (h_f : okD qad f) (hp : qan f ∧ nR f ≤ 65536) : Runs E_B16 (start E_B16 f_r21_Out [(.tv qad f)]) (fun r_ h_ => r_ = (.tv (.sl 24 (.sl 1 .bool)) (rOutF f)) ∧ h_ = []) := .tree E_B16_ok (r21_Out_t f) (by
 obtain ⟨hsm, hr⟩ := hp
 have hroom : room 136 (nB f) := (okB_of h_f).1
 have h1 : nB f * 136 ≤ roomB := hroom.1
 have el : ln (.sl 1 .bool) (rIn f) = nB f := (rl_in hr).w.len
 refine ⟨⟨hsm, hr⟩, fun _ _ => ⟨rfl, fun _ => ⟨Int.natCast_nonneg _, fun _ => ⟨?_, fun _ => ?_⟩⟩⟩⟩
 ·rw [el]
  omega
 have h := rO_l f hr (qcf hroom) 0 (Nat.zero_le _)
 have e : (mapN (nB f) (fun j => if j < 0 then rOut f (j : Int) (rIn f) else []) : BLL) = List.replicate (nB f) (dz (.sl 1 .bool)) :=
  (mapN_ext (q := fun _ => []) fun r _ => if_neg (Nat.not_lt_zero r)).trans (mapN_rep (nB f) []).symm
 rw [e] at h
 rw [el]
 have el2 : ln (.sl 1 .bool) (List.replicate (nB f) (dz (.sl 1 .bool))) = nB f := List.length_replicate
 rw [el2]
 exact h)
theorem c_r21_Out : qas E_B16 f_r21_Out k_r21_Out.spec := qbg fun x hx hp => ⟨rfl, m_r21_Out x.1 hx.1 hp⟩

def k_r21_Before : Con := con [.d qad, .d qag] (.sl 1 .bool) (fun x => qan x.1 ∧ nR x.1 ≤ 65536) fun x => rBeforeF x.1 x.2.1
theorem m_r21_Before (f : Den qad) (at_ : Den qag) (h_f : okD qad f) (h_at_ : okD qag at_) (hp : qan f ∧ nR f ≤ 65536) : Runs E_B16 (start E_B16 f_r21_Before [(.tv qad f), (.tv qag at_)]) (fun r_ h_ => r_ = (.tv (.sl 1 .bool) (rBeforeF f at_)) ∧ h_ = []) := .tree E_B16_ok (r21_Before_t f at_) (by
 obtain ⟨hsm, hr⟩ := hp
 refine qah (fun h => ?_) fun h0 => qah (fun h => ?_) fun h1 => qah (fun h => ?_) fun h2 => ?_
 ·have h := of_decide_eq_true h
  have e : posB f (z at_.1) (z at_.2.1) = false := by unfold posB; rw [decide_eq_false (by omega), Bool.false_and]
  unfold rBeforeF
  rw [e]
  exact ⟨rfl, rfl⟩
 ·have h : z at_.1 ≥ (nB f : Int) := of_decide_eq_true h
  have e : posB f (z at_.1) (z at_.2.1) = false := by unfold posB; rw [decide_eq_false (p := z at_.1 < (nB f : Int)) (by omega), Bool.false_and, Bool.and_false]
  unfold rBeforeF
  rw [e]
  exact ⟨rfl, rfl⟩
 ·have h := of_decide_eq_true h
  have e : posB f (z at_.1) (z at_.2.1) = false := by unfold posB; rw [decide_eq_false (p := -1 ≤ z at_.2.1) (by omega), Bool.false_and, Bool.and_false, Bool.and_false]
  unfold rBeforeF
  rw [e]
  exact ⟨rfl, rfl⟩
 have h0 := of_decide_eq_false h0
 have h1 : ¬ z at_.1 ≥ (nB f : Int) := of_decide_eq_false h1
 have h2 := of_decide_eq_false h2
 have hb : 0 ≤ z at_.1 ∧ z at_.1 < (nB f : Int) := ⟨by omega, by omega⟩
 refine ⟨hb, fun _ => qah (fun h => ?_) fun h3 => ?_⟩
 ·have h : z at_.2.1 > nIns f (z at_.1) := of_decide_eq_true h
  have e : posB f (z at_.1) (z at_.2.1) = false := by unfold posB; rw [decide_eq_false (p := z at_.2.1 ≤ nIns f (z at_.1)) (by omega), Bool.and_false, Bool.and_false, Bool.and_false]
  unfold rBeforeF
  rw [e]
  exact ⟨rfl, rfl⟩
 have h3 : ¬ z at_.2.1 > nIns f (z at_.1) := of_decide_eq_false h3
 have e : posB f (z at_.1) (z at_.2.1) = true := by
  unfold posB
  rw [decide_eq_true (by omega), decide_eq_true hb.2, decide_eq_true (by omega), decide_eq_true (by omega)]
  rfl
 refine ⟨⟨hsm, hr⟩, fun _ => ⟨⟨hsm, (rl_in hr).w, hb, by show -1 ≤ z at_.2.1; omega, by show z at_.2.1 ≤ nIns f (z at_.1); omega⟩, fun _ _ _ => ?_⟩⟩
 unfold rBeforeF
 rw [e]
 exact ⟨rfl, rfl⟩)
theorem c_r21_Before : qas E_B16 f_r21_Before k_r21_Before.spec := qbg fun x hx hp => ⟨rfl, m_r21_Before x.1 x.2.1 hx.1 hx.2.1 hp⟩
def L_B16 : List (FuncId × FSpec) := [(qec, k_law21_Header.spec), (f_r21_Out, k_r21_Out.spec), (f_r21_Before, k_r21_Before.spec)] ++ L_B15
theorem L_B16_ok : ∀ x ∈ L_B16, qas (ctx []) x.1 x.2 := by
 unfold L_B16
 simp only [List.cons_append, List.nil_append, List.forall_mem_cons]
 exact ⟨c_law21_Header, c_r21_Out, c_r21_Before, L_B15_ok⟩
def LI_B16 : List IoT := [] ++ LI_B15
theorem LI_B16_ok : ∀ x ∈ LI_B16, qbn (ctx []) x.1 x.2.1 x.2.2 := by
 unfold LI_B16
 simp only [List.cons_append, List.nil_append, List.forall_mem_cons]
 exact LI_B15_ok
end Burn.M21
namespace Burn.M21
open Go Go.BE Go.Proofs
set_option maxRecDepth 100000
set_option linter.unusedVariables false
set_option linter.unusedSimpArgs false
open Burn.Cfg
open Burn.Bit
noncomputable abbrev E_B17 : Ctx := ctx L_B16 LI_B16
theorem E_B17_ok : EOK E_B17 := ctx_ok L_B16_ok LI_B16_ok
def cuts_B17 : CutL := []
def rets_B17 : FuncId → List (Option Fx)
 | _ => []
def H_B17 : Hints := { cut := cutOf cuts_B17, ret := rets_B17 }
theorem law21_awake_t : run E_B17 H_B17 f_law21_awake 3000 (start E_B17 f_law21_awake []) = (.chk (True) (.know (okD qad (qap)) (.chk (qan (qap) ∧ nR (qap) ≤ 65536) (.chk (qan (qap) ∧ nR (qap) ≤ 65536) (.know (okD (.sl 24 (.sl 1 .bool)) (InF (qap))) (.know (okD (.sl 24 (.sl 1 .bool)) (OutF (qap))) (cond (((ln (.sl 1 .bool) (InF (qap))) : Int) != (3 : Int)) (rt (vb false) []) (cond (((ln (.sl 1 .bool) (OutF (qap))) : Int) != (3 : Int)) (rt (vb false) []) (.chk (qan (qap) ∧ nR (qap) ≤ 65536) (.chk (qan (qap) ∧ nR (qap) ≤ 65536) (.know (okD (.sl 1 .bool) (qbw (qap) ((0 : Int), (1 : Int), ()))) (.know (okD (.sl 1 .bool) (qbw (qap) ((1 : Int), (0 : Int), ()))) (.chk (0 ≤ (0 : Int) ∧ (0 : Int) < (ln (.sl 1 .bool) (InF (qap)))) (.chk (True) (.know True (cond (qby (gd (.sl 1 .bool) (InF (qap)) (0 : Nat)) ([false, false, false] : List (Den .bool))) (.chk (0 ≤ (1 : Int) ∧ (1 : Int) < (ln (.sl 1 .bool) (InF (qap)))) (.chk (True) (.know True (cond (qby (gd (.sl 1 .bool) (InF (qap)) (1 : Nat)) ([true, false, false] : List (Den .bool))) (.chk (0 ≤ (2 : Int) ∧ (2 : Int) < (ln (.sl 1 .bool) (InF (qap)))) (.chk (True) (.know True (cond (qby (gd (.sl 1 .bool) (InF (qap)) (2 : Nat)) ([false, true, false] : List (Den .bool))) (.chk (0 ≤ (0 : Int) ∧ (0 : Int) < (ln (.sl 1 .bool) (OutF (qap)))) (.chk (True) (.know True (cond (qby (gd (.sl 1 .bool) (OutF (qap)) (0 : Nat)) ([true, false, false] : List (Den .bool))) (.chk (0 ≤ (1 : Int) ∧ (1 : Int) < (ln (.sl 1 .bool) (OutF (qap)))) (.chk (True) (.know True (cond (qby (gd (.sl 1 .bool) (OutF (qap)) (1 : Nat)) ([true, true, false] : List (Den .bool))) (.chk (True) (.know True (cond (qby (qbw (qap) ((0 : Int), (1 : Int), ())) ([true, false, true] : List (Den .bool))) (.chk (True) (.know True (cond (qby (qbw (qap) ((1 : Int), (0 : Int), ())) ([true, true, false] : List (Den .bool))) (.chk (qan (qap) ∧ nR (qap) ≤ 65536) (.know (okD (.sl 1 .bool) (qbw (qap) ((1 : Int), (1 : Int), ()))) (rt (vb (((ln .bool (qbw (qap) ((1 : Int), (1 : Int), ()))) : Int) == (0 : Int))) []))) (rt (vb false) [])))) (rt (vb false) [])))) (rt (vb false) []))))) (rt (vb false) []))))) (rt (vb false) []))))) (rt (vb false) []))))) (rt (vb false) []))))))))))))))))) := by kernel_rfl
theorem inH : InF qap = ([[false, false, false], [true, false, false], [false, true, false]] : List (List Bool)) := by
 show (InF qap : List (List Bool)) = _
 decide +kernel
theorem outH : OutF qap = ([[true, false, false], [true, true, false], [false, false, false]] : List (List Bool)) := by
 show (OutF qap : List (List Bool)) = _
 decide +kernel
theorem beH1 : qbw qap ((0 : Int), (1 : Int), ()) = ([true, false, true] : List Bool) := by
 show (qbw qap ((0 : Int), (1 : Int), ()) : List Bool) = _
 decide +kernel
theorem beH2 : qbw qap ((1 : Int), (0 : Int), ()) = ([true, true, false] : List Bool) := by
 show (qbw qap ((1 : Int), (0 : Int), ()) : List Bool) = _
 decide +kernel
theorem beH3 : qbw qap ((1 : Int), (1 : Int), ()) = ([] : List Bool) := by
 show (qbw qap ((1 : Int), (1 : Int), ()) : List Bool) = _
 decide +kernel
theorem smH : qan qap ∧ nR qap ≤ 65536 := by
 unfold qan
 decide +kernel
def awakeT : Bool := true
theorem mem_rem {s : SetD} (h : WF s) (i : Int) (r : Nat) : memS (remS s i) (r : Int) = (memS s (r : Int) && !((i : Int) == (r : Int))) := by
 have h2 := (h.rem i).1
 unfold remS at h2 ⊢
 cases hm : memS s i with
 | false =>
  show memS s (r : Int) = _
  by_cases e : i = (r : Int)
  ·subst e
   rw [hm, Bool.false_and]
  ·rw [show ((i : Int) == (r : Int)) = false from beq_false_of_ne e]
   simp
 | true =>
  rw [hm] at h2
  have hm2 := hm
  unfold memS at hm2
  simp only [Bool.and_eq_true, decide_eq_true_eq] at hm2
  obtain ⟨h0, h1, _⟩ := hm2
  show memS (s.1, s.2.1, remW s.2.2.1 i.toNat, ()) (r : Int) = _
  have h2' : WF (s.1, s.2.1, remW s.2.2.1 i.toNat, ()) := h2
  rw [h2'.nat, h.nat]
  show memW (remW s.2.2.1 i.toNat) r = _
  rw [memW_rem h.ok (by omega)]
  by_cases e : r = i.toNat
  ·rw [decide_eq_true e, show ((i : Int) == (r : Int)) = true from beq_iff_eq.2 (by omega)]
   simp
  ·rw [decide_eq_false e, show ((i : Int) == (r : Int)) = false from beq_false_of_ne (by omega)]
   simp
theorem mem_add {s : SetD} (h : WF s) (i : Int) (r : Nat) (hr : (r : Int) < z s.2.1) : memS (addS s i) (r : Int) = (memS s (r : Int) || ((i : Int) == (r : Int))) := by
 have h2 := (h.add i).1
 unfold addS at h2 ⊢
 cases hm : (memS s i || !(decide (0 ≤ i) && decide (i < z s.2.1))) with
 | true =>
  show memS s (r : Int) = _
  by_cases e : i = (r : Int)
  ·subst e
   rw [decide_eq_true (Int.natCast_nonneg r), decide_eq_true hr] at hm
   have hm : memS s (r : Int) = true := by simpa using hm
   rw [hm]; rfl
  ·rw [show ((i : Int) == (r : Int)) = false from beq_false_of_ne e, Bool.or_false]
 | false =>
  rw [hm] at h2
  simp only [Bool.or_eq_false_iff, Bool.not_eq_false', Bool.and_eq_true, decide_eq_true_eq] at hm
  obtain ⟨_, h0, h1⟩ := hm
  show memS (s.1, s.2.1, addW s.2.2.1 i.toNat, ()) (r : Int) = _
  have h2' : WF (s.1, s.2.1, addW s.2.2.1 i.toNat, ()) := h2
  rw [h2'.nat, h.nat]
  show memW (addW s.2.2.1 i.toNat) r = _
  rw [memW_add h.ok (by omega)]
  by_cases e : r = i.toNat
  ·rw [decide_eq_true e, show ((i : Int) == (r : Int)) = true from beq_iff_eq.2 (by omega)]
   simp
  ·rw [decide_eq_false e, show ((i : Int) == (r : Int)) = false from beq_false_of_ne (by omega)]
   simp
theorem mem_remL {r : Nat} : ∀ {l : List (Den I)} {s : SetD}, WF s → memS (remL s l) (r : Int) = (memS s (r : Int) && !inL l (r : Int))
 | [], s, _ => by
  show memS s (r : Int) = (memS s (r : Int) && !false)
  simp
 | i :: l, s, h => by
  have e : remL s (i :: l) = remL (remS s i) l := rfl
  rw [e, mem_remL (h.rem i).1, mem_rem h]
  show _ = (memS s (r : Int) && !(((i : Int) == (r : Int)) || inL l (r : Int)))
  cases memS s (r : Int) <;> cases ((i : Int) == (r : Int)) <;> rfl
theorem mem_addL {r : Nat} : ∀ {l : List (Den I)} {s : SetD}, WF s → (r : Int) < z s.2.1 → memS (addL s l) (r : Int) = (memS s (r : Int) || inL l (r : Int))
 | [], s, _, _ => by
  show memS s (r : Int) = (memS s (r : Int) || false)
  simp
 | i :: l, s, h, hr => by
  have e : addL s (i :: l) = addL (addS s i) l := rfl
  rw [e, mem_addL (h.add i).1 (by rw [(h.add i).2]; exact hr), mem_add h i r hr]
  show _ = (memS s (r : Int) || (((i : Int) == (r : Int)) || inL l (r : Int)))
  cases memS s (r : Int) <;> cases ((i : Int) == (r : Int)) <;> rfl
theorem mem_step {f : Fn} {p : Den qag} {s : SetD} {r : Nat} (h : WF s) (hr : (r : Int) < z s.2.1) : memS (stepF f p s) (r : Int) = stepP f p (fun r => memS s (r : Int)) r := by
 unfold stepF stepP
 rw [mem_addL h.remL.1 (by rw [h.remL.2]; exact hr), mem_remL h, Bool.or_comm]
theorem step_congr {f : Fn} {p : Den qag} {P Q : Nat → Bool} {r : Nat} (h : P r = Q r) : stepP f p P r = stepP f p Q r := by
 unfold stepP
 rw [h]
theorem back_congr {f : Fn} {b : Int} {r : Nat} : ∀ {n : Nat} {i : Int} {P Q : Nat → Bool}, P r = Q r → backP f b n i P r = backP f b n i Q r
 | 0, _, _, _, h => h
 | n + 1, i, P, Q, h => back_congr (n := n) (step_congr h)
theorem mem_back {f : Fn} {b : Int} {r : Nat} : ∀ {n : Nat} {i : Int} {s : SetD}, WF s → (r : Int) < z s.2.1 → memS (backL f b n i s) (r : Int) = backP f b n i (fun r => memS s (r : Int)) r
 | 0, _, _, _, _ => rfl
 | n + 1, i, s, h, hr => by
  have e : backL f b (n + 1) i s = backL f b n (i - 1) (stepF f (b, i, ()) s) := rfl
  have hs := h.step f (b, i, ())
  rw [e, mem_back hs.1 (by rw [hs.2]; exact hr)]
  exact back_congr (mem_step h hr)
theorem mem_outT {f : Fn} {ins : Ins} (h : WA (aOf f ins)) {s : SetD} (hs : WF s ∧ z s.2.1 = (nR f : Int)) (e : Den qae) (r : Nat) : memS (outT (aOf f ins) s e) (r : Int) = (memS s (r : Int) || (inB f e && mI ins (z e.1).toNat r)) := by
 unfold outT
 have e0 : inB (aOf f ins).1 e = inB f e := rfl
 rw [e0]
 cases hi : inB f e with
 | false =>
  show memS s (r : Int) = _
  rw [Bool.false_and, Bool.or_false]
 | true =>
  have hi2 := hi
  unfold inB at hi2
  simp only [Bool.and_eq_true, decide_eq_true_eq] at hi2
  obtain ⟨g1, g2, g3⟩ := h.set (b := (z e.1).toNat) (by show (z e.1).toNat < ln qab (qat f); omega)
  show memS (unionS s (gd (.ptr qaa) ins (z e.1).toNat)) (r : Int) = _
  rw [g1, mem_union hs.1 g2 (hs.2.trans g3.symm), Bool.true_and]
  rfl
theorem mem_outL {f : Fn} {ins : Ins} (h : WA (aOf f ins)) (r : Nat) : ∀ {l : List (Den qae)} {s : SetD}, WF s ∧ z s.2.1 = (nR f : Int) → memS (outL (aOf f ins) s l) (r : Int) = (memS s (r : Int) || List.any l (fun e => inB f e && mI ins (z e.1).toNat r))
 | [], s, _ => by
  show memS s (r : Int) = (memS s (r : Int) || false)
  rw [Bool.or_false]
 | e :: l, s, hs => by
  have e0 : outL (aOf f ins) s (e :: l) = outL (aOf f ins) (outT (aOf f ins) s e) l := rfl
  rw [e0, mem_outL h r (h.out hs e), mem_outT h hs, List.any_cons, Bool.or_assoc]
theorem mem_out {f : Fn} {ins : Ins} (h : WA (aOf f ins)) (b : Int) (r : Nat) : memS (outS (aOf f ins) b) (r : Int) = outQ f b (mI ins) r := by
 have h1 := mem_outL h r (l := tSuc (blk f b)) (s := newS (nR f : Int)) ⟨wf_new h.n, rfl⟩
 have e : outS (aOf f ins) b = outL (aOf f ins) (newS (nR f : Int)) (tSuc (blk f b)) := rfl
 have h0 : memS (newS (nR f : Int)) (r : Int) = false := by
  rw [(wf_new (n := nR f) h.n).nat]
  exact memW_new _ _
 rw [e, h1, h0, Bool.false_or]
 rfl
theorem mem_all {f : Fn} {ins : Ins} (h : WA (aOf f ins)) (b i : Int) {r : Nat} (hr : r < nR f) : memS (backS (aOf f ins) (outS (aOf f ins) b) b i) (r : Int) = TP f (mI ins) b i r := by
 have ho := h.outS b
 have e : backS (aOf f ins) (outS (aOf f ins) b) b i = backL f b (nIns f b - i + 1).toNat (nIns f b) (outS (aOf f ins) b) := rfl
 rw [e, mem_back ho.1 (by rw [ho.2]; exact Int.ofNat_lt.2 hr)]
 exact back_congr (mem_out h b r)
theorem mI_big {f : Fn} {ins : Ins} (h : WA (aOf f ins)) {b r : Nat} (hb : nB f ≤ b) : mI ins b r = false := by
 unfold mI sI
 have e : gd (.ptr qaa) ins b = none := by
  show ins.getD b _ = _
  rw [List.getD_eq_getElem?_getD, List.getElem?_eq_none (by show ln (.ptr qaa) ins ≤ b; rw [show ln (.ptr qaa) ins = nB f from h.len]; exact hb)]
  rfl
 rw [e]
 unfold memS
 have h1 : decide ((r : Int) < z (oG qaa none).2.1) = false := decide_eq_false (by
  show ¬ (r : Int) < 0
  omega)
 rw [h1, Bool.false_and, Bool.and_false]
def Post (f : Fn) (X : Nat → Nat → Bool) : Prop := ∀ b, b < nB f → ∀ r, r < nR f → TP f X b (-1) r = true → X b r = true
def Le (X Y : Nat → Nat → Bool) : Prop := ∀ b r, X b r = true → Y b r = true
theorem upd_least {f : Fn} {X : Nat → Nat → Bool} (hX : Post f X) {ins : Ins} (h : WA (aOf f ins)) (hl : Le (mI ins) X) {b : Nat} (hb : b < nB f) : Le (mI (updB f ins b)) X := fun i r hm => by
 rw [upd_mem h hb] at hm
 simp only [Bool.or_eq_true, Bool.and_eq_true, decide_eq_true_eq] at hm
 rcases hm with hm | ⟨rfl, hm⟩
 ·exact hl i r hm
 ·have ht := tB_ok h i
  have hr : r < nR f := by
   have hm2 := hm
   unfold memS at hm2
   simp only [Bool.and_eq_true, decide_eq_true_eq] at hm2
   have := hm2.2.1
   rw [ht.2] at this
   omega
  have e : memS (tB f ins i) (r : Int) = TP f (mI ins) i (-1) r := mem_all h i (-1) hr
  rw [e] at hm
  exact hX i hb r hr (TP_mono hl r hm)
theorem pass_least {f : Fn} {X : Nat → Nat → Bool} (hX : Post f X) : ∀ {n : Nat} {ins : Ins} {c : Bool}, n ≤ nB f → WA (aOf f ins) → Le (mI ins) X → Le (mI (passF f n ins c).1) X
 | 0, _, _, _, _, h => h
 | n + 1, _, _, hn, h, hl => pass_least hX (n := n) (by omega) (h.upd (by omega)) (upd_least hX h hl (by omega))
theorem fix_least {f : Fn} {X : Nat → Nat → Bool} (hX : Post f X) : ∀ {m : Nat} {ins : Ins}, WA (aOf f ins) → Le (mI ins) X → Le (mI (fixA f m ins)) X
 | 0, _, _, h => h
 | m + 1, ins, h, hl => by
  show Le (mI (cond (passF f (nB f) ins false).2 (fixA f m (passF f (nB f) ins false).1) (passF f (nB f) ins false).1)) X
  have hp := WA.pass (c := false) (Nat.le_refl _) h
  have hq := pass_least hX (c := false) (Nat.le_refl _) h hl
  cases (passF f (nB f) ins false).2 with
  | true => exact fix_least hX hp hq
  | false => exact hq
theorem an_least {f : Fn} (h : nR f ≤ 65536) {X : Nat → Nat → Bool} (hX : Post f X) : Le (mI (anF f)) X := fix_least hX (wa0 h) fun b r hm => by
 have e : mI (ins0 f) b r = false := by
  by_cases hb : b < nB f
  ·unfold mI sI
   have e : gd (.ptr qaa) (ins0 f) b = some (newS (nR f : Int)) := by
    show (List.replicate (nB f) (some (newS (nR f : Int)))).getD b _ = _
    rw [List.getD_eq_getElem?_getD, List.getElem?_replicate, if_pos hb]
    rfl
   rw [e]
   show memS (newS (nR f : Int)) (r : Int) = false
   rw [(wf_new (n := nR f) h).nat]
   exact memW_new _ _
  ·exact mI_big (wa0 h) (by omega)
 rw [e] at hm
 exact absurd hm (by decide)
theorem fix_post {f : Fn} : ∀ {m : Nat} {ins : Ins}, nB f * nR f < cnt2 (nB f) (nR f) (mI ins) + m → WA (aOf f ins) → Post f (mI (fixA f m ins))
 | 0, ins, hm, _ => by
  have := cnt2_top (nB f) (nR f) (mI ins)
  omega
 | m + 1, ins, hm, h => by
  show Post f (mI (cond (passF f (nB f) ins false).2 (fixA f m (passF f (nB f) ins false).1) (passF f (nB f) ins false).1))
  have hp := WA.pass (c := false) (Nat.le_refl _) h
  cases hc : (passF f (nB f) ins false).2 with
  | true =>
   have := pass_cnt h hc
   exact fix_post (m := m) (by omega) hp
  | false =>
   obtain ⟨h1, h2⟩ := pass_fix (Nat.le_refl _) h hc
   show Post f (mI (passF f (nB f) ins false).1)
   rw [h1]
   intro b hb r hr ht
   obtain ⟨g1, g2, g3⟩ := h.set hb
   have ht' := tB_ok h b
   have hu := union_f (h2 b hb)
   have hm := mem_union g2 ht'.1 (g3.trans ht'.2.symm) r
   rw [hu, show memS (tB f ins b) (r : Int) = TP f (mI ins) b (-1) r from mem_all h b (-1) hr, ht, Bool.or_true] at hm
   exact hm
theorem an_post {f : Fn} (h : nR f ≤ 65536) : Post f (mI (anF f)) := fix_post (by omega) (wa0 h)
theorem rstep_least {f : Fn} {X : Nat → Nat → Bool} (hX : Post f X) {live : BLL} (h : RL f live) (hl : Le (mR live) X) {b : Nat} (hb : b < nB f) : Le (mR (rStep f live b)) X := fun i r hm => by
 by_cases hi : i < nB f
 ·have hr := mR_top (rStep_w h.w hb) hi hm
  rw [rStep_mem h.w hb hr] at hm
  by_cases e : b = i
  ·subst e
   rw [if_pos rfl] at hm
   exact hX b hb r hr (TP_mono hl r hm)
  ·rw [if_neg e] at hm
   exact hl i r hm
 ·rw [mR_big (rStep_w h.w hb) (by omega)] at hm
  exact absurd hm (by decide)
theorem rpass_least {f : Fn} {X : Nat → Nat → Bool} (hX : Post f X) : ∀ {n b : Nat} {live : BLL} {c : Bool}, b + n ≤ nB f → RL f live → Le (mR live) X → Le (mR (rPass f n b live c).1) X
 | 0, _, _, _, _, _, h => h
 | n + 1, _, _, _, hn, h, hl => rpass_least hX (n := n) (by omega) (h.step (by omega)) (rstep_least hX h hl (by omega))
theorem rfix_least {f : Fn} {X : Nat → Nat → Bool} (hX : Post f X) : ∀ {m : Nat} {live : BLL}, RL f live → Le (mR live) X → Le (mR (fixR f m live)) X
 | 0, _, _, h => h
 | m + 1, live, h, hl => by
  show Le (mR (cond (rPass f (nB f) 0 live false).2 (fixR f m (rPass f (nB f) 0 live false).1) (rPass f (nB f) 0 live false).1)) X
  have hp := RL.pass (n := nB f) (b := 0) (c := false) (by omega) h
  have hq := rpass_least hX (n := nB f) (b := 0) (c := false) (by omega) h hl
  cases (rPass f (nB f) 0 live false).2 with
  | true => exact rfix_least hX hp hq
  | false => exact hq
theorem rin_least {f : Fn} (h : nR f ≤ 65536) {X : Nat → Nat → Bool} (hX : Post f X) : Le (mR (rIn f)) X := rfix_least hX (rl0 h) fun b r hm => by
 have e : mR (live0 f) b r = false := by
  by_cases hb : b < nB f
  ·cases hm' : mR (live0 f) b r with
   | false => rfl
   | true =>
    have hr := mR_top (rl0 h).w hb hm'
    have : mR (live0 f) b r = false := by
     unfold mR gb
     show (List.getD ((live0 f).getD b _) r _ : Bool) = false
     unfold live0
     rw [mapN_get hb, List.getD_eq_getElem?_getD, List.getElem?_replicate, if_pos hr]
     rfl
    exact hm'.symm.trans this
  ·exact mR_big (rl0 h).w (by omega)
 rw [e] at hm
 exact absurd hm (by decide)
theorem rfix_eq {f : Fn} : ∀ {m : Nat} {live : BLL}, nB f * nR f < cnt2 (nB f) (nR f) (mR live) + m → RL f live → ∀ b, b < nB f → qci f (b : Int) (-1) (fixR f m live) = gd (.sl 1 .bool) (fixR f m live) b
 | 0, live, hm, _ => by
  have := cnt2_top (nB f) (nR f) (mR live)
  omega
 | m + 1, live, hm, h => by
  show ∀ b, b < nB f → qci f (b : Int) (-1) (cond (rPass f (nB f) 0 live false).2 (fixR f m (rPass f (nB f) 0 live false).1) (rPass f (nB f) 0 live false).1) = gd (.sl 1 .bool) (cond (rPass f (nB f) 0 live false).2 (fixR f m (rPass f (nB f) 0 live false).1) (rPass f (nB f) 0 live false).1) b
  have hp := RL.pass (n := nB f) (b := 0) (c := false) (by omega) h
  cases hc : (rPass f (nB f) 0 live false).2 with
  | true =>
   have := rpass_cnt h hc
   exact rfix_eq (m := m) (by omega) hp
  | false =>
   obtain ⟨h1, h2⟩ := rpass_fix (n := nB f) (b := 0) (by omega) h hc
   show ∀ b, b < nB f → qci f (b : Int) (-1) (rPass f (nB f) 0 live false).1 = gd (.sl 1 .bool) (rPass f (nB f) 0 live false).1 b
   rw [h1]
   exact fun b hb => h2 b (Nat.zero_le _) (by omega)
theorem rin_eq {f : Fn} (h : nR f ≤ 65536) : ∀ b, b < nB f → qci f (b : Int) (-1) (rIn f) = gd (.sl 1 .bool) (rIn f) b := rfix_eq (by omega) (rl0 h)
theorem rin_post {f : Fn} (h : nR f ≤ 65536) : Post f (mR (rIn f)) := fun b hb r hr ht => by
 unfold mR
 rw [← rin_eq h b hb]
 exact (gb_out hr).trans ht
theorem live_eq {f : Fn} (h : nR f ≤ 65536) : mI (anF f) = mR (rIn f) := by
 funext b r
 have h1 := an_least h (rin_post h) b r
 have h2 := rin_least h (an_post h) b r
 cases hm : mI (anF f) b r with
 | true => exact (h1 hm).symm
 | false =>
  cases hm' : mR (rIn f) b r with
  | false => rfl
  | true => exact absurd (hm.symm.trans (h2 hm')) (by decide)
theorem In_eq {f : Fn} (h : nR f ≤ 65536) : InF f = rIn f := by
 have hw := (rl_in h).w
 apply List.ext_getElem?
 intro b
 by_cases hb : b < nB f
 ·have e1 : (InF f)[b]? = some (flagsF (gd (.ptr qaa) (anF f) b) (nR f : Int)) := by
   unfold InF mapN
   rw [List.getElem?_map, List.getElem?_range hb]
   rfl
  have hlen : b < (rIn f).length := by show b < ln (.sl 1 .bool) (rIn f); rw [hw.len]; exact hb
  have e2 : (rIn f)[b]? = some (gd (.sl 1 .bool) (rIn f) b) := by
   show _ = some ((rIn f).getD b _)
   rw [List.getD_eq_getElem?_getD, List.getElem?_eq_getElem hlen]
   rfl
  rw [e1, e2, ← rin_eq h b hb]
  refine congrArg some (outP_ext fun r hr => ?_)
  have hr' : r < nR f := hr
  have e3 : hasS (gd (.ptr qaa) (anF f) b) (r : Int) = mI (anF f) b r := rfl
  rw [e3, live_eq h]
  have e4 : gb (qci f (b : Int) (-1) (rIn f)) r = TP f (mR (rIn f)) b (-1) r := gb_out hr'
  rw [← e4, rin_eq h b hb]
  rfl
 ·rw [List.getElem?_eq_none (by rw [show (InF f).length = nB f from qdg _ _]; omega), List.getElem?_eq_none (by show ln (.sl 1 .bool) (rIn f) ≤ b; rw [hw.len]; omega)]
theorem Out_eq {f : Fn} (h : nR f ≤ 65536) : OutF f = rOutF f := mapN_ext fun b _ => outP_ext fun r hr => by
 have e : hasS (some (outS (aOf f (anF f)) (b : Int))) (r : Int) = memS (outS (aOf f (anF f)) (b : Int)) (r : Int) := rfl
 rw [e, mem_out (wa_an h), live_eq h]
theorem Before_eq {f : Fn} (h : nR f ≤ 65536) (p : Den qag) : qbw f p = rBeforeF f p := by
 unfold qbw rBeforeF
 cases posB f (z p.1) (z p.2.1) with
 | false => rfl
 | true =>
  refine outP_ext fun r hr => ?_
  have hr' : r < nR f := hr
  have e : hasS (some (backS (aOf f (anF f)) (outS (aOf f (anF f)) (z p.1)) (z p.1) (z p.2.1))) (r : Int) = memS (backS (aOf f (anF f)) (outS (aOf f (anF f)) (z p.1)) (z p.1) (z p.2.1)) (r : Int) := rfl
  rw [e, mem_all (wa_an h) _ _ hr', live_eq h]
theorem sameB_refl : ∀ l : BL, sameB l l = true
 | [] => rfl
 | x :: l => by
  show cond (!((bOf x) == (bOf x))) false (sameB l l) = true
  rw [beq_self_eq_true]
  exact sameB_refl l
theorem sameBools_refl (l : BL) : qby l l = true := by
 unfold qby
 rw [show ((ln .bool l : Int) != (ln .bool l : Int)) = false from by simp]
 exact sameB_refl l
def k_law21_awake : Con := con [] .bool (fun x => True) fun x => awakeT
theorem m_law21_awake (hp : True) : Runs E_B17 (start E_B17 f_law21_awake []) (fun r_ h_ => r_ = (vb (awakeT)) ∧ h_ = []) := .tree E_B17_ok (law21_awake_t) (by
 rw [inH, outH, beH1, beH2, beH3]
 repeat (first | exact ⟨rfl, rfl⟩ | refine ⟨by first | exact trivial | exact smH | exact ⟨by decide, by decide⟩, fun _ => ?_⟩ | intro _))
theorem c_law21_awake : qas E_B17 f_law21_awake k_law21_awake.spec := qbg fun x hx hp => ⟨rfl, m_law21_awake hp⟩
def L_B17 : List (FuncId × FSpec) := [(f_law21_awake, k_law21_awake.spec)] ++ L_B16
theorem L_B17_ok : ∀ x ∈ L_B17, qas (ctx []) x.1 x.2 := by
 unfold L_B17
 simp only [List.cons_append, List.nil_append, List.forall_mem_cons]
 exact ⟨c_law21_awake, L_B16_ok⟩
def LI_B17 : List IoT := [] ++ LI_B16
theorem LI_B17_ok : ∀ x ∈ LI_B17, qbn (ctx []) x.1 x.2.1 x.2.2 := by
 unfold LI_B17
 simp only [List.cons_append, List.nil_append, List.forall_mem_cons]
 exact LI_B16_ok
end Burn.M21
namespace Burn.M21
open Go Go.BE Go.Proofs
set_option maxRecDepth 100000
set_option linter.unusedVariables false
set_option linter.unusedSimpArgs false
open Burn.Cfg
open Burn.Bit
noncomputable abbrev E_B18 : Ctx := ctx L_B17 LI_B17
theorem E_B18_ok : EOK E_B18 := ctx_ok L_B17_ok LI_B17_ok
def cuts_B18 : CutL := [([], 4, 0, [1, 3, 4, 40, 41, 42], [], []),
 ([], 4, 2, [1, 3, 4, 5, 6, 7, 8, 40, 41, 42], [], []),
 ([], 4, 4, [1, 3, 4, 5, 6, 7, 8, 9, 10, 40, 41, 42, 91, 92], [], []),
 ([], 4, 6, [1, 3, 4, 5, 6, 40, 41, 42, 132, 133], [], []),
 ([], 4, 8, [1, 3, 4, 5, 6, 12, 13, 40, 41, 42, 132, 133, 138, 139, 140], [], [])]
def rets_B18 : FuncId → List (Option Fx)
 | _ => []
def H_B18 : Hints := { cut := cutOf cuts_B18, ret := rets_B18 }
noncomputable def qbf (f : Den qad) (in_ : List (Den (.sl 1 .bool))) (out : List (Den (.sl 1 .bool))) (t40 : List (Den qab)) (t41 : Int) (t42 : Int) : Cfg := hcfg E_B18 qai 0 [(1, (.rtp qad f)), (3, (.tv (.sl 24 (.sl 1 .bool)) in_)), (4, (.tv (.sl 24 (.sl 1 .bool)) out)), (40, (.tv (.sl 136 qab) t40)), (41, (vi t41)), (42, (vi t42))] [] 0
noncomputable def qbq (f : Den qad) (in_ : List (Den (.sl 1 .bool))) (out : List (Den (.sl 1 .bool))) (b : Int) (after : List (Den .bool)) (i : Int) (t40 : List (Den qab)) (t41 : Int) (t42 : Int) (x_0 : List (Den I)) (x_1 : List (Den qaf)) (x_2 : Int) (x_3 : List (Den I)) (x_4 : List (Den I)) (x_5 : List (Den qae)) (x_6 : Int) : Cfg := hcfg E_B18 qai 2 [(1, (.rtp qad f)), (3, (.tv (.sl 24 (.sl 1 .bool)) in_)), (4, (.tv (.sl 24 (.sl 1 .bool)) out)), (5, (vi b)), (6, (.ref 0 0)), (7, (.tv (.sl 1 .bool) after)), (8, (vi i)), (40, (.tv (.sl 136 qab) t40)), (41, (vi t41)), (42, (vi t42))] [(0, ⟨(.cells [(.tv (.sl 8 I) x_0), (.tv (.sl 80 qaf) x_1), (vi x_2), (.tv (.sl 8 I) x_3), (.tv (.sl 8 I) x_4), (.tv (.sl 32 qae) x_5), (vi x_6)]), 0, [], false, none⟩)] 1
noncomputable def qbe (f : Den qad) (in_ : List (Den (.sl 1 .bool))) (out : List (Den (.sl 1 .bool))) (b : Int) (after : List (Den .bool)) (i : Int) (now : List (Den .bool)) (t40 : List (Den qab)) (t41 : Int) (t42 : Int) (t91 : Int) (t92 : Int) (x_0 : List (Den I)) (x_1 : List (Den qaf)) (x_2 : Int) (x_3 : List (Den I)) (x_4 : List (Den I)) (x_5 : List (Den qae)) (x_6 : Int) (at_ : Den qag) : Cfg := hcfg E_B18 qai 4 [(1, (.rtp qad f)), (3, (.tv (.sl 24 (.sl 1 .bool)) in_)), (4, (.tv (.sl 24 (.sl 1 .bool)) out)), (5, (vi b)), (6, (.ref 0 0)), (7, (.tv (.sl 1 .bool) after)), (8, (vi i)), (9, (.tref 1 1 [] (0 : Nat) [])), (10, (.tv (.sl 1 .bool) now)), (40, (.tv (.sl 136 qab) t40)), (41, (vi t41)), (42, (vi t42)), (91, (vi t91)), (92, (vi t92))] [(0, ⟨(.cells [(.tv (.sl 8 I) x_0), (.tv (.sl 80 qaf) x_1), (vi x_2), (.tv (.sl 8 I) x_3), (.tv (.sl 8 I) x_4), (.tv (.sl 32 qae) x_5), (vi x_6)]), 0, [], false, none⟩), (1, ⟨(.arr 0 16 qag ([at_] : List (Den qag))), 1, [], false, none⟩)] 2
noncomputable def qbp (f : Den qad) (in_ : List (Den (.sl 1 .bool))) (out : List (Den (.sl 1 .bool))) (b : Int) (t40 : List (Den qab)) (t41 : Int) (t42 : Int) (t132 : Int) (t133 : Int) (x_0 : List (Den I)) (x_1 : List (Den qaf)) (x_2 : Int) (x_3 : List (Den I)) (x_4 : List (Den I)) (x_5 : List (Den qae)) (x_6 : Int) : Cfg := hcfg E_B18 qai 6 [(1, (.rtp qad f)), (3, (.tv (.sl 24 (.sl 1 .bool)) in_)), (4, (.tv (.sl 24 (.sl 1 .bool)) out)), (5, (vi b)), (6, (.ref 0 0)), (40, (.tv (.sl 136 qab) t40)), (41, (vi t41)), (42, (vi t42)), (132, (vi t132)), (133, (vi t133))] [(0, ⟨(.cells [(.tv (.sl 8 I) x_0), (.tv (.sl 80 qaf) x_1), (vi x_2), (.tv (.sl 8 I) x_3), (.tv (.sl 8 I) x_4), (.tv (.sl 32 qae) x_5), (vi x_6)]), 0, [], false, none⟩)] 1
noncomputable def qar (f : Den qad) (in_ : List (Den (.sl 1 .bool))) (out : List (Den (.sl 1 .bool))) (b : Int) (r : Int) (any : Bool) (t40 : List (Den qab)) (t41 : Int) (t42 : Int) (t132 : Int) (t133 : Int) (t138 : List (Den qae)) (t139 : Int) (t140 : Int) (x_0 : List (Den I)) (x_1 : List (Den qaf)) (x_2 : Int) (x_3 : List (Den I)) (x_4 : List (Den I)) (x_5 : List (Den qae)) (x_6 : Int) : Cfg := hcfg E_B18 qai 8 [(1, (.rtp qad f)), (3, (.tv (.sl 24 (.sl 1 .bool)) in_)), (4, (.tv (.sl 24 (.sl 1 .bool)) out)), (5, (vi b)), (6, (.ref 0 0)), (12, (vi r)), (13, (vb any)), (40, (.tv (.sl 136 qab) t40)), (41, (vi t41)), (42, (vi t42)), (132, (vi t132)), (133, (vi t133)), (138, (.tv (.sl 32 qae) t138)), (139, (vi t139)), (140, (vi t140))] [(0, ⟨(.cells [(.tv (.sl 8 I) x_0), (.tv (.sl 80 qaf) x_1), (vi x_2), (.tv (.sl 8 I) x_3), (.tv (.sl 8 I) x_4), (.tv (.sl 32 qae) x_5), (vi x_6)]), 0, [], false, none⟩)] 1
theorem law21_LivenessSteps_t (f : Den qad) : run E_B18 H_B18 qai 3000 (start E_B18 qai [(.tv qad f)]) = (.chk (True) (.know True (cond (!(awakeT)) (rt (vb false) []) (.chk (True) (.know True (cond (!(smallB f)) (rt (vb true) []) (.chk (qan f ∧ nR f ≤ 65536) (.chk (qan f ∧ nR f ≤ 65536) (.know (okD (.sl 24 (.sl 1 .bool)) (InF f)) (.know (okD (.sl 24 (.sl 1 .bool)) (OutF f)) (cond (((ln (.sl 1 .bool) (InF f)) : Int) != ((ln qab f.2.2.2.2.1) : Int)) (rt (vb false) []) (cond (((ln (.sl 1 .bool) (OutF f)) : Int) != ((ln qab f.2.2.2.2.1) : Int)) (rt (vb false) []) (hd (qbf f (InF f) (OutF f) f.2.2.2.2.1 ((ln qab f.2.2.2.2.1) : Int) (0 : Int))))))))))))))) := by kernel_rfl
theorem qeq (f : Den qad) (in_ : List (Den (.sl 1 .bool))) (out : List (Den (.sl 1 .bool))) (t40 : List (Den qab)) (t41 : Int) (t42 : Int) : run E_B18 H_B18 qai 3000 (qbf f in_ out t40 t41 t42) = (cond (decide (t42 < t41)) (.chk (0 ≤ t42 ∧ t42 < (ln qab t40)) (.chk (0 ≤ t42 ∧ t42 < (ln (.sl 1 .bool) in_)) (cond (((ln .bool (gd (.sl 1 .bool) in_ t42.toNat)) : Int) != ((ln I f.2.2.2.1) : Int)) (rt (vb false) []) (.chk (0 ≤ t42 ∧ t42 < (ln (.sl 1 .bool) out)) (cond (((ln .bool (gd (.sl 1 .bool) out t42.toNat)) : Int) != ((ln I f.2.2.2.1) : Int)) (rt (vb false) []) (.chk (0 ≤ t42 ∧ t42 < (ln (.sl 1 .bool) out)) (hd (qbq f in_ out t42 (gd (.sl 1 .bool) out t42.toNat) ((ln qaf ((gd qab t40 t42.toNat).2.1)) : Int) t40 t41 t42 ((gd qab t40 t42.toNat).1) ((gd qab t40 t42.toNat).2.1) (z ((gd qab t40 t42.toNat).2.2.1.1)) ((gd qab t40 t42.toNat).2.2.1.2.1) ((gd qab t40 t42.toNat).2.2.1.2.2.1) ((gd qab t40 t42.toNat).2.2.1.2.2.2.1) (z ((gd qab t40 t42.toNat).2.2.1.2.2.2.2.1)))))))))) (rt (vb true) [])) := by kernel_rfl
theorem qep (f : Den qad) (in_ : List (Den (.sl 1 .bool))) (out : List (Den (.sl 1 .bool))) (b : Int) (after : List (Den .bool)) (i : Int) (t40 : List (Den qab)) (t41 : Int) (t42 : Int) (x_0 : List (Den I)) (x_1 : List (Den qaf)) (x_2 : Int) (x_3 : List (Den I)) (x_4 : List (Den I)) (x_5 : List (Den qae)) (x_6 : Int) : run E_B18 H_B18 qai 3000 (qbq f in_ out b after i t40 t41 t42 x_0 x_1 x_2 x_3 x_4 x_5 x_6) = (cond (decide (i ≥ (-1 : Int))) (.chk ((0 : Nat) < (1 : Nat)) (.chk ((0 : Nat) < (1 : Nat)) (.chk (qan f ∧ nR f ≤ 65536) (.know (okD (.sl 1 .bool) (qbw f (b, i, ()))) (cond (((ln .bool (qbw f (b, i, ()))) : Int) != ((ln I f.2.2.2.1) : Int)) (rt (vb false) []) (hd (qbe f in_ out b after i (qbw f (b, i, ())) t40 t41 t42 ((ln .bool (qbw f (b, i, ()))) : Int) (0 : Int) x_0 x_1 x_2 x_3 x_4 x_5 x_6 (b, i, ())))))))) (.chk (0 ≤ b ∧ b < (ln (.sl 1 .bool) in_)) (.chk (True) (.know True (cond (!(qby after (gd (.sl 1 .bool) in_ b.toNat))) (rt (vb false) []) (.chk (0 ≤ b ∧ b < (ln (.sl 1 .bool) out)) (hd (qbp f in_ out b t40 t41 t42 ((ln .bool (gd (.sl 1 .bool) out b.toNat)) : Int) (0 : Int) x_0 x_1 x_2 x_3 x_4 x_5 x_6)))))))) := by kernel_rfl
theorem qeo (f : Den qad) (in_ : List (Den (.sl 1 .bool))) (out : List (Den (.sl 1 .bool))) (b : Int) (after : List (Den .bool)) (i : Int) (now : List (Den .bool)) (t40 : List (Den qab)) (t41 : Int) (t42 : Int) (t91 : Int) (t92 : Int) (x_0 : List (Den I)) (x_1 : List (Den qaf)) (x_2 : Int) (x_3 : List (Den I)) (x_4 : List (Den I)) (x_5 : List (Den qae)) (x_6 : Int) (at_ : Den qag) : run E_B18 H_B18 qai 3000 (qbe f in_ out b after i now t40 t41 t42 t91 t92 x_0 x_1 x_2 x_3 x_4 x_5 x_6 at_) = (cond (decide (t92 < t91)) (.chk (0 ≤ t92 ∧ t92 < (ln .bool now)) (.chk ((0 : Nat) < (1 : Nat)) (.chk (qan f) (.chk (True) (cond (inL (qdz f at_) t92) (.know (okD (.sl 8 I) (qdz f at_)) (.know True (cond (!((bOf (gd .bool now t92.toNat)) == true)) (rt (vb false) []) (hd (qbe f in_ out b after i now t40 t41 t42 t91 (IntKind.wrap .i64 (t92 + (1 : Int))) x_0 x_1 x_2 x_3 x_4 x_5 x_6 at_))))) (.chk (0 ≤ t92 ∧ t92 < (ln .bool after)) (cond (bOf (gd .bool after t92.toNat)) (.chk ((0 : Nat) < (1 : Nat)) (.chk (qan f) (.chk (True) (.know (okD (.sl 8 I) (qdz f at_)) (.know True (.know (okD (.sl 8 I) (qct f at_)) (.know True (cond (!((bOf (gd .bool now t92.toNat)) == (!(inL (qct f at_) t92)))) (rt (vb false) []) (hd (qbe f in_ out b after i now t40 t41 t42 t91 (IntKind.wrap .i64 (t92 + (1 : Int))) x_0 x_1 x_2 x_3 x_4 x_5 x_6 at_)))))))))) (.know (okD (.sl 8 I) (qdz f at_)) (.know True (cond (!((bOf (gd .bool now t92.toNat)) == false)) (rt (vb false) []) (hd (qbe f in_ out b after i now t40 t41 t42 t91 (IntKind.wrap .i64 (t92 + (1 : Int))) x_0 x_1 x_2 x_3 x_4 x_5 x_6 at_)))))))))))) (hd (qbq f in_ out b now (IntKind.wrap .i64 (i - (1 : Int))) t40 t41 t42 x_0 x_1 x_2 x_3 x_4 x_5 x_6))) := by kernel_rfl
theorem qen (f : Den qad) (in_ : List (Den (.sl 1 .bool))) (out : List (Den (.sl 1 .bool))) (b : Int) (t40 : List (Den qab)) (t41 : Int) (t42 : Int) (t132 : Int) (t133 : Int) (x_0 : List (Den I)) (x_1 : List (Den qaf)) (x_2 : Int) (x_3 : List (Den I)) (x_4 : List (Den I)) (x_5 : List (Den qae)) (x_6 : Int) : run E_B18 H_B18 qai 3000 (qbp f in_ out b t40 t41 t42 t132 t133 x_0 x_1 x_2 x_3 x_4 x_5 x_6) = (cond (decide (t133 < t132)) (hd (qar f in_ out b t133 false t40 t41 t42 t132 t133 x_5 ((ln qae x_5) : Int) (0 : Int) x_0 x_1 x_2 x_3 x_4 x_5 x_6)) (hd (qbf f in_ out t40 t41 (IntKind.wrap .i64 (t42 + (1 : Int)))))) := by kernel_rfl
theorem qem (f : Den qad) (in_ : List (Den (.sl 1 .bool))) (out : List (Den (.sl 1 .bool))) (b : Int) (r : Int) (any : Bool) (t40 : List (Den qab)) (t41 : Int) (t42 : Int) (t132 : Int) (t133 : Int) (t138 : List (Den qae)) (t139 : Int) (t140 : Int) (x_0 : List (Den I)) (x_1 : List (Den qaf)) (x_2 : Int) (x_3 : List (Den I)) (x_4 : List (Den I)) (x_5 : List (Den qae)) (x_6 : Int) : run E_B18 H_B18 qai 3000 (qar f in_ out b r any t40 t41 t42 t132 t133 t138 t139 t140 x_0 x_1 x_2 x_3 x_4 x_5 x_6) = (cond (decide (t140 < t139)) (.chk (0 ≤ t140 ∧ t140 < (ln qae t138)) (cond any (hd (qar f in_ out b r true t40 t41 t42 t132 t133 t138 t139 (IntKind.wrap .i64 (t140 + (1 : Int))) x_0 x_1 x_2 x_3 x_4 x_5 x_6)) (cond (decide ((z ((gd qae t138 t140.toNat).1)) ≥ (0 : Int))) (cond (decide ((z ((gd qae t138 t140.toNat).1)) < ((ln (.sl 1 .bool) in_) : Int))) (.chk (0 ≤ (z ((gd qae t138 t140.toNat).1)) ∧ (z ((gd qae t138 t140.toNat).1)) < (ln (.sl 1 .bool) in_)) (cond (((ln .bool (gd (.sl 1 .bool) in_ (((z ((gd qae t138 t140.toNat).1))).toNat))) : Int) == ((ln I f.2.2.2.1) : Int)) (.chk (0 ≤ (z ((gd qae t138 t140.toNat).1)) ∧ (z ((gd qae t138 t140.toNat).1)) < (ln (.sl 1 .bool) in_)) (.chk (0 ≤ r ∧ r < (ln .bool (gd (.sl 1 .bool) in_ (((z ((gd qae t138 t140.toNat).1))).toNat)))) (hd (qar f in_ out b r (bOf (gd .bool (gd (.sl 1 .bool) in_ (((z ((gd qae t138 t140.toNat).1))).toNat)) r.toNat)) t40 t41 t42 t132 t133 t138 t139 (IntKind.wrap .i64 (t140 + (1 : Int))) x_0 x_1 x_2 x_3 x_4 x_5 x_6)))) (hd (qar f in_ out b r false t40 t41 t42 t132 t133 t138 t139 (IntKind.wrap .i64 (t140 + (1 : Int))) x_0 x_1 x_2 x_3 x_4 x_5 x_6)))) (hd (qar f in_ out b r false t40 t41 t42 t132 t133 t138 t139 (IntKind.wrap .i64 (t140 + (1 : Int))) x_0 x_1 x_2 x_3 x_4 x_5 x_6))) (hd (qar f in_ out b r false t40 t41 t42 t132 t133 t138 t139 (IntKind.wrap .i64 (t140 + (1 : Int))) x_0 x_1 x_2 x_3 x_4 x_5 x_6))))) (.chk (0 ≤ b ∧ b < (ln (.sl 1 .bool) out)) (.chk (0 ≤ r ∧ r < (ln .bool (gd (.sl 1 .bool) out b.toNat))) (cond (!(any == (bOf (gd .bool (gd (.sl 1 .bool) out b.toNat) r.toNat)))) (rt (vb false) []) (hd (qbp f in_ out b t40 t41 t42 t132 (IntKind.wrap .i64 (t133 + (1 : Int))) x_0 x_1 x_2 x_3 x_4 x_5 x_6)))))) := by kernel_rfl
def yesSteps (f : Fn) : Bool := true
theorem small_r {f : Fn} (h : smallB f = true) : nR f ≤ 65536 := by
 unfold smallB at h
 simp only [Bool.and_eq_true, decide_eq_true_eq] at h
 have := h.2.1
 omega
theorem back_last {f : Fn} {b : Int} : ∀ (m : Nat) (j : Int) (P : Nat → Bool), backP f b (m + 1) j P = stepP f (b, j - (m : Int), ()) (backP f b m j P)
 | 0, j, P => by
  show stepP f (b, j, ()) P = stepP f (b, j - (0 : Nat), ()) P
  rw [show j - ((0 : Nat) : Int) = j by omega]
 | m + 1, j, P => by
  show backP f b (m + 1) (j - 1) (stepP f (b, j, ()) P) = stepP f (b, j - ((m + 1 : Nat) : Int), ()) (backP f b m (j - 1) (stepP f (b, j, ()) P))
  rw [back_last m (j - 1) (stepP f (b, j, ()) P), show j - 1 - (m : Int) = j - ((m + 1 : Nat) : Int) by omega]
theorem TP_step {f : Fn} {M : Nat → Nat → Bool} {b i : Int} (h1 : i ≤ nIns f b) : TP f M b i = stepP f (b, i, ()) (TP f M b (i + 1)) := by
 unfold TP
 have e : (nIns f b - i + 1).toNat = (nIns f b - (i + 1) + 1).toNat + 1 := by omega
 rw [e, back_last, show nIns f b - ((nIns f b - (i + 1) + 1).toNat : Int) = i by omega]
theorem TP_top {f : Fn} {M : Nat → Nat → Bool} {b : Int} : TP f M b (nIns f b + 1) = outQ f b M := by
 unfold TP
 rw [show (nIns f b - (nIns f b + 1) + 1).toNat = 0 by omega]
 rfl
theorem inRow {f : Fn} (hr : nR f ≤ 65536) {b : Nat} (hb : b < nB f) : gd (.sl 1 .bool) (InF f) b = outP (nR f) (TP f (mR (rIn f)) (b : Int) (-1)) := by
 rw [In_eq hr, ← rin_eq hr b hb]
 rfl
theorem outRow {f : Fn} (hr : nR f ≤ 65536) {b : Nat} (hb : b < nB f) : gd (.sl 1 .bool) (OutF f) b = outP (nR f) (outQ f (b : Int) (mR (rIn f))) := by
 rw [Out_eq hr]
 show (rOutF f).getD b _ = _
 unfold rOutF
 rw [mapN_get hb]
 rfl
theorem befRow {f : Fn} (hr : nR f ≤ 65536) {b : Nat} (hb : b < nB f) {i : Int} (h0 : -1 ≤ i) (h1 : i ≤ nIns f (b : Int)) : qbw f ((b : Int), i, ()) = outP (nR f) (TP f (mR (rIn f)) (b : Int) i) := by
 rw [Before_eq hr]
 unfold rBeforeF
 have e : posB f (z ((b : Int), i, ()).1) (z ((b : Int), i, ()).2.1) = true := by
  unfold posB
  rw [decide_eq_true (show (0 : Int) ≤ z ((b : Int), i, ()).1 from Int.natCast_nonneg _), decide_eq_true (show z ((b : Int), i, ()).1 < (nB f : Int) from Int.ofNat_lt.2 hb), decide_eq_true (show -1 ≤ z ((b : Int), i, ()).2.1 from h0), decide_eq_true (show z ((b : Int), i, ()).2.1 ≤ nIns f (z ((b : Int), i, ()).1) from h1)]
  rfl
 rw [e]
 rfl

theorem S8 {Q : AV → Heap → Prop} (f : Fn) (hr : nR f ≤ 65536) (b : Nat) (hb : b < nB f) (r : Nat) (hrr : r < nR f) (t40 : List (Den qab)) (t41 t42 : Int) (x0 : List (Den I)) (x1 : List (Den qaf)) (x2 : Int) (x3 x4 : List (Den I)) (x6 : Int) (hroom : room 32 (ln qae (tSuc (blk f (b : Int)))))
  (next : Runs E_B18 (qbp f (InF f) (OutF f) b t40 t41 t42 (nR f : Nat) (IntKind.wrap .i64 ((r : Int) + (1 : Int))) x0 x1 x2 x3 x4 (tSuc (blk f (b : Int))) x6) Q) :
  ∀ k, k ≤ ln qae (tSuc (blk f (b : Int))) → ∀ any : Bool, (any || List.any ((tSuc (blk f (b : Int))).drop k) (fun e => inB f e && mR (rIn f) (z e.1).toNat r)) = outQ f (b : Int) (mR (rIn f)) r → Runs E_B18 (qar f (InF f) (OutF f) b r any t40 t41 t42 (nR f : Nat) r (tSuc (blk f (b : Int))) (ln qae (tSuc (blk f (b : Int))) : Nat) k x0 x1 x2 x3 x4 (tSuc (blk f (b : Int))) x6) Q :=
 qcl (fun any ha => .tree E_B18_ok (qem _ _ _ _ _ _ _ _ _ _ _ _ _ _ _ _ _ _ _ _ _) (by
  rw [drop_ln, List.any_nil, Bool.or_false] at ha
  refine qah (fun h => absurd (of_decide_eq_true h) (Int.lt_irrefl _)) fun _ => ?_
  have eo : ln (.sl 1 .bool) (OutF f) = nB f := qdg _ _
  have er : ln .bool (outP (nR f) (outQ f (b : Int) (mR (rIn f)))) = nR f := qck _ _
  have eg : gd .bool (outP (nR f) (outQ f (b : Int) (mR (rIn f)))) r = outQ f (b : Int) (mR (rIn f)) r := gb_out hrr
  rw [eo, Int.toNat_natCast, Int.toNat_natCast, outRow hr hb, er, eg, ha]
  refine ⟨⟨Int.natCast_nonneg _, Int.ofNat_lt.2 hb⟩, fun _ => ⟨⟨Int.natCast_nonneg _, Int.ofNat_lt.2 hrr⟩, fun _ => qah (fun h => ?_) fun _ => next⟩⟩
  have h : (!(outQ f (b : Int) (mR (rIn f)) r == outQ f (b : Int) (mR (rIn f)) r)) = true := h
  rw [beq_self_eq_true] at h
  exact absurd h (by decide)))
  fun k hk ih any ha => .tree E_B18_ok (qem _ _ _ _ _ _ _ _ _ _ _ _ _ _ _ _ _ _ _ _ _) (by
   rw [qdq hk, List.any_cons] at ha
   refine qah (fun _ => ⟨⟨Int.natCast_nonneg _, Int.ofNat_lt.2 hk⟩, fun _ => ?_⟩) fun h => absurd (Int.ofNat_lt.2 hk) (of_decide_eq_false h)
   rw [Int.toNat_natCast, wrapS hk (qcf hroom)]
   generalize hg : gd qae (tSuc (blk f (b : Int))) k = e at ha ⊢
   have ei : ln (.sl 1 .bool) (InF f) = nB f := qdg _ _
   refine qah (fun h => ?_) fun h => ?_
   ·refine ih true ?_
    rw [h, Bool.true_or] at ha
    rw [Bool.true_or]
    exact ha
   rw [h, Bool.false_or] at ha
   refine qah (fun h1 => qah (fun h2 => ?_) fun h2 => ?_) fun h1 => ?_
   ·have h1' := of_decide_eq_true h1
    have h2' := of_decide_eq_true h2
    rw [ei] at h2'
    have hbn : (z e.1).toNat < nB f := by omega
    have hi : inB f e = true := by
     unfold inB
     rw [h1, decide_eq_true (show z e.1 < (ln qab (qat f) : Int) from h2')]
     rfl
    rw [hi, Bool.true_and] at ha
    have er : ln .bool (gd (.sl 1 .bool) (InF f) (z e.1).toNat) = nR f := by
     rw [inRow hr hbn]
     exact qck _ _
    rw [ei, er]
    refine ⟨⟨h1', h2'⟩, fun _ => qah (fun _ => ?_) fun h3 => ?_⟩
    ·refine ⟨⟨h1', h2'⟩, fun _ => ⟨⟨Int.natCast_nonneg _, Int.ofNat_lt.2 hrr⟩, fun _ => ?_⟩⟩
     refine ih _ ?_
     rw [← ha, Int.toNat_natCast, In_eq hr]
     rfl
    ·exact absurd h3 (by
      rw [show ((nR f : Int) == (ln I f.2.2.2.1 : Int)) = true from beq_self_eq_true _]
      decide)
   ·have hi : inB f e = false := by
     have h2' := of_decide_eq_false h2
     rw [ei] at h2'
     unfold inB
     rw [decide_eq_false (p := z e.1 < (ln qab (qat f) : Int)) h2', Bool.and_false]
    rw [hi, Bool.false_and, Bool.false_or] at ha
    refine ih false ?_
    rw [Bool.false_or]
    exact ha
   ·have hi : inB f e = false := by
     unfold inB
     rw [h1, Bool.false_and]
    rw [hi, Bool.false_and, Bool.false_or] at ha
    refine ih false ?_
    rw [Bool.false_or]
    exact ha)
theorem S6 {Q : AV → Heap → Prop} (f : Fn) (hr : nR f ≤ 65536) (b : Nat) (hb : b < nB f) (t40 : List (Den qab)) (t41 t42 : Int) (x0 : List (Den I)) (x1 : List (Den qaf)) (x2 : Int) (x3 x4 : List (Den I)) (x6 : Int) (hroom : room 32 (ln qae (tSuc (blk f (b : Int)))))
  (next : Runs E_B18 (qbf f (InF f) (OutF f) t40 t41 (IntKind.wrap .i64 (t42 + (1 : Int)))) Q) :
  ∀ r, r ≤ nR f → Runs E_B18 (qbp f (InF f) (OutF f) b t40 t41 t42 (nR f : Nat) r x0 x1 x2 x3 x4 (tSuc (blk f (b : Int))) x6) Q :=
 qcl (.tree E_B18_ok (qen _ _ _ _ _ _ _ _ _ _ _ _ _ _ _ _) (by
  refine qah (fun h => absurd (of_decide_eq_true h) (Int.lt_irrefl _)) fun _ => ?_
  exact next))
  fun r hrr ih => .tree E_B18_ok (qen _ _ _ _ _ _ _ _ _ _ _ _ _ _ _ _) (by
   refine qah (fun _ => ?_) fun h => absurd (Int.ofNat_lt.2 hrr) (of_decide_eq_false h)
   refine S8 f hr b hb r hrr t40 t41 t42 x0 x1 x2 x3 x4 x6 hroom ?_ 0 (Nat.zero_le _) false ?_
   ·rw [wrapS hrr (by omega)]
    exact ih
   ·rw [Bool.false_or, List.drop_zero]
    rfl)
theorem S4 {Q : AV → Heap → Prop} (f : Fn) (hsm : qan f) (hr : nR f ≤ 65536) (b : Nat) (i : Int) (hi : i ≤ nIns f (b : Int)) (t40 : List (Den qab)) (t41 t42 : Int) (x0 : List (Den I)) (x1 : List (Den qaf)) (x2 : Int) (x3 x4 : List (Den I)) (x5 : List (Den qae)) (x6 : Int)
  (next : Runs E_B18 (qbq f (InF f) (OutF f) b (outP (nR f) (TP f (mR (rIn f)) (b : Int) i)) (IntKind.wrap .i64 (i - (1 : Int))) t40 t41 t42 x0 x1 x2 x3 x4 x5 x6) Q) :
  ∀ r, r ≤ nR f → Runs E_B18 (qbe f (InF f) (OutF f) b (outP (nR f) (TP f (mR (rIn f)) (b : Int) (i + 1))) i (outP (nR f) (TP f (mR (rIn f)) (b : Int) i)) t40 t41 t42 (nR f : Nat) r x0 x1 x2 x3 x4 x5 x6 ((b : Int), i, ())) Q :=
 qcl (.tree E_B18_ok (qeo _ _ _ _ _ _ _ _ _ _ _ _ _ _ _ _ _ _ _ _) (by
  refine qah (fun h => absurd (of_decide_eq_true h) (Int.lt_irrefl _)) fun _ => ?_
  exact next))
  fun r hrr ih => .tree E_B18_ok (qeo _ _ _ _ _ _ _ _ _ _ _ _ _ _ _ _ _ _ _ _) (by
   have en : ∀ P : Nat → Bool, ln .bool (outP (nR f) P) = nR f := fun P => qck _ _
   have eg : ∀ P : Nat → Bool, gd .bool (outP (nR f) P) r = P r := fun P => gb_out hrr
   have hri : 0 ≤ (r : Int) ∧ (r : Int) < (nR f : Int) := ⟨Int.natCast_nonneg _, Int.ofNat_lt.2 hrr⟩
   have hs : TP f (mR (rIn f)) (b : Int) i r = (inL (qdz f ((b : Int), i, ())) (r : Int) || (TP f (mR (rIn f)) (b : Int) (i + 1) r && !inL (qct f ((b : Int), i, ())) (r : Int))) := by
    rw [TP_step hi]
    rfl
   refine qah (fun _ => ?_) fun h => absurd (Int.ofNat_lt.2 hrr) (of_decide_eq_false h)
   rw [en, en, Int.toNat_natCast, eg, eg, wrapS hrr (by omega)]
   refine ⟨hri, fun _ => ⟨Nat.zero_lt_one, fun _ => ⟨hsm, fun _ => ⟨trivial, fun _ => qah (fun h => ?_) fun h => ?_⟩⟩⟩⟩
   ·intro _ _
    rw [h, Bool.true_or] at hs
    refine qah (fun h2 => ?_) fun _ => ih
    have h2 : (!(TP f (mR (rIn f)) (b : Int) i r == true)) = true := h2
    rw [hs] at h2
    exact absurd h2 (by decide)
   rw [h, Bool.false_or] at hs
   refine ⟨hri, fun _ => qah (fun h1 => ?_) fun h1 => ?_⟩
   ·have h1 : TP f (mR (rIn f)) (b : Int) (i + 1) r = true := h1
    rw [h1, Bool.true_and] at hs
    refine ⟨Nat.zero_lt_one, fun _ => ⟨hsm, fun _ => ⟨trivial, fun _ _ _ _ _ => qah (fun h2 => ?_) fun _ => ih⟩⟩⟩
    have h2 : (!(TP f (mR (rIn f)) (b : Int) i r == (!inL (qct f ((b : Int), i, ())) (r : Int)))) = true := h2
    rw [hs, beq_self_eq_true] at h2
    exact absurd h2 (by decide)
   ·have h1 : TP f (mR (rIn f)) (b : Int) (i + 1) r = false := h1
    rw [h1, Bool.false_and] at hs
    intro _ _
    refine qah (fun h2 => ?_) fun _ => ih
    have h2 : (!(TP f (mR (rIn f)) (b : Int) i r == false)) = true := h2
    rw [hs] at h2
    exact absurd h2 (by decide))
theorem S2 {Q : AV → Heap → Prop} (f : Fn) (hsm : qan f) (hr : nR f ≤ 65536) (b : Nat) (hb : b < nB f) (t40 : List (Den qab)) (t41 t42 : Int) (x0 : List (Den I)) (x1 : List (Den qaf)) (x2 : Int) (x3 x4 : List (Den I)) (x6 : Int) (hroom : room 32 (ln qae (tSuc (blk f (b : Int)))))
  (next : Runs E_B18 (qbf f (InF f) (OutF f) t40 t41 (IntKind.wrap .i64 (t42 + (1 : Int)))) Q) :
  ∀ (m : Nat) (i : Int), i = (m : Int) - 2 → i ≤ nIns f (b : Int) → i ≤ 9223372036854775000 → Runs E_B18 (qbq f (InF f) (OutF f) b (outP (nR f) (TP f (mR (rIn f)) (b : Int) (i + 1))) i t40 t41 t42 x0 x1 x2 x3 x4 (tSuc (blk f (b : Int))) x6) Q
 | 0, i, hm, h1, h2 => .tree E_B18_ok (qep _ _ _ _ _ _ _ _ _ _ _ _ _ _ _ _) (by
  refine qah (fun h => absurd (of_decide_eq_true h) (by omega)) fun _ => ?_
  have ei : ln (.sl 1 .bool) (InF f) = nB f := qdg _ _
  have eo : ln (.sl 1 .bool) (OutF f) = nB f := qdg _ _
  have er : ln .bool (outP (nR f) (outQ f (b : Int) (mR (rIn f)))) = nR f := qck _ _
  have hbi : 0 ≤ (b : Int) ∧ (b : Int) < (nB f : Int) := ⟨Int.natCast_nonneg _, Int.ofNat_lt.2 hb⟩
  rw [ei, eo, Int.toNat_natCast, inRow hr hb, outRow hr hb, er, show i + 1 = -1 by omega, sameBools_refl]
  refine ⟨hbi, fun _ => ⟨trivial, fun _ _ => ⟨hbi, fun _ => ?_⟩⟩⟩
  exact S6 f hr b hb t40 t41 t42 x0 x1 x2 x3 x4 x6 hroom next 0 (Nat.zero_le _))
 | m + 1, i, hm, h1, h2 => .tree E_B18_ok (qep _ _ _ _ _ _ _ _ _ _ _ _ _ _ _ _) (by
  have hb1 := befRow hr hb (i := i) (by omega) h1
  have en : ln .bool (outP (nR f) (TP f (mR (rIn f)) (b : Int) i)) = nR f := qck _ _
  refine qah (fun _ => ?_) fun h => absurd (of_decide_eq_false h) (by omega)
  rw [hb1, en]
  refine ⟨Nat.zero_lt_one, fun _ => ⟨Nat.zero_lt_one, fun _ => ⟨⟨hsm, hr⟩, fun _ _ => qah (fun h => ?_) fun _ => ?_⟩⟩⟩
  ·rw [show ((nR f : Int) != (ln I f.2.2.2.1 : Int)) = false from bne_self_eq_false _] at h
   exact absurd h (by decide)
  ·refine S4 f hsm hr b i h1 t40 t41 t42 x0 x1 x2 x3 x4 (tSuc (blk f (b : Int))) x6 ?_ 0 (Nat.zero_le _)
   have ih := S2 f hsm hr b hb t40 t41 t42 x0 x1 x2 x3 x4 x6 hroom next m (i - 1) (by omega) (by omega) (by omega)
   rw [show i - 1 + 1 = i by omega] at ih
   rw [wrap64 _ (by omega) (by omega)]
   exact ih)
theorem S0 (f : Fn) (hsm : qan f) (hr : nR f ≤ 65536) (hf : okB (qat f)) : ∀ b, b ≤ nB f → Runs E_B18 (qbf f (InF f) (OutF f) (qat f) (nB f : Nat) b) (fun r_ h_ => r_ = vb (yesSteps f) ∧ h_ = []) :=
 qcl (.tree E_B18_ok (qeq _ _ _ _ _ _) (by
  refine qah (fun h => absurd (of_decide_eq_true h) (Int.lt_irrefl _)) fun _ => ?_
  exact ⟨rfl, rfl⟩))
  fun b hb ih => .tree E_B18_ok (qeq _ _ _ _ _ _) (by
   refine qah (fun _ => ?_) fun h => absurd (Int.ofNat_lt.2 hb) (of_decide_eq_false h)
   have ei : ln (.sl 1 .bool) (InF f) = nB f := qdg _ _
   have eo : ln (.sl 1 .bool) (OutF f) = nB f := qdg _ _
   have er : ln .bool (outP (nR f) (outQ f (b : Int) (mR (rIn f)))) = nR f := qck _ _
   have er2 : ln .bool (outP (nR f) (TP f (mR (rIn f)) (b : Int) (-1))) = nR f := qck _ _
   have hbi : 0 ≤ (b : Int) ∧ (b : Int) < (nB f : Int) := ⟨Int.natCast_nonneg _, Int.ofNat_lt.2 hb⟩
   have hbn : b < ln qab (qat f) := hb
   have hN : nIns f (b : Int) ≤ 9223372036854775000 := by
    have h2 : ln qaf (gd qab f.2.2.2.2.1 b).2.1 * 80 ≤ roomB := (hf.2 _ hbn).2.1.1.1
    have e : nIns f (b : Int) = (ln qaf (gd qab f.2.2.2.2.1 b).2.1 : Int) := rfl
    rw [e]
    simp only [roomB] at h2
    omega
   rw [ei, eo, Int.toNat_natCast, inRow hr hb, outRow hr hb, er, er2]
   have hne : ∀ h : ((nR f : Int) != (ln I f.2.2.2.1 : Int)) = true, False := fun h => by
    rw [show ((nR f : Int) != (ln I f.2.2.2.1 : Int)) = false from bne_self_eq_false _] at h
    exact absurd h (by decide)
   refine ⟨hbi, fun _ => ⟨hbi, fun _ => qah (fun h => (hne h).elim) fun _ => ⟨hbi, fun _ => qah (fun h => (hne h).elim) fun _ => ⟨hbi, fun _ => ?_⟩⟩⟩⟩
   have hw : IntKind.wrap .i64 ((b : Int) + (1 : Int)) = ((b + 1 : Nat) : Int) := wrapS hbn (qcf hf.1)
   rw [← hw] at ih
   have hi0 : -1 ≤ nIns f (b : Int) := by unfold nIns; omega
   have h := S2 f hsm hr b hb (qat f) (nB f : Nat) (b : Int) (gd qab (qat f) b).1 (gd qab (qat f) b).2.1 (z (gd qab (qat f) b).2.2.1.1) (gd qab (qat f) b).2.2.1.2.1 (gd qab (qat f) b).2.2.1.2.2.1 (z (gd qab (qat f) b).2.2.1.2.2.2.2.1) (okB_suc hf hbn).1 ih (nIns f (b : Int) + 2).toNat (nIns f (b : Int)) (by omega) (by omega) hN
   rw [TP_top] at h
   exact h)
def k_law21_LivenessSteps : Con := con [.d qad] .bool (fun x => qan x.1) fun x => yesSteps x.1
theorem m_law21_LivenessSteps (f : Den qad) (h_f : okD qad f) (hp : qan f) : Runs E_B18 (start E_B18 qai [(.tv qad f)]) (fun r_ h_ => r_ = (vb (yesSteps f)) ∧ h_ = []) := .tree E_B18_ok (law21_LivenessSteps_t f) (by
 refine ⟨trivial, fun _ _ => ⟨trivial, fun _ _ => qah (fun h => ⟨rfl, rfl⟩) fun h => ?_⟩⟩
 have hr := small_r (f := f) (by simpa using h)
 refine ⟨⟨hp, hr⟩, fun _ => ⟨⟨hp, hr⟩, fun _ _ _ => ?_⟩⟩
 have ei : ln (.sl 1 .bool) (InF f) = nB f := qdg _ _
 have eo : ln (.sl 1 .bool) (OutF f) = nB f := qdg _ _
 have hne : ∀ h : ((nB f : Int) != (ln qab f.2.2.2.2.1 : Int)) = true, False := fun h => by
  rw [show ((nB f : Int) != (ln qab f.2.2.2.2.1 : Int)) = false from bne_self_eq_false _] at h
  exact absurd h (by decide)
 rw [ei, eo]
 exact qah (fun h => (hne h).elim) fun _ => qah (fun h => (hne h).elim) fun _ => S0 f hp hr (okB_of h_f) 0 (Nat.zero_le _))
theorem c_law21_LivenessSteps : qas E_B18 qai k_law21_LivenessSteps.spec := qbg fun x hx hp => ⟨rfl, m_law21_LivenessSteps x.1 hx.1 hp⟩
end Burn.M21

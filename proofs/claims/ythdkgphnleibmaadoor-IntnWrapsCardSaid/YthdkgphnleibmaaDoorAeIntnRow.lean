/- A part of the proofs over this program: an abstract machine that the kernel evaluates, its soundness, and what the functions compute (IntnRow). -/
import Derived.Test.YthdkgphnleibmaaDoorAeRow
import Derived.Test.YthdkgphnleibmaaDoorAeIntnLaws
import Derived.Test.YthdkgphnleibmaaDoorRows
namespace Go.Proofs.YthdkgphnleibmaaDoor
open Go Go.AE Go.ChangeShapes Go.WideShapes Go.ChangeAt Go.WideMaps Go.WideElems Go.RowKit Burn.Intn
set_option maxRecDepth 100000
theorem own0 : ownKnob Tryd.prog.godebug = none := by kernel_rfl
theorem out0 : laidOutB Tryd.prog = true := by kernel_rfl
abbrev laid1 : List (String × DataW Unit) := [("burnish/intn.widths", Rows.laid_burnish_intn_widths)]
theorem gW : Tryd.prog.globalNamed "burnish/intn.widths" = some 0 := by kernel_rfl
theorem tW : (Tryd.prog.globals[0]?).map (·.type) = some 38 := by kernel_rfl
theorem uW : Tryd.prog.underlying 38 = some (.array 5 3) := by kernel_rfl
theorem u3 : Tryd.prog.underlying 3 = some (.int .i64) := by kernel_rfl
theorem u4 : Tryd.prog.underlying 4 = some .bool := by kernel_rfl
theorem door_met (os : Os) (args : Array Value) : laidMetH Tryd.prog laid1 ((World.doorLaid Tryd.prog 400 os).forCall (fun _ _ => 0) ⟨#[], args, []⟩).memory :=
  laidMetH_of_parts3 (fuel := 8) (laidMet_of_run' 8 (by kernel_rfl) (by kernel_rfl)) (by kernel_rfl) (by kernel_rfl)
theorem of_laid {W : World} (h : laidMetH Tryd.prog laid1 W) : GlR E6 W (fun b => b = 0) ∧ 0 < W.heap.size := by
  rw [MakeChecks.laidMetH_plain _ _ _ (by kernel_rfl)] at h
  obtain ⟨ps, ⟨g0, t0, cs0, f0, p0, q0, hg0, ht0, hv0, hd0, _⟩, _, _⟩ := h
  obtain rfl := Option.some.inj (gW.symm.trans hg0)
  obtain rfl := Option.some.inj (tW.symm.trans ht0)
  obtain ⟨xs, m1, rfl, hx1, hlen, hn, hel⟩ := DataW.trod_array uW hd0
  have c3 : Tryd.prog.cellsOf 3 = 1 := by kernel_rfl
  have c38 : Tryd.prog.cellsOf 38 = 5 := by kernel_rfl
  obtain ⟨l⟩ := cs0
  rw [c38] at hlen
  match l, hlen with
  | [c0, c1, c2, c3', c4], _ =>
    match xs, hn, hx1, hel with
    | [x0, x1, x2, x3, x4], _, hx1, hel =>
      have rd : ∀ (i : Nat) (c : Value) (x : DataW Unit × List MemPlace) (k : Int), DataW.trod (fun _ => ()) Tryd.prog W 0 (fun _ => true) false m1 3 [c] = some x → x.1 = .lit (.int .i64 k) → c = .int .i64 k := by
        intro i c x k hx hk
        obtain ⟨n, e1, e2, _⟩ := DataW.trod_int u3 hx
        rw [e2] at hk
        simp at hk e1
        rw [e1, hk]
      simp only [Prod.mk.injEq, Rows.laid_burnish_intn_widths, DataW.agg.injEq, List.map_cons, List.map_nil, List.cons.injEq] at hx1
      obtain ⟨⟨h0, h1, h2, h3, h4, _⟩, _⟩ := hx1
      have r0 := rd 0 c0 x0 0 (by simpa [c3] using hel 0 (by decide)) h0.symm
      have r1 := rd 1 c1 x1 1 (by simpa [c3] using hel 1 (by decide)) h1.symm
      have r2 := rd 2 c2 x2 8 (by simpa [c3] using hel 2 (by decide)) h2.symm
      have r3 := rd 3 c3' x3 32 (by simpa [c3] using hel 3 (by decide)) h3.symm
      have r4 := rd 4 c4 x4 64 (by simpa [c3] using hel 4 (by decide)) h4.symm
      subst r0; subst r1; subst r2; subst r3; subst r4
      have hc := World.var?_cell hg0 hv0
      refine ⟨fun g cs hg => ?_, ?_⟩
      · match g, hg with
        | 0, hg =>
          have hg : some [aint .i64 0, aint .i64 1, aint .i64 8, aint .i64 32, aint .i64 64] = some cs := hg
          injection hg with hg
          subst hg
          refine .rop _ 0 0 0 (fun j => ([.int .i64 0, .int .i64 1, .int .i64 8, .int .i64 32, .int .i64 64] : List Value).getD j undef) rfl (fun j a ha => ?_) (fun j a ha => ?_)
          · have hj := (List.getElem?_eq_some_iff.1 ha).1
            have := hc j
            unfold CellAt
            rw [Nat.zero_add]
            match j, hj with
            | 0, _ => simpa using this
            | 1, _ => simpa using this
            | 2, _ => simpa using this
            | 3, _ => simpa using this
            | 4, _ => simpa using this
          · have hj := (List.getElem?_eq_some_iff.1 ha).1
            match j, hj, ha with
            | 0, _, ha => simp at ha; subst ha; exact .val _
            | 1, _, ha => simp at ha; subst ha; exact .val _
            | 2, _, ha => simp at ha; subst ha; exact .val _
            | 3, _, ha => simp at ha; subst ha; exact .val _
            | 4, _, ha => simp at ha; subst ha; exact .val _
        | n + 1, hg => cases hg
      · have := hc 0
        simp only [World.cell?] at this
        rcases Nat.lt_or_ge 0 W.heap.size with h | h
        · exact h
        · have hn : W.heap[0]? = none := Array.getElem?_eq_none h
          rw [hn] at this
          simp at this
def sT2 : FSpec
  | [.val (.int .i64 _), .val (.int .i64 _)] => some ⟨True, abool true⟩
  | _ => none
theorem wraps_spec : SpecOK E6 3 sT2 := specOK_of fun args r hs _ => by
  unfold sT2 at hs
  split at hs
  · rename_i t n
    injection hs with hs
    subst hs
    exact ⟨by kernel_rfl, rfl, law_wraps t n⟩
  · cases hs
theorem par3 : ∀ t ∈ Tryd.f3.params.toList, Tryd.prog.readableRec t = true ∧ t < Tryd.prog.types.size := by
  rw [Tryd.params3]
  intro t ht
  have hall : ([22, 2].all fun u => Tryd.prog.readableRec u && decide (u < Tryd.prog.types.size)) = true := by kernel_rfl
  have := List.all_eq_true.1 hall t ht
  simpa using this
theorem wraps_lifted (os : Os) (started : os.Started) (H : Type) (enc : TypeId × Value → H) :
    ReturnsInHanded {} Tryd.checked os 3 .any (fun w args => (Rows.intnWrapsSpec.pre enc Tryd.prog Tryd.f3 [] false w args ∧ laidMetH Tryd.prog laid1 w) ∧ sizedMet enc Tryd.prog Tryd.f3 (OpenSpec.ofChange Rows.intnWrapsSpec) false w args)
      (Rows.intnWrapsSpec.post enc Tryd.prog Tryd.f3 false true false false) := by
  refine returnsInHanded_of_change_and (C := Tryd.checked) (X := fun w _ => laidMetH Tryd.prog laid1 w) (fun _ _ _ hh h => h.of_heap hh) own0 started (by kernel_rfl) Tryd.func3
    (ChangeSpec.witness_shaped (enc := enc) (C := Tryd.checked) (os := os) (X := fun w _ => laidMetH Tryd.prog laid1 w) false (World.doorLaid Tryd.prog 400 os) #[.int .i64 0, .int .i64 0] 8 rfl (World.shaped_of_RefB (by kernel_rfl) (by kernel_rfl)) (by kernel_rfl) (by kernel_rfl) (by kernel_rfl) (door_met os _)) ?_
  intro W base args ds gs before hval0 hW _ _ hL _
  have hval : ∀ (j : Nat) t v, Tryd.f3.params[j]? = some t → args[j]? = some v → Value.okWide Tryd.prog W .any base t v := hval0
  have hW' := hW
  obtain ⟨p, q, hA0, hV, rfl, hfz, hnd⟩ := hW
  have hA : DataW.TrodAll enc Tryd.prog W 0 (fun _ => true) true Tryd.f3.params.toList args.toList ds p := hA0
  rw [Tryd.params3] at hA hval
  obtain ⟨v0, v1, d0, d1, p0, p1, rfl, rfl, rfl, h0, h1⟩ := trodAll_two hA
  obtain ⟨rfl, rfl⟩ := trodVars_none hV
  obtain ⟨t, rfl, rfl, rfl, _⟩ := open_int (show Tryd.prog.underlying 22 = some (.int .i64) by kernel_rfl) (hval 0 22 v0 rfl rfl) h0
  obtain ⟨n, rfl, rfl, rfl, _⟩ := open_int (show Tryd.prog.underlying 2 = some (.int .i64) by kernel_rfl) (hval 1 2 v1 rfl rfl) h1
  obtain ⟨hgl, hpos⟩ := of_laid hL
  refine (calls_law wraps_spec (args := [aint .i64 t, aint .i64 n]) rfl rfl trivial rfl hgl (fun b hb => hb ▸ hpos) (VRs.cons (.cr (.val _)) (VRs.cons (.cr (.val _)) VRs.nil))).mono fun e W' ⟨he, hb⟩ => ?_
  subst he
  exact ⟨_, rfl, post_true out0 par3 (by kernel_rfl) u4 rfl (fun gs hgs => by subst hgs; rfl) hW' hb⟩
theorem intnWraps_holds : Rows.IntnWrapsSaid :=
  OpenClaim.holds_of_wide 3 Tryd.f3 rfl rfl rfl rfl rfl rfl rfl ⟨rfl, rfl, rfl, rfl, rfl⟩ rfl rfl rfl rfl rfl (by kernel_rfl) Tryd.func3 (by kernel_rfl)
    (of_decide_eq_true (by kernel_rfl)) (by unfold Func.isWrapper; first | (rw [if_pos (by decide +kernel)]; kernel_rfl) | (rw [if_neg (by decide +kernel)]; exact ⟨rfl, rfl⟩))
    (fun os started H enc _ => wraps_lifted os started H enc)
end Go.Proofs.YthdkgphnleibmaaDoor

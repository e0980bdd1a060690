/- A part of the proofs over this program: an abstract machine that the kernel evaluates, its soundness, and what the functions compute (IntnBase). -/
import Derived.Test.YthdkgphnleibmaaDoorAeRow
import Derived.Test.YthdkgphnleibmaaDoorAeIntnLaws
import Derived.Test.YthdkgphnleibmaaDoorRows
namespace Go.Proofs.YthdkgphnleibmaaDoor
open Go Go.AE Go.ChangeShapes Go.WideShapes Go.ChangeAt Go.WideMaps Go.WideElems Go.RowKit Burn.Intn
set_option maxRecDepth 100000
theorem len2 {α : Type} {l : List α} (h : l.length = 2) : ∃ a b, l = [a, b] := by
  match l, h with
  | [a, b], _ => exact ⟨a, b, rfl⟩
theorem len3 {α : Type} {l : List α} (h : l.length = 3) : ∃ a b c, l = [a, b, c] := by
  match l, h with
  | [a, b, c], _ => exact ⟨a, b, c, rfl⟩
theorem own0 : ownKnob Tryd.prog.godebug = none := by kernel_rfl
theorem out0 : laidOutB Tryd.prog = true := by kernel_rfl
abbrev laid1 : List (String × DataW Unit) := [("burnish/intn.widths", Rows.laid_burnish_intn_widths)]
theorem gW : Tryd.prog.globalNamed "burnish/intn.widths" = some 0 := by kernel_rfl
theorem tW : (Tryd.prog.globals[0]?).map (·.type) = some 38 := by kernel_rfl
theorem uW : Tryd.prog.underlying 38 = some (.array 5 3) := by kernel_rfl
theorem u3 : Tryd.prog.underlying 3 = some (.int .i64) := by kernel_rfl
theorem u4 : Tryd.prog.underlying 4 = some .bool := by kernel_rfl
theorem door_met (os : Os) (args : Array Value) : laidMetH Tryd.prog laid1 ((World.doorLaid Tryd.prog 400 os).forCall (fun _ _ => 0) ⟨#[], args, []⟩).memory :=
  laidMetH_of_parts3 (fuel := 8) (laidMet_of_run' 8 (by kernel_rfl) (by kernel_rfl)) (by kernel_rfl) (by kernel_rfl)
theorem of_laid {W : World} (h : laidMetH Tryd.prog laid1 W) : GlR E6 W (fun b => b = 0) ∧ 0 < W.heap.size := by
  rw [MakeChecks.laidMetH_plain _ _ _ (by kernel_rfl)] at h
  obtain ⟨ps, ⟨g0, t0, cs0, f0, p0, q0, hg0, ht0, hv0, hd0, _⟩, _, _⟩ := h
  obtain rfl := Option.some.inj (gW.symm.trans hg0)
  obtain rfl := Option.some.inj (tW.symm.trans ht0)
  obtain ⟨xs, m1, rfl, hx1, hlen, hn, hel⟩ := DataW.trod_array uW hd0
  have c3 : Tryd.prog.cellsOf 3 = 1 := by kernel_rfl
  have c38 : Tryd.prog.cellsOf 38 = 5 := by kernel_rfl
  obtain ⟨l⟩ := cs0
  rw [c38] at hlen
  match l, hlen with
  | [c0, c1, c2, c3', c4], _ =>
    match xs, hn, hx1, hel with
    | [x0, x1, x2, x3, x4], _, hx1, hel =>
      have rd : ∀ (i : Nat) (c : Value) (x : DataW Unit × List MemPlace) (k : Int), DataW.trod (fun _ => ()) Tryd.prog W 0 (fun _ => true) false m1 3 [c] = some x → x.1 = .lit (.int .i64 k) → c = .int .i64 k := by
        intro i c x k hx hk
        obtain ⟨n, e1, e2, _⟩ := DataW.trod_int u3 hx
        rw [e2] at hk
        simp at hk e1
        rw [e1, hk]
      simp only [Prod.mk.injEq, Rows.laid_burnish_intn_widths, DataW.agg.injEq, List.map_cons, List.map_nil, List.cons.injEq] at hx1
      obtain ⟨⟨h0, h1, h2, h3, h4, _⟩, _⟩ := hx1
      have r0 := rd 0 c0 x0 0 (by simpa [c3] using hel 0 (by decide)) h0.symm
      have r1 := rd 1 c1 x1 1 (by simpa [c3] using hel 1 (by decide)) h1.symm
      have r2 := rd 2 c2 x2 8 (by simpa [c3] using hel 2 (by decide)) h2.symm
      have r3 := rd 3 c3' x3 32 (by simpa [c3] using hel 3 (by decide)) h3.symm
      have r4 := rd 4 c4 x4 64 (by simpa [c3] using hel 4 (by decide)) h4.symm
      subst r0; subst r1; subst r2; subst r3; subst r4
      have hc := World.var?_cell hg0 hv0
      refine ⟨fun g cs hg => ?_, ?_⟩
      · match g, hg with
        | 0, hg =>
          have hg : some [aint .i64 0, aint .i64 1, aint .i64 8, aint .i64 32, aint .i64 64] = some cs := hg
          injection hg with hg
          subst hg
          refine .rop _ 0 0 0 (fun j => ([.int .i64 0, .int .i64 1, .int .i64 8, .int .i64 32, .int .i64 64] : List Value).getD j undef) rfl (fun j a ha => ?_) (fun j a ha => ?_)
          · have hj := (List.getElem?_eq_some_iff.1 ha).1
            have := hc j
            unfold CellAt
            rw [Nat.zero_add]
            match j, hj with
            | 0, _ => simpa using this
            | 1, _ => simpa using this
            | 2, _ => simpa using this
            | 3, _ => simpa using this
            | 4, _ => simpa using this
          · have hj := (List.getElem?_eq_some_iff.1 ha).1
            match j, hj, ha with
            | 0, _, ha => simp at ha; subst ha; exact .val _
            | 1, _, ha => simp at ha; subst ha; exact .val _
            | 2, _, ha => simp at ha; subst ha; exact .val _
            | 3, _, ha => simp at ha; subst ha; exact .val _
            | 4, _, ha => simp at ha; subst ha; exact .val _
        | n + 1, hg => cases hg
      · have := hc 0
        simp only [World.cell?] at this
        rcases Nat.lt_or_ge 0 W.heap.size with h | h
        · exact h
        · have hn : W.heap[0]? = none := Array.getElem?_eq_none h
          rw [hn] at this
          simp at this
end Go.Proofs.YthdkgphnleibmaaDoor

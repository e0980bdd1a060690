/- A part of the proofs over this program: an abstract machine that the kernel evaluates, its soundness, and what the functions compute (Row). -/
import Derived.Test.YthdkgphnleibmaaDoorAeChk
import Derived.ProofKit
import Derived.LaidMore
import Derived.OpenShut
import Derived.Stop.Joined
/-! From a law's answer to the row. -/
namespace Go.AE
open Go.ChangeShapes Go.WideShapes Go.ChangeAt Go.WideMaps Go.WideElems Go.RowKit
section
variable {H : Type} {enc : TypeId × Value → H} {P : Program}
theorem trodAll_carry (hl : laidOutB P = true) {W W' : World} (hb : Below W.heap.size W W') {sp : Nat → Bool} : ∀ {ts : List TypeId} {vs : List Value} {ds : List (DataW H)} {ps : List MemPlace},
    (∀ t ∈ ts, P.readableRec t = true ∧ t < P.types.size) → DataW.TrodAll enc P W 0 (fun _ => true) true ts vs ds ps → (∀ p ∈ ps, p.block < W.heap.size) → (∀ p ∈ ps, sp p.block = true) → DataW.TrodAll enc P W' 0 sp true ts vs ds ps
  | [], vs, ds, ps, _, h, _, _ => by
    obtain ⟨rfl, rfl, rfl⟩ := trodAll_nil h
    exact h
  | t :: ts, vs, ds, ps, ht, h, hlt, hsp => by
    obtain ⟨v, vs', d, ds', p, q, rfl, rfl, rfl, h1, h2⟩ := trodAll_cons h
    have h1' := WideElems.Trod_stays (sp' := sp) hl (ht t (by simp)).1 (ht t (by simp)).2 h1 (fun x hx => hb.same (hlt x (by simp [hx]))) (fun x hx => hsp x (by simp [hx]))
    exact trodAll_cons_mk h1' (trodAll_carry hl hb (fun u hu => ht u (by simp [hu])) h2 (fun x hx => hlt x (by simp [hx])) (fun x hx => hsp x (by simp [hx])))
/-- a law that answers true and leaves its arguments as they were -/
theorem post_true {fn : Func} {s : ChangeSpec} {tb : TypeId} (hl : laidOutB P = true) (hpar : ∀ t ∈ fn.params.toList, P.readableRec t = true ∧ t < P.types.size) (hrt : fn.resultTypes = #[tb]) (ub : P.underlying tb = some .bool) {apart : Bool} {W W' : World} {args : Array Value}
    {ds gs : List (DataW H)} {before : List MemPlace} (hv : s.vars = []) (hs : ∀ gs, gs = [] → s.fn H (ds ++ gs) = { results := [.lit (.bool true)], args := ds }) (hW : DataW.Whole enc P fn.params.toList s.vars apart W args.toList ds gs before) (hb : Below W.heap.size W W') :
    s.post enc P fn apart true false false W args (.bool true) W' := by
  have hW0 := hW
  have hlt := hW.lt
  obtain ⟨p, q, hA, hV, rfl, hfz, hnd⟩ := hW
  rw [hv] at hV
  obtain ⟨rfl, rfl⟩ := trodVars_none hV
  simp only [List.append_nil] at hlt hW0
  have hargs : ∀ sp : Nat → Bool, (∀ x ∈ p, sp x.block = true) → DataW.TrodAll enc P W' 0 sp true fn.params.toList args.toList ds p := fun sp hsp => trodAll_carry hl hb hpar hA hlt hsp
  refine ⟨ds, [], p, [], p, [], hW0, ?_, ?_, ?_, hb.frame _, fun h => by cases h⟩
  · rw [hrt, hs [] rfl]
    exact trodAll_mk1 (shut_bool ub true)
  · rw [hs [] rfl]
    exact hargs _ fun x hx => by simpa using hlt x hx
  · rw [hs [] rfl, hv]
    simp [DataW.TrodVars]
/-- an array of integers -/
theorem open_ints {W : World} {n : Nat} {k e : TypeId} {q : IntKind} (hu : P.underlying k = some (.array n e)) (he : P.underlying e = some (.int q)) (ce : P.cellsOf e = 1) (ck : P.cellsOf k = n) {r : Go.Reach} {b0 : Nat} {v : Value} (hval : Value.okWide P W r b0 k v) {base : Nat} {spare : Nat → Bool} {held : Bool} {d : DataW H} {ps : List MemPlace}
    (hd : DataW.Trod enc P W base spare held k v d ps) : ∃ cs : List Value, v = .agg cs.toArray ∧ cs.length = n ∧ ∀ (i : Nat) c, cs[i]? = some c → ∃ x, c = .int q x := by
  simp only [Value.okWide, hu] at hval
  obtain ⟨arr, rfl, h2, _⟩ := hval
  obtain ⟨fuel, hf⟩ := hd
  obtain ⟨xs, m1, rfl, hx1, hlen, hn, hel⟩ := DataW.trod_array hu hf
  refine ⟨arr.toList, by simp, by rw [ck] at h2; simpa using h2, fun i c hc => ?_⟩
  have hi := (List.getElem?_eq_some_iff.1 hc).1
  have hin : i < n := by rw [ck] at h2; simp at hi; omega
  have h := hel i hin
  rw [List.getElem?_eq_getElem (by omega)] at h
  obtain ⟨x, e1, _, _⟩ := DataW.trod_int he h
  simp only [ce, Nat.mul_one, Value.cells] at e1
  refine ⟨x, ?_⟩
  have h0 := congrArg (fun l => l[0]?) e1
  simp only [List.getElem?_take, List.getElem?_drop, Nat.add_zero, Nat.zero_lt_one, if_true, hc, List.getElem?_cons_zero] at h0
  exact Option.some.inj h0
/-- what a law's walk gives at a start -/
theorem calls_law {E : Ctx} {f : FuncId} {s : FSpec} (h : SpecOK E f s) {args : List AV} {r : SRes} (hc : closedAll args = true) (hs : s args = some r) (hp : r.pre) (hr : r.res = abool true) {W : World} {Z : Nat → Prop} {vs : List Value} (hg : GlR E W Z) (hz : ∀ b, Z b → b < W.heap.size)
    (hv : VRs W Z (fun _ => none) args vs) : Calls E.P f vs.toArray W fun e w' => e = .returned (.bool true) ∧ Below W.heap.size W w' := by
  refine (h args r hc hs hp W Z vs hg hz hv).mono fun e w' ⟨v, Z', he, hb, _, _, _, hcr⟩ => ⟨?_, hb⟩
  rw [hr] at hcr
  cases hcr
  exact he
end
end Go.AE

/- From the contract of a law to the given row. No conditions beyond those written. -/
import Derived.Test.YtfnbbidogehnfaaGreatDoorEngineE
import Derived.ProofKit
import Derived.LaidMore
import Derived.OpenShut
import Derived.Stop.Joined
namespace Go.BE
open Go.ChangeShapes Go.WideShapes Go.ChangeAt Go.WideMaps Go.WideElems Go.RowKit
def shFs (P : Program) (g : TypeId → Sh → Bool) : List Field → Nat → Sh → Bool
 | [], _, .unit => true
 | f :: fs, o, .pair a b => decide (f.offset = o) && decide (P.cellsOf f.type = a.size) && g f.type a && shFs P g fs (o + a.size) b
 | _, _, _ => false
def shB (P : Program) : Nat → TypeId → Sh → Bool
 | 0, _, _ => false
 | n + 1, t, S => match P.underlying t with
  | some (.int k) => (match S with | .int k' => decide (k' = k) | _ => false)
  | some .bool => (match S with | .bool => true | _ => false)
  | some .string => (match S with | .str => true | _ => false)
  | some (.slice e) => (match S with | .sl b a => decide (P.bytesOf e = b) && decide (0 < b) && decide (P.cellsOf e = a.size) && decide (0 < a.size) && shB P n e a | _ => false)
  | some (.pointer e) => (match S with | .ptr a => decide (P.cellsOf e = a.size) && decide (0 < a.size) && shB P n e a | _ => false)
  | some (.array m e) => (match S with | .arr m' a => decide (m' = m) && decide (P.cellsOf e = a.size) && decide (P.cellsOf t = m * a.size) && shB P n e a | _ => false)
  | some (.struct fs) => decide (P.cellsOf t = S.size) && shFs P (shB P n) fs.toList 0 S
  | _ => false
def rdV {H α : Type} (f : DataW H → Option α) : (n : Nat) → List (DataW H) → Option (DenV α n)
 | 0, [] => some ()
 | n + 1, d :: l => (f d).bind fun x => (rdV f n l).map fun y => (x, y)
 | _, _ => none
def rdX {H : Type} : (S : Sh) → Bool → List (DataW H) → Option (Den S)
 | .int k, _, l => (match l with | [.lit (.int k' n)] => if k' = k then some n else none | _ => none)
 | .bool, _, l => (match l with | [.lit (.bool b)] => some b | _ => none)
 | .str, _, l => (match l with | [.lit (.string l)] => some (⟨l.toArray⟩ : ByteArray) | _ => none)
 | .unit, u, l => (match (match u with | true => some l | false => (match l with | [.agg l] => some l | _ => none)) with
  | some [] => some ()
  | _ => none)
 | .pair a b, u, l => (match (match u with | true => some l | false => (match l with | [.agg l] => some l | _ => none)) with
  | some (d :: l) => (rdX a false [d]).bind fun x => (rdX b true l).map fun y => (x, y)
  | _ => none)
 | .arr n a, _, l => (match l with | [.agg l] => rdV (fun d => rdX a false [d]) n l | _ => none)
 | .sl _ a, _, l => (match l with | [.nil] => some [] | [.slice l _] => l.mapM fun d => rdX a false [d] | _ => none)
 | .ptr a, _, l => (match l with | [.nil] => some none | [.ptr d] => (rdX a false [d]).map some | _ => none)
section
variable {H : Type}
theorem rdX_int {k : IntKind} {n : Int} : rdX (H := H) (.int k) false [.lit (.int k n)] = some n := if_pos rfl
theorem rdX_unit {l : List (DataW H)} : rdX .unit false [.agg l] = rdX .unit true l := rfl
theorem rdX_pair {a b : Sh} {l : List (DataW H)} : rdX (.pair a b) false [.agg l] = rdX (.pair a b) true l := rfl
theorem rdX_cons {a b : Sh} {d : DataW H} {l : List (DataW H)} {x : Den a} {y : Den b} (h1 : rdX a false [d] = some x) (h2 : rdX b true l = some y) : rdX (.pair a b) true (d :: l) = some (x, y) := by
 show ((rdX a false [d]).bind fun x => (rdX b true l).map fun y => (x, y)) = _
 rw [h1, h2]
 rfl
theorem rdX_ptr {a : Sh} {d : DataW H} {x : Den a} (h : rdX a false [d] = some x) : rdX (.ptr a) false [.ptr d] = some (some x) := by
 show (rdX a false [d]).map some = _
 rw [h]
 rfl
theorem rdV_cons {α : Type} {f : DataW H → Option α} {n : Nat} {d : DataW H} {l : List (DataW H)} {x : α} {y : DenV α n} (h1 : f d = some x) (h2 : rdV f n l = some y) : rdV f (n + 1) (d :: l) = some (x, y) := by
 show ((f d).bind fun x => (rdV f n l).map fun y => (x, y)) = _
 rw [h1, h2]
 rfl
end
section
variable {H : Type} {enc : TypeId × Value → H} {P : Program} {w W : World} {Z : Nat → Prop} {sp : Nat → Bool} {held : Bool}
theorem weightsAll_mem {e : TypeId} : ∀ {l : List (DataW H)} {d : DataW H}, d ∈ l → ∀ n ∈ d.weights P e, n ∈ DataW.weightsAll P e l
 | d0 :: l, d, h, n, hn => by
  simp only [DataW.weightsAll, List.mem_append]
  rcases List.mem_cons.1 h with rfl | h
  ·exact .inl hn
  ·exact .inr (weightsAll_mem h n hn)
theorem cells_run {a : Addr} {n : Nat} {us : List Value} (h0 : 0 < n) (h : w.cells? 0 a n = some us) : us.length = n ∧ ∃ b o, a = ⟨b, o, none⟩ ∧ b < w.heap.size ∧ Run w b o us := by
 obtain ⟨_, hlen, hcell⟩ := World.cells?_some h
 obtain ⟨b, off, spot⟩ := a
 have g0 := hcell 0 h0
 obtain ⟨c0, hc0⟩ : ∃ c0, us[0]? = some c0 := by
  cases us with
  | nil => simp at hlen; omega
  | cons c _ => exact ⟨c, rfl⟩
 rw [hc0] at g0
 have hspot : spot = none := by simpa [Addr.add] using World.cell?_spot g0
 subst hspot
 refine ⟨hlen, b, off, rfl, ?_, fun j v hj => ?_⟩
 ·rcases Nat.lt_or_ge b w.heap.size with hb | hb
  ·exact hb
  ·have hn : w.heap[b]? = none := Array.getElem?_eq_none hb
   simp [World.cell?, Addr.add, hn] at g0
 ·have hj' : j < n := by
   rw [← hlen]
   exact (List.getElem?_eq_some_iff.1 hj).1
  have := hcell j hj'
  rw [add_plain, hj] at this
  exact this
theorem mapM_build {α β : Type} {f : α → Option β} {Q : Nat → β → Prop} : ∀ {l : List α} {k : Nat}, (∀ i d, l[i]? = some d → ∃ x, f d = some x ∧ Q (k + i) x) → ∃ xs, l.mapM f = some xs ∧ xs.length = l.length ∧ ∀ (i : Nat) x, xs[i]? = some x → Q (k + i) x
 | [], _, _ => ⟨[], by simp, rfl, fun i x h => by simp at h⟩
 | d :: l, k, h => by
  obtain ⟨x, h1, h2⟩ := h 0 d rfl
  obtain ⟨xs, h3, h4, h5⟩ := mapM_build (l := l) (k := k + 1) (fun i d hd => by
   obtain ⟨y, e1, e2⟩ := h (i + 1) d (by simpa using hd)
   exact ⟨y, e1, by rwa [show k + 1 + i = k + (i + 1) by omega]⟩)
  refine ⟨x :: xs, by simp [h1, h3], by simp [h4], fun i y hy => ?_⟩
  cases i with
  | zero => simp at hy; subst hy; exact h2
  | succ i => rw [show k + (i + 1) = k + 1 + i by omega]; exact h5 i y (by simpa using hy)
theorem take_split {α : Type} (l : List α) (o n m : Nat) : (l.drop o).take (n + m) = (l.drop o).take n ++ (l.drop (o + n)).take m := by
 rw [List.take_add, List.drop_drop]
theorem arr_build {α : Type} {f : α → List Value → Prop} {g : DataW H → Option α} {cs : List Value} {k : Nat} : ∀ {r i : Nat} {l : List (DataW H)}, l.length = r → (∀ j d, l[j]? = some d → ∃ x, g d = some x ∧ f x ((cs.drop ((i + j) * k)).take k)) →
  ∃ x : DenV α r, rdV g r l = some x ∧ FRV f r x ((cs.drop (i * k)).take (r * k))
 | 0, i, [], _, _ => ⟨(), rfl, by show _ = []; simp⟩
 | r + 1, i, d :: l, hl, h => by
  obtain ⟨x, h1, h2⟩ := h 0 d rfl
  obtain ⟨y, h3, h4⟩ := arr_build (r := r) (i := i + 1) (l := l) (by simpa using hl) (fun j d hd => by
   obtain ⟨z, e1, e2⟩ := h (j + 1) d (by simpa using hd)
   exact ⟨z, e1, by rwa [show i + 1 + j = i + (j + 1) by omega]⟩)
  refine ⟨(x, y), rdV_cons h1 h3, _, _, ?_, h2, h4⟩
  rw [Nat.succ_mul, Nat.add_comm (r * k), take_split, Nat.add_zero, show (i + 1) * k = i * k + k from Nat.succ_mul i k]
theorem open_go {n : Nat} {fuel : Nat} {cs : List Value} (ih : ∀ (t : TypeId) (S : Sh) (cs : List Value) (d : DataW H) (ps : List MemPlace), shB P n t S = true → DataW.trod enc P W 0 sp held fuel t cs = some (d, ps) → (∀ k ∈ d.weights P t, k ≤ reachBytes) → ∃ x, rdX S false [d] = some x ∧ FR W Z S x cs) :
  ∀ (fs : List Field) (o : Nat) (S : Sh) (xs : List (DataW H × List MemPlace)), shFs P (shB P n) fs o S = true → xs.length = fs.length → (∀ (i : Nat) (f : Field), fs[i]? = some f → DataW.trod enc P W 0 sp held fuel f.type ((cs.drop f.offset).take (P.cellsOf f.type)) = xs[i]?) →
   (∀ k ∈ DataW.weightsEach P (fs.map (·.type)) (xs.map (·.1)), k ≤ reachBytes) → ∃ x, rdX S true (xs.map (·.1)) = some x ∧ FR W Z S x ((cs.drop o).take S.size)
 | [], o, S, xs, hs, hl, _, _ => by
  have : xs = [] := List.eq_nil_of_length_eq_zero (by simpa using hl)
  subst this
  cases S <;> first | exact ⟨(), rfl, by show _ = []; simp [Sh.size]⟩ | simp [shFs] at hs
 | f :: fs, o, S, [], hs, hl, _, _ => by simp at hl
 | f :: fs, o, S, x :: xs, hs, hl, hx, hw => by
  cases S <;> try (simp [shFs] at hs; done)
  rename_i a b
  simp only [shFs, Bool.and_eq_true, decide_eq_true_eq] at hs
  obtain ⟨⟨⟨h1, h2⟩, h3⟩, h4⟩ := hs
  simp only [List.map_cons, DataW.weightsEach, List.mem_append] at hw
  have e0 := hx 0 f rfl
  rw [h1, h2] at e0
  obtain ⟨y, f1, f2⟩ := ih f.type a _ x.1 x.2 h3 e0 (fun k hk => hw k (.inl hk))
  obtain ⟨z, g1, g2⟩ := open_go ih fs (o + a.size) b xs h4 (by simpa using hl) (fun i f hf => by simpa using hx (i + 1) f (by simpa using hf)) (fun k hk => hw k (.inr hk))
  exact ⟨(y, z), rdX_cons f1 g1, _, _, take_split _ _ _ _, f2, g2⟩
theorem open_sh (hz : ∀ b, b < W.heap.size → Z b) : ∀ (n : Nat) (t : TypeId) (S : Sh) (fuel : Nat) (cs : List Value) (d : DataW H) (ps : List MemPlace), shB P n t S = true → DataW.trod enc P W 0 sp held fuel t cs = some (d, ps) → (∀ k ∈ d.weights P t, k ≤ reachBytes) → ∃ x, rdX S false [d] = some x ∧ FR W Z S x cs := by
 intro n
 induction n with
 | zero => intro t S fuel cs d ps hs; simp [shB] at hs
 | succ n ih =>
  intro t S fuel cs d ps hs hd hw
  unfold shB at hs
  split at hs
  ·rename_i k hu
   cases S <;> try (simp at hs; done)
   simp only [decide_eq_true_eq] at hs
   subst hs
   obtain ⟨x, rfl, e, hwf⟩ := DataW.trod_int hu hd
   injection e with e1 e2
   subst e1
   simp only [Lit.wf, Bool.and_eq_true, decide_eq_true_eq] at hwf
   exact ⟨x, rdX_int, rfl, hwf⟩
  ·rename_i hu
   cases S <;> try (simp at hs; done)
   obtain ⟨x, rfl, e⟩ := DataW.trod_bool hu hd
   injection e with e1 e2
   subst e1
   exact ⟨x, rfl, rfl⟩
  ·rename_i hu
   cases S <;> try (simp at hs; done)
   obtain ⟨x, rfl, e, hwf⟩ := DataW.trod_string hu hd
   injection e with e1 e2
   subst e1
   have := hw x.data.toList.length (by simp [DataW.weights])
   refine ⟨x, rfl, rfl, ?_⟩
   have e3 : x.data.toList.length = ByteArray.size x := Array.length_toList
   have hr : reachBytes ≤ roomB := by decide +kernel
   omega
  ·rename_i e hu
   cases S <;> try (simp at hs; done)
   rename_i b a
   simp only [Bool.and_eq_true, decide_eq_true_eq] at hs
   obtain ⟨⟨⟨⟨h1, h2⟩, h3⟩, h4⟩, h5⟩ := hs
   rcases DataW.trod_slice hu hd with ⟨rfl, e1⟩ | ⟨ad, len, cap, elems, rest, m, rfl, rfl, e1, _, hlc, hcm, hlen, hel, hsp, _⟩
   ·injection e1 with e1 e2
    subst e1
    exact ⟨[], rfl, none, 0, rfl, Nat.le_refl _, ⟨by rw [List.length_nil, Nat.zero_mul]; exact Nat.zero_le _, Nat.zero_le _⟩, fun h => absurd h (Nat.lt_irrefl 0)⟩
   ·injection e1 with e1 e2
    subst e1
    simp only [DataW.weights, hu, List.mem_cons, List.mem_append] at hw
    have hroom := hw _ (.inl rfl)
    simp only [List.length_map] at hroom
    rw [h1] at hroom
    rw [h3] at hel
    have hr : reachBytes ≤ roomB := by decide
    have hbl : len * b ≤ roomB := by
     refine Nat.le_trans ?_ (Nat.le_trans hroom hr)
     rw [hlen]
     exact Nat.mul_le_mul_right _ (Nat.le_add_right _ _)
    obtain ⟨xs, k1, k2, k3⟩ := mapM_build (f := fun d => rdX a false [d]) (l := elems.map (·.1)) (k := 0) (Q := fun i x => ∃ b o us, ad.add (i * a.size) = ⟨b, o, none⟩ ∧ b < W.heap.size ∧ us.length = a.size ∧ Run W b o us ∧ FR W Z a x us) (fun i d hd => by
     simp only [List.getElem?_map, Option.map_eq_some_iff] at hd
     obtain ⟨y, hy, rfl⟩ := hd
     have hi : i < len := by rw [← hlen]; exact (List.getElem?_eq_some_iff.1 hy).1
     have := hel i hi
     rw [hy] at this
     obtain ⟨us, j1, j2⟩ := Option.bind_eq_some_iff.1 this
     obtain ⟨j3, bb, o, j4, j5, j6⟩ := cells_run h4 j1
     obtain ⟨x, j7, j8⟩ := ih e a m us y.1 y.2 h5 j2 (fun k hk => hw k (.inr (.inl (weightsAll_mem (List.mem_map.2 ⟨y, List.mem_of_getElem? hy, rfl⟩) k hk))))
     exact ⟨x, j7, bb, o, us, by rw [Nat.zero_add]; exact j4, j5, j3, j6, j8⟩)
    simp only [List.length_map] at k2
    have k2' : List.length (α := Den a) xs = len := by omega
    refine ⟨xs, k1, some ad, cap, by rw [k2'], by rw [k2']; exact hlc, ⟨by rw [k2']; exact hbl, by rw [k2']; exact Nat.le_trans (Nat.le_mul_of_pos_right _ h2) hbl⟩, fun hp => ?_⟩
    obtain ⟨x0, hx0⟩ : ∃ x, (xs : List (Den a))[0]? = some x := ⟨_, List.getElem?_eq_getElem hp⟩
    obtain ⟨bb, o, us, q1, q2, q3, q4, q5⟩ := k3 0 x0 hx0
    have q1' : ad = ⟨bb, o, none⟩ := by simpa [Addr.add] using q1
    subst q1'
    refine ⟨bb, o, rfl, hz _ q2, fun i y hy => ?_⟩
    obtain ⟨b', o', us', p1, p2, p3, p4, p5⟩ := k3 i y hy
    rw [Nat.zero_add, add_plain] at p1
    injection p1 with p1 p1'
    subst p1; subst p1'
    exact ⟨us', p3, p4, p5⟩
  ·rename_i e hu
   cases S <;> try (simp at hs; done)
   rename_i a
   simp only [Bool.and_eq_true, decide_eq_true_eq] at hs
   obtain ⟨⟨h3, h4⟩, h5⟩ := hs
   rcases DataW.trod_pointer hu hd with ⟨rfl, e1⟩ | ⟨ad, us, y, m, rfl, rfl, e1, hc, hy⟩
   ·injection e1 with e1 e2
    subst e1
    exact ⟨none, rfl, .inl ⟨rfl, rfl⟩⟩
   ·injection e1 with e1 e2
    subst e1
    rw [h3] at hc
    obtain ⟨j3, bb, o, rfl, j5, j6⟩ := cells_run h4 hc
    obtain ⟨x, j7, j8⟩ := ih e a m us y.1 y.2 h5 hy (fun k hk => hw k (by simpa [DataW.weights, hu] using hk))
    exact ⟨some x, rdX_ptr j7, .inr ⟨x, bb, o, us, rfl, rfl, hz _ j5, j3, j6, j8⟩⟩
  ·rename_i m e hu
   cases S <;> try (simp at hs; done)
   rename_i m' a
   simp only [Bool.and_eq_true, decide_eq_true_eq] at hs
   obtain ⟨⟨⟨h1, h3⟩, h4⟩, h5⟩ := hs
   subst h1
   obtain ⟨xs, q, rfl, e1, hcl, hlen, hel⟩ := DataW.trod_array hu hd
   injection e1 with e1 e2
   subst e1
   rw [h3] at hel
   obtain ⟨x, k1, k2⟩ := arr_build (f := FR W Z a) (g := fun d => rdX a false [d]) (cs := cs) (k := a.size) (r := m') (i := 0) (l := xs.map (·.1)) (by simpa using hlen) (fun j d hd => by
    simp only [List.getElem?_map, Option.map_eq_some_iff] at hd
    obtain ⟨y, hy, rfl⟩ := hd
    have hj : j < m' := by rw [← hlen]; exact (List.getElem?_eq_some_iff.1 hy).1
    have := hel j hj
    rw [hy] at this
    obtain ⟨x, j7, j8⟩ := ih e a q _ y.1 y.2 h5 this (fun k hk => hw k (by
     simp only [DataW.weights, hu]
     exact weightsAll_mem (List.mem_map.2 ⟨y, List.mem_of_getElem? hy, rfl⟩) k hk))
    exact ⟨x, j7, by rw [Nat.zero_add]; exact j8⟩)
   refine ⟨x, k1, ?_⟩
   rw [Nat.zero_mul, List.drop_zero, List.take_of_length_le (by omega)] at k2
   exact k2
  ·rename_i fs hu
   simp only [Bool.and_eq_true, decide_eq_true_eq] at hs
   obtain ⟨h1, h2⟩ := hs
   obtain ⟨xs, q, rfl, e1, hcl, hlen, hel⟩ := DataW.trod_struct hu hd
   injection e1 with e1 e2
   subst e1
   obtain ⟨x, k1, k2⟩ := open_go (fun t S cs d ps => ih t S q cs d ps) fs.toList 0 S xs h2 (by simpa using hlen) (fun i f hf => hel i f (by simpa using hf)) (fun k hk => hw k (by simpa [DataW.weights, hu] using hk))
   rw [List.drop_zero, List.take_of_length_le (by omega)] at k2
   refine ⟨x, ?_, k2⟩
   cases S with
   | unit => rw [rdX_unit]; exact k1
   | pair a b => rw [rdX_pair]; exact k1
   | _ => cases fs' : fs.toList <;> simp [shFs, fs'] at h2
  ·cases hs
theorem open_par (hz : ∀ b, b < W.heap.size → Z b) {n : Nat} {t : TypeId} {S : Sh} {v : Value} {d : DataW H} {ps : List MemPlace} {r : Go.Reach} {b0 : Nat} (hs : shB P n t S = true) (hval : Value.okWide P W r b0 t v) (hd : DataW.Trod enc P W 0 sp held t v d ps) (hw : ∀ k ∈ d.weights P t, k ≤ reachBytes) :
  ∃ x, rdX S false [d] = some x ∧ CR W Z (avOf S x) v := by
 obtain ⟨fuel, hf⟩ := hd
 obtain ⟨x, h1, h2⟩ := open_sh (Z := Z) hz n t S fuel _ d ps hs hf hw
 refine ⟨x, h1, ?_⟩
 have h3 := h2.avOf
 cases n with
 | zero => simp [shB] at hs
 | succ n =>
 have one : ∀ u, S.isAgg = false → v.cells = #[u] → u = v → CR W Z (avOf S x) v := fun u hS hc hu => by
  rw [hS] at h3
  simp only [Bool.false_eq_true, if_false] at h3
  obtain ⟨u', e, hc'⟩ := h3
  rw [hc] at e
  simp at e
  rwa [← hu, e]
 have many : ∀ cs, S.isAgg = true → v = .agg cs → CR W Z (avOf S x) v := fun cs hS hv => by
  subst hv
  rw [hS] at h3
  simp only [if_true] at h3
  simpa [Value.cells] using h3
 unfold shB at hs
 split at hs
 ·rename_i k hu
  obtain ⟨y, rfl⟩ := okWide_int hu hval
  cases S <;> first | exact one _ rfl rfl rfl | (simp at hs; done)
 ·rename_i hu
  obtain ⟨y, rfl⟩ := okWide_bool hu hval
  cases S <;> first | exact one _ rfl rfl rfl | (simp at hs; done)
 ·rename_i hu
  obtain ⟨y, rfl⟩ := okWide_string hu hval
  cases S <;> first | exact one _ rfl rfl rfl | (simp at hs; done)
 ·rename_i e hu
  obtain ⟨a, l, c, rfl⟩ := okWide_slice hu hval
  cases S <;> first | exact one _ rfl rfl rfl | (simp at hs; done)
 ·rename_i e hu
  obtain ⟨a, rfl⟩ := okWide_pointer hu hval
  cases S <;> first | exact one _ rfl rfl rfl | (simp at hs; done)
 ·rename_i m e hu
  simp only [Value.okWide, hu] at hval
  obtain ⟨arr, rfl, _⟩ := hval
  cases S <;> first | exact many _ rfl rfl | (simp at hs; done)
 ·rename_i fs hu
  simp only [Value.okWide, hu] at hval
  obtain ⟨arr, rfl, _⟩ := hval
  simp only [Bool.and_eq_true] at hs
  have hs := hs.2
  cases S <;> first | exact many _ rfl rfl | (cases fs' : fs.toList <;> simp [shFs, fs'] at hs; done)
 ·cases hs
def parsB (P : Program) (n : Nat) : List TypeId → List Sh → Bool
 | [], [] => true
 | t :: ts, S :: l => shB P n t S && parsB P n ts l
 | _, _ => false
def RdAll : (l : List Sh) → List (DataW H) → Args (l.map .d) → Prop
 | [], _, _ => True
 | S :: l, d :: ds, x => rdX S false [d] = some x.1 ∧ RdAll l ds x.2
 | _ :: _, [], _ => False
theorem open_pars (hz : ∀ b, b < W.heap.size → Z b) {n : Nat} {r : Go.Reach} {b0 : Nat} : ∀ {ts : List TypeId} {l : List Sh} {vs : List Value} {ds : List (DataW H)} {ps : List MemPlace}, parsB P n ts l = true → DataW.TrodAll enc P W 0 sp held ts vs ds ps → (∀ (j : Nat) t v, ts[j]? = some t → vs[j]? = some v → Value.okWide P W r b0 t v) →
  (∀ k ∈ DataW.weightsEach P ts ds, k ≤ reachBytes) → ∃ x : Args (l.map .d), RdAll l ds x ∧ CRs W Z (qdt (l.map .d) x) vs
 | [], [], vs, ds, ps, _, h, _, _ => by
  obtain ⟨rfl, rfl, rfl⟩ := trodAll_nil h
  exact ⟨(), trivial, rfl, fun j a v ha => by cases j <;> cases ha⟩
 | [], _ :: _, _, _, _, h, _, _, _ => by simp [parsB] at h
 | _ :: _, [], _, _, _, h, _, _, _ => by simp [parsB] at h
 | t :: ts, S :: l, vs, ds, ps, hs, h, hval, hw => by
  obtain ⟨v, vs', d, ds', p, q, rfl, rfl, rfl, h1, h2⟩ := trodAll_cons h
  simp only [parsB, Bool.and_eq_true] at hs
  simp only [DataW.weightsEach, List.mem_append] at hw
  obtain ⟨x, hrx, hx⟩ := open_par (Z := Z) hz hs.1 (hval 0 t v rfl rfl) h1 (fun k hk => hw k (.inl hk))
  obtain ⟨y, hry, hy⟩ := open_pars hz hs.2 h2 (fun j u v hu hv => hval (j + 1) u v (by simpa using hu) (by simpa using hv)) (fun k hk => hw k (.inr hk))
  exact ⟨(x, y), ⟨hrx, hry⟩, CRs.cons hx hy⟩
theorem trodAll_carry (hl : laidOutB P = true) {W W' : World} (hb : Go.RowKit.Below W.heap.size W W') {sp : Nat → Bool} : ∀ {ts : List TypeId} {vs : List Value} {ds : List (DataW H)} {ps : List MemPlace},
  (∀ t ∈ ts, P.readableRec t = true ∧ t < P.types.size) → DataW.TrodAll enc P W 0 (fun _ => true) true ts vs ds ps → (∀ p ∈ ps, p.block < W.heap.size) → (∀ p ∈ ps, sp p.block = true) → DataW.TrodAll enc P W' 0 sp true ts vs ds ps
 | [], vs, ds, ps, _, h, _, _ => by
  obtain ⟨rfl, rfl, rfl⟩ := trodAll_nil h
  exact h
 | t :: ts, vs, ds, ps, ht, h, hlt, hsp => by
  obtain ⟨v, vs', d, ds', p, q, rfl, rfl, rfl, h1, h2⟩ := trodAll_cons h
  have h1' := WideElems.Trod_stays (sp' := sp) hl (ht t (by simp)).1 (ht t (by simp)).2 h1 (fun x hx => hb.same (hlt x (by simp [hx]))) (fun x hx => hsp x (by simp [hx]))
  exact trodAll_cons_mk h1' (trodAll_carry hl hb (fun u hu => ht u (by simp [hu])) h2 (fun x hx => hlt x (by simp [hx])) (fun x hx => hsp x (by simp [hx])))
theorem post_true {fn : Func} {s : ChangeSpec} {tb : TypeId} (hl : laidOutB P = true) (hpar : ∀ t ∈ fn.params.toList, P.readableRec t = true ∧ t < P.types.size) (hrt : fn.resultTypes = #[tb]) (ub : P.underlying tb = some .bool) {apart : Bool} {W W' : World} {args : Array Value}
  {ds gs : List (DataW H)} {before : List MemPlace} (hv : s.vars = []) (hs : ∀ gs, gs = [] → s.fn H (ds ++ gs) = { results := [.lit (.bool true)], args := ds }) (hW : DataW.Whole enc P fn.params.toList s.vars apart W args.toList ds gs before) (hb : Go.RowKit.Below W.heap.size W W') :
  s.post enc P fn apart true false false W args (.bool true) W' := by
 have hW0 := hW
 have hlt := hW.lt
 obtain ⟨p, q, hA, hV, rfl, hfz, hnd⟩ := hW
 rw [hv] at hV
 obtain ⟨rfl, rfl⟩ := trodVars_none hV
 simp only [List.append_nil] at hlt hW0
 have hargs : ∀ sp : Nat → Bool, (∀ x ∈ p, sp x.block = true) → DataW.TrodAll enc P W' 0 sp true fn.params.toList args.toList ds p := fun sp hsp => trodAll_carry hl hb hpar hA hlt hsp
 refine ⟨ds, [], p, [], p, [], hW0, ?_, ?_, ?_, hb.frame _, fun h => by cases h⟩
 ·rw [hrt, hs [] rfl]
  exact trodAll_mk1 (shut_bool ub true)
 ·rw [hs [] rfl]
  exact hargs _ fun x hx => by simpa using hlt x hx
 ·rw [hs [] rfl, hv]
  simp [DataW.TrodVars]
theorem argD_avOf : ∀ {S : Sh} {x : Den S}, argD S (avOf S x) = some x := by
 intro S x
 cases S <;> simp [argD, avOf, castD, toDen, Sh.isAgg, aint, abool, one, cInt, cBool, cStr]
 all_goals rfl
theorem argsD_avOf : ∀ {l : List Sh} {x : Args (l.map .d)}, argsD (l.map .d) (qdt (l.map .d) x) = some x
 | [], _ => rfl
 | S :: l, x => by
  obtain ⟨a, y⟩ : Den S × Args (l.map .d) := x
  show argsD (.d S :: l.map .d) (avOf S a :: qdt (l.map .d) y) = some (a, y)
  simp only [argsD, parD, argD_avOf, argsD_avOf]
  rfl
theorem closed_avOf : ∀ {S : Sh} {x : Den S}, AV.closed (avOf S x) = true := by
 intro S x
 cases S <;> rfl
theorem closedAll_avOf : ∀ {l : List Sh} {x : Args (l.map .d)}, qcm (qdt (l.map .d) x) = true
 | [], _ => rfl
 | S :: l, x => by
  obtain ⟨a, y⟩ : Den S × Args (l.map .d) := x
  show (AV.closed (avOf S a) && qcm (qdt (l.map .d) y)) = true
  rw [closed_avOf, closedAll_avOf]
  rfl
theorem calls_law {E : Ctx} {f : FuncId} (l : List Sh) {pre : Args (l.map .d) → Prop} {F : Args (l.map .d) → Den .bool} (hc : qat E f (con (l.map .d) .bool pre F).spec) (hF : ∀ x, F x = true) (hg : GlR E W Z) (hz : ∀ b, Z b → b < W.heap.size)
  {x : Args (l.map .d)} {vs : List Value} (hx : pre x) (hv : CRs W Z (qdt (l.map .d) x) vs) : Calls E.P f vs.toArray W fun e w' => e = .returned (.bool true) ∧ Go.RowKit.Below W.heap.size W w' := by
 have hs : (con (l.map .d) .bool pre F).spec (qdt (l.map .d) x) = some ⟨pre x, avOf .bool (F x), [], none⟩ := by
  unfold Con.spec con
  simp only [argsD_avOf]
 refine ((hc _ _ closedAll_avOf hs hx W Z vs hg hz hv).r rfl).mono fun e w' ⟨v, Z', own', γ', he, hst, hm, hr⟩ => ⟨?_, hm.os, hm.tape, hm.output, hm.size, fun b hb => hm.kept b hb trivial⟩
 have hr' : VR w' Z' γ' (.val (.bool (F x))) v := hr
 rw [hF] at hr'
 have hcr := hr'.toCR rfl
 cases hcr
 exact he
structure GV where
 name : String
 g : Nat
 t : TypeId
 S : Sh
 x : Den S
 d : DataW Unit
def GV.ok (P : Program) (v : GV) : Prop :=
 P.globalNamed v.name = some v.g ∧ (P.globals[v.g]?).map (·.type) = some v.t ∧ shB P 40 v.t v.S = true ∧ rdX v.S false [v.d] = some v.x ∧ (v.d.weights P v.t).all (· ≤ reachBytes) = true ∧ 0 < v.S.size
theorem laid_get : ∀ {laid : List (String × DataW Unit)} {ps : List MemPlace}, DataW.LaidVars P W laid ps → ∀ n d, (n, d) ∈ laid → ∃ g t cs fuel p, P.globalNamed n = some g ∧ (P.globals[g]?).map (·.type) = some t ∧ W.var? P n = some cs ∧ DataW.trod (fun _ => ()) P W 0 (fun _ => true) false fuel t cs.toList = some (d, p)
 | [], _, _, n, d, h => by simp at h
 | (m, e) :: r, ps, hl, n, d, h => by
  obtain ⟨g, t, cs, fuel, p, q, h1, h2, h3, h4, h5, h6⟩ := hl
  rcases List.mem_cons.1 h with h | h
  ·injection h with e1 e2
   subst e1; subst e2
   exact ⟨g, t, cs, fuel, p, h1, h2, h3, h4⟩
  ·exact laid_get h5 n d h
theorem gl_of_laid (hz : ∀ b, b < W.heap.size → Z b) {laid : List (String × DataW Unit)} {ps : List MemPlace} (hl : DataW.LaidVars P W laid ps) {v : GV} (hv : v.ok P) (hm : (v.name, v.d) ∈ laid) : CR W Z (.rtp v.S v.x) (.pointer (some ⟨v.g, 0, none⟩)) := by
 obtain ⟨g, t, cs, fuel, p, h1, h2, h3, h4⟩ := laid_get hl _ _ hm
 obtain ⟨k1, k2, k3, k4, k5, k6⟩ := hv
 obtain rfl := Option.some.inj (k1.symm.trans h1)
 obtain rfl := Option.some.inj (k2.symm.trans h2)
 obtain ⟨x, j1, j2⟩ := open_sh (Z := Z) hz 40 v.t v.S fuel _ _ _ k3 h4 (fun k hk => by simpa using List.all_eq_true.1 k5 k hk)
 obtain rfl := Option.some.inj (k4.symm.trans j1)
 have hc := World.var?_cell h1 h3
 have hlen := j2.len
 refine .rtp v.S v.x v.g 0 cs.toList (hz _ ?_) (fun j u hj => ?_) j2
 ·have h0 := hc 0
  rcases Nat.lt_or_ge v.g W.heap.size with hb | hb
  ·exact hb
  ·have hn : W.heap[v.g]? = none := Array.getElem?_eq_none hb
   simp only [World.cell?, hn] at h0
   have := Array.getElem?_eq_none_iff.1 h0.symm
   rw [Array.length_toList] at hlen
   omega
 ·have := hc j
  unfold qfv
  rw [Nat.zero_add, this]
  simpa using hj
theorem trodAll_len {W : World} {sp : Nat → Bool} {base : Nat} : ∀ {ts : List TypeId} {vs : List Value} {ds : List (DataW H)} {ps : List MemPlace}, DataW.TrodAll enc P W base sp held ts vs ds ps → ds.length = ts.length
 | [], vs, ds, ps, h => by
  obtain ⟨rfl, rfl, rfl⟩ := trodAll_nil h
  rfl
 | t :: ts, vs, ds, ps, h => by
  obtain ⟨v, vs', d, ds', p, q, rfl, rfl, rfl, h1, h2⟩ := trodAll_cons h
  simp [trodAll_len h2]
theorem law_contract_pre {E : Ctx} {f : FuncId} {fn : Func} {s : ChangeSpec} {tb : TypeId} (l : List Sh) {pre : Args (l.map .d) → Prop} {F : Args (l.map .d) → Den .bool} (hc : qat E f (con (l.map .d) .bool pre F).spec) (hF : ∀ x, F x = true) (hl : laidOutB E.P = true)
  (hpar : (fn.params.toList.all fun t => E.P.readableRec t && decide (t < E.P.types.size)) = true) (hps : parsB E.P 40 fn.params.toList l = true) (hrt : fn.resultTypes = #[tb]) (ub : E.P.underlying tb = some .bool) (hv : s.vars = []) (hvt : s.plain.varTypes E.P = []) (hs : ∀ ds : List (DataW H), ds.length = fn.params.toList.length → s.fn H ds = { results := [.lit (.bool true)], args := ds })
  {apart : Bool} {W : World} {base : Nat} {args : Array Value} {ds gs : List (DataW H)} {before : List MemPlace} (hval : ∀ (j : Nat) t v, fn.params[j]? = some t → args[j]? = some v → Value.okWide E.P W .any base t v) (hW : DataW.Whole enc E.P fn.params.toList s.vars apart W args.toList ds gs before)
  (hsz : (DataW.weightsEach E.P (fn.params.toList ++ s.plain.varTypes E.P) (ds ++ gs)).all (· ≤ reachBytes) = true) (hg : GlR E W (fun b => b < W.heap.size)) (hpre : ∀ x, RdAll l ds x → pre x) :
  Calls E.P f args W fun e W' => ∃ v, e = .returned v ∧ s.post enc E.P fn apart true false false W args v W' := by
 have hW' := hW
 obtain ⟨p, q, hA, hV, rfl, hfz, hnd⟩ := hW
 rw [hv] at hV
 obtain ⟨rfl, rfl⟩ := trodVars_none hV
 rw [hvt, List.append_nil, List.append_nil] at hsz
 obtain ⟨x, hrd, hx⟩ := open_pars (Z := fun b => b < W.heap.size) (fun _ h => h) (n := 40) (l := l) hps hA (fun j t v ht hv => hval j t v (by simpa using ht) (by simpa using hv)) (fun k hk => by simpa using List.all_eq_true.1 hsz k hk)
 have hcall := calls_law l hc hF hg (fun _ h => h) (hpre x hrd) hx
 refine hcall.mono fun e W' ⟨he, hb⟩ => ⟨_, he, ?_⟩
 refine post_true hl (fun t ht => ?_) hrt ub hv (fun gs hgs => ?_) hW' hb
 ·have := List.all_eq_true.1 hpar t ht
  simpa using this
 ·subst hgs
  rw [List.append_nil]
  exact hs ds (trodAll_len hA)
theorem law_contract {E : Ctx} {f : FuncId} {fn : Func} {s : ChangeSpec} {tb : TypeId} (l : List Sh) {F : Args (l.map .d) → Den .bool} (hc : qat E f (con (l.map .d) .bool (fun _ => True) F).spec) (hF : ∀ x, F x = true) (hl : laidOutB E.P = true)
  (hpar : (fn.params.toList.all fun t => E.P.readableRec t && decide (t < E.P.types.size)) = true) (hps : parsB E.P 40 fn.params.toList l = true) (hrt : fn.resultTypes = #[tb]) (ub : E.P.underlying tb = some .bool) (hv : s.vars = []) (hvt : s.plain.varTypes E.P = []) (hs : ∀ ds : List (DataW H), ds.length = fn.params.toList.length → s.fn H ds = { results := [.lit (.bool true)], args := ds })
  {apart : Bool} {W : World} {base : Nat} {args : Array Value} {ds gs : List (DataW H)} {before : List MemPlace} (hval : ∀ (j : Nat) t v, fn.params[j]? = some t → args[j]? = some v → Value.okWide E.P W .any base t v) (hW : DataW.Whole enc E.P fn.params.toList s.vars apart W args.toList ds gs before)
  (hsz : (DataW.weightsEach E.P (fn.params.toList ++ s.plain.varTypes E.P) (ds ++ gs)).all (· ≤ reachBytes) = true) (hg : GlR E W (fun b => b < W.heap.size)) :
  Calls E.P f args W fun e W' => ∃ v, e = .returned v ∧ s.post enc E.P fn apart true false false W args v W' := law_contract_pre l hc hF hl hpar hps hrt ub hv hvt hs hval hW hsz hg (fun _ _ => trivial)
end
end Go.BE

/- A part of the proofs over this program: an abstract machine that the kernel evaluates, its soundness, and what the functions compute (Rel). -/
import Derived.Test.YthdkgphnleibmaaDoorAeDefs
namespace Go.AE

def CellAt (w : World) (b o : Nat) (v : Value) : Prop := w.cell? ⟨b, o, none⟩ = some v

/-- closed values: they lead to read-only blocks alone -/
inductive CR (w : World) (Z : Nat → Prop) : AV → Value → Prop
  | val (v : Value) : CR w Z (.val v) v
  | nil (f : Nat → List AV) : CR w Z (.ro 0 f) (.slice none 0 0)
  | ro (n : Nat) (f : Nat → List AV) (b o s c : Nat) (u : Nat → Nat → Value) (hc : n ≤ c) (hz : 0 < n → Z b) (hs : ∀ i, i < n → (f i).length = s)
      (hcell : ∀ i j a, i < n → (f i)[j]? = some a → CellAt w b (o + (i * s + j)) (u i j)) (hrel : ∀ i j a, i < n → (f i)[j]? = some a → CR w Z a (u i j)) :
      CR w Z (.ro n f) (.slice (some ⟨b, o, none⟩) n c)
  | rop (cs : List AV) (off b o : Nat) (u : Nat → Value) (hz : Z b) (hcell : ∀ j a, cs[j]? = some a → CellAt w b (o + j) (u j)) (hrel : ∀ j a, cs[j]? = some a → CR w Z a (u j)) :
      CR w Z (.rop cs off) (.pointer (some ⟨b, o + off, none⟩))
  | agg (cs : List AV) (vs : Array Value) (hl : cs.length = vs.size) (hrel : ∀ (j : Nat) a v, cs[j]? = some a → vs[j]? = some v → CR w Z a v) : CR w Z (.agg cs) (.agg vs)
  | tup (cs : List AV) (vs : Array Value) (hl : cs.length = vs.size) (hrel : ∀ (j : Nat) a v, cs[j]? = some a → vs[j]? = some v → CR w Z a v) : CR w Z (.tup cs) (.tuple vs)
  | fn (f : FuncId) (cs : List AV) (vs : Array Value) (hl : cs.length = vs.size) (hrel : ∀ (j : Nat) a v, cs[j]? = some a → vs[j]? = some v → CR w Z a v) : CR w Z (.fn f cs) (.func (.func f) #[] vs)

inductive VR (w : World) (Z : Nat → Prop) (β : Nat → Option Nat) : AV → Value → Prop
  | bad (v : Value) : VR w Z β .bad v
  | cr {a : AV} {v : Value} (h : CR w Z a v) : VR w Z β a v
  | ref (r off b : Nat) (h : β r = some b) : VR w Z β (.ref r off) (.pointer (some ⟨b, off, none⟩))
  | sl (r s off n b c : Nat) (h : β r = some b) (hc : n ≤ c) : VR w Z β (.sl r s off n) (.slice (some ⟨b, off, none⟩) n c)
  | agg (cs : List AV) (vs : Array Value) (hl : cs.length = vs.size) (hrel : ∀ (j : Nat) a v, cs[j]? = some a → vs[j]? = some v → VR w Z β a v) : VR w Z β (.agg cs) (.agg vs)
  | tup (cs : List AV) (vs : Array Value) (hl : cs.length = vs.size) (hrel : ∀ (j : Nat) a v, cs[j]? = some a → vs[j]? = some v → VR w Z β a v) : VR w Z β (.tup cs) (.tuple vs)
  | fn (f : FuncId) (cs : List AV) (vs : Array Value) (hl : cs.length = vs.size) (hrel : ∀ (j : Nat) a v, cs[j]? = some a → vs[j]? = some v → VR w Z β a v) : VR w Z β (.fn f cs) (.func (.func f) #[] vs)

/-- The read-only blocks stay as they are. -/
structure Stay (w : World) (Z : Nat → Prop) (w' : World) (Z' : Nat → Prop) : Prop where
  heap : ∀ b, Z b → w'.heap[b]? = w.heap[b]?
  sub : ∀ b, Z b → Z' b
theorem Stay.refl (w : World) (Z : Nat → Prop) : Stay w Z w Z := ⟨fun _ _ => rfl, fun _ h => h⟩
theorem Stay.trans {w1 w2 w3 : World} {Z1 Z2 Z3 : Nat → Prop} (h : Stay w1 Z1 w2 Z2) (k : Stay w2 Z2 w3 Z3) : Stay w1 Z1 w3 Z3 :=
  ⟨fun b hb => (k.heap b (h.sub b hb)).trans (h.heap b hb), fun b hb => k.sub b (h.sub b hb)⟩
theorem CellAt.stay {w w' : World} {b o : Nat} {v : Value} (h : CellAt w b o v) (hb : w'.heap[b]? = w.heap[b]?) : CellAt w' b o v := by
  unfold CellAt World.cell? at *
  simp only [hb]
  exact h
theorem CR.mono {w w' : World} {Z Z' : Nat → Prop} (hs : Stay w Z w' Z') {a : AV} {v : Value} (h : CR w Z a v) : CR w' Z' a v := by
  induction h with
  | val v => exact .val v
  | nil f => exact .nil f
  | ro n f b o s c u hc hz hsz hcell hrel ih => exact .ro n f b o s c u hc (fun hn => hs.sub _ (hz hn)) hsz (fun i j a hi ha => (hcell i j a hi ha).stay (hs.heap _ (hz (by omega)))) ih
  | rop cs off b o u hz hcell hrel ih => exact .rop cs off b o u (hs.sub _ hz) (fun j a ha => (hcell j a ha).stay (hs.heap _ hz)) ih
  | agg cs vs hl hrel ih => exact .agg cs vs hl ih
  | tup cs vs hl hrel ih => exact .tup cs vs hl ih
  | fn f cs vs hl hrel ih => exact .fn f cs vs hl ih
theorem VR.mono {w w' : World} {Z Z' : Nat → Prop} {β β' : Nat → Option Nat} (hs : Stay w Z w' Z') (hβ : ∀ r b, β r = some b → β' r = some b) {a : AV} {v : Value} (h : VR w Z β a v) : VR w' Z' β' a v := by
  induction h with
  | bad v => exact .bad v
  | cr h => exact .cr (h.mono hs)
  | ref r off b h => exact .ref r off b (hβ _ _ h)
  | sl r s off n b c h hc => exact .sl r s off n b c (hβ _ _ h) hc
  | agg cs vs hl hrel ih => exact .agg cs vs hl ih
  | tup cs vs hl hrel ih => exact .tup cs vs hl ih
  | fn f cs vs hl hrel ih => exact .fn f cs vs hl ih

theorem closedAll_at {l : List AV} (h : closedAll l = true) : ∀ (j : Nat) (a : AV), l[j]? = some a → a.closed = true := by
  induction l with
  | nil => intro j a ha; simp at ha
  | cons x l ih =>
    simp only [closedAll, Bool.and_eq_true] at h
    intro j a ha
    cases j with
    | zero => simp at ha; subst ha; exact h.1
    | succ j => exact ih h.2 j a (by simpa using ha)
theorem VR.toCR {w : World} {Z : Nat → Prop} {β : Nat → Option Nat} {a : AV} {v : Value} (h : VR w Z β a v) : a.closed = true → CR w Z a v := by
  induction h with
  | bad v => intro h; simp [AV.closed] at h
  | cr h => exact fun _ => h
  | ref r off b h => intro h; simp [AV.closed] at h
  | sl r s off n b c h hc => intro h; simp [AV.closed] at h
  | agg cs vs hl hrel ih => exact fun h => .agg cs vs hl fun j a v ha hv => ih j a v ha hv (closedAll_at (by simpa [AV.closed] using h) j a ha)
  | tup cs vs hl hrel ih => exact fun h => .tup cs vs hl fun j a v ha hv => ih j a v ha hv (closedAll_at (by simpa [AV.closed] using h) j a ha)
  | fn f cs vs hl hrel ih => exact fun h => .fn f cs vs hl fun j a v ha hv => ih j a v ha hv (closedAll_at (by simpa [AV.closed] using h) j a ha)

/-- lists of values -/
def VRs (w : World) (Z : Nat → Prop) (β : Nat → Option Nat) (cs : List AV) (vs : List Value) : Prop :=
  cs.length = vs.length ∧ ∀ (j : Nat) a v, cs[j]? = some a → vs[j]? = some v → VR w Z β a v
section
variable {w w' : World} {Z Z' : Nat → Prop} {β β' : Nat → Option Nat} {a : AV} {v : Value} {cs ds : List AV} {vs us : List Value}
theorem VRs.nil : VRs w Z β [] [] := ⟨rfl, fun j a v h => by simp at h⟩
theorem VRs.cons (h : VR w Z β a v) (hs : VRs w Z β cs vs) : VRs w Z β (a :: cs) (v :: vs) :=
  ⟨by simp [hs.1], fun j x y hx hy => by
    cases j with
    | zero => simp at hx hy; subst hx; subst hy; exact h
    | succ j => exact hs.2 j x y (by simpa using hx) (by simpa using hy)⟩
theorem VRs.head (h : VRs w Z β (a :: cs) (v :: vs)) : VR w Z β a v := h.2 0 a v rfl rfl
theorem VRs.tail (h : VRs w Z β (a :: cs) (v :: vs)) : VRs w Z β cs vs := ⟨by simpa using h.1, fun j x y hx hy => h.2 (j + 1) x y (by simpa using hx) (by simpa using hy)⟩
theorem VRs.append (h : VRs w Z β cs vs) (k : VRs w Z β ds us) : VRs w Z β (cs ++ ds) (vs ++ us) := by
  refine ⟨by simp [h.1, k.1], fun j x y hx hy => ?_⟩
  rcases Nat.lt_or_ge j cs.length with hj | hj
  · rw [List.getElem?_append_left hj] at hx
    rw [List.getElem?_append_left (by rw [← h.1]; exact hj)] at hy
    exact h.2 j x y hx hy
  · rw [List.getElem?_append_right hj] at hx
    rw [List.getElem?_append_right (by rw [← h.1]; exact hj), ← h.1] at hy
    exact k.2 _ x y hx hy
theorem VRs.mono (hs : Stay w Z w' Z') (hβ : ∀ r b, β r = some b → β' r = some b) (h : VRs w Z β cs vs) : VRs w' Z' β' cs vs := ⟨h.1, fun j x y hx hy => (h.2 j x y hx hy).mono hs hβ⟩
theorem VRs.get (h : VRs w Z β cs vs) {j : Nat} (hj : cs[j]? = some a) : ∃ v, vs[j]? = some v ∧ VR w Z β a v := by
  have hl := (List.getElem?_eq_some_iff.1 hj).1
  rw [h.1] at hl
  exact ⟨vs[j], List.getElem?_eq_getElem hl, h.2 j _ _ hj (List.getElem?_eq_getElem hl)⟩
theorem VRs.set (h : VRs w Z β cs vs) (j : Nat) (ha : VR w Z β a v) : VRs w Z β (cs.set j a) (vs.set j v) := by
  refine ⟨by simp [h.1], fun i x y hx hy => ?_⟩
  rw [List.getElem?_set] at hx hy
  by_cases hij : j = i
  · subst hij
    simp only [if_true] at hx hy
    split at hx
    · split at hy
      · simp at hx hy; subst hx; subst hy; exact ha
      · simp at hy
    · simp at hx
  · simp only [hij, if_false] at hx hy
    exact h.2 i x y hx hy
theorem VRs.drop (h : VRs w Z β cs vs) (n : Nat) : VRs w Z β (cs.drop n) (vs.drop n) :=
  ⟨by simp [h.1], fun j x y hx hy => h.2 (n + j) x y (by simpa [List.getElem?_drop] using hx) (by simpa [List.getElem?_drop] using hy)⟩
theorem VRs.take (h : VRs w Z β cs vs) (n : Nat) : VRs w Z β (cs.take n) (vs.take n) := by
  refine ⟨by simp [h.1], fun j x y hx hy => ?_⟩
  rw [List.getElem?_take] at hx hy
  split at hx
  · rename_i hj
    rw [if_pos hj] at hy
    exact h.2 j x y hx hy
  · simp at hx
theorem VRs.vals (l : List Value) : VRs w Z β (l.map .val) l := by
  refine ⟨by simp, fun j x y hx hy => ?_⟩
  rw [List.getElem?_map, hy] at hx
  simp at hx
  subst hx
  exact .cr (.val y)
/-- a value's cells -/
theorem VR.cells (h : VR w Z β a v) (hb : ∀ u, a = .val u → u.cells = #[u]) (hbad : a ≠ .bad) : VRs w Z β a.cells v.cells.toList := by
  cases h with
  | bad => exact absurd rfl hbad
  | cr h =>
    cases h with
    | val =>
      rw [hb v rfl]
      exact VRs.cons (.cr (.val v)) .nil
    | nil f => exact VRs.cons (.cr (.nil f)) .nil
    | ro n f b o s c u h1 h2 h3 h4 h5 => exact VRs.cons (.cr (.ro n f b o s c u h1 h2 h3 h4 h5)) .nil
    | rop cs off b o u h1 h2 h3 => exact VRs.cons (.cr (.rop cs off b o u h1 h2 h3)) .nil
    | agg cs vs hl hrel => exact ⟨by simpa [AV.cells, Value.cells] using hl, fun j x y hx hy => .cr (hrel j x y hx (by simpa [Value.cells] using hy))⟩
    | tup cs vs hl hrel => exact VRs.cons (.cr (.tup cs vs hl hrel)) .nil
    | fn f cs vs hl hrel => exact VRs.cons (.cr (.fn f cs vs hl hrel)) .nil
  | ref r off b h => exact VRs.cons (.ref r off b h) .nil
  | sl r s off n b c h hc => exact VRs.cons (.sl r s off n b c h hc) .nil
  | agg cs vs hl hrel => exact ⟨by simpa [AV.cells, Value.cells] using hl, fun j x y hx hy => hrel j x y hx (by simpa [Value.cells] using hy)⟩
  | tup cs vs hl hrel => exact VRs.cons (.tup cs vs hl hrel) .nil
  | fn f cs vs hl hrel => exact VRs.cons (.fn f cs vs hl hrel) .nil
end
end Go.AE

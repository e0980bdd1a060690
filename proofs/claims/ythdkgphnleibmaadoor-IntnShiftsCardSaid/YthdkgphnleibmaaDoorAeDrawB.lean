/- A part of the proofs over this program: an abstract machine that the kernel evaluates, its soundness, and what the functions compute (DrawB). -/
import Derived.Test.YthdkgphnleibmaaDoorAeDraw
/-! Drawn orders: the whole region. -/
namespace Go.AE
open Go.RowKit
def Lof (listed : Array Bool) : Nat → Bool := fun i => listed.getD i false
theorem Lof_set {listed : Array Bool} {i : Nat} (hi : i < listed.size) : Lof (listed.setIfInBounds i true) = addL (Lof listed) i := by
  funext j
  simp only [Lof, addL, Array.getD_eq_getD_getElem?]
  by_cases h : i = j
  · subst h
    simp [Array.getElem?_setIfInBounds_self, hi]
  · rw [Array.getElem?_setIfInBounds_ne h]
    have : (j == i) = false := by simpa using Ne.symm h
    rw [this, Bool.or_false]
theorem Lof_true {listed : Array Bool} {j : Nat} (hj : j < listed.size) : listed.getD j true = Lof listed j := by
  simp only [Lof, Array.getD_eq_getD_getElem?, Array.getElem?_eq_getElem hj, Option.getD_some]
/-- what the canonical run and the region's edges give -/
structure Plan (E : Ctx) (ops : Array Oper) (nx : Nat) (fr : List AV) (h : Heap) (A : List (List Nat)) (rs : List Rc) : Prop where
  len : rs.length = ops.size
  recs : ∀ (j : Nat) o, ops[j]? = some o → ∃ r, rs[j]? = some r ∧ DOK E ops (nx + j) o (foldF (rs.take j) fr) (foldH (rs.take j) h) r
  anc : ∀ (j : Nat) o, ops[j]? = some o → (∀ e ∈ o.after, Region.binds .any e = true → e.on < j) ∧ ∀ i ∈ A.getD j [], ∃ e ∈ o.after, Region.binds .any e = true ∧ (i = e.on ∨ i ∈ A.getD e.on [])
  conf : ∀ (i k : Nat) q r, rs[i]? = some q → rs[k]? = some r → i < k → conf q r = true → i ∈ A.getD k []
structure Inv (E : Ctx) (ops : Array Oper) (nx : Nat) (fr : List AV) (h : Heap) (A : List (List Nat)) (rs : List Rc) (w0 : World) (Z0 : Nat → Prop) (listed : Array Bool) (a : Act) (w : World) (Z : Nat → Prop) (β : Nat → Option Nat) (H : Heap) : Prop where
  size : listed.size = ops.size
  closed : ∀ j, Lof listed j = true → ∀ i ∈ A.getD j [], Lof listed i = true
  frame : VRs w Z β (selF (Lof listed) 0 rs fr) a.tmps.toList
  heap : ∀ x, hget H x = selH (Lof listed) 0 rs (hget h) x
  mem : MemR w0 Z0 w Z β H (nx + ops.size)
  free : ∀ i, i < ops.size → Lof listed i = false → β (nx + i) = none
  gl : GlR E w Z
section
variable {P : Program} {E : Ctx} {w w0 w' : World} {Z Z0 Z' : Nat → Prop} {β β' : Nat → Option Nat} {N nx : Nat} {h H : Heap} {a : Act} {fr : List AV} {ops : Array Oper} {A : List (List Nat)} {rs : List Rc} {listed : Array Bool}
theorem mem_wrRoot {r : Rc} {x : Nat} {cs : List AV} (h : r.wr = some (x, cs)) : x ∈ wrRoot r := by simp [wrRoot, h]
theorem conf1 {q r : Rc} {t : Nat} (h : q.dst = some t) (k : r.nm.contains t = true) : conf q r = true := by
  have : meets q.dst.toList r.nm = true := meets_of (x := t) (by simp [h]) k
  simp [conf, this]
theorem conf2 {q r : Rc} {t : Nat} (h : r.dst = some t) (k : q.nm.contains t = true) : conf q r = true := by
  have : meets r.dst.toList q.nm = true := meets_of (x := t) (by simp [h]) k
  simp [conf, this]
theorem conf3 {q r : Rc} {x : Nat} {cs : List AV} (h : q.wr = some (x, cs)) (k : x ∈ wrRoot r ∨ x ∈ r.rd) : conf q r = true := by
  have : meets (wrRoot q) (wrRoot r ++ r.rd) = true := meets_of (x := x) (mem_wrRoot h) (by simpa using k)
  simp [conf, this]
theorem conf4 {q r : Rc} {x : Nat} {cs : List AV} (h : r.wr = some (x, cs)) (k : x ∈ wrRoot q ∨ x ∈ q.rd) : conf q r = true := by
  have : meets (wrRoot r) (wrRoot q ++ q.rd) = true := meets_of (x := x) (mem_wrRoot h) (by simpa using k)
  simp [conf, this]
theorem names_dst {o : Oper} {t : Nat} (h : o.dst = some t) : (names ops o).contains t = true := by
  simp [names, h]
theorem inv_step (hE : EOK E) (hP : Plan E ops nx fr h A rs) (hI : Inv E ops nx fr h A rs w0 Z0 listed a w Z β H) {i : Nat} (hi : i ∈ Region.ready .any ops listed) (b : Frame) (k : List Item) (fs : List Frame) (rest : List Nat) :
    ∃ a' w' Z' β' H', Inv E ops nx fr h A rs w0 Z0 (listed.setIfInBounds i true) a' w' Z' β' H' ∧ a'.defers = a.defers ∧ Stay w Z w' Z' ∧ (∀ r b, β r = some b → β' r = some b) ∧
      Steps E.P (lone (b.at a (.inRegion ops (i :: rest) :: k)) fs w) (lone (b.at a' (.inRegion ops rest :: k)) fs w') := by
  rw [mem_ready] at hi
  obtain ⟨hun, o, ho, hed⟩ := hi
  have hlt : i < ops.size := (Array.getElem?_eq_some_iff.1 ho).1
  have hlt' : i < listed.size := by rw [hI.size]; exact hlt
  rw [Lof_true hlt'] at hun
  obtain ⟨r, hr, hd⟩ := hP.recs i o ho
  have hanc : ∀ m ∈ A.getD i [], Lof listed m = true := fun m hm => by
    obtain ⟨e, he, hb, hm | hm⟩ := (hP.anc i o ho).2 m hm
    · subst hm; exact hed e he hb
    · exact hI.closed e.on (hed e he hb) m hm
  have hlater : ∀ m q, i < m → rs[m]? = some q → conf r q = true → Lof listed m = false := fun m q hm hq hc => by
    cases hL : Lof listed m with
    | false => rfl
    | true =>
      have := hI.closed m hL i (hP.conf i m r q hr hq hm hc)
      rw [hun] at this
      cases this
  have hbefore : ∀ m q, m < i → rs[m]? = some q → conf q r = true → Lof listed m = true := fun m q hm hq hc => hanc m (hP.conf m i q r hq hr hm hc)
  obtain ⟨hnm, hdst⟩ := hd.nm
  have hd' : DOK E ops (nx + i) o (selF (Lof listed) 0 rs fr) H r := by
    refine hd.congr hnm (fun t ht => ?_) (by rw [foldF_sel rs i 0, selF_length, selF_length]) (fun x hx => ?_)
    · rw [foldF_sel rs i 0]
      refine selF_congr rs 0 fr fr rfl rfl fun m q hm hq => ?_
      simp only [Nat.zero_add]
      rcases Nat.lt_trichotomy m i with hmi | hmi | hmi
      · rw [hbefore m q hmi hm (conf1 hq ht)]; simpa using hmi
      · subst hmi; rw [hun]; simp
      · rw [hlater m q hmi hm (conf2 hq ht)]; simp; omega
    · rw [foldH_sel rs i 0, hI.heap x]
      refine selH_congr rs 0 _ _ rfl fun m q cs hm hq => ?_
      simp only [Nat.zero_add]
      rcases Nat.lt_trichotomy m i with hmi | hmi | hmi
      · rw [hbefore m q hmi hm (conf3 hq (.inr hx))]; simpa using hmi
      · subst hmi; rw [hun]; simp
      · rw [hlater m q hmi hm (conf4 hq (.inr hx))]; simp; omega
  obtain ⟨v, w', Z', β', H', D, hs⟩ := dok_run (b := b) (k := k) (fs := fs) (rest := rest) hE hI.mem hI.gl hI.frame hd' ho (by omega) (hI.free i hlt hun)
  refine ⟨a.put r.dst v, w', Z', β', H', ⟨by simp [hI.size], ?_, ?_, ?_, D.mem, ?_, hI.gl.mono D.stay⟩, ?_, D.stay, D.ext, hs⟩
  · rw [Lof_set hlt']
    intro j hj m hm
    simp only [addL, Bool.or_eq_true, beq_iff_eq] at hj ⊢
    rcases hj with hj | rfl
    · exact .inl (hI.closed j hj m hm)
    · exact .inl (hanc m hm)
  · rw [Lof_set hlt', selF_add hr fun m q t hm hq hqt hrt => hlater m q hm hq (conf2 hqt (by rw [hnm]; exact names_dst (hdst ▸ hrt)))]
    cases hrd : r.dst with
    | none => exact hI.frame.mono D.stay D.ext
    | some t =>
      simp only [putT, Act.put, Array.toList_setIfInBounds]
      exact (hI.frame.mono D.stay D.ext).set t D.val
  · intro x
    rw [Lof_set hlt', selH_add hr fun m q y cs ds hm hq hqt hrt => hlater m q hm hq (conf4 hqt (.inl (mem_wrRoot hrt))), D.heap x]
    have : hget H = selH (Lof listed) 0 rs (hget h) := funext hI.heap
    rw [this]
  · rw [Lof_set hlt']
    intro j hj hL
    simp only [addL, Bool.or_eq_false_iff, beq_eq_false_iff_ne] at hL
    rw [D.only (nx + j) (by omega)]
    exact hI.free j hj hL.1
  · cases r.dst <;> rfl
theorem ready_nil (hP : Plan E ops nx fr h A rs) (hs : listed.size = ops.size) (hn : Region.ready .any ops listed = []) : ∀ j, j < ops.size → Lof listed j = true := by
  intro j
  induction j using Nat.strongRecOn with
  | _ j ih =>
    intro hj
    cases hL : Lof listed j with
    | true => rfl
    | false =>
      have : j ∈ Region.ready .any ops listed := by
        rw [mem_ready, Lof_true (by omega)]
        refine ⟨hL, ops[j], Array.getElem?_eq_getElem hj, fun e he hb => ?_⟩
        have hlt := (hP.anc j ops[j] (Array.getElem?_eq_getElem hj)).1 e he hb
        exact ih e.on hlt (by omega)
      rw [hn] at this
      cases this
def unl (n : Nat) (listed : Array Bool) : Nat := ((List.range n).filter fun i => !Lof listed i).length
theorem unl_lt {n i : Nat} (hs : i < listed.size) (hi : i < n) (hL : Lof listed i = false) : unl n (listed.setIfInBounds i true) < unl n listed := by
  unfold unl
  rw [Lof_set hs]
  have : (List.range n).filter (fun j => !addL (Lof listed) i j) = ((List.range n).filter fun j => !Lof listed j).filter fun j => !(j == i) := by
    rw [List.filter_filter]
    congr 1
    funext j
    simp [addL, Bool.not_or, Bool.and_comm]
  rw [this, List.length_filter_lt_length_iff_exists]
  exact ⟨i, by simp [hi, hL], by simp⟩
theorem go_sound (hE : EOK E) (hP : Plan E ops nx fr h A rs) (b : Frame) (k : List Item) (fs : List Frame) : ∀ (fuel t : Nat) {listed : Array Bool} {a : Act} {w : World} {Z : Nat → Prop} {β : Nat → Option Nat} {H : Heap}, unl ops.size listed ≤ fuel →
    Inv E ops nx fr h A rs w0 Z0 listed a w Z β H → ∃ listed' a' w' Z' β' H', Inv E ops nx fr h A rs w0 Z0 listed' a' w' Z' β' H' ∧ (∀ j, j < ops.size → Lof listed' j = true) ∧ a'.defers = a.defers ∧ Stay w Z w' Z' ∧ (∀ r b, β r = some b → β' r = some b) ∧
      Steps E.P (lone (b.at a (.inRegion ops (Region.linearise.go .any ops fuel t listed []) :: k)) fs w) (lone (b.at a' (.inRegion ops [] :: k)) fs w')
  | 0, t, listed, a, w, Z, β, H, hu, hI => by
    refine ⟨listed, a, w, Z, β, H, hI, fun j hj => ?_, rfl, Stay.refl _ _, fun _ _ h => h, .refl _ _⟩
    cases hL : Lof listed j with
    | true => rfl
    | false =>
      have hm : j ∈ (List.range ops.size).filter fun i => !Lof listed i := by simp [hj, hL]
      have : (List.range ops.size).filter (fun i => !Lof listed i) = [] := List.eq_nil_of_length_eq_zero (by unfold unl at hu; omega)
      rw [this] at hm
      cases hm
  | fuel + 1, t, listed, a, w, Z, β, H, hu, hI => by
    simp only [Region.linearise.go]
    change ∃ listed' a' w' Z' β' H', Inv E ops nx fr h A rs w0 Z0 listed' a' w' Z' β' H' ∧ (∀ j, j < ops.size → Lof listed' j = true) ∧ a'.defers = a.defers ∧ Stay w Z w' Z' ∧ (∀ r b, β r = some b → β' r = some b) ∧
      Steps E.P (lone (b.at a (.inRegion ops (match (Region.ready .any ops listed)[t % (Region.ready .any ops listed).length]? with
        | some i => Region.linearise.go .any ops fuel (t / (Region.ready .any ops listed).length) (listed.setIfInBounds i true) [i]
        | none => [].reverse) :: k)) fs w) (lone (b.at a' (.inRegion ops [] :: k)) fs w')
    cases hi : (Region.ready .any ops listed)[t % (Region.ready .any ops listed).length]? with
    | none =>
      have hnil : Region.ready .any ops listed = [] := by
        cases hr : Region.ready .any ops listed with
        | nil => rfl
        | cons x xs =>
          rw [hr] at hi
          have hlt : t % (x :: xs).length < (x :: xs).length := Nat.mod_lt _ (by simp)
          simp at hi
          simp at hlt
          omega
      exact ⟨listed, a, w, Z, β, H, hI, ready_nil hP hI.size hnil, rfl, Stay.refl _ _, fun _ _ h => h, .refl _ _⟩
    | some i =>
      simp only []
      rw [linearise_go_acc, List.reverse_singleton, List.singleton_append]
      have hr := List.mem_of_getElem? hi
      obtain ⟨a1, w1, Z1, β1, H1, hI1, hd1, hst1, hx1, hs1⟩ := inv_step hE hP hI hr b k fs (Region.linearise.go .any ops fuel (t / (Region.ready .any ops listed).length) (listed.setIfInBounds i true) [])
      have hrdy := mem_ready.1 hr
      obtain ⟨hun, o, ho, _⟩ := hrdy
      have hlt : i < ops.size := (Array.getElem?_eq_some_iff.1 ho).1
      rw [Lof_true (by rw [hI.size]; exact hlt)] at hun
      have hlt2 := unl_lt (n := ops.size) (by rw [hI.size]; exact hlt) hlt hun
      obtain ⟨l2, a2, w2, Z2, β2, H2, hI2, hall, hd2, hst2, hx2, hs2⟩ := go_sound hE hP b k fs fuel (t / (Region.ready .any ops listed).length) (by omega) hI1
      exact ⟨l2, a2, w2, Z2, β2, H2, hI2, hall, hd2.trans hd1, hst1.trans hst2, fun r b h => hx2 r b (hx1 r b h), hs1.trans hs2⟩
theorem MemR.congr {H' : Heap} (hm : MemR w0 Z0 w Z β H N) (hh : ∀ x, hget H' x = hget H x) : MemR w0 Z0 w Z β H' N :=
  ⟨⟨fun r cs hg => hm.heap.row r cs (hh r ▸ hg), fun r r' b cs cs' h1 h2 => hm.heap.inj r r' b cs cs' (hh r ▸ h1) (hh r' ▸ h2), hm.heap.fresh, fun r cs hg => hm.heap.keys r cs (hh r ▸ hg)⟩, hm.zlt, hm.zin, hm.below⟩
theorem adraw_sound (hE : EOK E) (hm : MemR w0 Z0 w Z β h nx) (hg : GlR E w Z) (hf : VRs w Z β fr a.tmps.toList) {fr' : List AV} {h' : Heap} {ds ds' : List Bool} {C : List Prop} (he : adraw E ops fr h nx ds = some (C, fr', h', ds')) (hC : AllP C)
    (b : Frame) (k : List Item) (fs : List Frame) (t : Nat) : ∃ a' w' Z' β', a'.defers = a.defers ∧ VRs w' Z' β' fr' a'.tmps.toList ∧ Stay w Z w' Z' ∧ (∀ r b, β r = some b → β' r = some b) ∧ MemR w0 Z0 w' Z' β' h' (nx + ops.size) ∧
      Steps E.P (lone (b.at a (.inRegion ops (Region.linearise .any ops t) :: k)) fs w) (lone (b.at a' k) fs w') := by
  unfold adraw at he
  split at he
  · rename_i C1 rs fr1 h1 ds1 A hrun hanc
    split at he
    · rename_i hok
      simp only [Option.some.injEq, Prod.mk.injEq] at he
      obtain ⟨rfl, rfl, rfl, rfl⟩ := he
      rw [← allP_eq] at hC
      obtain ⟨e1, e2, e3, e4⟩ := drun_ok ops.toList 0 fr h [] ds (fun t d h => by simp [dlook] at h) hrun hC
      obtain ⟨_, a2⟩ := ancs_ok hanc
      have hP : Plan E ops nx fr h A rs := by
        refine ⟨by simpa using e1, fun j o ho => ?_, fun j o ho => ?_, fun i k q r hi hk hik hc => ?_⟩
        · have := e4 j o (by simpa using ho)
          rwa [Nat.zero_add] at this
        · have := a2 j o (by simpa using ho)
          simpa using this
        · exact okAll_ok (done := []) hok i k q r (by simpa using hi) (by simpa using hk) hik (Nat.zero_le _) hc
      have hL0 : Lof (Array.replicate ops.size false) = fun m => decide (m < 0 + 0) := by
        funext j
        simp only [Lof, Array.getD_eq_getD_getElem?, Array.getElem?_replicate]
        split <;> simp
      have hI : Inv E ops nx fr h A rs w0 Z0 (Array.replicate ops.size false) a w Z β h := by
        refine ⟨by simp, fun j hj => ?_, ?_, fun x => ?_, ⟨⟨hm.heap.row, hm.heap.inj, fun r hr => hm.heap.fresh r (by omega), fun r cs hg => ?_⟩, hm.zlt, hm.zin, hm.below⟩, fun i hi hL => hm.heap.fresh _ (by omega), hg⟩
        · rw [hL0] at hj
          simp at hj
        · rw [hL0, ← foldF_sel rs 0 0]
          exact hf
        · rw [hL0, ← foldH_sel rs 0 0]
          rfl
        · have := hm.heap.keys r cs hg
          omega
      obtain ⟨l2, a2, w2, Z2, β2, H2, hI2, hall, hd2, hst2, hx2, hs2⟩ := go_sound hE hP b k fs ops.size t (by
        unfold unl
        exact Nat.le_trans (List.length_filter_le _ _) (by simp)) hI
      have hfull : ∀ m (r : Rc), rs[m]? = some r → Lof l2 (0 + m) = decide (0 + m < 0 + rs.length) := fun m r hr => by
        have := (List.getElem?_eq_some_iff.1 hr).1
        rw [Nat.zero_add, hall m (by rw [← hP.len]; exact this)]
        simpa using this
      refine ⟨a2, w2, Z2, β2, hd2, ?_, hst2, hx2, hI2.mem.congr fun x => ?_, hs2.trans (.one step_region_end)⟩
      · have : selF (Lof l2) 0 rs fr = foldF rs fr := by
          have h1 := foldF_sel rs rs.length 0 fr
          rw [List.take_length] at h1
          rw [h1]
          exact List.ext_getElem? fun t => selF_congr rs 0 fr fr rfl rfl fun m r hr _ => hfull m r hr
        have h2 := hI2.frame
        rw [this, ← e2] at h2
        exact h2
      · have h1 := foldH_sel rs rs.length 0 h x
        rw [List.take_length] at h1
        rw [hI2.heap x, e3, h1]
        exact selH_congr rs 0 _ _ rfl fun m r cs hr _ => (hfull m r hr).symm
    · cases he
  · cases he
end
end Go.AE

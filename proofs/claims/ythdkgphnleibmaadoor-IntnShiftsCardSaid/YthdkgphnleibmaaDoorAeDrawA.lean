/- A part of the proofs over this program: an abstract machine that the kernel evaluates, its soundness, and what the functions compute (DrawA). -/
import Derived.Test.YthdkgphnleibmaaDoorAeDefs
/-! Drawn orders, the plain part: what the canonical run says of each operation, and why any closed set of operations sees the same. -/
namespace Go.AE
def AllP' : List Prop → Prop
  | [] => True
  | p :: ps => p ∧ AllP' ps
theorem AllP'.append {l m : List Prop} : AllP' (l ++ m) ↔ AllP' l ∧ AllP' m := by
  induction l with
  | nil => simp [AllP']
  | cons x l ih => simp [AllP', ih, and_assoc]

theorem putT_length (F : List AV) (d : Option Tmp) (v : AV) : (putT F d v).length = F.length := by cases d <;> simp [putT]
theorem putT_get (F : List AV) (d : Option Tmp) (v : AV) (t : Nat) : (putT F d v)[t]? = if d = some t ∧ t < F.length then some v else F[t]? := by
  cases d with
  | none => simp [putT]
  | some d =>
    simp only [putT, List.getElem?_set, Option.some.injEq]
    by_cases h : d = t
    · subst h
      by_cases h2 : d < F.length
      · simp [h2]
      · simp [h2, List.getElem?_eq_none (Nat.le_of_not_lt h2)]
    · simp [h]
def upd (g : Nat → Option (List AV)) : Option (Nat × List AV) → Nat → Option (List AV)
  | none => g
  | some (k, cs) => fun x => if x = k then some cs else g x
theorem hget_hset_eq {r : Nat} {d : List AV} : ∀ {h : Heap} {c : List AV}, hget h r = some c → ∀ x, hget (hset h r d) x = if x = r then some d else hget h x
  | [], c, hg, x => by simp [hget] at hg
  | (k, y) :: h, c, hg, x => by
    by_cases hk : k = r
    · subst hk
      by_cases hx : x = k
      · subst hx; simp [hset, hget]
      · simp [hset, hget, hx, Ne.symm hx]
    · simp only [hget, hk, if_false] at hg
      simp only [hset, hk, if_false, hget]
      rw [hget_hset_eq hg x]
      by_cases hx : k = x
      · subst hx; simp [hk]
      · simp [hx]
theorem hget_hput (h : Heap) (wr : Option (Nat × List AV)) (x : Nat) : hget (hput h wr) x = upd (hget h) wr x := by
  cases wr with
  | none => rfl
  | some p =>
    obtain ⟨r, cs⟩ := p
    simp only [hput, upd]
    split
    · rename_i c hc
      exact hget_hset_eq hc x
    · simp only [hget]
      by_cases hx : r = x
      · simp [hx]
      · simp [hx, Ne.symm hx]

/-! ### the chosen ones -/
def selF (L : Nat → Bool) : Nat → List Rc → List AV → List AV
  | _, [], F => F
  | i, r :: rs, F => selF L (i + 1) rs (if L i then putT F r.dst r.val else F)
def selH (L : Nat → Bool) : Nat → List Rc → (Nat → Option (List AV)) → Nat → Option (List AV)
  | _, [], g => g
  | i, r :: rs, g => selH L (i + 1) rs (if L i then upd g r.wr else g)
theorem selF_length (L : Nat → Bool) : ∀ (rs : List Rc) (i : Nat) (F : List AV), (selF L i rs F).length = F.length
  | [], i, F => rfl
  | r :: rs, i, F => by
    simp only [selF]
    rw [selF_length L rs]
    split
    · exact putT_length _ _ _
    · rfl
theorem selF_congr {L L' : Nat → Bool} {t : Nat} : ∀ (rs : List Rc) (i : Nat) (F F' : List AV), F.length = F'.length → F[t]? = F'[t]? →
    (∀ (m : Nat) r, rs[m]? = some r → r.dst = some t → L (i + m) = L' (i + m)) → (selF L i rs F)[t]? = (selF L' i rs F')[t]?
  | [], i, F, F', hl, ht, h => ht
  | r :: rs, i, F, F', hl, ht, h => by
    simp only [selF]
    refine selF_congr rs (i + 1) _ _ ?_ ?_ fun m q hm hq => ?_
    · split <;> split <;> simp [putT_length, hl]
    · have h0 := h 0 r rfl
      simp only [Nat.add_zero] at h0
      by_cases hd : r.dst = some t
      · rw [← h0 hd]
        split
        · rw [putT_get, putT_get, hl, ht]
        · exact ht
      · have key : ∀ (b : Bool) (G : List AV), (if b then putT G r.dst r.val else G)[t]? = G[t]? := by
          intro b G
          cases b
          · rfl
          · simp only [if_true]
            rw [putT_get, if_neg (fun hh => hd hh.1)]
        rw [key, key, ht]
    · have := h (m + 1) q (by simpa using hm) hq
      rwa [show i + 1 + m = i + (m + 1) from by omega]
theorem selH_congr {L L' : Nat → Bool} {x : Nat} : ∀ (rs : List Rc) (i : Nat) (g g' : Nat → Option (List AV)), g x = g' x →
    (∀ (m : Nat) r cs, rs[m]? = some r → r.wr = some (x, cs) → L (i + m) = L' (i + m)) → selH L i rs g x = selH L' i rs g' x
  | [], i, g, g', ht, h => ht
  | r :: rs, i, g, g', ht, h => by
    simp only [selH]
    refine selH_congr rs (i + 1) _ _ ?_ fun m q cs hm hq => ?_
    · by_cases hd : ∃ cs, r.wr = some (x, cs)
      · obtain ⟨cs, hcs⟩ := hd
        have h0 := h 0 r cs rfl hcs
        simp only [Nat.add_zero] at h0
        rw [← h0]
        split
        · rw [hcs]; simp [upd]
        · exact ht
      · have key : ∀ (b : Bool) (G : Nat → Option (List AV)), (if b then upd G r.wr else G) x = G x := by
          intro b G
          cases b
          · rfl
          · simp only [if_true]
            cases hw : r.wr with
            | none => rfl
            | some p =>
              obtain ⟨k, cs⟩ := p
              simp only [upd]
              rw [if_neg]
              intro hk
              subst hk
              exact hd ⟨cs, hw⟩
        rw [key, key, ht]
    · have := h (m + 1) q cs (by simpa using hm) hq
      rwa [show i + 1 + m = i + (m + 1) from by omega]
/-- the last writer decides -/
theorem selF_last {L : Nat → Bool} {t : Nat} {v : AV} : ∀ (rs : List Rc) (i : Nat) (F : List AV) (j : Nat) (r : Rc), rs[j]? = some r → r.dst = some t → r.val = v → L (i + j) = true →
    (∀ (m : Nat) q, j < m → rs[m]? = some q → q.dst = some t → L (i + m) = false) → (selF L i rs F)[t]? = if t < F.length then some v else none
  | [], i, F, j, r, hj, _, _, _, _ => by simp at hj
  | q :: rs, i, F, 0, r, hj, hd, hv, hL, h => by
    simp only [List.getElem?_cons_zero, Option.some.injEq] at hj
    subst hj
    simp only [selF, Nat.add_zero] at hL ⊢
    rw [if_pos hL]
    have : (selF L (i + 1) rs (putT F q.dst q.val))[t]? = (selF (fun _ => false) (i + 1) rs (putT F q.dst q.val))[t]? := by
      refine selF_congr rs (i + 1) _ _ rfl rfl fun m p hm hp => ?_
      have := h (m + 1) p (by omega) (by simpa using hm) hp
      rwa [show i + 1 + m = i + (m + 1) from by omega]
    rw [this]
    have none : ∀ (rs : List Rc) (i : Nat) (F : List AV), selF (fun _ => false) i rs F = F := by
      intro rs
      induction rs with
      | nil => intro i F; rfl
      | cons r rs ih => intro i F; simp only [selF]; exact ih _ _
    rw [none, putT_get, hd, hv]
    simp only [true_and]
    split
    · rfl
    · rename_i hlt
      exact List.getElem?_eq_none (Nat.le_of_not_lt hlt)
  | q :: rs, i, F, j + 1, r, hj, hd, hv, hL, h => by
    simp only [selF]
    have hlen : (if L i = true then putT F q.dst q.val else F).length = F.length := by
      split
      · exact putT_length _ _ _
      · rfl
    rw [← hlen]
    refine selF_last rs (i + 1) _ j r (by simpa using hj) hd hv (by rwa [show i + 1 + j = i + (j + 1) from by omega]) fun m p hm hp hpd => ?_
    have := h (m + 1) p (by omega) (by simpa using hp) hpd
    rwa [show i + 1 + m = i + (m + 1) from by omega]
theorem selH_none : ∀ (rs : List Rc) (i : Nat) (g : Nat → Option (List AV)), selH (fun _ => false) i rs g = g
  | [], i, g => rfl
  | r :: rs, i, g => by simp only [selH]; exact selH_none rs _ g
theorem selH_last {L : Nat → Bool} {x : Nat} {cs : List AV} : ∀ (rs : List Rc) (i : Nat) (g : Nat → Option (List AV)) (j : Nat) (r : Rc), rs[j]? = some r → r.wr = some (x, cs) → L (i + j) = true →
    (∀ (m : Nat) q ds, j < m → rs[m]? = some q → q.wr = some (x, ds) → L (i + m) = false) → selH L i rs g x = some cs
  | [], i, g, j, r, hj, _, _, _ => by simp at hj
  | q :: rs, i, g, 0, r, hj, hd, hL, h => by
    simp only [List.getElem?_cons_zero, Option.some.injEq] at hj
    subst hj
    simp only [selH, Nat.add_zero] at hL ⊢
    rw [if_pos hL]
    have : selH L (i + 1) rs (upd g q.wr) x = selH (fun _ => false) (i + 1) rs (upd g q.wr) x := by
      refine selH_congr rs (i + 1) _ _ rfl fun m p cs hm hp => ?_
      have := h (m + 1) p cs (by omega) (by simpa using hm) hp
      rwa [show i + 1 + m = i + (m + 1) from by omega]
    rw [this, selH_none, hd]
    simp [upd]
  | q :: rs, i, g, j + 1, r, hj, hd, hL, h => by
    simp only [selH]
    refine selH_last rs (i + 1) _ j r (by simpa using hj) hd (by rwa [show i + 1 + j = i + (j + 1) from by omega]) fun m p cs hm hp hpd => ?_
    have := h (m + 1) p cs (by omega) (by simpa using hp) hpd
    rwa [show i + 1 + m = i + (m + 1) from by omega]
def addL (L : Nat → Bool) (j : Nat) : Nat → Bool := fun i => L i || i == j
/-- one more -/
theorem selF_add {L : Nat → Bool} {j : Nat} {r : Rc} {rs : List Rc} {F : List AV} (hj : rs[j]? = some r)
    (h : ∀ (m : Nat) q t, j < m → rs[m]? = some q → q.dst = some t → r.dst = some t → L m = false) : selF (addL L j) 0 rs F = putT (selF L 0 rs F) r.dst r.val := by
  refine List.ext_getElem? fun t => ?_
  rw [putT_get, selF_length]
  by_cases hd : r.dst = some t
  · rw [selF_last rs 0 F j r hj hd rfl (by simp [addL]) fun m q hm hq hqd => ?_]
    · simp only [hd, true_and]
      split
      · rfl
      · rename_i hlt
        rw [List.getElem?_eq_none]
        rw [selF_length]
        omega
    · simp only [addL, Nat.zero_add, Bool.or_eq_false_iff]
      exact ⟨h m q t hm hq hqd hd, by simp; omega⟩
  · rw [if_neg (fun hh => hd hh.1)]
    refine selF_congr rs 0 _ _ rfl rfl fun m q hm hq => ?_
    simp only [addL, Nat.zero_add]
    by_cases hmj : m = j
    · subst hmj
      rw [hj] at hm
      injection hm with hm
      subst hm
      exact absurd hq hd
    · simp [hmj]
theorem selH_add {L : Nat → Bool} {j : Nat} {r : Rc} {rs : List Rc} {g : Nat → Option (List AV)} (hj : rs[j]? = some r)
    (h : ∀ (m : Nat) q x cs ds, j < m → rs[m]? = some q → q.wr = some (x, cs) → r.wr = some (x, ds) → L m = false) (x : Nat) : selH (addL L j) 0 rs g x = upd (selH L 0 rs g) r.wr x := by
  by_cases hd : ∃ cs, r.wr = some (x, cs)
  · obtain ⟨cs, hcs⟩ := hd
    rw [selH_last rs 0 g j r hj hcs (by simp [addL]) fun m q ds hm hq hqd => ?_]
    · simp [hcs, upd]
    · simp only [addL, Nat.zero_add, Bool.or_eq_false_iff]
      exact ⟨h m q x ds cs hm hq hqd hcs, by simp; omega⟩
  · have : upd (selH L 0 rs g) r.wr x = selH L 0 rs g x := by
      cases hw : r.wr with
      | none => rfl
      | some p =>
        obtain ⟨k, cs⟩ := p
        simp only [upd]
        rw [if_neg]
        intro hk
        subst hk
        exact hd ⟨cs, hw⟩
    rw [this]
    refine selH_congr rs 0 _ _ rfl fun m q cs hm hq => ?_
    simp only [addL, Nat.zero_add]
    by_cases hmj : m = j
    · subst hmj
      rw [hj] at hm
      injection hm with hm
      subst hm
      exact absurd ⟨cs, hq⟩ hd
    · simp [hmj]

/-! ### masks -/
theorem maskF_get (ns : List Nat) : ∀ (F : List AV) (i t : Nat), (maskF ns F i)[t]? = (F[t]?).map fun a => if ns.contains (i + t) then a else .bad
  | [], i, t => by simp [maskF]
  | a :: F, i, 0 => by simp [maskF]
  | a :: F, i, t + 1 => by
    simp only [maskF, List.getElem?_cons_succ]
    rw [maskF_get ns F (i + 1) t, show i + 1 + t = i + (t + 1) from by omega]
theorem mask_lget {ns : List Nat} {F : List AV} {t : Nat} (h : lget (maskF ns F 0) t ≠ .bad) : lget (maskF ns F 0) t = lget F t := by
  unfold lget at *
  rw [List.getD_eq_getElem?_getD, maskF_get] at *
  rw [List.getD_eq_getElem?_getD]
  cases hx : F[t]? with
  | none => rfl
  | some a =>
    rw [hx] at h
    simp only [Option.map_some, Option.getD_some, Nat.zero_add] at h ⊢
    split
    · rfl
    · rename_i hc
      rw [if_neg hc] at h
      exact absurd rfl h
theorem maskF_congr {ns : List Nat} {F F' : List AV} (h : ∀ t, ns.contains t = true → F[t]? = F'[t]?) (hl : F.length = F'.length) : maskF ns F 0 = maskF ns F' 0 := by
  refine List.ext_getElem? fun t => ?_
  rw [maskF_get, maskF_get, Nat.zero_add]
  by_cases hc : ns.contains t = true
  · rw [h t hc]
  · simp only [hc, Bool.false_eq_true, if_false]
    rcases Nat.lt_or_ge t F.length with hlt | hge
    · rw [List.getElem?_eq_getElem hlt, List.getElem?_eq_getElem (by omega)]; rfl
    · rw [List.getElem?_eq_none hge, List.getElem?_eq_none (by omega)]
theorem maskH_congr {H H' : Heap} : ∀ {l : List Nat}, (∀ x ∈ l, hget H x = hget H' x) → maskH H l = maskH H' l
  | [], _ => rfl
  | x :: l, h => by
    simp only [maskH]
    rw [h x (by simp), maskH_congr fun y hy => h y (by simp [hy])]

/-! ### what an operation does, decisions settled -/
def skipR (ops : Array Oper) (o : Oper) : Rc := ⟨o.dst, und, none, [], names ops o⟩
def DVo (E : Ctx) (id : Nat) (o : Oper) (ns : List Nat) (rd : List Nat) (r : Rc) : Out → Prop
  | .v C a => AllP' C ∧ r = ⟨o.dst, a, none, rd, ns⟩
  | .u C h' => AllP' C ∧ ∃ x cs, rd = [x] ∧ hget h' x = some cs ∧ r = ⟨o.dst, und, some (x, cs), [x], ns⟩
  | .new cs mk => r = ⟨o.dst, mk id, some (id, cs), rd, ns⟩
  | .call f args => E.fns f = true ∧ closedAll args = true ∧ ∃ q, E.env f args = some q ∧ q.pre ∧ r = ⟨o.dst, q.res, none, rd, ns⟩
  | .no => False
def DV (E : Ctx) (id : Nat) (o : Oper) (ns : List Nat) (fm : List AV) (H : Heap) (r : Rc) : Prop :=
  (∃ x y z b, o.op = .pick x y z ∧ asB (ev E fm x) = some b ∧ r = ⟨o.dst, ev E fm (if b then y else z), none, [], ns⟩) ∨
  ((∀ x y z, o.op ≠ .pick x y z) ∧ DVo E id o ns (rdOf (ev E fm) o.op) r (aop E (maskH H (rdOf (ev E fm) o.op)) (ev E fm) o.op))
def DOK (E : Ctx) (ops : Array Oper) (id : Nat) (o : Oper) (F : List AV) (H : Heap) (r : Rc) : Prop :=
  match o.guard with
  | none => DV E id o (names ops o) (maskF (names ops o) F 0) H r
  | some (j, want) => ∃ t, (ops[j]?).bind (·.dst) = some t ∧
    ((∃ b, lget (maskF (names ops o) F 0) t = .val (.bool b) ∧ ((b = want ∧ DV E id o (names ops o) (maskF (names ops o) F 0) H r) ∨ (b ≠ want ∧ r = skipR ops o))) ∨
      (∃ vs, lget (maskF (names ops o) F 0) t = .val (.tuple vs) ∧ r = skipR ops o))
theorem DV.congr {E : Ctx} {id : Nat} {o : Oper} {ns : List Nat} {fm : List AV} {H H' : Heap} {r : Rc} (h : DV E id o ns fm H r) (hh : ∀ x ∈ r.rd, hget H x = hget H' x) : DV E id o ns fm H' r := by
  rcases h with h | ⟨h1, h2⟩
  · exact .inl h
  · refine .inr ⟨h1, ?_⟩
    have hrd : r.rd = rdOf (ev E fm) o.op := by
      revert h2
      generalize aop E (maskH H (rdOf (ev E fm) o.op)) (ev E fm) o.op = out
      intro h2
      cases out with
      | v C a => obtain ⟨_, rfl⟩ := h2; rfl
      | u C h' => obtain ⟨_, x, cs, e, _, rfl⟩ := h2; exact e.symm
      | new cs mk => obtain rfl := h2; rfl
      | call f args => obtain ⟨_, _, q, _, _, rfl⟩ := h2; rfl
      | no => exact h2.elim
    rw [hrd] at hh
    rw [← maskH_congr hh]
    exact h2
theorem DOK.congr {E : Ctx} {ops : Array Oper} {id : Nat} {o : Oper} {F F' : List AV} {H H' : Heap} {r : Rc} (h : DOK E ops id o F H r) (hn : r.nm = names ops o) (hF : ∀ t, r.nm.contains t = true → F[t]? = F'[t]?) (hl : F.length = F'.length)
    (hh : ∀ x ∈ r.rd, hget H x = hget H' x) : DOK E ops id o F' H' r := by
  have hm : maskF (names ops o) F' 0 = maskF (names ops o) F 0 := (maskF_congr (by rw [← hn]; exact hF) hl).symm
  unfold DOK at *
  rw [hm]
  split
  · rename_i hg
    rw [hg] at h
    exact DV.congr h hh
  · rename_i j want hg
    rw [hg] at h
    obtain ⟨t, ht, h⟩ := h
    refine ⟨t, ht, ?_⟩
    rcases h with ⟨b, hb, h⟩ | h
    · refine .inl ⟨b, hb, ?_⟩
      rcases h with ⟨h1, h2⟩ | h
      · exact .inl ⟨h1, DV.congr h2 hh⟩
      · exact .inr h
    · exact .inr h
theorem DV.nm {E : Ctx} {id : Nat} {o : Oper} {ns : List Nat} {fm : List AV} {H : Heap} {r : Rc} (h : DV E id o ns fm H r) : r.nm = ns ∧ r.dst = o.dst := by
  rcases h with ⟨x, y, z, b, _, _, rfl⟩ | ⟨_, h⟩
  · exact ⟨rfl, rfl⟩
  · revert h
    generalize aop E (maskH H (rdOf (ev E fm) o.op)) (ev E fm) o.op = out
    intro h
    cases out with
    | v C a => obtain ⟨_, rfl⟩ := h; exact ⟨rfl, rfl⟩
    | u C h' => obtain ⟨_, x, cs, e, _, rfl⟩ := h; exact ⟨rfl, rfl⟩
    | new cs mk => obtain rfl := h; exact ⟨rfl, rfl⟩
    | call f args => obtain ⟨_, _, q, _, _, rfl⟩ := h; exact ⟨rfl, rfl⟩
    | no => exact h.elim
theorem DOK.nm {E : Ctx} {ops : Array Oper} {id : Nat} {o : Oper} {F : List AV} {H : Heap} {r : Rc} (h : DOK E ops id o F H r) : r.nm = names ops o ∧ r.dst = o.dst := by
  unfold DOK at h
  split at h
  · exact h.nm
  · obtain ⟨t, _, ⟨b, _, ⟨_, h⟩ | ⟨_, rfl⟩⟩ | ⟨vs, _, rfl⟩⟩ := h
    · exact h.nm
    · exact ⟨rfl, rfl⟩
    · exact ⟨rfl, rfl⟩

/-! ### the canonical run -/
def DecOK (dec : List (Nat × Bool)) (F : List AV) : Prop := ∀ t d, dlook dec t = some d → lget F t = .val (.bool d)
theorem decide1_draw {dec dec' : List (Nat × Bool)} {F : List AV} {ns : List Nat} {key : Option Nat} {b d : Bool} {ds ds' : List Bool} {C : List Prop} (hdec : DecOK dec F)
    (hkey : ∀ t, key = some t → lget (maskF ns F 0) t = .val (.bool b)) (he : decide1 dec key b ds = some (d, C, dec', ds')) (hC : AllP' C) : b = d ∧ DecOK dec' F := by
  have hk : ∀ t, key = some t → lget F t = .val (.bool b) := fun t ht => by
    have := hkey t ht
    rw [← mask_lget (ns := ns) (by rw [this]; simp)]
    exact this
  unfold decide1 at he
  split at he
  · rename_i d' hd
    simp only [Option.some.injEq, Prod.mk.injEq] at he
    obtain ⟨rfl, rfl, rfl, rfl⟩ := he
    refine ⟨?_, hdec⟩
    cases key with
    | none => simp at hd
    | some t =>
      simp only [Option.bind_some] at hd
      have h1 := hdec t d' hd
      rw [hk t rfl] at h1
      injection h1 with h1
      injection h1
  · split at he
    · rename_i d' ds''
      simp only [Option.some.injEq, Prod.mk.injEq] at he
      obtain ⟨rfl, rfl, rfl, rfl⟩ := he
      simp only [AllP', and_true] at hC
      refine ⟨hC, ?_⟩
      cases key with
      | none => exact hdec
      | some t =>
        intro u e hu
        simp only [dlook] at hu
        split at hu
        · rename_i hut
          injection hu with hu
          subst hut
          subst hu
          rw [hk _ rfl, hC]
        · exact hdec u e hu
    · cases he
theorem dlook_dropD' {l : List (Nat × Bool)} {t u : Nat} {d : Bool} (h : dlook (dropD l t) u = some d) : u ≠ t ∧ dlook l u = some d := by
  induction l with
  | nil => simp [dropD, dlook] at h
  | cons x l ih =>
    obtain ⟨k, b⟩ := x
    simp only [dropD] at h
    split at h
    · rename_i hk
      obtain ⟨h1, h2⟩ := ih h
      refine ⟨h1, ?_⟩
      simp only [dlook]
      rw [if_neg (by omega)]
      exact h2
    · rename_i hk
      simp only [dlook] at h ⊢
      split at h
      · rename_i hu
        subst hu
        exact ⟨fun h => hk h, by simpa using h⟩
      · rename_i hu
        obtain ⟨h1, h2⟩ := ih h
        exact ⟨h1, by rw [if_neg hu]; exact h2⟩
theorem DecOK.put {dec : List (Nat × Bool)} {F : List AV} (h : DecOK dec F) (d : Option Tmp) (v : AV) : DecOK (dropO dec d) (putT F d v) := by
  cases d with
  | none => exact h
  | some d =>
    intro t b hb
    obtain ⟨h1, h2⟩ := dlook_dropD' hb
    have := h t b h2
    unfold lget at *
    rw [List.getD_eq_getElem?_getD] at *
    rw [putT_get, if_neg (by simp; intro hh; exact absurd hh.symm h1)]
    exact this
theorem dval_ok {E : Ctx} {id : Nat} {o : Oper} {ns : List Nat} {F : List AV} {h : Heap} {dec dec' : List (Nat × Bool)} {ds ds' : List Bool} {C : List Prop} {r : Rc} (hdec : DecOK dec F)
    (he : dval E id o ns (maskF ns F 0) h dec ds = some (C, r, dec', ds')) (hC : AllP' C) : DV E id o ns (maskF ns F 0) h r ∧ DecOK dec' F := by
  unfold dval at he
  split at he
  · rename_i x y z hop
    split at he
    · rename_i b hb
      split at he
      · rename_i d C' dec'' ds'' hd
        simp only [Option.some.injEq, Prod.mk.injEq] at he
        obtain ⟨rfl, rfl, rfl, rfl⟩ := he
        obtain ⟨rfl, hdec'⟩ := decide1_draw hdec (fun t ht => by
          cases x with
          | tmp u =>
            simp only [opTmp, Option.some.injEq] at ht
            subst ht
            simp only [ev] at hb
            unfold asB at hb
            split at hb
            · rename_i heq
              injection hb with hb
              subst hb
              exact heq
            · cases hb
          | _ => simp [opTmp] at ht) hd hC
        exact ⟨.inl ⟨x, y, z, b, hop, hb, rfl⟩, hdec'⟩
      · cases he
    · cases he
  · rename_i hnp
    have key : DVo E id o ns (rdOf (ev E (maskF ns F 0)) o.op) r (aop E (maskH h (rdOf (ev E (maskF ns F 0)) o.op)) (ev E (maskF ns F 0)) o.op) ∧ dec' = dec := by
      revert he
      generalize aop E (maskH h (rdOf (ev E (maskF ns F 0)) o.op)) (ev E (maskF ns F 0)) o.op = out
      generalize rdOf (ev E (maskF ns F 0)) o.op = rd
      intro he
      cases out with
      | v C' a =>
        simp only [Option.some.injEq, Prod.mk.injEq] at he
        obtain ⟨rfl, rfl, rfl, rfl⟩ := he
        exact ⟨⟨hC, rfl⟩, rfl⟩
      | u C' h' =>
        simp only at he
        split at he
        · rename_i x
          split at he
          · rename_i cs hcs
            simp only [Option.some.injEq, Prod.mk.injEq] at he
            obtain ⟨rfl, rfl, rfl, rfl⟩ := he
            exact ⟨⟨hC, x, cs, rfl, hcs, rfl⟩, rfl⟩
          · cases he
        · cases he
      | new cs mk =>
        simp only [Option.some.injEq, Prod.mk.injEq] at he
        obtain ⟨rfl, rfl, rfl, rfl⟩ := he
        exact ⟨rfl, rfl⟩
      | call f args =>
        simp only at he
        split at he
        · rename_i hf
          split at he
          · rename_i q hq
            simp only [Option.some.injEq, Prod.mk.injEq] at he
            obtain ⟨rfl, rfl, rfl, rfl⟩ := he
            split at hq
            · rename_i hcl
              exact ⟨⟨hf, hcl, q, hq, by simpa [AllP'] using hC, rfl⟩, rfl⟩
            · cases hq
          · cases he
        · cases he
      | no => cases he
    exact ⟨.inr ⟨fun x y z hh => hnp x y z hh, key.1⟩, key.2 ▸ hdec⟩
theorem dop_ok {E : Ctx} {ops : Array Oper} {id : Nat} {o : Oper} {F : List AV} {h : Heap} {dec dec' : List (Nat × Bool)} {ds ds' : List Bool} {C : List Prop} {r : Rc} (hdec : DecOK dec F)
    (he : dop E ops id o F h dec ds = some (C, r, dec', ds')) (hC : AllP' C) : DOK E ops id o F h r ∧ DecOK dec' F := by
  unfold dop at he
  unfold DOK
  split at he
  · rename_i hg
    rw [hg]
    exact dval_ok hdec he hC
  · rename_i j want hg
    rw [hg]
    split at he
    · cases he
    · rename_i t ht
      split at he
      · rename_i b hb
        split at he
        · rename_i d C1 dec1 ds1 hd
          split at he
          · rename_i hdw
            split at he
            · rename_i C2 r2 dec2 ds2 hv
              simp only [Option.some.injEq, Prod.mk.injEq] at he
              obtain ⟨rfl, rfl, rfl, rfl⟩ := he
              rw [AllP'.append] at hC
              obtain ⟨rfl, hdec'⟩ := decide1_draw hdec (fun u hu => by injection hu with hu; subst hu; exact hb) hd hC.1
              obtain ⟨h1, h2⟩ := dval_ok hdec' hv hC.2
              exact ⟨⟨t, ht, .inl ⟨b, hb, .inl ⟨hdw, h1⟩⟩⟩, h2⟩
            · cases he
          · rename_i hdw
            simp only [Option.some.injEq, Prod.mk.injEq] at he
            obtain ⟨rfl, rfl, rfl, rfl⟩ := he
            obtain ⟨rfl, hdec'⟩ := decide1_draw hdec (fun u hu => by injection hu with hu; subst hu; exact hb) hd hC
            exact ⟨⟨t, ht, .inl ⟨b, hb, .inr ⟨hdw, rfl⟩⟩⟩, hdec'⟩
        · cases he
      · rename_i vs hb
        simp only [Option.some.injEq, Prod.mk.injEq] at he
        obtain ⟨rfl, rfl, rfl, rfl⟩ := he
        exact ⟨⟨t, ht, .inr ⟨vs, hb, rfl⟩⟩, hdec⟩
      · cases he
def foldF (rs : List Rc) (F : List AV) : List AV := rs.foldl (fun F r => putT F r.dst r.val) F
def foldH (rs : List Rc) (h : Heap) : Heap := rs.foldl (fun h r => hput h r.wr) h
theorem drun_ok {E : Ctx} {ops : Array Oper} {base : Nat} : ∀ (os : List Oper) (i : Nat) (F : List AV) (h : Heap) (dec : List (Nat × Bool)) (ds : List Bool) {C : List Prop} {rs : List Rc} {F' : List AV} {h' : Heap} {ds' : List Bool}, DecOK dec F →
    drun E ops base i os F h dec ds = some (C, rs, F', h', ds') → AllP' C → rs.length = os.length ∧ F' = foldF rs F ∧ h' = foldH rs h ∧
    ∀ (k : Nat) o, os[k]? = some o → ∃ r, rs[k]? = some r ∧ DOK E ops (base + (i + k)) o (foldF (rs.take k) F) (foldH (rs.take k) h) r
  | [], i, F, h, dec, ds, C, rs, F', h', ds', hdec, he, hC => by
    simp only [drun, Option.some.injEq, Prod.mk.injEq] at he
    obtain ⟨rfl, rfl, rfl, rfl, rfl⟩ := he
    exact ⟨rfl, rfl, rfl, fun k o ho => by simp at ho⟩
  | o :: os, i, F, h, dec, ds, C, rs, F', h', ds', hdec, he, hC => by
    simp only [drun] at he
    split at he
    · rename_i C1 r dec1 ds1 h1
      split at he
      · rename_i C2 rs2 F2 h2 ds2 hr
        simp only [Option.some.injEq, Prod.mk.injEq] at he
        obtain ⟨rfl, rfl, rfl, rfl, rfl⟩ := he
        rw [AllP'.append] at hC
        obtain ⟨k1, k2⟩ := dop_ok hdec h1 hC.1
        obtain ⟨l1, l2, l3, l4⟩ := drun_ok os (i + 1) _ _ _ _ (k2.put r.dst r.val) hr hC.2
        refine ⟨by simp [l1], l2, l3, fun k q hq => ?_⟩
        cases k with
        | zero =>
          simp only [List.getElem?_cons_zero, Option.some.injEq] at hq
          subst hq
          exact ⟨r, rfl, k1⟩
        | succ k =>
          obtain ⟨p, p1, p2⟩ := l4 k q (by simpa using hq)
          refine ⟨p, by simpa using p1, ?_⟩
          rw [show i + (k + 1) = i + 1 + k from by omega]
          exact p2
      · cases he
    · cases he
theorem foldF_sel (rs : List Rc) : ∀ (k i : Nat) (F : List AV), foldF (rs.take k) F = selF (fun m => decide (m < i + k)) i rs F := by
  have none : ∀ (rs : List Rc) (L : Nat → Bool) (i : Nat) (F : List AV), (∀ m, i ≤ m → L m = false) → selF L i rs F = F := by
    intro rs
    induction rs with
    | nil => intro L i F _; rfl
    | cons r rs ih =>
      intro L i F h
      simp only [selF, h i (Nat.le_refl _), Bool.false_eq_true, if_false]
      exact ih _ _ _ fun m hm => h m (by omega)
  induction rs with
  | nil => intro k i F; simp [foldF, selF]
  | cons r rs ih =>
    intro k i F
    cases k with
    | zero =>
      rw [none _ _ _ _ (fun m hm => by simp; omega)]
      rfl
    | succ k =>
      simp only [List.take_succ_cons, selF, show i < i + (k + 1) from by omega, decide_true, if_true]
      have := ih k (i + 1) (putT F r.dst r.val)
      rw [show i + 1 + k = i + (k + 1) from by omega] at this
      exact this
theorem foldH_sel (rs : List Rc) : ∀ (k i : Nat) (h : Heap) (x : Nat), hget (foldH (rs.take k) h) x = selH (fun m => decide (m < i + k)) i rs (hget h) x := by
  have none : ∀ (rs : List Rc) (L : Nat → Bool) (i : Nat) (g : Nat → Option (List AV)), (∀ m, i ≤ m → L m = false) → selH L i rs g = g := by
    intro rs
    induction rs with
    | nil => intro L i F _; rfl
    | cons r rs ih =>
      intro L i F h
      simp only [selH, h i (Nat.le_refl _), Bool.false_eq_true, if_false]
      exact ih _ _ _ fun m hm => h m (by omega)
  induction rs with
  | nil => intro k i h x; simp [foldH, selH]
  | cons r rs ih =>
    intro k i h x
    cases k with
    | zero =>
      rw [none _ _ _ _ (fun m hm => by simp; omega)]
      rfl
    | succ k =>
      simp only [List.take_succ_cons, selH, show i < i + (k + 1) from by omega, decide_true, if_true]
      have := ih k (i + 1) (hput h r.wr) x
      rw [show i + 1 + k = i + (k + 1) from by omega] at this
      have e : hget (hput h r.wr) = upd (hget h) r.wr := funext fun y => hget_hput h r.wr y
      rw [e] at this
      exact this

/-! ### ancestors -/
theorem addN_mem {l : List Nat} {x y : Nat} (h : y ∈ addN l x) : y = x ∨ y ∈ l := by
  unfold addN at h
  split at h
  · exact .inr h
  · simpa using h
theorem addAll_mem {y : Nat} : ∀ {m l : List Nat}, y ∈ addAll l m → y ∈ l ∨ y ∈ m
  | [], l, h => .inl h
  | x :: m, l, h => by
    rcases addAll_mem (m := m) h with h | h
    · rcases addN_mem h with rfl | h
      · exact .inr (by simp)
      · exact .inl h
    · exact .inr (by simp [h])
theorem ancOf_ok {acc : List (List Nat)} {j : Nat} : ∀ {es : List Go.Edge} {l : List Nat}, ancOf acc j es = some l → (∀ e ∈ es, Region.binds .any e = true → e.on < j) ∧ ∀ i ∈ l, ∃ e ∈ es, Region.binds .any e = true ∧ (i = e.on ∨ i ∈ acc.getD e.on [])
  | [], l, h => by
    simp only [ancOf, Option.some.injEq] at h
    subst h
    exact ⟨fun e he => by simp at he, fun i hi => by simp at hi⟩
  | e :: es, l, h => by
    simp only [ancOf] at h
    split at h
    · rename_i hb
      split at h
      · rename_i hlt
        split at h
        · rename_i l' hl'
          injection h with h
          subst h
          obtain ⟨h1, h2⟩ := ancOf_ok hl'
          refine ⟨fun e' he' hb' => ?_, fun i hi => ?_⟩
          · simp only [List.mem_cons] at he'
            rcases he' with rfl | he'
            · exact hlt
            · exact h1 e' he' hb'
          · rcases addAll_mem hi with hi | hi
            · rcases addN_mem hi with rfl | hi
              · exact ⟨e, by simp, hb, .inl rfl⟩
              · obtain ⟨e', he', r⟩ := h2 i hi
                exact ⟨e', by simp [he'], r⟩
            · exact ⟨e, by simp, hb, .inr hi⟩
        · cases h
      · cases h
    · rename_i hb
      obtain ⟨h1, h2⟩ := ancOf_ok h
      refine ⟨fun e' he' hb' => ?_, fun i hi => ?_⟩
      · simp only [List.mem_cons] at he'
        rcases he' with rfl | he'
        · exact absurd hb' hb
        · exact h1 e' he' hb'
      · obtain ⟨e', he', r⟩ := h2 i hi
        exact ⟨e', by simp [he'], r⟩
theorem ancs_ok : ∀ {os : List Oper} {acc A : List (List Nat)}, ancs acc os = some A → (∀ k, k < acc.length → A[k]? = acc[k]?) ∧
    ∀ (k : Nat) o, os[k]? = some o → (∀ e ∈ o.after.toList, Region.binds .any e = true → e.on < acc.length + k) ∧ ∀ i ∈ A.getD (acc.length + k) [], ∃ e ∈ o.after.toList, Region.binds .any e = true ∧ (i = e.on ∨ i ∈ A.getD e.on [])
  | [], acc, A, h => by
    simp only [ancs, Option.some.injEq] at h
    subst h
    exact ⟨fun k hk => rfl, fun k o ho => by simp at ho⟩
  | o :: os, acc, A, h => by
    simp only [ancs] at h
    split at h
    · rename_i l hl
      obtain ⟨h1, h2⟩ := ancs_ok h
      simp only [List.length_append, List.length_cons, List.length_nil, Nat.zero_add] at h1 h2
      have hA : ∀ k, k < acc.length → A[k]? = acc[k]? := fun k hk => by rw [h1 k (by omega), List.getElem?_append_left hk]
      refine ⟨hA, fun k q hq => ?_⟩
      cases k with
      | zero =>
        simp only [List.getElem?_cons_zero, Option.some.injEq] at hq
        subst hq
        obtain ⟨k1, k2⟩ := ancOf_ok hl
        refine ⟨k1, fun i hi => ?_⟩
        have hAj : A.getD acc.length [] = l := by
          rw [List.getD_eq_getElem?_getD, h1 _ (by omega)]
          simp
        rw [Nat.add_zero, hAj] at hi
        obtain ⟨e, he, hb, hr⟩ := k2 i hi
        refine ⟨e, he, hb, hr.imp id fun hr => ?_⟩
        rw [List.getD_eq_getElem?_getD, hA _ (k1 e he hb), ← List.getD_eq_getElem?_getD]
        exact hr
      | succ k =>
        have := h2 k q (by simpa using hq)
        rw [show acc.length + 1 + k = acc.length + (k + 1) from by omega] at this
        exact this
    · cases h

/-! ### conflicts -/
theorem okAgainst_ok {anc : List Nat} {r : Rc} : ∀ {qs : List Rc} {i : Nat}, okAgainst anc r i qs = true → ∀ (m : Nat) q, qs[m]? = some q → conf q r = true → i + m ∈ anc
  | [], i, h, m, q, hm, hc => by simp at hm
  | p :: qs, i, h, m, q, hm, hc => by
    simp only [okAgainst, Bool.and_eq_true, Bool.or_eq_true, Bool.not_eq_true'] at h
    cases m with
    | zero =>
      simp only [List.getElem?_cons_zero, Option.some.injEq] at hm
      subst hm
      rcases h.1 with h1 | h1
      · rw [h1] at hc; cases hc
      · simpa using h1
    | succ m =>
      have := okAgainst_ok h.2 m q (by simpa using hm) hc
      rwa [show i + 1 + m = i + (m + 1) from by omega] at this
theorem okAll_ok {A : List (List Nat)} : ∀ {rs done : List Rc}, okAll A done.length done rs = true → ∀ (i k : Nat) q r, (done ++ rs)[i]? = some q → (done ++ rs)[k]? = some r → i < k → done.length ≤ k → conf q r = true → i ∈ A.getD k []
  | [], done, h, i, k, q, r, hi, hk, hik, hd, hc => by
    have := (List.getElem?_eq_some_iff.1 hk).1
    simp at this
    omega
  | p :: rs, done, h, i, k, q, r, hi, hk, hik, hd, hc => by
    simp only [okAll, Bool.and_eq_true] at h
    by_cases hkd : k = done.length
    · subst hkd
      rw [List.getElem?_append_right (Nat.le_refl _)] at hk
      simp only [Nat.sub_self, List.getElem?_cons_zero, Option.some.injEq] at hk
      subst hk
      rw [List.getElem?_append_left hik] at hi
      have := okAgainst_ok h.1 i q hi hc
      simpa using this
    · have h2 := h.2
      have := okAll_ok (done := done ++ [p]) (rs := rs) (by simpa using h2) i k q r (by simpa using hi) (by simpa using hk) hik (by simp; omega) hc
      exact this
theorem meets_of {l m : List Nat} {x : Nat} (h1 : x ∈ l) (h2 : m.contains x = true) : meets l m = true := by
  unfold meets
  rw [List.any_eq_true]
  exact ⟨x, h1, h2⟩
end Go.AE

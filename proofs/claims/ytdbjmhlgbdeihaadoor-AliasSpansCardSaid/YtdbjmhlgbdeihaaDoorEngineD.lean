/- A part of the proofs over this program: an abstract machine that the kernel evaluates, and its soundness. No conditions. -/
import Derived.Test.YtdbjmhlgbdeihaaDoorEngineC
namespace Go.BE
/-- what is to do at the loops' heads -/
def loopsC : Code → List Item → List (List Item)
  | .seq a b, k => loopsC a (.code b :: k) ++ loopsC b k
  | .cond _ a b, k => loopsC a k ++ loopsC b k
  | .block id a, k => loopsC a (.inBlock id :: k)
  | .loop a, k => (.code a :: .inLoop a :: k) :: loopsC a (.inLoop a :: k)
  | .scope a, k => loopsC a (.inScope a :: k)
  | _, _ => []
def headOf (ix : Nat) : List (List Item) → List Item
  | [] => []
  | t :: l => if loopIx t = ix then t else headOf ix l
def avlook : List (Nat × AV) → Nat → AV
  | [], _ => .bad
  | (k, a) :: l, t => if k = t then a else avlook l t
def mkFr (l : List (Nat × AV)) : Nat → Nat → List AV
  | 0, _ => []
  | n + 1, i => avlook l i :: mkFr l n (i + 1)
/-- a state at the head of loop ix of function f -/
def hcfg (E : Ctx) (f : FuncId) (ix : Nat) (fr : List (Nat × AV)) (h : Heap) (nx : Nat) : Cfg :=
  match E.P.funcs[f]? with
  | some fn => { cur := { fn := f, todo := headOf ix ((fn.body.map fun c => loopsC c []).getD []), fr := mkFr fr fn.ntmps 0 }, callers := [], h := h, nx := nx }
  | none => { cur := ⟨f, [], []⟩, callers := [], h := h, nx := nx }
def sigEq : List (Nat × Nat) → List (Nat × Nat) → Bool
  | [], [] => true
  | (a, b) :: l, (c, d) :: m => Nat.beq a c && Nat.beq b d && sigEq l m
  | _, _ => false
abbrev CutL := List (List (Nat × Nat) × Nat × Nat × List Nat × List (Wh × Fx) × List (List Nat))
def cutOf : CutL → List (Nat × Nat) → FuncId → Nat → List Nat × List (Wh × Fx) × List (List Nat)
  | [], _, _, _ => ([], [], [])
  | (s', f', ix', x) :: l, s, f, ix => match Nat.beq f' f && Nat.beq ix' ix && sigEq s' s with
    | true => x
    | false => cutOf l s f ix
/-- where calls come back to -/
def retsO (ops : Array Oper) (k : List Item) : List Nat → List (List Item)
  | [] => []
  | i :: l => match ops[i]? with
    | some { op := .call _, .. } => (.inRegion ops (i :: l) :: k) :: retsO ops k l
    | _ => retsO ops k l
def retsC : Code → List Item → List (List Item)
  | .seq a b, k => retsC a (.code b :: k) ++ retsC b k
  | .cond _ a b, k => retsC a k ++ retsC b k
  | .block id a, k => retsC a (.inBlock id :: k)
  | .loop a, k => retsC a (.inLoop a :: k)
  | .scope a, k => retsC a (.inScope a :: k)
  | .region _ ops false, k => retsO ops k (List.range ops.size)
  | _, _ => []
/-- a caller: the n-th call of function f -/
def cfr (E : Ctx) (f : FuncId) (n : Nat) (fr : List (Nat × AV)) : AFr :=
  match E.P.funcs[f]? with
  | some fn => { fn := f, todo := ((fn.body.map fun c => retsC c []).getD []).getD n [], fr := mkFr fr fn.ntmps 0 }
  | none => ⟨f, [], []⟩
def hcfgx (E : Ctx) (f : FuncId) (ix : Nat) (fr : List (Nat × AV)) (h : Heap) (nx : Nat) (cs : List AFr) : Cfg := { hcfg E f ix fr h nx with callers := cs }
/-- data seen as a number, a bool, a string -/
abbrev iOf (k : IntKind) (x : Den (.int k)) : Int := x
abbrev bOf (x : Den .bool) : Bool := x
abbrev tOf (x : Den .str) : ByteArray := x
/-- what holds of a chosen branch -/
theorem wp_cond {α : Type} {Q : α → Prop} {b : Bool} {t e : Tre α} (h1 : b = true → t.wp Q) (h2 : b = false → e.wp Q) : (cond b t e).wp Q := by
  cases b with
  | true => exact h1 rfl
  | false => exact h2 rfl
theorem wp_iff {α : Type} {Q : α → Prop} {b : Bool} {t e : Tre α} : (cond b t e).wp Q ↔ (b = true → t.wp Q) ∧ (b = false → e.wp Q) := by
  cases b <;> simp
theorem chk_iff {α : Type} {Q : α → Prop} {C : Prop} {t : Tre α} : (Tre.chk C t).wp Q ↔ C ∧ (C → t.wp Q) := Iff.rfl
theorem know_iff {α : Type} {Q : α → Prop} {C : Prop} {t : Tre α} : (Tre.know C t).wp Q ↔ (C → t.wp Q) := Iff.rfl
theorem any_iff {α : Type} {Q : α → Prop} {p : Bool → Prop} {k : Bool → Tre α} : (Tre.any p k).wp Q ↔ ∀ b, p b → (k b).wp Q := Iff.rfl
theorem ret_iff {E : Ctx} {Q : AV → Heap → Prop} {v : AV} {h : Heap} : (Tre.ok (Leaf.ret v h)).wp (contL E Q) ↔ Q v h := Iff.rfl
theorem head_iff {E : Ctx} {Q : AV → Heap → Prop} {c : Cfg} : (Tre.ok (Leaf.head c)).wp (contL E Q) ↔ Runs E c Q := Iff.rfl
theorem Runs.tree {E : Ctx} {H : Hints} {f : FuncId} {n : Nat} {c : Cfg} {T : Tre Leaf} {Q : AV → Heap → Prop} (hE : EOK E) (h : run E H f n c = T) (hw : T.wp (contL E Q)) : Runs E c Q := Runs.of_run hE (h ▸ hw)
/-- a result that is data -/
def resIs {R : Sh} (y : Den R) : AV → Heap → Prop := fun v h => v = avOf R y ∧ h = []
/-- a contract whose result is data -/
theorem con_of {E : Ctx} {f : FuncId} {ps : List Par} {R : Sh} {pre : Args ps → Prop} {F : Args ps → Den R} (h : ∀ x, okArgs ps x → pre x → (enter E f (argsAV ps x)).isSome = true ∧ Runs E (start E f (argsAV ps x)) (resIs (F x))) : SpecOK E f (con ps R pre F).spec := spec_of h
def con1 (S R : Sh) (F : Den S → Den R) (pre : Den S → Prop := fun _ => True) : Con := con [.d S] R (fun x => pre x.1) fun x => F x.1
def con2 (S T R : Sh) (F : Den S → Den T → Den R) (pre : Den S → Den T → Prop := fun _ _ => True) : Con := con [.d S, .d T] R (fun x => pre x.1 x.2.1) fun x => F x.1 x.2.1
def con3 (S T U R : Sh) (F : Den S → Den T → Den U → Den R) (pre : Den S → Den T → Den U → Prop := fun _ _ _ => True) : Con := con [.d S, .d T, .d U] R (fun x => pre x.1 x.2.1 x.2.2.1) fun x => F x.1 x.2.1 x.2.2.1
theorem con_of1 {E : Ctx} {f : FuncId} {S R : Sh} {F : Den S → Den R} {pre : Den S → Prop} (h : ∀ x, okD S x → pre x → (enter E f [avOf S x]).isSome = true ∧ Runs E (start E f [avOf S x]) (resIs (F x))) : SpecOK E f (con1 S R F pre).spec := con_of fun x hx hp => h x.1 hx.1 hp
theorem con_of2 {E : Ctx} {f : FuncId} {S T R : Sh} {F : Den S → Den T → Den R} {pre : Den S → Den T → Prop} (h : ∀ x y, okD S x → okD T y → pre x y → (enter E f [avOf S x, avOf T y]).isSome = true ∧ Runs E (start E f [avOf S x, avOf T y]) (resIs (F x y))) : SpecOK E f (con2 S T R F pre).spec := con_of fun x hx hp => h x.1 x.2.1 hx.1 hx.2.1 hp
theorem con_of3 {E : Ctx} {f : FuncId} {S T U R : Sh} {F : Den S → Den T → Den U → Den R} {pre : Den S → Den T → Den U → Prop} (h : ∀ x y z, okD S x → okD T y → okD U z → pre x y z → (enter E f [avOf S x, avOf T y, avOf U z]).isSome = true ∧ Runs E (start E f [avOf S x, avOf T y, avOf U z]) (resIs (F x y z))) : SpecOK E f (con3 S T U R F pre).spec := con_of fun x hx hp => h x.1 x.2.1 x.2.2.1 hx.1 hx.2.1 hx.2.2.1 hp
end Go.BE
/-! Short names for printed trees. -/
namespace Go.BE
abbrev I : Sh := .int .i64
abbrev z (x : Den (.int .i64)) : Int := x
def ln (S : Sh) (l : List (Den S)) : Nat := l.length
def gd (S : Sh) (l : List (Den S)) (i : Nat) : Den S := l.getD i (dz S)
def ap (S : Sh) (l m : List (Den S)) : List (Den S) := l ++ m
def st (S : Sh) (l : List (Den S)) (i : Nat) (x : Den S) : List (Den S) := l.set i x
def wn (S : Sh) (l : List (Den S)) (lo n : Nat) : List (Den S) := (l.drop lo).take n
abbrev vi (n : Int) : AV := .val (.int .i64 n)
abbrev vb (b : Bool) : AV := .val (.bool b)
abbrev vs (s : ByteArray) : AV := .val (.string s)
abbrev hd (c : Cfg) : Tre Leaf := .ok (.head c)
abbrev rt (v : AV) (h : Heap) : Tre Leaf := .ok (.ret v h)
abbrev bvand (k : IntKind) (a b : Int) : Int := ((BitVec.ofInt k.bits a &&& BitVec.ofInt k.bits b).toNat : Int)
abbrev bvor (k : IntKind) (a b : Int) : Int := ((BitVec.ofInt k.bits a ||| BitVec.ofInt k.bits b).toNat : Int)
abbrev bvxor (k : IntKind) (a b : Int) : Int := ((BitVec.ofInt k.bits a ^^^ BitVec.ofInt k.bits b).toNat : Int)
abbrev bvandn (k : IntKind) (a b : Int) : Int := ((BitVec.ofInt k.bits a &&& ~~~(BitVec.ofInt k.bits b)).toNat : Int)
theorem rt_iff {E : Ctx} {Q : AV → Heap → Prop} {v : AV} {h : Heap} : (rt v h).wp (contL E Q) ↔ Q v h := Iff.rfl
theorem hd_iff {E : Ctx} {Q : AV → Heap → Prop} {c : Cfg} : (hd c).wp (contL E Q) ↔ Runs E c Q := Iff.rfl
theorem beq_t {a b : Int} (h : (a == b) = true) : a = b := by simpa using h
theorem beq_f {a b : Int} (h : (a == b) = false) : a ≠ b := by simpa using h
theorem bne_t {a b : Int} (h : (a != b) = true) : a ≠ b := by simpa using h
theorem bne_f {a b : Int} (h : (a != b) = false) : a = b := by simpa using h
theorem lt01 : ((0 : Nat) < 1) = True := by simp
theorem rng4 (i : Nat) (h : i < 4) : ((0 : Int) ≤ (i : Int) ∧ (i : Int) < ((4 : Nat) : Int)) := by omega
theorem up_ind {n : Nat} {P : Nat → Prop} (h0 : P n) (hs : ∀ i, i < n → P (i + 1) → P i) : ∀ i, i ≤ n → P i := fun i hi => by
  obtain ⟨k, rfl⟩ : ∃ k, n = i + k := ⟨n - i, by omega⟩
  clear hi
  induction k generalizing i with
  | zero => exact h0
  | succ k ih => exact hs i (by omega) (ih (i + 1) (by rwa [show i + 1 + k = i + (k + 1) by omega]) (fun j hj => hs j (by omega)))
theorem drop_range {n i : Nat} (h : i < n) : (List.range n).drop i = i :: (List.range n).drop (i + 1) := by
  rw [List.drop_eq_getElem_cons (by simpa using h), List.getElem_range]
theorem drop_range_n (n : Nat) : (List.range n).drop n = [] := by simp
theorem wrap64 (s : Int) (h1 : -9223372036854775808 ≤ s) (h2 : s ≤ 9223372036854775807) : IntKind.wrap .i64 s = s := by
  simp only [IntKind.wrap, IntKind.bits, IntKind.signed, Bool.true_and]
  split <;> rename_i h <;> simp only [ge_iff_le, decide_eq_true_eq] at h <;> omega
theorem wrapS {i n : Nat} (hi : i < n) (h : n < 9223372036854775807) : IntKind.wrap .i64 ((i : Int) + 1) = ((i + 1 : Nat) : Int) := wrap64 _ (by omega) (by omega)
theorem drop_gd {S : Sh} {l : List (Den S)} {i : Nat} (h : i < ln S l) : l.drop i = gd S l i :: l.drop (i + 1) := by
  rw [List.drop_eq_getElem_cons h]
  congr 1
  unfold gd
  rw [List.getD_eq_getElem?_getD, List.getElem?_eq_getElem h]
  rfl
theorem drop_ln {S : Sh} {l : List (Den S)} : l.drop (ln S l) = [] := List.drop_length
theorem take_ln {S : Sh} {l : List (Den S)} : l.take (ln S l) = l := List.take_length
theorem gd_ap {S : Sh} {l m : List (Den S)} {i : Nat} (h : i < ln S l) : gd S (ap S l m) i = gd S l i := by
  unfold gd ap
  have h : i < l.length := h
  rw [List.getD_eq_getElem?_getD, List.getD_eq_getElem?_getD, List.getElem?_append_left h]
theorem st_ap {S : Sh} {l m : List (Den S)} {i : Nat} {x : Den S} (h : i < ln S l) : st S (ap S l m) i x = ap S (st S l i x) m := by
  unfold st ap
  exact List.set_append_left _ _ h
theorem ln_ap {S : Sh} {l m : List (Den S)} : ln S (ap S l m) = ln S l + ln S m := List.length_append
theorem ln_one {S : Sh} {x : Den S} : ln S [x] = 1 := rfl
theorem gd_last {S : Sh} {l : List (Den S)} {x : Den S} : gd S (ap S l [x]) (ln S l) = x := by
  unfold gd ap ln
  rw [List.getD_eq_getElem?_getD, List.getElem?_append_right (Nat.le_refl _), Nat.sub_self]
  rfl
theorem wn_ap {S : Sh} {l m : List (Den S)} : wn S (ap S l m) 0 (ln S l) = l := by
  unfold wn ap ln
  rw [List.drop_zero, List.take_left']
  rfl
theorem nil_ap {S : Sh} {l : List (Den S)} : ap S [] l = l := rfl
theorem ln_nil {S : Sh} : ln S ([] : List (Den S)) = 0 := rfl
theorem ln_map {S T : Sh} {f : Den S → Den T} {l : List (Den S)} : ln T (l.map f) = ln S l := List.length_map ..
theorem st_gd {S : Sh} {l : List (Den S)} {i : Nat} : st S l i (gd S l i) = l := by
  unfold st gd
  refine List.ext_getElem? fun j => ?_
  rw [List.getElem?_set]
  split
  · rename_i h
    subst h
    split
    · rename_i h
      rw [List.getD_eq_getElem?_getD, List.getElem?_eq_getElem h]
      rfl
    · rename_i h
      rw [List.getElem?_eq_none (by omega)]
  · rfl
theorem gd_st {S : Sh} {l : List (Den S)} {i : Nat} {x : Den S} (h : i < ln S l) : gd S (st S l i x) i = x := by
  unfold st gd
  have h : i < l.length := h
  rw [List.getD_eq_getElem?_getD, List.getElem?_set]
  simp only [if_true, h]
  rfl
theorem st_st {S : Sh} {l : List (Den S)} {i : Nat} {x y : Den S} : st S (st S l i x) i y = st S l i y := List.set_set ..
theorem ln_st {S : Sh} {l : List (Den S)} {i : Nat} {x : Den S} : ln S (st S l i x) = ln S l := List.length_set ..
theorem ok_gd {b : Nat} {S : Sh} {l : List (Den S)} {i : Nat} (h : okD (.sl b S) l) (hi : i < ln S l) : okD S (gd S l i) := by
  refine h.2 _ ?_
  unfold gd
  rw [List.getD_eq_getElem?_getD, List.getElem?_eq_getElem hi]
  exact List.getElem_mem hi
theorem room_part {b n k c : Nat} (h : room b n) (hk : k ≤ n) (hc : c ≤ b) : k * c ≤ roomB := Nat.le_trans (Nat.mul_le_mul hk hc) h.1
theorem ln_ap1 {S : Sh} {l : List (Den S)} {x : Den S} : ln S (ap S l [x]) = ln S l + 1 := by
  unfold ln ap
  rw [List.length_append]
  rfl
theorem ln_take {S : Sh} {l : List (Den S)} {i : Nat} (h : i ≤ ln S l) : ln S (l.take i) = i := by
  unfold ln
  rw [List.length_take]
  exact Nat.min_eq_left h
theorem take_gd {S : Sh} {l : List (Den S)} {i : Nat} (h : i < ln S l) : l.take (i + 1) = l.take i ++ [gd S l i] := by
  rw [List.take_succ_eq_append_getElem h]
  congr 2
  unfold gd
  rw [List.getD_eq_getElem?_getD, List.getElem?_eq_getElem h]
  rfl
/-- the first i elements are turned -/
def mapTo {S T : Sh} (f : Den S → Den T) (g : Den S → Den T) (l : List (Den S)) (i : Nat) : List (Den T) := (l.take i).map f ++ (l.drop i).map g
theorem mapTo_len {S T : Sh} {f g : Den S → Den T} {l : List (Den S)} {i : Nat} : ln T (mapTo f g l i) = ln S l := by
  unfold mapTo ln
  rw [List.length_append, List.length_map, List.length_map, ← List.length_append, List.take_append_drop]
theorem mapTo_0 {S T : Sh} {f g : Den S → Den T} {l : List (Den S)} : mapTo f g l 0 = l.map g := rfl
theorem mapTo_n {S T : Sh} {f g : Den S → Den T} {l : List (Den S)} : mapTo f g l (ln S l) = l.map f := by
  unfold mapTo ln
  rw [List.take_length, List.drop_length, List.map_nil, List.append_nil]
theorem mapTo_gd {S T : Sh} {f g : Den S → Den T} {l : List (Den S)} {i : Nat} (h : i < ln S l) : gd T (mapTo f g l i) i = g (gd S l i) := by
  unfold mapTo
  rw [drop_gd h]
  unfold gd
  have hl : (List.map f (List.take i l)).length = i := by rw [List.length_map]; exact ln_take (Nat.le_of_lt h)
  rw [List.getD_eq_getElem?_getD, List.getElem?_append_right (by omega), hl, Nat.sub_self]
  rfl
theorem mapTo_st {S T : Sh} {f g : Den S → Den T} {l : List (Den S)} {i : Nat} (h : i < ln S l) : st T (mapTo f g l i) i (f (gd S l i)) = mapTo f g l (i + 1) := by
  unfold mapTo
  rw [drop_gd h, take_gd h]
  unfold st
  have hl : (List.map f (List.take i l)).length = i := by rw [List.length_map]; exact ln_take (Nat.le_of_lt h)
  rw [List.set_append_right _ _ (by omega), hl, Nat.sub_self, List.map_append, List.append_assoc]
  rfl
theorem room_lt {b n : Nat} (h : room b n) : n < 9223372036854775807 := by
  have := h.2
  unfold roomB at this
  omega
theorem ite_step {E : Ctx} {c : Cfg} {b r : Bool} (hn : Runs E c (fun x h => x = vb r ∧ h = [])) : ((!b) = true → vb false = vb (b && r)) ∧ ((!b) = false → Runs E c (fun x h => x = vb (b && r) ∧ h = [])) := by
  cases b
  · exact ⟨fun _ => rfl, fun h => absurd h (by simp)⟩
  · exact ⟨fun h => absurd h (by simp), fun _ => hn⟩
theorem ite_step' {E : Ctx} {c : Cfg} {b r : Bool} {K : Prop} (hn : Runs E c (fun x h => x = vb r ∧ h = [])) : ((!b) = true → K → vb false = vb (b && r)) ∧ ((!b) = false → K → Runs E c (fun x h => x = vb (b && r) ∧ h = [])) :=
  ⟨fun h _ => (ite_step hn).1 h, fun h _ => (ite_step hn).2 h⟩
theorem or_step {E : Ctx} {c : Cfg} {b r : Bool} (hn : Runs E c (fun x h => x = vb r ∧ h = [])) : (b = true → vb true = vb (b || r)) ∧ (b = false → Runs E c (fun x h => x = vb (b || r) ∧ h = [])) := by
  cases b
  · exact ⟨fun h => absurd h (by simp), fun _ => hn⟩
  · exact ⟨fun _ => rfl, fun h => absurd h (by simp)⟩
theorem c_true {b : Bool} {P Q : Prop} (e : b = true) (hp : P) : (b = true → P) ∧ (b = false → Q) := ⟨fun _ => hp, fun h => absurd (e.symm.trans h) (by decide)⟩
theorem c_false {b : Bool} {P Q : Prop} (e : b = false) (hq : Q) : (b = true → P) ∧ (b = false → Q) := ⟨fun h => absurd (e.symm.trans h) (by decide), fun _ => hq⟩
/-- hints where memory is made, as a table -/
def slook : List (Nat × Nat) → Nat → Nat
  | [], _ => 0
  | (k, v) :: l, t => if k = t then v else slook l t
def siteOf (tr : Tr (List (Nat × Nat))) (f t : Nat) : Nat := match tr.get f with
  | some l => slook l t
  | none => 0
/-- data that is owned, d levels deep -/
def ownR (d : Nat) : (S : Sh) → Den S → Nat → List AV × List (Nat × Root)
  | .pair a b, x, n => ((ownR d a x.1 n).1 ++ (ownR d b x.2 (n + (ownR d a x.1 n).2.length)).1, (ownR d a x.1 n).2 ++ (ownR d b x.2 (n + (ownR d a x.1 n).2.length)).2)
  | .sl b a, x, n => ([.osl n n [] none], [(n, mkRoot n (.arr (min d a.dep) b a x))])
  | S, x, _ => (cellsT S x, [])
def ownRes (d : Nat) : (S : Sh) → Den S → AV × List (Nat × Root)
  | .pair a b, x => (.agg (ownR d (.pair a b) x 0).1, (ownR d (.pair a b) x 0).2)
  | .sl b a, x => (.osl 0 0 [] none, [(0, mkRoot 0 (.arr (min d a.dep) b a x))])
  | S, x => (avOf S x, [])
def conO (d : Nat) (ps : List Par) (R : Sh) (pre : Args ps → Prop) (f : Args ps → Den R) : Con := ⟨ps, pre, fun x => (ownRes d R (f x)).1, fun x => (ownRes d R (f x)).2⟩
/-- several results -/
def conT2 (ps : List Par) (R1 R2 : Sh) (pre : Args ps → Prop) (f : Args ps → Den R1 × Den R2) : Con := ⟨ps, pre, fun x => .tup [avOf R1 (f x).1, avOf R2 (f x).2], fun _ => []⟩
def conT3 (ps : List Par) (R1 R2 R3 : Sh) (pre : Args ps → Prop) (f : Args ps → Den R1 × Den R2 × Den R3) : Con := ⟨ps, pre, fun x => .tup [avOf R1 (f x).1, avOf R2 (f x).2.1, avOf R3 (f x).2.2], fun _ => []⟩
end Go.BE

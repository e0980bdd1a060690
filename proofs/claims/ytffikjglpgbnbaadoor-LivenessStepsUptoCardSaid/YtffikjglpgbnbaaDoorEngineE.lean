/- A part of the proofs over this program: an abstract machine that the kernel evaluates, and its soundness. No conditions. -/
import Derived.Test.YtffikjglpgbnbaaDoorEngineD
namespace Go.BE
open Go.RowKit
inductive PIO where
 | c (p : Par)
 | ref (m b : Nat) (S : Sh)
 | sl (m b : Nat) (S : Sh)
def DenIO : PIO → Type
 | .c p => DenP p
 | .ref _ _ S => Den S
 | .sl _ _ S => List (Den S)
def ArgsIO : List PIO → Type
 | [] => Unit
 | p :: l => DenIO p × ArgsIO l
def ioRoot (i m b : Nat) (S : Sh) (xs : List (Den S)) : Root := { cont := .arr m b S xs, cur := i, old := [], fz := false, pend := none }
def ioAV : (l : List PIO) → Nat → ArgsIO l → List AV
 | [], _, _ => []
 | .c p :: l, i, x => parAV p x.1 :: ioAV l i x.2
 | .ref _ _ _ :: l, i, x => .tref i i [] 0 [] :: ioAV l (i + 1) x.2
 | .sl _ _ _ :: l, i, x => .osl i i [] none :: ioAV l (i + 1) x.2
def ioH : (l : List PIO) → Nat → ArgsIO l → Heap
 | [], _, _ => []
 | .c _ :: l, i, x => ioH l i x.2
 | .ref m b S :: l, i, x => (i, ioRoot i m b S [x.1]) :: ioH l (i + 1) x.2
 | .sl m b S :: l, i, x => (i, ioRoot i m b S x.1) :: ioH l (i + 1) x.2
def rootD (i m b : Nat) (S : Sh) (R : Root) : Option (List (Den S)) := match R with
 | { cont := .arr m' b' S' xs, cur := c, old := [], fz := false, pend := none } => if m' = m ∧ b' = b ∧ c = i then castD (.sl b' S') (.sl b S) xs else none
 | _ => none
def one' {α : Type} : List α → Option α
 | [x] => some x
 | _ => none
def isRef (i : Nat) : AV → Bool
 | .tref r s [] 0 [] => r == i && s == i
 | _ => false
def isSl (i : Nat) : AV → Bool
 | .osl r s [] none => r == i && s == i
 | _ => false
def ioLook : (l : List PIO) → Nat → List AV → Heap → Option (ArgsIO l)
 | [], _, [], [] => some ()
 | .c p :: l, i, a :: as, h => if a.closed then (match parD p a, ioLook l i as h with
  | some x, some y => some (x, y)
  | _, _ => none) else none
 | .ref m b S :: l, i, a :: as, x :: h => if isRef i a && x.1 == i then (match (rootD i m b S x.2).bind one', ioLook l (i + 1) as h with
  | some x, some y => some (x, y)
  | _, _ => none) else none
 | .sl m b S :: l, i, a :: as, x :: h => if isSl i a && x.1 == i then (match rootD i m b S x.2, ioLook l (i + 1) as h with
  | some x, some y => some (x, y)
  | _, _ => none) else none
 | _, _, _, _ => none
def okIO : (l : List PIO) → ArgsIO l → Prop
 | [], _ => True
 | .c p :: l, x => okP p x.1 ∧ okIO l x.2
 | .ref _ _ S :: l, x => okD S x.1 ∧ okIO l x.2
 | .sl _ b S :: l, x => (room b (List.length (α := Den S) x.1) ∧ ∀ y ∈ (show List (Den S) from x.1), okD S y) ∧ okIO l x.2
structure ConIO where
 ps : List PIO
 pre : ArgsIO ps → Prop
 res : ArgsIO ps → AV
 roots : ArgsIO ps → List (Nat × Root)
def ConIO.spec (s : ConIO) (args : List AV) (h : Heap) : Option SRes := match ioLook s.ps 1 args h with
 | some x => some ⟨s.pre x, s.res x, s.roots x, none⟩
 | none => none
section
variable {E : Ctx} {w w' w0 : World} {Z Z' : Nat → Prop} {K : Kp} {own own' : Own} {γ γ' : Gst} {h h' : Heap} {used used' : Nat → Prop} {a A B : AV} {v V : Value} {cs ds : List AV} {vs us : List Value}
theorem rootD_eq {i m b : Nat} {S : Sh} {R : Root} {xs : List (Den S)} (h : rootD i m b S R = some xs) : R = ioRoot i m b S xs := by
 unfold rootD at h
 split at h
 ·rename_i m' b' S' xs' c
  split at h
  ·rename_i hc
   obtain ⟨rfl, rfl, rfl⟩ := hc
   obtain ⟨e, rfl⟩ := qet h
   injection e with _ e
   subst e
   rfl
  ·cases h
 ·cases h
theorem isRef_eq {i : Nat} (h : isRef i a = true) : a = .tref i i [] 0 [] := by
 unfold isRef at h
 split at h
 ·simp only [Bool.and_eq_true, beq_iff_eq] at h
  rw [h.1, h.2]
 ·cases h
theorem isSl_eq {i : Nat} (h : isSl i a = true) : a = .osl i i [] none := by
 unfold isSl at h
 split at h
 ·simp only [Bool.and_eq_true, beq_iff_eq] at h
  rw [h.1, h.2]
 ·cases h
theorem one'_eq {α : Type} {l : List α} {x : α} (h : one' l = some x) : l = [x] := by
 unfold one' at h
 split at h
 ·injection h with h
  subst h
  rfl
 ·cases h
theorem ioLook_sound : ∀ {l : List PIO} {i : Nat} {cs : List AV} {vs : List Value} {h : Heap} {x : ArgsIO l}, ioLook l i cs h = some x → VRs w Z γ cs vs → VRs w Z γ (ioAV l i x) vs ∧ h = ioH l i x := by
 intro l
 induction l with
 | nil =>
  intro i cs vs h x he hv
  cases cs with
  | nil =>
   cases h with
   | nil => exact ⟨hv, rfl⟩
   | cons => simp [ioLook] at he
  | cons => simp [ioLook] at he
 | cons p l ih =>
  intro i cs vs h x he hv
  cases cs with
  | nil => cases p <;> simp [ioLook] at he
  | cons a cs =>
   cases vs with
   | nil => simp [VRs] at hv
   | cons v vs =>
    cases p with
    | c p =>
     simp only [ioLook] at he
     split at he
     ·rename_i hcl
      split at he
      ·rename_i y z hy hz
       injection he with he
       subst he
       obtain ⟨q1, q2⟩ := ih hz hv.tail
       exact ⟨.cons (.cr (parD_sound hy (hv.head.toCR hcl))) q1, q2⟩
      ·cases he
     ·cases he
    | ref m b S =>
     cases h with
     | nil => simp [ioLook] at he
     | cons R h =>
      obtain ⟨j, R⟩ := R
      simp only [ioLook] at he
      split at he
      ·rename_i hc
       simp only [Bool.and_eq_true, beq_iff_eq] at hc
       obtain ⟨hc, rfl⟩ := hc
       split at he
       ·rename_i y z hy hz
        injection he with he
        subst he
        obtain ⟨q1, q2⟩ := ih hz hv.tail
        obtain ⟨ys, hys, hy1⟩ := Option.bind_eq_some_iff.1 hy
        have e1 := rootD_eq hys
        rw [one'_eq hy1] at e1
        have e2 := isRef_eq hc
        subst e2
        refine ⟨.cons hv.head q1, ?_⟩
        simp only [ioH]
        rw [← q2, ← e1]
       ·cases he
      ·cases he
    | sl m b S =>
     cases h with
     | nil => simp [ioLook] at he
     | cons R h =>
      obtain ⟨j, R⟩ := R
      simp only [ioLook] at he
      split at he
      ·rename_i hc
       simp only [Bool.and_eq_true, beq_iff_eq] at hc
       obtain ⟨hc, rfl⟩ := hc
       split at he
       ·rename_i y z hy hz
        injection he with he
        subst he
        obtain ⟨q1, q2⟩ := ih hz hv.tail
        have e1 := rootD_eq hy
        have e2 := isSl_eq hc
        subst e2
        refine ⟨.cons hv.head q1, ?_⟩
        simp only [ioH]
        rw [← q2, ← e1]
       ·cases he
      ·cases he
theorem okIO_of : ∀ {l : List PIO} {i : Nat} {x : ArgsIO l}, okAVs (ioAV l i x) → okHeap (ioH l i x) → okIO l x
 | [], _, _, _, _ => trivial
 | .c _ :: _, _, _, h, k => ⟨okAV_par h.1, okIO_of h.2 k⟩
 | .ref _ _ _ :: _, _, x, h, k => ⟨k.1.2 x.1 (List.mem_cons_self), okIO_of h.2 k.2⟩
 | .sl _ _ _ :: _, _, _, h, k => ⟨k.1, okIO_of h.2 k.2⟩
def startIO (E : Ctx) (f : FuncId) (ps : List PIO) (l : List Pin) (x : ArgsIO ps) : Cfg := { cur := (enter E f (ioAV ps 1 x)).getD { fn := 0, todo := [], fr := [] }, callers := [], h := (0, qef l) :: ioH ps 1 x, nx := 16 }
def qbn (E : Ctx) (f : FuncId) (ns : List Nat) (s : List AV → Heap → Option SRes) : Prop := ∀ args h r, s args h = some r → r.pre → ∀ l, PinsOf ns h l → ∀ (w0 : World) (K : Kp) (w : World) (Z : Nat → Prop) (own : Own) (γ : Gst) (vs : List Value), GlR E w Z →
 MemR w0 K w Z own γ ((0, qef l) :: h) (fun s => s < 16) → VRs w Z γ args vs →
 Calls E.P f vs.toArray w fun e w' => ∃ v Z' own' γ', e = .returned v ∧ Stay w Z w' Z' ∧ MemR w0 K w' Z' own' γ' ((0, qef l) :: r.roots) (fun s => s < 16) ∧ VR w' Z' γ' r.res v
theorem ioH_nodup : ∀ {l : List PIO} {i j : Nat} {x : ArgsIO l} {R : Root}, (j, R) ∈ ioH l i x → i ≤ j
 | [], _, _, _, _, h => by cases h
 | .c _ :: l, _, _, x, _, h => ioH_nodup (l := l) (x := x.2) h
 | .ref .. :: l, i, j, x, _, h => by
  rcases List.mem_cons.1 h with e | h
  ·injection e with e1 _
   omega
  ·have := ioH_nodup (l := l) (x := x.2) h
   omega
 | .sl .. :: l, i, j, x, _, h => by
  rcases List.mem_cons.1 h with e | h
  ·injection e with e1 _
   omega
  ·have := ioH_nodup (l := l) (x := x.2) h
   omega
theorem ioH_get : ∀ {l : List PIO} {i j : Nat} {x : ArgsIO l} {R : Root}, (j, R) ∈ ioH l i x → hget (ioH l i x) j = some R
 | [], _, _, _, _, h => by cases h
 | .c _ :: l, _, _, x, _, h => ioH_get (l := l) (x := x.2) h
 | .ref .. :: l, i, j, x, _, h => by
  simp only [ioH, hget]
  rcases List.mem_cons.1 h with e | h
  ·injection e with e1 e2
   subst e1; subst e2
   simp
  ·have := ioH_nodup (l := l) (x := x.2) h
   rw [if_neg (by omega)]
   exact ioH_get (l := l) (x := x.2) h
 | .sl .. :: l, i, j, x, _, h => by
  simp only [ioH, hget]
  rcases List.mem_cons.1 h with e | h
  ·injection e with e1 e2
   subst e1; subst e2
   simp
  ·have := ioH_nodup (l := l) (x := x.2) h
   rw [if_neg (by omega)]
   exact ioH_get (l := l) (x := x.2) h
theorem spec_ofIO {f : FuncId} {s : ConIO} {ns : List Nat} (h : ∀ x l, okIO s.ps x → s.pre x → PinsOf ns (ioH s.ps 1 x) l → (enter E f (ioAV s.ps 1 x)).isSome = true ∧ Runs E (startIO E f s.ps l x) fun v h => v = s.res x ∧ h = (0, qef l) :: s.roots x) : qbn E f ns s.spec := by
 intro args hh r hs hp l hl w0 K w Z own γ vs hg hm hvs
 unfold ConIO.spec at hs
 split at hs
 ·rename_i x hx
  injection hs with hs
  subst hs
  obtain ⟨hv, rfl⟩ := ioLook_sound hx hvs
  have hok : okHeap (ioH s.ps 1 x) := okHeap_of fun j R hmem => by
   have hj := ioH_nodup hmem
   refine (hm.root j R ?_).ok
   simp only [hget]
   rw [if_neg (by omega)]
   exact ioH_get hmem
  obtain ⟨h1, h2⟩ := h x l (okIO_of hv.ok hok) hp hl
  intro cs
  cases he : enter E f (ioAV s.ps 1 x) with
  | none => rw [he] at h1; cases h1
  | some F =>
   obtain ⟨b, e1, e2, e3⟩ := enter_ok he hv
   have hS : StOK E w0 K (startIO E f s.ps l x) b [] w Z own γ := by
    refine ⟨?_, trivial, hm, hg⟩
    simp only [startIO, he, Option.getD_some]
    exact e2
   obtain ⟨A, hh, ⟨rfl, rfl⟩, V, w', Z', own', γ', fr, k1, k2, k3, k4, k5, k6⟩ := h2.ends w0 K cs b [] w Z _ _ hS
   refine ⟨.returned V, w', fr, ⟨V, Z', own', γ', rfl, k2, k3, k1⟩, ?_, ?_, k6⟩
   ·rw [e1]
    have : mkF (startIO E f s.ps l x).cur b = mkF F b := by simp [startIO, he]
    rw [← this]
    exact k4
   ·rw [k5]
    simp [startIO, he, botFn, e3]
 ·cases hs
def ioOf : List (FuncId × List Nat × (List AV → Heap → Option SRes)) → FuncId → List AV → Heap → Option SRes
 | [], _, _, _ => none
 | (f, _, s) :: l, g, args, h => if f = g then s args h else ioOf l g args h
def ioPinOf : List (FuncId × List Nat × (List AV → Heap → Option SRes)) → FuncId → List Nat
 | [], _ => []
 | (f, ns, _) :: l, g => if f = g then ns else ioPinOf l g
theorem ioOK_of {l : List (FuncId × List Nat × (List AV → Heap → Option SRes))} (he : E.io = ioOf l) (hp : E.iopin = ioPinOf l) (h : ∀ x ∈ l, qbn E x.1 x.2.1 x.2.2) : IoOK E := by
 intro f args hh r hr
 rw [he] at hr
 rw [hp]
 clear he hp
 induction l with
 | nil => simp [ioOf] at hr
 | cons x l ih =>
  simp only [ioOf] at hr
  simp only [ioPinOf]
  split at hr
  ·rename_i hf
   subst hf
   rw [if_pos rfl]
   exact h x List.mem_cons_self args hh r hr
  ·rename_i hf
   rw [if_neg hf]
   exact ih (fun y hy => h y (List.mem_cons_of_mem _ hy)) hr
def startH (E : Ctx) (f : FuncId) (args : List AV) (l : List Pin) (h : Heap) : Cfg := { cur := (enter E f args).getD { fn := 0, todo := [], fr := [] }, callers := [], h := (0, qef l) :: h, nx := 16 }
theorem pins1 {m b : Nat} {S : Sh} {xs : List (Den S)} {l : List Pin} (h : PinsOf [1] [(1, ioRoot 1 m b S xs)] l) : ∃ hd, l = [.g 1 1 hd] := by
 simp only [PinsOf, ioRoot] at h
 rw [if_pos (by rfl)] at h
 obtain ⟨hd, l', rfl, rfl⟩ := h
 exact ⟨hd, rfl⟩
abbrev IoT := FuncId × List Nat × (List AV → Heap → Option SRes)
def iokOf : List (FuncId × List Bool) → FuncId → Option (List Bool)
 | [], _ => none
 | (f, bs) :: l, g => match Nat.beq f g with | true => some bs | false => iokOf l g
end
end Go.BE
namespace Go.BE
def loopsC : Code → List Item → List (List Item)
 | .seq a b, k => loopsC a (.code b :: k) ++ loopsC b k
 | .cond _ a b, k => loopsC a k ++ loopsC b k
 | .block id a, k => loopsC a (.inBlock id :: k)
 | .loop a, k => (.code a :: .inLoop a :: k) :: loopsC a (.inLoop a :: k)
 | .scope a, k => loopsC a (.inScope a :: k)
 | .rangeFunc _ _ a b, _ => loopsC a [.beginRound, .code b] ++ loopsC b []
 | _, _ => []
def headOf (ix : Nat) : List (List Item) → List Item
 | [] => []
 | t :: l => if loopIx t = ix then t else headOf ix l
def avlook : List (Nat × AV) → Nat → AV
 | [], _ => .bad
 | (k, a) :: l, t => if k = t then a else avlook l t
def mkFr (l : List (Nat × AV)) : Nat → Nat → List AV
 | 0, _ => []
 | n + 1, i => avlook l i :: mkFr l n (i + 1)
def hcfg (E : Ctx) (f : FuncId) (ix : Nat) (fr : List (Nat × AV)) (h : Heap) (nx : Nat) : Cfg :=
 match E.P.funcs[f]? with
 | some fn => { cur := { fn := f, todo := headOf ix ((fn.body.map fun c => loopsC c []).getD []), fr := mkFr fr fn.ntmps 0 }, callers := [], h := h, nx := nx }
 | none => { cur := { fn := f, todo := [], fr := [] }, callers := [], h := h, nx := nx }
def sigEq : List (Nat × Nat) → List (Nat × Nat) → Bool
 | [], [] => true
 | (a, b) :: l, (c, d) :: m => Nat.beq a c && Nat.beq b d && sigEq l m
 | _, _ => false
abbrev CutL := List (List (Nat × Nat) × Nat × Nat × List Nat × List (Wh × Fx) × List (List Nat))
def cutOf : CutL → List (Nat × Nat) → FuncId → Nat → List Nat × List (Wh × Fx) × List (List Nat)
 | [], _, _, _ => ([], [], [])
 | (s', f', ix', x) :: l, s, f, ix => match Nat.beq f' f && Nat.beq ix' ix && sigEq s' s with
  | true => x
  | false => cutOf l s f ix
def retsO (ops : Array Oper) (k : List Item) : List Nat → List (List Item)
 | [] => []
 | i :: l => match ops[i]? with
  | some { op := .call _, .. } => (.inRegion ops (i :: l) :: k) :: retsO ops k l
  | _ => retsO ops k l
def retsC : Code → List Item → List (List Item)
 | .seq a b, k => retsC a (.code b :: k) ++ retsC b k
 | .cond _ a b, k => retsC a k ++ retsC b k
 | .block id a, k => retsC a (.inBlock id :: k)
 | .loop a, k => retsC a (.inLoop a :: k)
 | .scope a, k => retsC a (.inScope a :: k)
 | .rangeFunc _ _ a b, _ => retsC a [.beginRound, .code b] ++ retsC b []
 | .region _ ops _, k => retsO ops k (List.range ops.size)
 | _, _ => []
def rngsC : Code → List Item → List (Array Tmp × Code × Code × List Item)
 | .seq a b, k => rngsC a (.code b :: k) ++ rngsC b k
 | .cond _ a b, k => rngsC a k ++ rngsC b k
 | .block id a, k => rngsC a (.inBlock id :: k)
 | .loop a, k => rngsC a (.inLoop a :: k)
 | .scope a, k => rngsC a (.inScope a :: k)
 | .rangeFunc _ ps a b, k => (ps, a, b, k) :: (rngsC a [.beginRound, .code b] ++ rngsC b [])
 | _, _ => []
def cfr (E : Ctx) (f : FuncId) (n : Nat) (fr : List (Nat × AV)) : AFr :=
 match E.P.funcs[f]? with
 | some fn => { fn := f, todo := ((fn.body.map fun c => retsC c []).getD []).getD n [], fr := mkFr fr fn.ntmps 0 }
 | none => { fn := f, todo := [], fr := [] }
def cfrr (E : Ctx) (f : FuncId) (n : Nat) (fr : List (Nat × AV)) (r : Nat) (R : RgL) : AFr :=
 match E.P.funcs[f]? with
 | some fn => match ((fn.body.map fun c => rngsC c []).getD [])[n]? with
  | some (ps, a, b, k) => { fn := f, todo := .inRangeFunc R.l :: k, fr := mkFr fr fn.ntmps 0, rng := some { r := r, R := R, params := ps, assign := a, body := b } }
  | none => { fn := f, todo := [], fr := [] }
 | none => { fn := f, todo := [], fr := [] }
def AFr.wx (F : AFr) (rnd : Option (Option Nat × RgL)) (marks : List (Option Nat × RgL)) : AFr := { F with rnd := rnd, marks := marks }
def Cfg.wx (c : Cfg) (rnd : Option (Option Nat × RgL)) (marks : List (Option Nat × RgL)) : Cfg := { c with cur := c.cur.wx rnd marks }
def hcfgx (E : Ctx) (f : FuncId) (ix : Nat) (fr : List (Nat × AV)) (h : Heap) (nx : Nat) (cs : List AFr) : Cfg := { hcfg E f ix fr h nx with callers := cs }
abbrev iOf (k : IntKind) (x : Den (.int k)) : Int := x
abbrev bOf (x : Den .bool) : Bool := x
abbrev tOf (x : Den .str) : ByteArray := x
abbrev oL (S : Sh) (x : Den (.ptr S)) : List (Den S) := Option.toList x
abbrev oH (S : Sh) (l : List (Den S)) : Den (.ptr S) := List.head? l
abbrev oG (S : Sh) (x : Den (.ptr S)) : Den S := Option.getD x (dz S)
abbrev oN (S : Sh) (x : Den (.ptr S)) : Bool := Option.isNone x
theorem qah {α : Type} {Q : α → Prop} {b : Bool} {t e : Tre α} (h1 : b = true → t.wp Q) (h2 : b = false → e.wp Q) : (cond b t e).wp Q := by
 cases b with
 | true => exact h1 rfl
 | false => exact h2 rfl
theorem wp_iff {α : Type} {Q : α → Prop} {b : Bool} {t e : Tre α} : (cond b t e).wp Q ↔ (b = true → t.wp Q) ∧ (b = false → e.wp Q) := by
 cases b <;> simp
theorem chk_iff {α : Type} {Q : α → Prop} {C : Prop} {t : Tre α} : (Tre.chk C t).wp Q ↔ C ∧ (C → t.wp Q) := Iff.rfl
theorem know_iff {α : Type} {Q : α → Prop} {C : Prop} {t : Tre α} : (Tre.know C t).wp Q ↔ (C → t.wp Q) := Iff.rfl
theorem any_iff {α : Type} {Q : α → Prop} {p : Bool → Prop} {k : Bool → Tre α} : (Tre.any p k).wp Q ↔ ∀ b, p b → (k b).wp Q := Iff.rfl
theorem RunsP.tree {E : Ctx} {H : Hints} {f : FuncId} {n : Nat} {c : Cfg} {T : Tre Leaf} {Q : AV → Heap → Prop} {N : AV → Prop} (hE : EOK E) (h : run E H f n c = T) (hw : T.wp (contP E Q N)) : RunsP E c Q N := RunsP.of_run hE (h ▸ hw)
theorem Runs.tree {E : Ctx} {H : Hints} {f : FuncId} {n : Nat} {c : Cfg} {T : Tre Leaf} {Q : AV → Heap → Prop} (hE : EOK E) (h : run E H f n c = T) (hw : T.wp (contL E Q)) : Runs E c Q := Runs.of_run hE (h ▸ hw)
end Go.BE
namespace Go.BE
abbrev I : Sh := .int .i64
abbrev z (x : Den (.int .i64)) : Int := x
def ln (S : Sh) (l : List (Den S)) : Nat := l.length
def gd (S : Sh) (l : List (Den S)) (i : Nat) : Den S := l.getD i (dz S)
def ap (S : Sh) (l m : List (Den S)) : List (Den S) := l ++ m
def st (S : Sh) (l : List (Den S)) (i : Nat) (x : Den S) : List (Den S) := l.set i x
abbrev vi (n : Int) : AV := .val (.int .i64 n)
abbrev vb (b : Bool) : AV := .val (.bool b)
abbrev vs (s : ByteArray) : AV := .val (.string s)
abbrev hd (c : Cfg) : Tre Leaf := .ok (.head c)
abbrev rt (v : AV) (h : Heap) : Tre Leaf := .ok (.ret v h)
abbrev bvand (k : IntKind) (a b : Int) : Int := ((BitVec.ofInt k.bits a &&& BitVec.ofInt k.bits b).toNat : Int)
abbrev bvor (k : IntKind) (a b : Int) : Int := ((BitVec.ofInt k.bits a ||| BitVec.ofInt k.bits b).toNat : Int)
abbrev bvandn (k : IntKind) (a b : Int) : Int := ((BitVec.ofInt k.bits a &&& ~~~(BitVec.ofInt k.bits b)).toNat : Int)
theorem rt_iff {E : Ctx} {Q : AV → Heap → Prop} {v : AV} {h : Heap} : (rt v h).wp (contL E Q) ↔ Q v h := Iff.rfl
theorem hd_iff {E : Ctx} {Q : AV → Heap → Prop} {c : Cfg} : (hd c).wp (contL E Q) ↔ Runs E c Q := Iff.rfl
theorem bne_t {a b : Int} (h : (a != b) = true) : a ≠ b := by simpa using h
theorem lt01 : ((0 : Nat) < 1) = True := by simp
theorem qcl {n : Nat} {P : Nat → Prop} (h0 : P n) (hs : ∀ i, i < n → P (i + 1) → P i) : ∀ i, i ≤ n → P i := fun i hi => by
 obtain ⟨k, rfl⟩ : ∃ k, n = i + k := ⟨n - i, by omega⟩
 clear hi
 induction k generalizing i with
 | zero => exact h0
 | succ k ih => exact hs i (by omega) (ih (i + 1) (by rwa [show i + 1 + k = i + (k + 1) by omega]) (fun j hj => hs j (by omega)))
theorem wrap64 (s : Int) (h1 : -9223372036854775808 ≤ s) (h2 : s ≤ 9223372036854775807) : IntKind.wrap .i64 s = s := by
 simp only [IntKind.wrap, IntKind.bits, IntKind.signed, Bool.true_and]
 split <;> rename_i h <;> simp only [ge_iff_le, decide_eq_true_eq] at h <;> omega
theorem wrapS {i n : Nat} (hi : i < n) (h : n < 9223372036854775807) : IntKind.wrap .i64 ((i : Int) + 1) = ((i + 1 : Nat) : Int) := wrap64 _ (by omega) (by omega)
theorem qdq {S : Sh} {l : List (Den S)} {i : Nat} (h : i < ln S l) : l.drop i = gd S l i :: l.drop (i + 1) := by
 rw [List.drop_eq_getElem_cons h]
 congr 1
 unfold gd
 rw [List.getD_eq_getElem?_getD, List.getElem?_eq_getElem h]
 rfl
theorem drop_ln {S : Sh} {l : List (Den S)} : l.drop (ln S l) = [] := List.drop_length
theorem ln_ap {S : Sh} {l m : List (Den S)} : ln S (ap S l m) = ln S l + ln S m := List.length_append
theorem st_gd {S : Sh} {l : List (Den S)} {i : Nat} : st S l i (gd S l i) = l := by
 unfold st gd
 refine List.ext_getElem? fun j => ?_
 rw [List.getElem?_set]
 split
 ·rename_i h
  subst h
  split
  ·rename_i h
   rw [List.getD_eq_getElem?_getD, List.getElem?_eq_getElem h]
   rfl
  ·rename_i h
   rw [List.getElem?_eq_none (by omega)]
 ·rfl
theorem gd_st {S : Sh} {l : List (Den S)} {i : Nat} {x : Den S} (h : i < ln S l) : gd S (st S l i x) i = x := by
 unfold st gd
 have h : i < l.length := h
 rw [List.getD_eq_getElem?_getD, List.getElem?_set]
 simp only [if_true, h]
 rfl
theorem st_st {S : Sh} {l : List (Den S)} {i : Nat} {x y : Den S} : st S (st S l i x) i y = st S l i y := List.set_set ..
theorem ln_st {S : Sh} {l : List (Den S)} {i : Nat} {x : Den S} : ln S (st S l i x) = ln S l := List.length_set ..
theorem ok_gd {b : Nat} {S : Sh} {l : List (Den S)} {i : Nat} (h : okD (.sl b S) l) (hi : i < ln S l) : okD S (gd S l i) := by
 refine h.2 _ ?_
 unfold gd
 rw [List.getD_eq_getElem?_getD, List.getElem?_eq_getElem hi]
 exact List.getElem_mem hi
theorem qcf {b n : Nat} (h : room b n) : n < 9223372036854775807 := by
 have := h.2
 unfold roomB at this
 omega
def slook : List (Nat × Nat) → Nat → Nat
 | [], _ => 0
 | (k, v) :: l, t => if k = t then v else slook l t
def siteOf (tr : Tr (List (Nat × Nat))) (f t : Nat) : Nat := match tr.get f with
 | some l => slook l t
 | none => 0
def ownR (d : Nat) : (S : Sh) → Den S → Nat → List AV × List (Nat × Root)
 | .pair a b, x, n => ((ownR d a x.1 n).1 ++ (ownR d b x.2 (n + (ownR d a x.1 n).2.length)).1, (ownR d a x.1 n).2 ++ (ownR d b x.2 (n + (ownR d a x.1 n).2.length)).2)
 | .sl b a, x, n => ([.osl n n [] none], [(n, qcr n (.arr (min d a.dep) b a x))])
 | S, x, _ => (qdh S x, [])
def ownRes (d : Nat) : (S : Sh) → Den S → AV × List (Nat × Root)
 | .pair a b, x => (.agg (ownR d (.pair a b) x 0).1, (ownR d (.pair a b) x 0).2)
 | .sl b a, x => (.osl 0 0 [] none, [(0, qcr 0 (.arr (min d a.dep) b a x))])
 | S, x => (avOf S x, [])
def conO (d : Nat) (ps : List Par) (R : Sh) (pre : Args ps → Prop) (f : Args ps → Den R) : Con := ⟨ps, pre, fun x => (ownRes d R (f x)).1, fun x => (ownRes d R (f x)).2⟩
def Qv {α : Type} (E : Ctx) (f : α → AV) (x : α) : Leaf → Prop := contL E fun r h => r = f x ∧ h = []
theorem wp_both {α β : Type} {Q : β → α → Prop} {b : Bool} {t e : Tre α} {x y : β} (h1 : b = true → t.wp (Q x)) (h2 : b = false → e.wp (Q y)) : (cond b t e).wp (Q (cond b x y)) := by
 cases b
 ·exact h2 rfl
 ·exact h1 rfl
set_option linter.defProp false
def sS := (And.intro @wp_iff (And.intro @chk_iff (And.intro @know_iff (And.intro @any_iff (And.intro @rt_iff (And.intro @hd_iff (And.intro @true_imp_iff (And.intro @true_and (And.intro @and_true (And.intro @and_self @lt01))))))))))
def sL := (And.intro @Int.ofNat_lt (And.intro @Int.ofNat_le (And.intro @Int.natCast_nonneg (And.intro @Int.toNat_natCast (And.intro @decide_true (And.intro @decide_false (And.intro @Bool.true_eq_false (And.intro @Bool.false_eq_true (And.intro @false_imp_iff (And.intro @Nat.lt_irrefl (And.intro @imp_self @implies_true.{0})))))))))))
end Go.BE

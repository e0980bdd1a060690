/- A part of the proofs over this program: an abstract machine that the kernel evaluates, its soundness, and what the functions compute (IntnCtx). -/
import Derived.Test.YthdkgphnleibmaaDoorAeLoop
import Derived.Test.YthdkgphnleibmaaDoorAeIntnArith
import Derived.Test.YthdkgphnleibmaaDoorProg
import Derived.KernelRfl
namespace Burn.Intn
open Go Go.AE Go.Proofs
set_option maxRecDepth 100000
def tyTr : Tr TI := (.node none (.node (some ⟨.other, 1, 8, [.nilFunc], false⟩) (.node (some ⟨.int .i64, 1, 8, [.int .i64 0], false⟩) (.node (some ⟨.struct [⟨0, 1, false⟩, ⟨1, 1, false⟩, ⟨2, 1, false⟩, ⟨3, 1, false⟩], 4, 24, [.int .i64 0, .int .i64 0, .bool false, .int .u8 0], true⟩) (.node (some ⟨.ptr, 1, 8, [.pointer none], false⟩) (.node (some ⟨.other, 1, 8, [.nilFunc], false⟩) (.node (some ⟨.other, 1, 8, [.nilFunc], false⟩) .leaf .leaf) .leaf) (.node (some ⟨.other, 1, 8, [.nilFunc], false⟩) .leaf .leaf)) (.node (some ⟨.other, 1, 8, [.nilFunc], false⟩) (.node (some ⟨.other, 1, 8, [.nilFunc], false⟩) .leaf .leaf) (.node (some ⟨.struct [⟨0, 1, false⟩, ⟨1, 1, false⟩, ⟨2, 1, false⟩, ⟨3, 1, false⟩], 4, 40, [.pointer none, .pointer none, .pointer none, .string ⟨#[]⟩], false⟩) .leaf .leaf))) (.node (some ⟨.str, 1, 16, [.string ⟨#[]⟩], false⟩) (.node (some ⟨.struct [⟨0, 1, false⟩], 1, 8, [.pointer none], false⟩) (.node (some ⟨.other, 1, 8, [.nilFunc], false⟩) (.node (some ⟨.struct [⟨0, 1, false⟩, ⟨1, 1, false⟩, ⟨2, 1, false⟩, ⟨3, 1, false⟩, ⟨4, 1, false⟩, ⟨5, 1, false⟩, ⟨6, 1, false⟩, ⟨7, 1, false⟩, ⟨8, 1, false⟩, ⟨9, 1, false⟩, ⟨10, 1, false⟩], 11, 48, [.int .u64 0, .int .u64 0, .int .u32 0, .int .u8 0, .int .u8 0, .int .u8 0, .int .u8 0, .nilFunc, .pointer none, .int .i32 0, .int .i32 0], false⟩) .leaf .leaf) .leaf) (.node (some ⟨.slice 44, 1, 24, [.slice none 0 0], false⟩) .leaf .leaf)) (.node (some ⟨.other, 1, 8, [.nilFunc], false⟩) (.node (some ⟨.other, 1, 8, [.nilFunc], false⟩) .leaf .leaf) (.node (some ⟨.other, 1, 8, [.nilFunc], false⟩) .leaf .leaf)))) (.node (some ⟨.int .u8, 1, 1, [.int .u8 0], false⟩) (.node (some ⟨.str, 1, 16, [.string ⟨#[]⟩], false⟩) (.node (some ⟨.ptr, 1, 8, [.pointer none], false⟩) (.node (some ⟨.other, 1, 8, [.nilFunc], false⟩) (.node (some ⟨.int .i32, 1, 4, [.int .i32 0], false⟩) .leaf .leaf) .leaf) (.node (some ⟨.other, 1, 8, [.nilFunc], false⟩) .leaf .leaf)) (.node (some ⟨.other, 1, 8, [.nilFunc], false⟩) (.node none .leaf .leaf) (.node (some ⟨.struct [⟨0, 0, true⟩], 0, 0, [], false⟩) .leaf .leaf))) (.node (some ⟨.struct [⟨0, 1, false⟩, ⟨1, 1, false⟩], 2, 24, [.string ⟨#[]⟩, .int .u64 0], true⟩) (.node (some ⟨.int .i32, 1, 4, [.int .i32 0], false⟩) (.node (some ⟨.other, 1, 8, [.nilFunc], false⟩) (.node (some ⟨.other, 1, 8, [.pointer none], false⟩) .leaf .leaf) .leaf) (.node (some ⟨.other, 1, 8, [.nilFunc], false⟩) .leaf .leaf)) (.node (some ⟨.other, 1, 8, [.nilFunc], false⟩) (.node (some ⟨.other, 1, 8, [.nilFunc], false⟩) .leaf .leaf) (.node (some ⟨.int .u8, 1, 1, [.int .u8 0], false⟩) .leaf .leaf))))) (.node (some ⟨.int .i64, 1, 8, [.int .i64 0], false⟩) (.node (some ⟨.bool, 1, 1, [.bool false], false⟩) (.node (some ⟨.struct [⟨0, 1, false⟩, ⟨1, 1, false⟩, ⟨2, 1, false⟩, ⟨3, 1, false⟩], 4, 24, [.int .i64 0, .int .i64 0, .bool false, .int .u8 0], true⟩) (.node (some ⟨.ptr, 1, 8, [.pointer none], false⟩) (.node (some ⟨.other, 1, 8, [.nilFunc], false⟩) (.node (some ⟨.ptr, 1, 8, [.pointer none], false⟩) .leaf .leaf) .leaf) (.node (some ⟨.other, 1, 8, [.nilFunc], false⟩) .leaf .leaf)) (.node (some ⟨.int .u64, 1, 8, [.int .u64 0], false⟩) (.node (some ⟨.other, 1, 8, [.nilFunc], false⟩) .leaf .leaf) (.node (some ⟨.arr 0 16, 0, 0, [], false⟩) .leaf .leaf))) (.node (some ⟨.int .u64, 1, 8, [.int .u64 0], false⟩) (.node (some ⟨.other, 1, 16, [.nilIface], false⟩) (.node (some ⟨.arr 3 2, 3, 24, [.int .i64 0, .int .i64 0, .int .i64 0], true⟩) (.node (some ⟨.struct [⟨0, 1, false⟩, ⟨1, 1, false⟩, ⟨2, 1, false⟩, ⟨3, 1, false⟩, ⟨4, 1, false⟩, ⟨5, 1, false⟩, ⟨6, 1, false⟩, ⟨7, 1, false⟩, ⟨8, 1, false⟩, ⟨9, 1, false⟩, ⟨10, 1, false⟩], 11, 48, [.int .u64 0, .int .u64 0, .int .u32 0, .int .u8 0, .int .u8 0, .int .u8 0, .int .u8 0, .nilFunc, .pointer none, .int .i32 0, .int .i32 0], false⟩) .leaf .leaf) .leaf) (.node (some ⟨.int .u64, 1, 8, [.int .u64 0], false⟩) .leaf .leaf)) (.node (some ⟨.other, 1, 8, [.nilFunc], false⟩) (.node (some ⟨.ptr, 1, 8, [.pointer none], false⟩) .leaf .leaf) (.node (some ⟨.int .u32, 1, 4, [.int .u32 0], false⟩) .leaf .leaf)))) (.node (some ⟨.int .u8, 1, 1, [.int .u8 0], false⟩) (.node (some ⟨.str, 1, 16, [.string ⟨#[]⟩], false⟩) (.node (some ⟨.struct [⟨0, 1, false⟩], 1, 8, [.pointer none], false⟩) (.node none (.node (some ⟨.int .i32, 1, 4, [.int .i32 0], false⟩) .leaf .leaf) .leaf) (.node (some ⟨.other, 1, 8, [.nilFunc], false⟩) .leaf .leaf)) (.node (some ⟨.other, 1, 8, [.nilFunc], false⟩) (.node (some ⟨.other, 1, 8, [.nilFunc], false⟩) .leaf .leaf) (.node (some ⟨.struct [⟨0, 0, true⟩], 0, 0, [], false⟩) .leaf .leaf))) (.node (some ⟨.struct [⟨0, 1, false⟩, ⟨1, 1, false⟩], 2, 24, [.string ⟨#[]⟩, .int .u64 0], true⟩) (.node (some ⟨.int .i64, 1, 8, [.int .i64 0], false⟩) (.node (some ⟨.arr 5 3, 5, 40, [.int .i64 0, .int .i64 0, .int .i64 0, .int .i64 0, .int .i64 0], true⟩) .leaf .leaf) (.node (some ⟨.struct [⟨0, 1, false⟩, ⟨1, 1, false⟩, ⟨2, 1, false⟩, ⟨3, 1, false⟩], 4, 40, [.pointer none, .pointer none, .pointer none, .string ⟨#[]⟩], false⟩) .leaf .leaf)) (.node (some ⟨.arr 2 22, 2, 16, [.int .i64 0, .int .i64 0], true⟩) (.node none .leaf .leaf) (.node (some ⟨.int .u8, 1, 1, [.int .u8 0], false⟩) .leaf .leaf))))))
def gl : Nat → Option (List AV)
  | 0 => some [aint .i64 0, aint .i64 1, aint .i64 8, aint .i64 32, aint .i64 64]
  | _ => none
noncomputable def ctx (l : List (FuncId × FSpec)) : Ctx := { P := Tryd.prog, ty := tyOf 60 tyTr, gl := gl, env := envOf l, fns := fnsOf 3 51 }
theorem ty_ok : TyOK Tryd.prog (tyOf 60 tyTr) := chkTy_ok (by kernel_rfl)
theorem fns_ok (l : List (FuncId × FSpec)) : FnsOK (ctx l) := chkFns_ok (n := 48) (by kernel_rfl)
theorem ctx_ok {l : List (FuncId × FSpec)} (h : ∀ x ∈ l, SpecOK (ctx []) x.1 x.2) : EOK (ctx l) := ⟨ty_ok, envOK_of rfl h, fns_ok l, by kernel_rfl⟩
def sBits : FSpec
  | [.val (.int .i64 t)] => some ⟨True, aint .i64 (bitsZ t)⟩
  | _ => none
def sWrap : FSpec
  | [.val (.int .i64 t), .val (.int .i64 n)] => some ⟨True, aint .i64 (wrapZ t n)⟩
  | _ => none
def sUns : FSpec
  | [.val (.int .i64 t), .val (.int .i64 n)] => some ⟨True, aint .u64 (unsZ t n)⟩
  | _ => none
def sMin : FSpec
  | [.val (.int .i64 t)] => some ⟨True, aint .i64 (minZ t)⟩
  | _ => none
def sMax : FSpec
  | [.val (.int .i64 t)] => some ⟨True, aint .i64 (maxZ t)⟩
  | _ => none
def sUlt : FSpec
  | [.val (.int .i64 t), .val (.int .i64 a), .val (.int .i64 b)] => some ⟨True, abool (decide (unsZ t a < unsZ t b))⟩
  | _ => none
def sZext : FSpec
  | [.val (.int .i64 t), .val (.int .i64 u), .val (.int .i64 n)] => some ⟨True, aint .i64 (wrapZ u (unsZ t n))⟩
  | _ => none
def sMag : FSpec
  | [.val (.int .i64 n)] => some ⟨-9223372036854775808 ≤ n ∧ n ≤ 9223372036854775807, aint .u64 n.natAbs⟩
  | _ => none
/-- an exact result in the type's range, and whether it had to be wrapped -/
def fitV (t s : Int) : AV := .tup [aint .i64 (wrapZ t s), abool (decide (s < minZ t ∨ maxZ t < s))]
def sAdd : FSpec
  | [.val (.int .i64 t), .val (.int .i64 a), .val (.int .i64 b)] => some ⟨True, fitV t (wrapZ t a + wrapZ t b)⟩
  | _ => none
def sSub : FSpec
  | [.val (.int .i64 t), .val (.int .i64 a), .val (.int .i64 b)] => some ⟨True, fitV t (wrapZ t a - wrapZ t b)⟩
  | _ => none
def sMul : FSpec
  | [.val (.int .i64 t), .val (.int .i64 a), .val (.int .i64 b)] => some ⟨True, fitV t (wrapZ t a * wrapZ t b)⟩
  | _ => none
/-- a shift's answer -/
def shV (t n v : Int) : AV := .tup [aint .i64 (if bitsZ t ≤ unsZ t n then 0 else v), abool (decide (unsZ t n < bitsZ t))]
def sShl : FSpec
  | [.val (.int .i64 t), .val (.int .i64 a), .val (.int .i64 n)] => some ⟨True, shV t n (wrapZ t (a * 2 ^ (unsZ t n).toNat))⟩
  | _ => none
def sLshr : FSpec
  | [.val (.int .i64 t), .val (.int .i64 a), .val (.int .i64 n)] => some ⟨True, shV t n (wrapZ t (unsZ t a / 2 ^ (unsZ t n).toNat))⟩
  | _ => none
def sAshr : FSpec
  | [.val (.int .i64 t), .val (.int .i64 a), .val (.int .i64 n)] => some ⟨True, shV t n (wrapZ t a / 2 ^ (unsZ t n).toNat)⟩
  | _ => none
/-- a division's answer -/
def dvV (t b v : Int) : AV := .tup [aint .i64 (if wrapZ t b = 0 then 0 else wrapZ t v), abool (decide (wrapZ t b ≠ 0))]
def sDiv : FSpec
  | [.val (.int .i64 t), .val (.int .i64 a), .val (.int .i64 b)] => some ⟨True, dvV t b ((wrapZ t a).tdiv (wrapZ t b))⟩
  | _ => none
def sRem : FSpec
  | [.val (.int .i64 t), .val (.int .i64 a), .val (.int .i64 b)] => some ⟨True, dvV t b ((wrapZ t a).tmod (wrapZ t b))⟩
  | _ => none
def L1 : List (FuncId × FSpec) := [(11, sBits), (14, sBits)]
def L2 : List (FuncId × FSpec) := [(11, sBits), (14, sBits), (9, sWrap), (10, sUns), (13, sUns)]
def L3 : List (FuncId × FSpec) := [(11, sBits), (14, sBits), (9, sWrap), (10, sUns), (13, sUns), (12, sWrap), (16, sMin), (46, sMag), (47, sMag)]
def sFit : FSpec
  | [.val (.int .i64 t), .val (.int .i64 n), .val (.bool w)] => some ⟨True, .tup [aint .i64 (wrapZ t n), abool (fitB t n w)]⟩
  | _ => none
def sMul64 : FSpec
  | [.val (.int .u64 x), .val (.int .u64 y)] => some ⟨(0 ≤ x ∧ x < 18446744073709551616) ∧ 0 ≤ y ∧ y < 18446744073709551616, .tup [aint .u64 (x * y / 18446744073709551616), aint .u64 (x * y % 18446744073709551616)]⟩
  | _ => none
def L4 : List (FuncId × FSpec) := [(11, sBits), (14, sBits), (9, sWrap), (10, sUns), (13, sUns), (12, sWrap), (16, sMin), (46, sMag), (47, sMag), (17, sMax), (45, sMul64), (44, sFit)]
noncomputable def E4 : Ctx := ctx L4
noncomputable def E0 : Ctx := ctx []
noncomputable def E1 : Ctx := ctx L1
noncomputable def E2 : Ctx := ctx L2
noncomputable def E3 : Ctx := ctx L3
theorem gives {E : Ctx} (hE : EOK E) {n : Nat} {c : Cfg} {ds : List Bool} {C : List Prop} {v v' : AV} (he : apr E n ds c = some (C, v)) (hC : AllP C) (hv : v = v') : Gives E c v' := hv ▸ Gives.apr hE he hC
end Burn.Intn

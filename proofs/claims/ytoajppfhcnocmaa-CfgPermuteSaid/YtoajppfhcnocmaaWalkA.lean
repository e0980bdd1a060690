/- What the functions that the law reaches compute, one contract each. No conditions beyond those written. -/
import Derived.Test.YtoajppfhcnocmaaEngineD
import Derived.Test.YtoajppfhcnocmaaProg
import Derived.KernelRfl
import Derived.Test.YtoajppfhcnocmaaPlainA
namespace Burn.M20
open Go Go.BE Go.Proofs
set_option maxRecDepth 100000
abbrev s_runtime_boundsError : Sh := (.pair I (.pair I (.pair .bool (.pair (.int .u8) .unit))))
abbrev s_runtime_errorAddressString : Sh := (.pair .str (.pair (.int .u64) .unit))
abbrev s_api_Instr : Sh := (.pair I (.pair I (.pair I (.pair (.sl 8 I) (.pair I (.pair I (.pair I (.pair .bool .unit))))))))
abbrev s_api_Edge : Sh := (.pair I (.pair (.sl 8 I) .unit))
abbrev s_api_Terminator : Sh := (.pair I (.pair (.sl 8 I) (.pair (.sl 8 I) (.pair (.sl 32 s_api_Edge) (.pair I .unit)))))
abbrev s_api_Block : Sh := (.pair (.sl 8 I) (.pair (.sl 80 s_api_Instr) (.pair s_api_Terminator .unit)))
abbrev s_api_Func : Sh := (.pair .str (.pair (.sl 8 I) (.pair I (.pair (.sl 8 I) (.pair (.sl 136 s_api_Block) .unit)))))
abbrev s_api_Pos : Sh := (.pair I (.pair I .unit))
abbrev s_api_Graph : Sh := (.pair (.sl 24 (.sl 8 I)) .unit)
def tyN : Nat := 102
def tyTr : Tr TI := (.node none (.node (some ⟨.other, 1, 8, [.nilFunc], none⟩) (.node (some ⟨.int .i64, 1, 8, [.int .i64 0], some I⟩) (.node (some ⟨.struct [⟨0, 1, false⟩, ⟨1, 1, false⟩, ⟨2, 1, false⟩, ⟨3, 1, false⟩], 4, 24, [.int .i64 0, .int .i64 0, .bool false, .int .u8 0], some s_runtime_boundsError⟩) (.node (some ⟨.ptr 87, 1, 8, [.pointer none], none⟩) (.node (some ⟨.other, 1, 8, [.nilFunc], none⟩) (.node (some ⟨.other, 1, 8, [.nilFunc], none⟩) .leaf .leaf) (.node (some ⟨.other, 1, 8, [.nilFunc], none⟩) .leaf .leaf)) (.node (some ⟨.struct [⟨0, 1, false⟩, ⟨1, 1, false⟩], 2, 32, [.int .i64 0, .slice none 0 0], some s_api_Edge⟩) (.node (some ⟨.other, 1, 8, [.nilFunc], none⟩) .leaf .leaf) .leaf)) (.node (some ⟨.int .i64, 1, 8, [.int .i64 0], some I⟩) (.node (some ⟨.other, 1, 8, [.nilFunc], none⟩) (.node (some ⟨.other, 1, 8, [.nilFunc], none⟩) .leaf .leaf) .leaf) (.node (some ⟨.slice 64, 1, 24, [.slice none 0 0], some (.sl 24 (.sl 16 s_api_Pos))⟩) (.node (some ⟨.struct [⟨0, 1, false⟩, ⟨1, 1, false⟩, ⟨2, 1, false⟩, ⟨3, 1, false⟩], 4, 40, [.pointer none, .pointer none, .pointer none, .string ⟨#[]⟩], none⟩) .leaf .leaf) .leaf))) (.node (some ⟨.str, 1, 16, [.string ⟨#[]⟩], some .str⟩) (.node (some ⟨.struct [⟨0, 1, false⟩], 1, 8, [.pointer none], none⟩) (.node (some ⟨.other, 1, 8, [.nilFunc], none⟩) (.node (some ⟨.struct [⟨0, 1, false⟩, ⟨1, 1, false⟩, ⟨2, 1, false⟩, ⟨3, 1, false⟩, ⟨4, 1, false⟩, ⟨5, 1, false⟩, ⟨6, 1, false⟩, ⟨7, 1, false⟩], 8, 80, [.int .i64 0, .int .i64 0, .int .i64 0, .slice none 0 0, .int .i64 0, .int .i64 0, .int .i64 0, .bool false], some s_api_Instr⟩) .leaf .leaf) (.node (some ⟨.struct [⟨0, 1, false⟩, ⟨1, 1, false⟩, ⟨2, 1, false⟩, ⟨3, 1, false⟩, ⟨4, 1, false⟩, ⟨5, 1, false⟩, ⟨6, 1, false⟩, ⟨7, 1, false⟩, ⟨8, 1, false⟩, ⟨9, 1, false⟩, ⟨10, 1, false⟩], 11, 48, [.int .u64 0, .int .u64 0, .int .u32 0, .int .u8 0, .int .u8 0, .int .u8 0, .int .u8 0, .nilFunc, .pointer none, .int .i32 0, .int .i32 0], none⟩) .leaf .leaf)) (.node (some ⟨.struct [⟨0, 1, false⟩], 1, 24, [.slice none 0 0], some s_api_Graph⟩) (.node (some ⟨.other, 1, 8, [.nilFunc], none⟩) .leaf .leaf) .leaf)) (.node (some ⟨.struct [⟨0, 1, false⟩, ⟨1, 1, false⟩, ⟨2, 1, false⟩, ⟨3, 1, false⟩, ⟨4, 1, false⟩], 5, 96, [.string ⟨#[]⟩, .slice none 0 0, .int .i64 0, .slice none 0 0, .slice none 0 0], some s_api_Func⟩) (.node (some ⟨.struct [⟨0, 1, false⟩, ⟨1, 1, false⟩, ⟨2, 1, false⟩, ⟨3, 1, false⟩, ⟨4, 1, false⟩], 5, 88, [.int .i64 0, .slice none 0 0, .slice none 0 0, .slice none 0 0, .int .i64 0], some s_api_Terminator⟩) (.node (some ⟨.other, 1, 8, [.nilFunc], none⟩) .leaf .leaf) .leaf) (.node (some ⟨.other, 1, 8, [.nilFunc], none⟩) (.node (some ⟨.other, 1, 8, [.nilFunc], none⟩) .leaf .leaf) .leaf)))) (.node (some ⟨.int .u8, 1, 1, [.int .u8 0], some (.int .u8)⟩) (.node (some ⟨.str, 1, 16, [.string ⟨#[]⟩], some .str⟩) (.node (some ⟨.ptr 100, 1, 8, [.pointer none], none⟩) (.node (some ⟨.other, 1, 8, [.nilFunc], none⟩) (.node (some ⟨.other, 1, 8, [.nilFunc], none⟩) .leaf .leaf) (.node (some ⟨.int .i32, 1, 4, [.int .i32 0], some (.int .i32)⟩) .leaf .leaf)) (.node (some ⟨.slice 22, 1, 24, [.slice none 0 0], some (.sl 24 (.sl 8 I))⟩) (.node (some ⟨.other, 1, 8, [.nilFunc], none⟩) .leaf .leaf) .leaf)) (.node (some ⟨.slice 46, 1, 24, [.slice none 0 0], some (.sl 136 s_api_Block)⟩) (.node (some ⟨.slice 48, 1, 24, [.slice none 0 0], some (.sl 32 s_api_Edge)⟩) (.node (some ⟨.other, 1, 8, [.nilFunc], none⟩) .leaf .leaf) .leaf) (.node none (.node (some ⟨.struct [⟨0, 0, true⟩], 0, 0, [], none⟩) .leaf .leaf) .leaf))) (.node (some ⟨.struct [⟨0, 1, false⟩, ⟨1, 1, false⟩], 2, 24, [.string ⟨#[]⟩, .int .u64 0], some s_runtime_errorAddressString⟩) (.node (some ⟨.int .i32, 1, 4, [.int .i32 0], some (.int .i32)⟩) (.node (some ⟨.other, 1, 8, [.nilFunc], none⟩) (.node (some ⟨.other, 1, 8, [.nilFunc], none⟩) .leaf .leaf) (.node (some ⟨.other, 1, 8, [.pointer none], none⟩) .leaf .leaf)) (.node (some ⟨.other, 1, 8, [.nilFunc], none⟩) (.node (some ⟨.other, 1, 8, [.nilFunc], none⟩) .leaf .leaf) .leaf)) (.node (some ⟨.struct [⟨0, 1, false⟩, ⟨1, 1, false⟩], 2, 16, [.int .i64 0, .int .i64 0], some s_api_Pos⟩) (.node (some ⟨.struct [⟨0, 1, false⟩, ⟨1, 1, false⟩, ⟨2, 5, true⟩], 7, 136, [.slice none 0 0, .slice none 0 0, .int .i64 0, .slice none 0 0, .slice none 0 0, .slice none 0 0, .int .i64 0], some s_api_Block⟩) (.node (some ⟨.ptr 46, 1, 8, [.pointer none], some (.ptr s_api_Block)⟩) .leaf .leaf) .leaf) (.node (some ⟨.other, 1, 8, [.nilFunc], none⟩) (.node (some ⟨.int .u8, 1, 1, [.int .u8 0], some (.int .u8)⟩) .leaf .leaf) .leaf))))) (.node (some ⟨.int .i64, 1, 8, [.int .i64 0], some I⟩) (.node (some ⟨.bool, 1, 1, [.bool false], some .bool⟩) (.node (some ⟨.struct [⟨0, 1, false⟩, ⟨1, 1, false⟩, ⟨2, 1, false⟩, ⟨3, 1, false⟩], 4, 24, [.int .i64 0, .int .i64 0, .bool false, .int .u8 0], some s_runtime_boundsError⟩) (.node (some ⟨.ptr 90, 1, 8, [.pointer none], none⟩) (.node (some ⟨.other, 1, 8, [.nilFunc], none⟩) (.node (some ⟨.slice 29, 1, 24, [.slice none 0 0], some (.sl 16 s_api_Pos)⟩) .leaf .leaf) (.node (some ⟨.ptr 5, 1, 8, [.pointer none], some (.ptr (.int .u8))⟩) .leaf .leaf)) (.node (some ⟨.struct [⟨0, 1, false⟩, ⟨1, 1, false⟩], 2, 32, [.int .i64 0, .slice none 0 0], some s_api_Edge⟩) (.node (some ⟨.other, 1, 8, [.nilFunc], none⟩) .leaf .leaf) .leaf)) (.node (some ⟨.slice 23, 1, 24, [.slice none 0 0], some (.sl 8 I)⟩) (.node (some ⟨.slice 2, 1, 24, [.slice none 0 0], some (.sl 8 I)⟩) (.node (some ⟨.other, 1, 8, [.nilFunc], none⟩) .leaf .leaf) .leaf) (.node (some ⟨.other, 1, 8, [.nilFunc], none⟩) (.node (some ⟨.arr 0 16, 0, 0, [], none⟩) .leaf .leaf) .leaf))) (.node (some ⟨.int .u64, 1, 8, [.int .u64 0], some (.int .u64)⟩) (.node (some ⟨.other, 1, 16, [.nilIface], none⟩) (.node none (.node (some ⟨.ptr 48, 1, 8, [.pointer none], some (.ptr s_api_Edge)⟩) .leaf .leaf) (.node (some ⟨.struct [⟨0, 1, false⟩, ⟨1, 1, false⟩, ⟨2, 1, false⟩, ⟨3, 1, false⟩, ⟨4, 1, false⟩, ⟨5, 1, false⟩, ⟨6, 1, false⟩, ⟨7, 1, false⟩, ⟨8, 1, false⟩, ⟨9, 1, false⟩, ⟨10, 1, false⟩], 11, 48, [.int .u64 0, .int .u64 0, .int .u32 0, .int .u8 0, .int .u8 0, .int .u8 0, .int .u8 0, .nilFunc, .pointer none, .int .i32 0, .int .i32 0], none⟩) .leaf .leaf)) (.node (some ⟨.other, 1, 8, [.nilFunc], none⟩) (.node (some ⟨.other, 1, 8, [.nilFunc], none⟩) .leaf .leaf) .leaf)) (.node (some ⟨.struct [⟨0, 1, false⟩, ⟨1, 1, false⟩], 2, 16, [.int .i64 0, .int .i64 0], some s_api_Pos⟩) (.node (some ⟨.slice 67, 1, 24, [.slice none 0 0], some (.sl 80 s_api_Instr)⟩) (.node (some ⟨.other, 1, 8, [.nilFunc], none⟩) .leaf .leaf) .leaf) (.node (some ⟨.other, 1, 8, [.nilFunc], none⟩) (.node (some ⟨.int .u32, 1, 4, [.int .u32 0], some (.int .u32)⟩) .leaf .leaf) .leaf)))) (.node (some ⟨.int .u8, 1, 1, [.int .u8 0], some (.int .u8)⟩) (.node (some ⟨.str, 1, 16, [.string ⟨#[]⟩], some .str⟩) (.node (some ⟨.struct [⟨0, 1, false⟩], 1, 8, [.pointer none], none⟩) (.node (some ⟨.other, 1, 8, [.nilFunc], none⟩) (.node (some ⟨.struct [⟨0, 1, false⟩, ⟨1, 1, false⟩, ⟨2, 1, false⟩, ⟨3, 1, false⟩, ⟨4, 1, false⟩, ⟨5, 1, false⟩, ⟨6, 1, false⟩, ⟨7, 1, false⟩], 8, 80, [.int .i64 0, .int .i64 0, .int .i64 0, .slice none 0 0, .int .i64 0, .int .i64 0, .int .i64 0, .bool false], some s_api_Instr⟩) .leaf .leaf) (.node (some ⟨.int .i32, 1, 4, [.int .i32 0], some (.int .i32)⟩) .leaf .leaf)) (.node (some ⟨.struct [⟨0, 1, false⟩], 1, 24, [.slice none 0 0], some s_api_Graph⟩) (.node (some ⟨.slice 4, 1, 24, [.slice none 0 0], some (.sl 1 .bool)⟩) .leaf .leaf) .leaf)) (.node (some ⟨.struct [⟨0, 1, false⟩, ⟨1, 1, false⟩, ⟨2, 1, false⟩, ⟨3, 1, false⟩, ⟨4, 1, false⟩], 5, 96, [.string ⟨#[]⟩, .slice none 0 0, .int .i64 0, .slice none 0 0, .slice none 0 0], some s_api_Func⟩) (.node (some ⟨.struct [⟨0, 1, false⟩, ⟨1, 1, false⟩, ⟨2, 1, false⟩, ⟨3, 1, false⟩, ⟨4, 1, false⟩], 5, 88, [.int .i64 0, .slice none 0 0, .slice none 0 0, .slice none 0 0, .int .i64 0], some s_api_Terminator⟩) (.node (some ⟨.other, 1, 8, [.nilFunc], none⟩) .leaf .leaf) .leaf) (.node (some ⟨.other, 1, 8, [.nilFunc], none⟩) (.node (some ⟨.struct [⟨0, 0, true⟩], 0, 0, [], none⟩) .leaf .leaf) .leaf))) (.node (some ⟨.struct [⟨0, 1, false⟩, ⟨1, 1, false⟩], 2, 24, [.string ⟨#[]⟩, .int .u64 0], some s_runtime_errorAddressString⟩) (.node (some ⟨.slice 3, 1, 24, [.slice none 0 0], some (.sl 8 I)⟩) (.node (some ⟨.other, 1, 8, [.nilFunc], none⟩) (.node (some ⟨.other, 1, 8, [.nilFunc], none⟩) .leaf .leaf) .leaf) (.node (some ⟨.other, 1, 8, [.nilFunc], none⟩) (.node (some ⟨.struct [⟨0, 1, false⟩, ⟨1, 1, false⟩, ⟨2, 1, false⟩, ⟨3, 1, false⟩], 4, 40, [.pointer none, .pointer none, .pointer none, .string ⟨#[]⟩], none⟩) .leaf .leaf) .leaf)) (.node (some ⟨.other, 1, 8, [.nilFunc], none⟩) (.node (some ⟨.struct [⟨0, 1, false⟩, ⟨1, 1, false⟩, ⟨2, 5, true⟩], 7, 136, [.slice none 0 0, .slice none 0 0, .int .i64 0, .slice none 0 0, .slice none 0 0, .slice none 0 0, .int .i64 0], some s_api_Block⟩) (.node (some ⟨.ptr 67, 1, 8, [.pointer none], some (.ptr s_api_Instr)⟩) .leaf .leaf) .leaf) (.node (some ⟨.other, 1, 8, [.nilFunc], none⟩) (.node (some ⟨.int .u8, 1, 1, [.int .u8 0], some (.int .u8)⟩) .leaf .leaf) .leaf))))))
def gl : Nat → Option AV
  | _ => none
def fnL : List Nat := [3, 4, 5, 6, 7, 8, 9, 10, 11, 12, 13, 14, 15, 16, 17, 18, 19, 20, 21, 22, 23, 24, 25, 26, 27, 28, 29, 30, 31, 32, 33, 34, 35, 36, 37, 38, 39, 40, 41, 42, 43, 44, 45, 46, 47, 48, 49, 50, 51, 52, 53]
abbrev f_law20_CfgReads : FuncId := 3
abbrev f_law20_CfgSplit : FuncId := 4
abbrev f_law20_CfgContract : FuncId := 5
abbrev f_law20_CfgGraph : FuncId := 6
abbrev f_law20_CfgNewReg : FuncId := 7
abbrev f_law20_CfgPermute : FuncId := 8
abbrev f_law20_large : FuncId := 9
abbrev f_law20_works : FuncId := 10
abbrev f_slices_Equal_L_int_int : FuncId := 11
abbrev f_cfg_Reads : FuncId := 12
abbrev f_r20_Reads : FuncId := 13
abbrev f_cfg_Writes : FuncId := 14
abbrev f_r20_Writes : FuncId := 15
abbrev f_r14_CloneFunc : FuncId := 16
abbrev f_cfg_SplitEdge : FuncId := 17
abbrev f_r20_SplitEdge : FuncId := 18
abbrev f_r14_EqualFunc : FuncId := 19
abbrev f_cfg_Graph : FuncId := 20
abbrev f_law20_lists_int : FuncId := 21
abbrev f_r20_Graph : FuncId := 22
abbrev f_law20_lists_api_Pos : FuncId := 23
abbrev f_cfg_Defs : FuncId := 24
abbrev f_r20_Defs : FuncId := 25
abbrev f_cfg_Uses : FuncId := 26
abbrev f_r20_Uses : FuncId := 27
abbrev f_cfg_NewReg : FuncId := 28
abbrev f_cfg_Permute : FuncId := 29
abbrev f_r20_Permute : FuncId := 30
abbrev f_law20_twice : FuncId := 31
abbrev f_slices_Equal_L_api_Pos_api_Pos : FuncId := 32
abbrev f_cfg_inside : FuncId := 33
abbrev f_cfg_own : FuncId := 34
abbrev f_r20_In : FuncId := 35
abbrev f_cfg_clone : FuncId := 36
abbrev f_r20_clone : FuncId := 37
abbrev f_slices_Equal_L_api_Type_api_Type : FuncId := 38
abbrev f_r14_equalBlock : FuncId := 39
abbrev f_cfg_collect : FuncId := 40
abbrev f_r20_collect : FuncId := 41
abbrev f_cfg_permutation : FuncId := 42
abbrev f_cfg_mapped : FuncId := 43
abbrev f_cfg_Permute_cl1 : FuncId := 44
abbrev f_r20_permutation : FuncId := 45
abbrev f_r20_renamed : FuncId := 46
abbrev f_cfg_clone_cl1 : FuncId := 47
abbrev f_r20_cloneBlock : FuncId := 48
abbrev f_slices_Equal_L_int64_int64 : FuncId := 49
abbrev f_r14_equalInstr : FuncId := 50
abbrev f_cfg_mapped_cl1 : FuncId := 51
abbrev f_slices_Clone_L_api_Type_api_Type : FuncId := 52
abbrev f_slices_Clone_L_int64_int64 : FuncId := 53
def siteTr : Tr (List (Nat × Nat)) := (.node none (.node none (.node (some [(2, 2), (3, 2)]) (.node (some [(2, 2), (5, 2)]) (.node (some [(2, 1), (3, 1)]) (.node (some [(1, 2), (7, 11), (11, 11), (17, 12)]) .leaf .leaf) .leaf) (.node none (.node (some [(2, 1), (3, 1)]) .leaf .leaf) .leaf)) (.node none (.node (some [(2, 1), (3, 1)]) (.node (some [(2, 1), (3, 1)]) .leaf .leaf) .leaf) (.node (some [(1, 1)]) (.node (some [(2, 1), (3, 1), (106, 11), (107, 11)]) .leaf .leaf) .leaf))) (.node (some [(3, 2)]) (.node (some [(1, 1)]) (.node (some [(3, 1), (55, 11), (56, 11)]) (.node (some [(2, 1), (3, 1)]) .leaf .leaf) .leaf) (.node (some [(1, 1)]) (.node (some [(2, 1), (9, 2), (17, 11)]) .leaf .leaf) .leaf)) (.node (some [(2, 1), (3, 1)]) (.node none (.node (some [(1, 1), (29, 11), (30, 11)]) .leaf .leaf) .leaf) (.node (some [(2, 1), (3, 1)]) .leaf .leaf)))) (.node none (.node (some [(3, 2), (7, 2), (8, 2), (10, 2)]) (.node (some [(2, 2), (5, 2), (6, 2)]) (.node (some [(1, 1)]) .leaf (.node (some [(1, 1)]) .leaf .leaf)) (.node (some [(1, 1)]) (.node (some [(2, 1), (8, 2), (14, 11)]) .leaf .leaf) .leaf)) (.node (some [(2, 1), (3, 1)]) (.node (some [(1, 1), (11, 11)]) (.node (some [(1, 1)]) .leaf .leaf) .leaf) (.node (some [(2, 1)]) .leaf .leaf))) (.node (some [(1, 2)]) (.node (some [(1, 2), (2, 2), (4, 2)]) (.node (some [(3, 1), (67, 11), (68, 11)]) .leaf (.node (some [(2, 1), (3, 1)]) .leaf .leaf)) (.node (some [(1, 1)]) .leaf .leaf)) (.node (some [(2, 1), (3, 1)]) (.node (some [(1, 1), (34, 11), (35, 11)]) .leaf .leaf) (.node (some [(2, 1)]) .leaf .leaf)))))
noncomputable def ctx (l : List (FuncId × FSpec)) : Ctx := { P := Try.prog, ty := tyOf tyN tyTr, gl := gl, env := envOf l, fns := fnsOf fnL, site := siteOf siteTr }
theorem ty_ok : TyOK Try.prog (tyOf tyN tyTr) := chkTy_ok (by kernel_rfl)
theorem fns_ok (l : List (FuncId × FSpec)) : FnsOK (ctx l) := chkFns_ok (by kernel_rfl)
theorem ctx_ok {l : List (FuncId × FSpec)} (h : ∀ x ∈ l, SpecOK (ctx []) x.1 x.2) : EOK (ctx l) := ⟨ty_ok, envOK_of rfl h, fns_ok l, by kernel_rfl⟩
theorem E0_ok : EOK (ctx []) := ctx_ok (by simp)
end Burn.M20
namespace Burn.M20
open Go Go.BE Go.Proofs
set_option maxRecDepth 100000
set_option linter.unusedVariables false
set_option linter.unusedSimpArgs false
open Burn.Cfg
noncomputable abbrev E_C1 : Ctx := ctx []
theorem E_C1_ok : EOK E_C1 := E0_ok
def cuts_C1 : CutL := [([], 9, 0, [3, 23, 24, 25], [], []),
  ([], 11, 0, [0, 1, 12, 13], [], []),
  ([], 32, 0, [0, 1, 12, 13], [], []),
  ([], 38, 0, [0, 1, 12, 13], [], []),
  ([], 49, 0, [0, 1, 12, 13], [], [])]
def rets_C1 : FuncId → List (Option Fx)
  | 31 => [some (.dat s_api_Func)]
  | 34 => [some (.own 8 I)]
  | 52 => [some (.own 8 I)]
  | 53 => [some (.own 8 I)]
  | _ => []
def H_C1 : Hints := { cut := cutOf cuts_C1, ret := rets_C1 }
noncomputable def slices_Equal_L_int_int_L0 (s1 : List (Den I)) (s2 : List (Den I)) (t12 : Int) (t13 : Int) : Cfg := hcfg E_C1 f_slices_Equal_L_int_int 0 [(0, (.tv (.sl 8 I) s1)), (1, (.tv (.sl 8 I) s2)), (12, (vi t12)), (13, (vi t13))] [] 0
theorem slices_Equal_L_int_int_t (s1 : List (Den I)) (s2 : List (Den I)) : run E_C1 H_C1 f_slices_Equal_L_int_int 3000 (start E_C1 f_slices_Equal_L_int_int [(.tv (.sl 8 I) s1), (.tv (.sl 8 I) s2)]) = (cond (((ln I s1) : Int) != ((ln I s2) : Int)) (rt (vb false) []) (hd (slices_Equal_L_int_int_L0 s1 s2 ((ln I s1) : Int) (0 : Int)))) := by kernel_rfl
theorem slices_Equal_L_int_int_L0_t (s1 : List (Den I)) (s2 : List (Den I)) (t12 : Int) (t13 : Int) : run E_C1 H_C1 f_slices_Equal_L_int_int 3000 (slices_Equal_L_int_int_L0 s1 s2 t12 t13) = (cond (decide (t13 < t12)) (.chk (0 ≤ t13 ∧ t13 < (ln I s1)) (.chk (0 ≤ t13 ∧ t13 < (ln I s2)) (cond ((z (gd I s1 ((t13).toNat))) != (z (gd I s2 ((t13).toNat)))) (rt (vb false) []) (hd (slices_Equal_L_int_int_L0 s1 s2 t12 (IntKind.wrap .i64 (t13 + (1 : Int)))))))) (rt (vb true) [])) := by kernel_rfl
noncomputable def slices_Equal_L_api_Type_api_Type_L0 (s1 : List (Den I)) (s2 : List (Den I)) (t12 : Int) (t13 : Int) : Cfg := hcfg E_C1 f_slices_Equal_L_api_Type_api_Type 0 [(0, (.tv (.sl 8 I) s1)), (1, (.tv (.sl 8 I) s2)), (12, (vi t12)), (13, (vi t13))] [] 0
theorem slices_Equal_L_api_Type_api_Type_t (s1 : List (Den I)) (s2 : List (Den I)) : run E_C1 H_C1 f_slices_Equal_L_api_Type_api_Type 3000 (start E_C1 f_slices_Equal_L_api_Type_api_Type [(.tv (.sl 8 I) s1), (.tv (.sl 8 I) s2)]) = (cond (((ln I s1) : Int) != ((ln I s2) : Int)) (rt (vb false) []) (hd (slices_Equal_L_api_Type_api_Type_L0 s1 s2 ((ln I s1) : Int) (0 : Int)))) := by kernel_rfl
theorem slices_Equal_L_api_Type_api_Type_L0_t (s1 : List (Den I)) (s2 : List (Den I)) (t12 : Int) (t13 : Int) : run E_C1 H_C1 f_slices_Equal_L_api_Type_api_Type 3000 (slices_Equal_L_api_Type_api_Type_L0 s1 s2 t12 t13) = (cond (decide (t13 < t12)) (.chk (0 ≤ t13 ∧ t13 < (ln I s1)) (.chk (0 ≤ t13 ∧ t13 < (ln I s2)) (cond ((z (gd I s1 ((t13).toNat))) != (z (gd I s2 ((t13).toNat)))) (rt (vb false) []) (hd (slices_Equal_L_api_Type_api_Type_L0 s1 s2 t12 (IntKind.wrap .i64 (t13 + (1 : Int)))))))) (rt (vb true) [])) := by kernel_rfl
noncomputable def slices_Equal_L_int64_int64_L0 (s1 : List (Den I)) (s2 : List (Den I)) (t12 : Int) (t13 : Int) : Cfg := hcfg E_C1 f_slices_Equal_L_int64_int64 0 [(0, (.tv (.sl 8 I) s1)), (1, (.tv (.sl 8 I) s2)), (12, (vi t12)), (13, (vi t13))] [] 0
theorem slices_Equal_L_int64_int64_t (s1 : List (Den I)) (s2 : List (Den I)) : run E_C1 H_C1 f_slices_Equal_L_int64_int64 3000 (start E_C1 f_slices_Equal_L_int64_int64 [(.tv (.sl 8 I) s1), (.tv (.sl 8 I) s2)]) = (cond (((ln I s1) : Int) != ((ln I s2) : Int)) (rt (vb false) []) (hd (slices_Equal_L_int64_int64_L0 s1 s2 ((ln I s1) : Int) (0 : Int)))) := by kernel_rfl
theorem slices_Equal_L_int64_int64_L0_t (s1 : List (Den I)) (s2 : List (Den I)) (t12 : Int) (t13 : Int) : run E_C1 H_C1 f_slices_Equal_L_int64_int64 3000 (slices_Equal_L_int64_int64_L0 s1 s2 t12 t13) = (cond (decide (t13 < t12)) (.chk (0 ≤ t13 ∧ t13 < (ln I s1)) (.chk (0 ≤ t13 ∧ t13 < (ln I s2)) (cond ((z (gd I s1 ((t13).toNat))) != (z (gd I s2 ((t13).toNat)))) (rt (vb false) []) (hd (slices_Equal_L_int64_int64_L0 s1 s2 t12 (IntKind.wrap .i64 (t13 + (1 : Int)))))))) (rt (vb true) [])) := by kernel_rfl
noncomputable def slices_Equal_L_api_Pos_api_Pos_L0 (s1 : List (Den s_api_Pos)) (s2 : List (Den s_api_Pos)) (t12 : Int) (t13 : Int) : Cfg := hcfg E_C1 f_slices_Equal_L_api_Pos_api_Pos 0 [(0, (.tv (.sl 16 s_api_Pos) s1)), (1, (.tv (.sl 16 s_api_Pos) s2)), (12, (vi t12)), (13, (vi t13))] [] 0
theorem slices_Equal_L_api_Pos_api_Pos_t (s1 : List (Den s_api_Pos)) (s2 : List (Den s_api_Pos)) : run E_C1 H_C1 f_slices_Equal_L_api_Pos_api_Pos 3000 (start E_C1 f_slices_Equal_L_api_Pos_api_Pos [(.tv (.sl 16 s_api_Pos) s1), (.tv (.sl 16 s_api_Pos) s2)]) = (cond (((ln s_api_Pos s1) : Int) != ((ln s_api_Pos s2) : Int)) (rt (vb false) []) (hd (slices_Equal_L_api_Pos_api_Pos_L0 s1 s2 ((ln s_api_Pos s1) : Int) (0 : Int)))) := by kernel_rfl
theorem slices_Equal_L_api_Pos_api_Pos_L0_t (s1 : List (Den s_api_Pos)) (s2 : List (Den s_api_Pos)) (t12 : Int) (t13 : Int) : run E_C1 H_C1 f_slices_Equal_L_api_Pos_api_Pos 3000 (slices_Equal_L_api_Pos_api_Pos_L0 s1 s2 t12 t13) = (cond (decide (t13 < t12)) (.chk (0 ≤ t13 ∧ t13 < (ln s_api_Pos s1)) (.chk (0 ≤ t13 ∧ t13 < (ln s_api_Pos s2)) (cond (!(((z ((gd s_api_Pos s1 ((t13).toNat)).1)) == (z ((gd s_api_Pos s2 ((t13).toNat)).1))) && (((z (((gd s_api_Pos s1 ((t13).toNat)).2).1)) == (z (((gd s_api_Pos s2 ((t13).toNat)).2).1))) && true))) (rt (vb false) []) (hd (slices_Equal_L_api_Pos_api_Pos_L0 s1 s2 t12 (IntKind.wrap .i64 (t13 + (1 : Int)))))))) (rt (vb true) [])) := by kernel_rfl
noncomputable def law20_large_L0 (n : Int) (t23 : List (Den s_api_Block)) (t24 : Int) (t25 : Int) : Cfg := hcfg E_C1 f_law20_large 0 [(3, (vi n)), (23, (.tv (.sl 136 s_api_Block) t23)), (24, (vi t24)), (25, (vi t25))] [] 0
theorem law20_large_t (f : Den s_api_Func) : run E_C1 H_C1 f_law20_large 3000 (start E_C1 f_law20_large [(.tv s_api_Func f)]) = (cond (decide (((ln s_api_Block f.2.2.2.2.1) : Int) > (100 : Int))) (rt (vb true) []) (cond (decide (((ln I f.2.2.2.1) : Int) > (500 : Int))) (rt (vb true) []) (cond (decide (((ln I f.2.1) : Int) > (50 : Int))) (rt (vb true) []) (hd (law20_large_L0 (0 : Int) f.2.2.2.2.1 ((ln s_api_Block f.2.2.2.2.1) : Int) (0 : Int)))))) := by kernel_rfl
theorem law20_large_L0_t (n : Int) (t23 : List (Den s_api_Block)) (t24 : Int) (t25 : Int) : run E_C1 H_C1 f_law20_large 3000 (law20_large_L0 n t23 t24 t25) = (cond (decide (t25 < t24)) (.chk (0 ≤ t25 ∧ t25 < (ln s_api_Block t23)) (cond (decide (((ln s_api_Instr (((gd s_api_Block t23 ((t25).toNat)).2).1)) : Int) > (200 : Int))) (rt (vb true) []) (cond (decide (((ln I ((gd s_api_Block t23 ((t25).toNat)).1)) : Int) > (50 : Int))) (rt (vb true) []) (cond (decide (((ln s_api_Edge ((((((((gd s_api_Block t23 ((t25).toNat)).2).2).1).2).2).2).1)) : Int) > (50 : Int))) (rt (vb true) []) (hd (law20_large_L0 (IntKind.wrap .i64 (n + ((ln s_api_Instr (((gd s_api_Block t23 ((t25).toNat)).2).1)) : Int))) t23 t24 (IntKind.wrap .i64 (t25 + (1 : Int))))))))) (rt (vb (decide (n > (500 : Int)))) [])) := by kernel_rfl
theorem cfg_own_t (l : List (Den I)) : run E_C1 H_C1 f_cfg_own 3000 (start E_C1 f_cfg_own [(.tv (.sl 8 I) l)]) = (.chk (((0 : Nat) + (ln I l)) * 8 ≤ roomB) (.chk (((ln I (ap I ([] : List (Den I)) l)) : Int) = ((ln I (ap I ([] : List (Den I)) l)) : Int)) (.chk (((ln I (ap I ([] : List (Den I)) l)) : Int) = ((ln I (ap I ([] : List (Den I)) l)) : Int)) (rt (.osl 0 0 [] none) [(0, ⟨(.arr 0 8 I (ap I ([] : List (Den I)) l)), 0, [], false, none⟩)])))) := by kernel_rfl
theorem slices_Clone_L_api_Type_api_Type_t (s : List (Den I)) : run E_C1 H_C1 f_slices_Clone_L_api_Type_api_Type 3000 (start E_C1 f_slices_Clone_L_api_Type_api_Type [(.tv (.sl 8 I) s)]) = (.any (fun y => y = true → (ln I s) = 0) fun q1 => (cond q1 (rt (.osl 0 0 [] none) [(0, ⟨(.arr 0 8 I ([] : List (Den I))), 0, [], false, none⟩)]) (.chk (((0 : Nat) + (ln I s)) * 8 ≤ roomB) (rt (.osl 0 0 [] none) [(0, ⟨(.arr 0 8 I (ap I ([] : List (Den I)) s)), 0, [], false, none⟩)])))) := by kernel_rfl
theorem slices_Clone_L_int64_int64_t (s : List (Den I)) : run E_C1 H_C1 f_slices_Clone_L_int64_int64 3000 (start E_C1 f_slices_Clone_L_int64_int64 [(.tv (.sl 8 I) s)]) = (.any (fun y => y = true → (ln I s) = 0) fun q1 => (cond q1 (rt (.osl 0 0 [] none) [(0, ⟨(.arr 0 8 I ([] : List (Den I))), 0, [], false, none⟩)]) (.chk (((0 : Nat) + (ln I s)) * 8 ≤ roomB) (rt (.osl 0 0 [] none) [(0, ⟨(.arr 0 8 I (ap I ([] : List (Den I)) s)), 0, [], false, none⟩)])))) := by kernel_rfl
theorem cfg_inside_t (f : Den s_api_Func) (at_ : Den s_api_Pos) : run E_C1 H_C1 f_cfg_inside 3000 (start E_C1 f_cfg_inside [(.tv s_api_Func f), (.tv s_api_Pos at_)]) = (cond (decide ((z at_.1) ≥ (0 : Int))) (cond (decide ((z at_.1) < ((ln s_api_Block f.2.2.2.2.1) : Int))) (cond (decide ((z at_.2.1) ≥ (-1 : Int))) (.chk (0 ≤ (z at_.1) ∧ (z at_.1) < (ln s_api_Block f.2.2.2.2.1)) (rt (vb (decide ((z at_.2.1) ≤ ((ln s_api_Instr (((gd s_api_Block f.2.2.2.2.1 (((z at_.1)).toNat)).2).1)) : Int)))) [])) (rt (vb false) [])) (rt (vb false) [])) (rt (vb false) [])) := by kernel_rfl
theorem r20_In_t (f : Den s_api_Func) (at_ : Den s_api_Pos) : run E_C1 H_C1 f_r20_In 3000 (start E_C1 f_r20_In [(.tv s_api_Func f), (.tv s_api_Pos at_)]) = (cond (decide ((z at_.1) ≥ (0 : Int))) (cond (decide ((z at_.1) < ((ln s_api_Block f.2.2.2.2.1) : Int))) (cond (decide ((z at_.2.1) ≥ (-1 : Int))) (.chk (0 ≤ (z at_.1) ∧ (z at_.1) < (ln s_api_Block f.2.2.2.2.1)) (rt (vb (decide ((z at_.2.1) ≤ ((ln s_api_Instr (((gd s_api_Block f.2.2.2.2.1 (((z at_.1)).toNat)).2).1)) : Int)))) [])) (rt (vb false) [])) (rt (vb false) [])) (rt (vb false) [])) := by kernel_rfl
theorem law20_twice_t : run E_C1 H_C1 f_law20_twice 3000 (start E_C1 f_law20_twice []) = (.chk ((0 : Nat) < (1 : Nat)) (.chk ((0 : Nat) < (1 : Nat)) (.chk ((0 : Nat) < (1 : Nat)) (rt (.tv s_api_Func (⟨#[102]⟩, ([(0 : Int), (1 : Int)] : List (Den I)), (3 : Int), ([(3 : Int), (1 : Int), (3 : Int)] : List (Den I)), ([(([] : List (Den I)), ([((5 : Int), (3 : Int), (2 : Int), ([(0 : Int), (0 : Int)] : List (Den I)), (0 : Int), (0 : Int), (0 : Int), false, ())] : List (Den s_api_Instr)), ((2 : Int), ([(1 : Int)] : List (Den I)), ([] : List (Den I)), ([((1 : Int), ([] : List (Den I)), ()), ((1 : Int), ([] : List (Den I)), ())] : List (Den s_api_Edge)), (0 : Int), ()), ()), (([] : List (Den I)), ([] : List (Den s_api_Instr)), ((4 : Int), ([(2 : Int)] : List (Den I)), ([] : List (Den I)), ([] : List (Den s_api_Edge)), (0 : Int), ()), ())] : List (Den s_api_Block)), ())) [])))) := by kernel_rfl
def eI (x y : Den I) : Bool := z x == z y
def eP (x y : Den s_api_Pos) : Bool := z x.1 == z y.1 && (z x.2.1 == z y.2.1 && true)
def eqI (a b : List (Den I)) : Bool := eqL eI a b
def eqP (a b : List (Den s_api_Pos)) : Bool := eqL eP a b
theorem slices_Equal_L_int_int_l (a b : List (Den I)) (h_a : ln I a < 9223372036854775807) (hl : ln I a = ln I b) : ∀ i, i ≤ ln I a → Runs E_C1 (slices_Equal_L_int_int_L0 a b (ln I a : Nat) i) (fun x h => x = vb (eqL eI (a.drop i) (b.drop i)) ∧ h = []) :=
  up_ind (.tree E_C1_ok (slices_Equal_L_int_int_L0_t _ _ _ _) (by
    rw [show b.drop (ln I a) = [] from List.drop_eq_nil_of_le (by rw [hl]; exact Nat.le_refl _), drop_ln]
    simp only [wp_iff, chk_iff, know_iff, any_iff, rt_iff, hd_iff, true_imp_iff, true_and, and_true, and_self, lt01, Int.ofNat_lt, Int.ofNat_le, Int.natCast_nonneg, Int.toNat_natCast, decide_true, decide_false, Bool.true_eq_false, Bool.false_eq_true, false_imp_iff, Nat.lt_irrefl, imp_self, implies_true,  eqL]))
    fun i hi ih => .tree E_C1_ok (slices_Equal_L_int_int_L0_t _ _ _ _) (by
      have hb : i < ln I b := hl ▸ hi
      rw [drop_gd (l := a) (i := i) hi, drop_gd (l := b) (i := i) hb]
      simp only [wp_iff, chk_iff, know_iff, any_iff, rt_iff, hd_iff, true_imp_iff, true_and, and_true, and_self, lt01, Int.ofNat_lt, Int.ofNat_le, Int.natCast_nonneg, Int.toNat_natCast, decide_true, decide_false, Bool.true_eq_false, Bool.false_eq_true, false_imp_iff, Nat.lt_irrefl, imp_self, implies_true,  hi, hb, wrapS hi h_a]
      exact and_step (b := eI (gd I a i) (gd I b i)) ih)
def k_slices_Equal_L_int_int : Con := con [.d (.sl 8 I), .d (.sl 8 I)] .bool (fun x => True) fun x => eqI x.1 x.2.1
theorem m_slices_Equal_L_int_int (s1 : List (Den I)) (s2 : List (Den I)) (h_s1 : okD (.sl 8 I) s1) (h_s2 : okD (.sl 8 I) s2) (hp : True) : Runs E_C1 (start E_C1 f_slices_Equal_L_int_int [(.tv (.sl 8 I) s1), (.tv (.sl 8 I) s2)]) (fun r_ h_ => r_ = (vb (eqI s1 s2)) ∧ h_ = []) := .tree E_C1_ok (slices_Equal_L_int_int_t s1 s2) (by
  unfold eqI
  simp only [wp_iff, chk_iff, know_iff, any_iff, rt_iff, hd_iff, true_imp_iff, true_and, and_true, and_self, lt01]
  by_cases hl : ln I s1 = ln I s2
  · have : ((ln I s1 : Int) != (ln I s2 : Int)) = false := by simp [hl]
    rw [this]
    exact ⟨fun h => absurd h (by decide), fun _ => slices_Equal_L_int_int_l s1 s2 (room_lt h_s1.1) hl 0 (Nat.zero_le _)⟩
  · have h1 : ((ln I s1 : Int) != (ln I s2 : Int)) = true := by simp; omega
    rw [h1, eqL_len hl]
    exact ⟨fun _ => rfl, fun h => absurd h (by decide)⟩)
theorem c_slices_Equal_L_int_int : SpecOK E_C1 f_slices_Equal_L_int_int k_slices_Equal_L_int_int.spec := spec_of fun x hx hp => ⟨rfl, m_slices_Equal_L_int_int x.1 x.2.1 hx.1 hx.2.1 hp⟩
theorem slices_Equal_L_api_Type_api_Type_l (a b : List (Den I)) (h_a : ln I a < 9223372036854775807) (hl : ln I a = ln I b) : ∀ i, i ≤ ln I a → Runs E_C1 (slices_Equal_L_api_Type_api_Type_L0 a b (ln I a : Nat) i) (fun x h => x = vb (eqL eI (a.drop i) (b.drop i)) ∧ h = []) :=
  up_ind (.tree E_C1_ok (slices_Equal_L_api_Type_api_Type_L0_t _ _ _ _) (by
    rw [show b.drop (ln I a) = [] from List.drop_eq_nil_of_le (by rw [hl]; exact Nat.le_refl _), drop_ln]
    simp only [wp_iff, chk_iff, know_iff, any_iff, rt_iff, hd_iff, true_imp_iff, true_and, and_true, and_self, lt01, Int.ofNat_lt, Int.ofNat_le, Int.natCast_nonneg, Int.toNat_natCast, decide_true, decide_false, Bool.true_eq_false, Bool.false_eq_true, false_imp_iff, Nat.lt_irrefl, imp_self, implies_true,  eqL]))
    fun i hi ih => .tree E_C1_ok (slices_Equal_L_api_Type_api_Type_L0_t _ _ _ _) (by
      have hb : i < ln I b := hl ▸ hi
      rw [drop_gd (l := a) (i := i) hi, drop_gd (l := b) (i := i) hb]
      simp only [wp_iff, chk_iff, know_iff, any_iff, rt_iff, hd_iff, true_imp_iff, true_and, and_true, and_self, lt01, Int.ofNat_lt, Int.ofNat_le, Int.natCast_nonneg, Int.toNat_natCast, decide_true, decide_false, Bool.true_eq_false, Bool.false_eq_true, false_imp_iff, Nat.lt_irrefl, imp_self, implies_true,  hi, hb, wrapS hi h_a]
      exact and_step (b := eI (gd I a i) (gd I b i)) ih)
def k_slices_Equal_L_api_Type_api_Type : Con := con [.d (.sl 8 I), .d (.sl 8 I)] .bool (fun x => True) fun x => eqI x.1 x.2.1
theorem m_slices_Equal_L_api_Type_api_Type (s1 : List (Den I)) (s2 : List (Den I)) (h_s1 : okD (.sl 8 I) s1) (h_s2 : okD (.sl 8 I) s2) (hp : True) : Runs E_C1 (start E_C1 f_slices_Equal_L_api_Type_api_Type [(.tv (.sl 8 I) s1), (.tv (.sl 8 I) s2)]) (fun r_ h_ => r_ = (vb (eqI s1 s2)) ∧ h_ = []) := .tree E_C1_ok (slices_Equal_L_api_Type_api_Type_t s1 s2) (by
  unfold eqI
  simp only [wp_iff, chk_iff, know_iff, any_iff, rt_iff, hd_iff, true_imp_iff, true_and, and_true, and_self, lt01]
  by_cases hl : ln I s1 = ln I s2
  · have : ((ln I s1 : Int) != (ln I s2 : Int)) = false := by simp [hl]
    rw [this]
    exact ⟨fun h => absurd h (by decide), fun _ => slices_Equal_L_api_Type_api_Type_l s1 s2 (room_lt h_s1.1) hl 0 (Nat.zero_le _)⟩
  · have h1 : ((ln I s1 : Int) != (ln I s2 : Int)) = true := by simp; omega
    rw [h1, eqL_len hl]
    exact ⟨fun _ => rfl, fun h => absurd h (by decide)⟩)
theorem c_slices_Equal_L_api_Type_api_Type : SpecOK E_C1 f_slices_Equal_L_api_Type_api_Type k_slices_Equal_L_api_Type_api_Type.spec := spec_of fun x hx hp => ⟨rfl, m_slices_Equal_L_api_Type_api_Type x.1 x.2.1 hx.1 hx.2.1 hp⟩
theorem slices_Equal_L_int64_int64_l (a b : List (Den I)) (h_a : ln I a < 9223372036854775807) (hl : ln I a = ln I b) : ∀ i, i ≤ ln I a → Runs E_C1 (slices_Equal_L_int64_int64_L0 a b (ln I a : Nat) i) (fun x h => x = vb (eqL eI (a.drop i) (b.drop i)) ∧ h = []) :=
  up_ind (.tree E_C1_ok (slices_Equal_L_int64_int64_L0_t _ _ _ _) (by
    rw [show b.drop (ln I a) = [] from List.drop_eq_nil_of_le (by rw [hl]; exact Nat.le_refl _), drop_ln]
    simp only [wp_iff, chk_iff, know_iff, any_iff, rt_iff, hd_iff, true_imp_iff, true_and, and_true, and_self, lt01, Int.ofNat_lt, Int.ofNat_le, Int.natCast_nonneg, Int.toNat_natCast, decide_true, decide_false, Bool.true_eq_false, Bool.false_eq_true, false_imp_iff, Nat.lt_irrefl, imp_self, implies_true,  eqL]))
    fun i hi ih => .tree E_C1_ok (slices_Equal_L_int64_int64_L0_t _ _ _ _) (by
      have hb : i < ln I b := hl ▸ hi
      rw [drop_gd (l := a) (i := i) hi, drop_gd (l := b) (i := i) hb]
      simp only [wp_iff, chk_iff, know_iff, any_iff, rt_iff, hd_iff, true_imp_iff, true_and, and_true, and_self, lt01, Int.ofNat_lt, Int.ofNat_le, Int.natCast_nonneg, Int.toNat_natCast, decide_true, decide_false, Bool.true_eq_false, Bool.false_eq_true, false_imp_iff, Nat.lt_irrefl, imp_self, implies_true,  hi, hb, wrapS hi h_a]
      exact and_step (b := eI (gd I a i) (gd I b i)) ih)
def k_slices_Equal_L_int64_int64 : Con := con [.d (.sl 8 I), .d (.sl 8 I)] .bool (fun x => True) fun x => eqI x.1 x.2.1
theorem m_slices_Equal_L_int64_int64 (s1 : List (Den I)) (s2 : List (Den I)) (h_s1 : okD (.sl 8 I) s1) (h_s2 : okD (.sl 8 I) s2) (hp : True) : Runs E_C1 (start E_C1 f_slices_Equal_L_int64_int64 [(.tv (.sl 8 I) s1), (.tv (.sl 8 I) s2)]) (fun r_ h_ => r_ = (vb (eqI s1 s2)) ∧ h_ = []) := .tree E_C1_ok (slices_Equal_L_int64_int64_t s1 s2) (by
  unfold eqI
  simp only [wp_iff, chk_iff, know_iff, any_iff, rt_iff, hd_iff, true_imp_iff, true_and, and_true, and_self, lt01]
  by_cases hl : ln I s1 = ln I s2
  · have : ((ln I s1 : Int) != (ln I s2 : Int)) = false := by simp [hl]
    rw [this]
    exact ⟨fun h => absurd h (by decide), fun _ => slices_Equal_L_int64_int64_l s1 s2 (room_lt h_s1.1) hl 0 (Nat.zero_le _)⟩
  · have h1 : ((ln I s1 : Int) != (ln I s2 : Int)) = true := by simp; omega
    rw [h1, eqL_len hl]
    exact ⟨fun _ => rfl, fun h => absurd h (by decide)⟩)
theorem c_slices_Equal_L_int64_int64 : SpecOK E_C1 f_slices_Equal_L_int64_int64 k_slices_Equal_L_int64_int64.spec := spec_of fun x hx hp => ⟨rfl, m_slices_Equal_L_int64_int64 x.1 x.2.1 hx.1 hx.2.1 hp⟩
theorem slices_Equal_L_api_Pos_api_Pos_l (a b : List (Den s_api_Pos)) (h_a : ln s_api_Pos a < 9223372036854775807) (hl : ln s_api_Pos a = ln s_api_Pos b) : ∀ i, i ≤ ln s_api_Pos a → Runs E_C1 (slices_Equal_L_api_Pos_api_Pos_L0 a b (ln s_api_Pos a : Nat) i) (fun x h => x = vb (eqL eP (a.drop i) (b.drop i)) ∧ h = []) :=
  up_ind (.tree E_C1_ok (slices_Equal_L_api_Pos_api_Pos_L0_t _ _ _ _) (by
    rw [show b.drop (ln s_api_Pos a) = [] from List.drop_eq_nil_of_le (by rw [hl]; exact Nat.le_refl _), drop_ln]
    simp only [wp_iff, chk_iff, know_iff, any_iff, rt_iff, hd_iff, true_imp_iff, true_and, and_true, and_self, lt01, Int.ofNat_lt, Int.ofNat_le, Int.natCast_nonneg, Int.toNat_natCast, decide_true, decide_false, Bool.true_eq_false, Bool.false_eq_true, false_imp_iff, Nat.lt_irrefl, imp_self, implies_true,  eqL]))
    fun i hi ih => .tree E_C1_ok (slices_Equal_L_api_Pos_api_Pos_L0_t _ _ _ _) (by
      have hb : i < ln s_api_Pos b := hl ▸ hi
      rw [drop_gd (l := a) (i := i) hi, drop_gd (l := b) (i := i) hb]
      simp only [wp_iff, chk_iff, know_iff, any_iff, rt_iff, hd_iff, true_imp_iff, true_and, and_true, and_self, lt01, Int.ofNat_lt, Int.ofNat_le, Int.natCast_nonneg, Int.toNat_natCast, decide_true, decide_false, Bool.true_eq_false, Bool.false_eq_true, false_imp_iff, Nat.lt_irrefl, imp_self, implies_true,  hi, hb, wrapS hi h_a]
      exact and_step (b := eP (gd s_api_Pos a i) (gd s_api_Pos b i)) ih)
def k_slices_Equal_L_api_Pos_api_Pos : Con := con [.d (.sl 16 s_api_Pos), .d (.sl 16 s_api_Pos)] .bool (fun x => True) fun x => eqP x.1 x.2.1
theorem m_slices_Equal_L_api_Pos_api_Pos (s1 : List (Den s_api_Pos)) (s2 : List (Den s_api_Pos)) (h_s1 : okD (.sl 16 s_api_Pos) s1) (h_s2 : okD (.sl 16 s_api_Pos) s2) (hp : True) : Runs E_C1 (start E_C1 f_slices_Equal_L_api_Pos_api_Pos [(.tv (.sl 16 s_api_Pos) s1), (.tv (.sl 16 s_api_Pos) s2)]) (fun r_ h_ => r_ = (vb (eqP s1 s2)) ∧ h_ = []) := .tree E_C1_ok (slices_Equal_L_api_Pos_api_Pos_t s1 s2) (by
  unfold eqP
  simp only [wp_iff, chk_iff, know_iff, any_iff, rt_iff, hd_iff, true_imp_iff, true_and, and_true, and_self, lt01]
  by_cases hl : ln s_api_Pos s1 = ln s_api_Pos s2
  · have : ((ln s_api_Pos s1 : Int) != (ln s_api_Pos s2 : Int)) = false := by simp [hl]
    rw [this]
    exact ⟨fun h => absurd h (by decide), fun _ => slices_Equal_L_api_Pos_api_Pos_l s1 s2 (room_lt h_s1.1) hl 0 (Nat.zero_le _)⟩
  · have h1 : ((ln s_api_Pos s1 : Int) != (ln s_api_Pos s2 : Int)) = true := by simp; omega
    rw [h1, eqL_len hl]
    exact ⟨fun _ => rfl, fun h => absurd h (by decide)⟩)
theorem c_slices_Equal_L_api_Pos_api_Pos : SpecOK E_C1 f_slices_Equal_L_api_Pos_api_Pos k_slices_Equal_L_api_Pos_api_Pos.spec := spec_of fun x hx hp => ⟨rfl, m_slices_Equal_L_api_Pos_api_Pos x.1 x.2.1 hx.1 hx.2.1 hp⟩
abbrev Fn := Den s_api_Func
abbrev Blk := Den s_api_Block
abbrev blocks (f : Fn) : List (Den s_api_Block) := f.2.2.2.2.1
abbrev bIns (b : Blk) : List (Den s_api_Instr) := b.2.1
abbrev bPar (b : Blk) : List (Den I) := b.1
abbrev tArgs (b : Blk) : List (Den I) := b.2.2.1.2.1
abbrev tSuc (b : Blk) : List (Den s_api_Edge) := b.2.2.1.2.2.2.1
abbrev iArgs (i : Den s_api_Instr) : List (Den I) := i.2.2.2.1
abbrev iDst (i : Den s_api_Instr) : Int := i.2.2.1
abbrev blk (f : Fn) (n : Int) : Blk := gd s_api_Block (blocks f) n.toNat
def bigB (b : Blk) : Bool := decide ((ln s_api_Instr (bIns b) : Int) > 200) || (decide ((ln I (bPar b) : Int) > 50) || decide ((ln s_api_Edge (tSuc b) : Int) > 50))
def largeL : List (Den s_api_Block) → Int → Bool
  | [], n => decide (n > 500)
  | b :: l, n => bigB b || largeL l (IntKind.wrap .i64 (n + (ln s_api_Instr (bIns b) : Int)))
def largeF (f : Fn) : Bool := (decide ((ln s_api_Block (blocks f) : Int) > 100) || (decide ((ln I f.2.2.2.1 : Int) > 500) || decide ((ln I f.2.1 : Int) > 50))) || largeL (blocks f) 0
theorem law20_large_l (l : List (Den s_api_Block)) (hl : ln s_api_Block l < 9223372036854775807) : ∀ i, i ≤ ln s_api_Block l → ∀ n : Int, Runs E_C1 (law20_large_L0 n l (ln s_api_Block l : Nat) i) (fun x h => x = vb (largeL (l.drop i) n) ∧ h = []) :=
  up_ind (fun n => .tree E_C1_ok (law20_large_L0_t _ _ _ _) (by
    rw [drop_ln]
    simp only [wp_iff, chk_iff, know_iff, any_iff, rt_iff, hd_iff, true_imp_iff, true_and, and_true, and_self, lt01, Int.ofNat_lt, Int.ofNat_le, Int.natCast_nonneg, Int.toNat_natCast, decide_true, decide_false, Bool.true_eq_false, Bool.false_eq_true, false_imp_iff, Nat.lt_irrefl, imp_self, implies_true,  largeL]))
    fun i hi ih n => .tree E_C1_ok (law20_large_L0_t _ _ _ _) (by
      rw [drop_gd (l := l) (i := i) hi]
      simp only [wp_iff, chk_iff, know_iff, any_iff, rt_iff, hd_iff, true_imp_iff, true_and, and_true, and_self, lt01, Int.ofNat_lt, Int.ofNat_le, Int.natCast_nonneg, Int.toNat_natCast, decide_true, decide_false, Bool.true_eq_false, Bool.false_eq_true, false_imp_iff, Nat.lt_irrefl, imp_self, implies_true,  hi, wrapS hi hl]
      exact or3_step (ih _))
def k_law20_large : Con := con [.d s_api_Func] .bool (fun x => True) fun x => largeF x.1
theorem m_law20_large (f : Den s_api_Func) (h_f : okD s_api_Func f) (hp : True) : Runs E_C1 (start E_C1 f_law20_large [(.tv s_api_Func f)]) (fun r_ h_ => r_ = (vb (largeF f)) ∧ h_ = []) := .tree E_C1_ok (law20_large_t f) (by
  unfold largeF
  simp only [wp_iff, chk_iff, know_iff, any_iff, rt_iff, hd_iff, true_imp_iff, true_and, and_true, and_self, lt01]
  obtain ⟨_, _, _, _, h1, _⟩ := h_f
  exact or3_step (law20_large_l _ (room_lt h1.1) 0 (Nat.zero_le _) 0))
theorem c_law20_large : SpecOK E_C1 f_law20_large k_law20_large.spec := spec_of fun x hx hp => ⟨rfl, m_law20_large x.1 hx.1 hp⟩
def idR (r : Int) : Int := r
def idL (l : List (Den I)) : Den (.sl 8 I) := l

def k_cfg_own : Con := conO 99 [.d (.sl 8 I)] (.sl 8 I) (fun x => True) fun x => idL x.1
theorem m_cfg_own (l : List (Den I)) (h_l : okD (.sl 8 I) l) (hp : True) : Runs E_C1 (start E_C1 f_cfg_own [(.tv (.sl 8 I) l)]) (fun r_ h_ => r_ = (ownRes 99 (.sl 8 I) (idL l)).1 ∧ h_ = (ownRes 99 (.sl 8 I) (idL l)).2) := .tree E_C1_ok (cfg_own_t l) (by
  simp only [wp_iff, chk_iff, know_iff, any_iff, rt_iff, hd_iff, true_imp_iff, true_and, and_true, and_self, lt01]
  have := h_l.1.1
  rw [Nat.zero_add]
  exact ⟨this, fun _ => ⟨rfl, rfl⟩⟩)
theorem c_cfg_own : SpecOK E_C1 f_cfg_own k_cfg_own.spec := spec_of fun x hx hp => ⟨rfl, m_cfg_own x.1 hx.1 hp⟩

def k_slices_Clone_L_api_Type_api_Type : Con := conO 99 [.d (.sl 8 I)] (.sl 8 I) (fun x => True) fun x => idL x.1
theorem m_slices_Clone_L_api_Type_api_Type (s : List (Den I)) (h_s : okD (.sl 8 I) s) (hp : True) : Runs E_C1 (start E_C1 f_slices_Clone_L_api_Type_api_Type [(.tv (.sl 8 I) s)]) (fun r_ h_ => r_ = (ownRes 99 (.sl 8 I) (idL s)).1 ∧ h_ = (ownRes 99 (.sl 8 I) (idL s)).2) := .tree E_C1_ok (slices_Clone_L_api_Type_api_Type_t s) (by
  simp only [wp_iff, chk_iff, know_iff, any_iff, rt_iff, hd_iff, true_imp_iff, true_and, and_true, and_self, lt01]
  intro b hb
  have := h_s.1.1
  rw [Nat.zero_add]
  refine ⟨fun h => ?_, fun h => ⟨this, fun _ => ⟨rfl, rfl⟩⟩⟩
  have h0 : ln I s = 0 := hb h
  have : s = [] := List.eq_nil_of_length_eq_zero h0
  subst this
  exact ⟨rfl, rfl⟩)
theorem c_slices_Clone_L_api_Type_api_Type : SpecOK E_C1 f_slices_Clone_L_api_Type_api_Type k_slices_Clone_L_api_Type_api_Type.spec := spec_of fun x hx hp => ⟨rfl, m_slices_Clone_L_api_Type_api_Type x.1 hx.1 hp⟩

def k_slices_Clone_L_int64_int64 : Con := conO 99 [.d (.sl 8 I)] (.sl 8 I) (fun x => True) fun x => idL x.1
theorem m_slices_Clone_L_int64_int64 (s : List (Den I)) (h_s : okD (.sl 8 I) s) (hp : True) : Runs E_C1 (start E_C1 f_slices_Clone_L_int64_int64 [(.tv (.sl 8 I) s)]) (fun r_ h_ => r_ = (ownRes 99 (.sl 8 I) (idL s)).1 ∧ h_ = (ownRes 99 (.sl 8 I) (idL s)).2) := .tree E_C1_ok (slices_Clone_L_int64_int64_t s) (by
  simp only [wp_iff, chk_iff, know_iff, any_iff, rt_iff, hd_iff, true_imp_iff, true_and, and_true, and_self, lt01]
  intro b hb
  have := h_s.1.1
  rw [Nat.zero_add]
  refine ⟨fun h => ?_, fun h => ⟨this, fun _ => ⟨rfl, rfl⟩⟩⟩
  have h0 : ln I s = 0 := hb h
  have : s = [] := List.eq_nil_of_length_eq_zero h0
  subst this
  exact ⟨rfl, rfl⟩)
theorem c_slices_Clone_L_int64_int64 : SpecOK E_C1 f_slices_Clone_L_int64_int64 k_slices_Clone_L_int64_int64.spec := spec_of fun x hx hp => ⟨rfl, m_slices_Clone_L_int64_int64 x.1 hx.1 hp⟩
def insideF (f : Fn) (p : Den s_api_Pos) : Bool := decide (z p.1 ≥ 0) && (decide (z p.1 < (ln s_api_Block (blocks f) : Int)) && (decide (z p.2.1 ≥ -1) && decide (z p.2.1 ≤ (ln s_api_Instr (bIns (blk f (z p.1))) : Int))))

def k_cfg_inside : Con := con [.d s_api_Func, .d s_api_Pos] .bool (fun x => True) fun x => insideF x.1 x.2.1
theorem m_cfg_inside (f : Den s_api_Func) (at_ : Den s_api_Pos) (h_f : okD s_api_Func f) (h_at_ : okD s_api_Pos at_) (hp : True) : Runs E_C1 (start E_C1 f_cfg_inside [(.tv s_api_Func f), (.tv s_api_Pos at_)]) (fun r_ h_ => r_ = (vb (insideF f at_)) ∧ h_ = []) := .tree E_C1_ok (cfg_inside_t f at_) (by
  unfold insideF
  simp only [wp_iff, chk_iff, know_iff, any_iff, rt_iff, hd_iff, true_imp_iff, true_and, and_true, and_self, lt01]
  refine ⟨fun h0 => ⟨fun h1 => ⟨fun h2 => ?_, fun h2 => ?_⟩, fun h1 => ?_⟩, fun h0 => ?_⟩
  · have a := of_decide_eq_true h0
    have b := of_decide_eq_true h1
    rw [h0, h1, h2]
    exact ⟨⟨a, b⟩, fun _ => rfl⟩
  · rw [h0, h1, h2]; rfl
  · rw [h0, h1]; rfl
  · rw [h0]; rfl)
theorem c_cfg_inside : SpecOK E_C1 f_cfg_inside k_cfg_inside.spec := spec_of fun x hx hp => ⟨rfl, m_cfg_inside x.1 x.2.1 hx.1 hx.2.1 hp⟩

def k_r20_In : Con := con [.d s_api_Func, .d s_api_Pos] .bool (fun x => True) fun x => insideF x.1 x.2.1
theorem m_r20_In (f : Den s_api_Func) (at_ : Den s_api_Pos) (h_f : okD s_api_Func f) (h_at_ : okD s_api_Pos at_) (hp : True) : Runs E_C1 (start E_C1 f_r20_In [(.tv s_api_Func f), (.tv s_api_Pos at_)]) (fun r_ h_ => r_ = (vb (insideF f at_)) ∧ h_ = []) := .tree E_C1_ok (r20_In_t f at_) (by
  unfold insideF
  simp only [wp_iff, chk_iff, know_iff, any_iff, rt_iff, hd_iff, true_imp_iff, true_and, and_true, and_self, lt01]
  refine ⟨fun h0 => ⟨fun h1 => ⟨fun h2 => ?_, fun h2 => ?_⟩, fun h1 => ?_⟩, fun h0 => ?_⟩
  · have a := of_decide_eq_true h0
    have b := of_decide_eq_true h1
    rw [h0, h1, h2]
    exact ⟨⟨a, b⟩, fun _ => rfl⟩
  · rw [h0, h1, h2]; rfl
  · rw [h0, h1]; rfl
  · rw [h0]; rfl)
theorem c_r20_In : SpecOK E_C1 f_r20_In k_r20_In.spec := spec_of fun x hx hp => ⟨rfl, m_r20_In x.1 x.2.1 hx.1 hx.2.1 hp⟩
def twiceF : Fn := (⟨#[102]⟩, ([(0 : Int), (1 : Int)] : List (Den I)), (3 : Int), ([(3 : Int), (1 : Int), (3 : Int)] : List (Den I)), ([(([] : List (Den I)), ([((5 : Int), (3 : Int), (2 : Int), ([(0 : Int), (0 : Int)] : List (Den I)), (0 : Int), (0 : Int), (0 : Int), false, ())] : List (Den s_api_Instr)), ((2 : Int), ([(1 : Int)] : List (Den I)), ([] : List (Den I)), ([((1 : Int), ([] : List (Den I)), ()), ((1 : Int), ([] : List (Den I)), ())] : List (Den s_api_Edge)), (0 : Int), ()), ()), (([] : List (Den I)), ([] : List (Den s_api_Instr)), ((4 : Int), ([(2 : Int)] : List (Den I)), ([] : List (Den I)), ([] : List (Den s_api_Edge)), (0 : Int), ()), ())] : List (Den s_api_Block)), ())

def k_law20_twice : Con := con [] s_api_Func (fun x => True) fun x => twiceF
theorem m_law20_twice (hp : True) : Runs E_C1 (start E_C1 f_law20_twice []) (fun r_ h_ => r_ = (.tv s_api_Func (twiceF)) ∧ h_ = []) := .tree E_C1_ok (law20_twice_t) (by
  unfold twiceF
  simp only [wp_iff, chk_iff, know_iff, any_iff, rt_iff, hd_iff, true_imp_iff, true_and, and_true, and_self, lt01])
theorem c_law20_twice : SpecOK E_C1 f_law20_twice k_law20_twice.spec := spec_of fun x hx hp => ⟨rfl, m_law20_twice hp⟩
def L_C1 : List (FuncId × FSpec) := [(f_slices_Equal_L_int_int, k_slices_Equal_L_int_int.spec), (f_slices_Equal_L_api_Type_api_Type, k_slices_Equal_L_api_Type_api_Type.spec), (f_slices_Equal_L_int64_int64, k_slices_Equal_L_int64_int64.spec), (f_slices_Equal_L_api_Pos_api_Pos, k_slices_Equal_L_api_Pos_api_Pos.spec), (f_law20_large, k_law20_large.spec), (f_cfg_own, k_cfg_own.spec), (f_slices_Clone_L_api_Type_api_Type, k_slices_Clone_L_api_Type_api_Type.spec), (f_slices_Clone_L_int64_int64, k_slices_Clone_L_int64_int64.spec), (f_cfg_inside, k_cfg_inside.spec), (f_r20_In, k_r20_In.spec), (f_law20_twice, k_law20_twice.spec)] ++ []
theorem L_C1_ok : ∀ x ∈ L_C1, SpecOK (ctx []) x.1 x.2 := by
  unfold L_C1
  simp only [List.cons_append, List.nil_append, List.forall_mem_cons]
  exact ⟨c_slices_Equal_L_int_int, c_slices_Equal_L_api_Type_api_Type, c_slices_Equal_L_int64_int64, c_slices_Equal_L_api_Pos_api_Pos, c_law20_large, c_cfg_own, c_slices_Clone_L_api_Type_api_Type, c_slices_Clone_L_int64_int64, c_cfg_inside, c_r20_In, c_law20_twice, by simp⟩
end Burn.M20
namespace Burn.M20
open Go Go.BE Go.Proofs
set_option maxRecDepth 100000
set_option linter.unusedVariables false
set_option linter.unusedSimpArgs false
open Burn.Cfg
noncomputable abbrev E_C2 : Ctx := ctx L_C1
theorem E_C2_ok : EOK E_C2 := ctx_ok L_C1_ok
def cuts_C2 : CutL := [([], 51, 0, [1, 4, 9, 10, 11], [], [])]
def rets_C2 : FuncId → List (Option Fx)
  | 51 => [some (.own 8 I)]
  | _ => []
def H_C2 : Hints := { cut := cutOf cuts_C2, ret := rets_C2 }
theorem cfg_clone_cl1_t (r : Int) : run E_C2 H_C2 f_cfg_clone_cl1 3000 (start E_C2 f_cfg_clone_cl1 [(vi r)]) = (rt (vi r) []) := by kernel_rfl
theorem cfg_Permute_cl1_t (r : Int) (x : List (Den I)) : run E_C2 H_C2 f_cfg_Permute_cl1 3000 (start E_C2 f_cfg_Permute_cl1 [(vi r), (.rtp (.sl 8 I) x)]) = (cond (decide (r < (0 : Int))) (rt (vi r) []) (cond (decide (r ≥ ((ln I x) : Int))) (rt (vi r) []) (.chk (0 ≤ r ∧ r < (ln I x)) (rt (vi (z (gd I x ((r).toNat)))) [])))) := by kernel_rfl
noncomputable def allC_L0 (t10 : Int) (t11 : Int) (c : List (Den I)) : Cfg := hcfg E_C2 f_cfg_mapped_cl1 0 [(1, (.rop [(.fn f_cfg_clone_cl1 [])] 0)), (4, (.osl 0 0 [] none)), (9, (.osl 0 0 [] none)), (10, (vi t10)), (11, (vi t11))] [(0, ⟨(.arr 0 8 I c), 0, [], false, none⟩)] 1
theorem allC_t (l : List (Den I)) : run E_C2 H_C2 f_cfg_mapped_cl1 3000 (start E_C2 f_cfg_mapped_cl1 [(.tv (.sl 8 I) l), (.rop [(.fn f_cfg_clone_cl1 [])] 0)]) = (.chk (True) (.know True (hd (allC_L0 ((ln I (idL l)) : Int) (0 : Int) (idL l))))) := by kernel_rfl
theorem allC_L0_t (t10 : Int) (t11 : Int) (c : List (Den I)) : run E_C2 H_C2 f_cfg_mapped_cl1 3000 (allC_L0 t10 t11 c) = (cond (decide (t11 < t10)) (.chk (0 ≤ t11 ∧ t11 < (ln I c)) (.chk ((t11).toNat < (ln I c)) (.chk (0 ≤ t11 ∧ t11 < (ln I c)) (.chk ((t11).toNat < (ln I c)) (hd (allC_L0 t10 (IntKind.wrap .i64 (t11 + (1 : Int))) (st I c ((t11).toNat) (gd I c ((t11).toNat))))))))) (rt (.osl 0 0 [] none) [(0, ⟨(.arr 0 8 I c), 0, [], false, none⟩)])) := by kernel_rfl
noncomputable def allP_L0 (t1_0 : List (Den I)) (t10 : Int) (t11 : Int) (c : List (Den I)) : Cfg := hcfg E_C2 f_cfg_mapped_cl1 0 [(1, (.rop [(.fn f_cfg_Permute_cl1 [(.rtp (.sl 8 I) t1_0)])] 0)), (4, (.osl 0 0 [] none)), (9, (.osl 0 0 [] none)), (10, (vi t10)), (11, (vi t11))] [(0, ⟨(.arr 0 8 I c), 0, [], false, none⟩)] 1
theorem allP_t (l : List (Den I)) (k : List (Den I)) : run E_C2 H_C2 f_cfg_mapped_cl1 3000 (start E_C2 f_cfg_mapped_cl1 [(.tv (.sl 8 I) l), (.rop [(.fn f_cfg_Permute_cl1 [(.rtp (.sl 8 I) k)])] 0)]) = (.chk (True) (.know True (hd (allP_L0 k ((ln I (idL l)) : Int) (0 : Int) (idL l))))) := by kernel_rfl
theorem allP_L0_t (t1_0 : List (Den I)) (t10 : Int) (t11 : Int) (c : List (Den I)) : run E_C2 H_C2 f_cfg_mapped_cl1 3000 (allP_L0 t1_0 t10 t11 c) = (cond (decide (t11 < t10)) (.chk (0 ≤ t11 ∧ t11 < (ln I c)) (.chk ((t11).toNat < (ln I c)) (cond (decide ((z (gd I c ((t11).toNat))) < (0 : Int))) (.chk (0 ≤ t11 ∧ t11 < (ln I c)) (.chk ((t11).toNat < (ln I c)) (hd (allP_L0 t1_0 t10 (IntKind.wrap .i64 (t11 + (1 : Int))) (st I c ((t11).toNat) (gd I c ((t11).toNat))))))) (cond (decide ((z (gd I c ((t11).toNat))) ≥ ((ln I t1_0) : Int))) (.chk (0 ≤ t11 ∧ t11 < (ln I c)) (.chk ((t11).toNat < (ln I c)) (hd (allP_L0 t1_0 t10 (IntKind.wrap .i64 (t11 + (1 : Int))) (st I c ((t11).toNat) (gd I c ((t11).toNat))))))) (.chk (0 ≤ (z (gd I c ((t11).toNat))) ∧ (z (gd I c ((t11).toNat))) < (ln I t1_0)) (.chk (0 ≤ t11 ∧ t11 < (ln I c)) (.chk ((t11).toNat < (ln I c)) (hd (allP_L0 t1_0 t10 (IntKind.wrap .i64 (t11 + (1 : Int))) (st I c ((t11).toNat) (gd I t1_0 (((z (gd I c ((t11).toNat)))).toNat)))))))))))) (rt (.osl 0 0 [] none) [(0, ⟨(.arr 0 8 I c), 0, [], false, none⟩)])) := by kernel_rfl
def permR (perm : List (Den I)) (r : Int) : Int := if r < 0 ∨ r ≥ (ln I perm : Int) then r else z (gd I perm r.toNat)
def permRc (r : Int) (perm : List (Den I)) : Int := permR perm r
def permD (perm : List (Den I)) (r : Den I) : Den I := permR perm r
def idD (r : Den I) : Den I := r
theorem map_idD : ∀ l : List (Den I), List.map idD l = l
  | [] => rfl
  | a :: l => congrArg (List.cons a) (map_idD l)
theorem permD_out {k : List (Den I)} {x : Den I} (h : z x < 0 ∨ z x ≥ (ln I k : Int)) : permD k x = x := if_pos h
theorem permD_in {k : List (Den I)} {x : Den I} (h : ¬ (z x < 0 ∨ z x ≥ (ln I k : Int))) : permD k x = gd I k (z x).toNat := if_neg h
def permL (l perm : List (Den I)) : Den (.sl 8 I) := List.map (permD perm) l

def k_cfg_clone_cl1 : Con := con [.d I] I (fun x => True) fun x => idR x.1
theorem m_cfg_clone_cl1 (r : Int) (h_r : okD I r) (hp : True) : Runs E_C2 (start E_C2 f_cfg_clone_cl1 [(vi r)]) (fun r_ h_ => r_ = (vi (idR r)) ∧ h_ = []) := .tree E_C2_ok (cfg_clone_cl1_t r) (by
  simp only [wp_iff, chk_iff, know_iff, any_iff, rt_iff, hd_iff, true_imp_iff, true_and, and_true, and_self, lt01]
  rfl)
theorem c_cfg_clone_cl1 : SpecOK E_C2 f_cfg_clone_cl1 k_cfg_clone_cl1.spec := spec_of fun x hx hp => ⟨rfl, m_cfg_clone_cl1 x.1 hx.1 hp⟩

def k_cfg_Permute_cl1 : Con := con [.d I, .cap (.sl 8 I)] I (fun x => True) fun x => permRc x.1 x.2.1
theorem m_cfg_Permute_cl1 (r : Int) (x : List (Den I)) (h_r : okD I r) (h_x : okD (.sl 8 I) x) (hp : True) : Runs E_C2 (start E_C2 f_cfg_Permute_cl1 [(vi r), (.rtp (.sl 8 I) x)]) (fun r_ h_ => r_ = (vi (permRc r x)) ∧ h_ = []) := .tree E_C2_ok (cfg_Permute_cl1_t r x) (by
  unfold permRc permR
  simp only [wp_iff, chk_iff, know_iff, any_iff, rt_iff, hd_iff, true_imp_iff, true_and, and_true, and_self, lt01]
  refine ⟨fun h => ?_, fun h => ⟨fun h2 => ?_, fun h2 => ?_⟩⟩
  · rw [if_pos (Or.inl (of_decide_eq_true h))]
  · rw [if_pos (Or.inr (of_decide_eq_true h2))]
  · have a := of_decide_eq_false h
    have b := of_decide_eq_false h2
    rw [if_neg (by omega)]
    exact ⟨by omega, fun _ => rfl⟩)
theorem c_cfg_Permute_cl1 : SpecOK E_C2 f_cfg_Permute_cl1 k_cfg_Permute_cl1.spec := spec_of fun x hx hp => ⟨rfl, m_cfg_Permute_cl1 x.1 x.2.1 hx.1 hx.2.1 hp⟩
theorem allC_l (l : List (Den I)) (hl : ln I l < 9223372036854775807) : ∀ i, i ≤ ln I l → Runs E_C2 (allC_L0 (ln I l : Nat) i l) (fun x h => x = (ownRes 99 (.sl 8 I) (idL l)).1 ∧ h = (ownRes 99 (.sl 8 I) (idL l)).2) :=
  up_ind (.tree E_C2_ok (allC_L0_t _ _ _) (by
    simp only [wp_iff, chk_iff, know_iff, any_iff, rt_iff, hd_iff, true_imp_iff, true_and, and_true, and_self, lt01, Int.ofNat_lt, Int.ofNat_le, Int.natCast_nonneg, Int.toNat_natCast, decide_true, decide_false, Bool.true_eq_false, Bool.false_eq_true, false_imp_iff, Nat.lt_irrefl, imp_self, implies_true,  st_gd]
    exact ⟨rfl, rfl⟩))
    fun i hi ih => .tree E_C2_ok (allC_L0_t _ _ _) (by
      simp only [wp_iff, chk_iff, know_iff, any_iff, rt_iff, hd_iff, true_imp_iff, true_and, and_true, and_self, lt01, Int.ofNat_lt, Int.ofNat_le, Int.natCast_nonneg, Int.toNat_natCast, decide_true, decide_false, Bool.true_eq_false, Bool.false_eq_true, false_imp_iff, Nat.lt_irrefl, imp_self, implies_true,  hi, st_gd, wrapS hi hl]
      exact ih)
def k_allC : Con := conO 99 [.d (.sl 8 I), .capfn f_cfg_clone_cl1 []] (.sl 8 I) (fun x => True) fun x => idL x.1
theorem m_allC (l : List (Den I)) (h_l : okD (.sl 8 I) l) (hp : True) : Runs E_C2 (start E_C2 f_cfg_mapped_cl1 [(.tv (.sl 8 I) l), (.rop [(.fn f_cfg_clone_cl1 [])] 0)]) (fun r_ h_ => r_ = (ownRes 99 (.sl 8 I) (idL l)).1 ∧ h_ = (ownRes 99 (.sl 8 I) (idL l)).2) := .tree E_C2_ok (allC_t l) (by
  simp only [wp_iff, chk_iff, know_iff, any_iff, rt_iff, hd_iff, true_imp_iff, true_and, and_true, and_self, lt01]
  exact allC_l l (room_lt h_l.1) 0 (Nat.zero_le _))
theorem c_allC : SpecOK E_C2 f_cfg_mapped_cl1 k_allC.spec := spec_of fun x hx hp => ⟨rfl, m_allC x.1 hx.1 hp⟩
theorem allP_l (l k : List (Den I)) (hl : ln I l < 9223372036854775807) : ∀ i, i ≤ ln I l → Runs E_C2 (allP_L0 k (ln I l : Nat) i (mapTo (S := I) (T := I) (permD k) idD l i)) (fun x h => x = (ownRes 99 (.sl 8 I) (permL l k)).1 ∧ h = (ownRes 99 (.sl 8 I) (permL l k)).2) :=
  up_ind (.tree E_C2_ok (allP_L0_t _ _ _ _) (by
    rw [mapTo_n]
    simp only [wp_iff, chk_iff, know_iff, any_iff, rt_iff, hd_iff, true_imp_iff, true_and, and_true, and_self, lt01, Int.ofNat_lt, Int.ofNat_le, Int.natCast_nonneg, Int.toNat_natCast, decide_true, decide_false, Bool.true_eq_false, Bool.false_eq_true, false_imp_iff, Nat.lt_irrefl, imp_self, implies_true,  permL]
    exact ⟨rfl, rfl⟩))
    fun i hi ih => .tree E_C2_ok (allP_L0_t _ _ _ _) (by
      rw [← mapTo_st (S := I) (T := I) (f := permD k) (g := idD) hi] at ih
      have hg : gd I (mapTo (S := I) (T := I) (permD k) idD l i) i = gd I l i := mapTo_gd hi
      simp only [wp_iff, chk_iff, know_iff, any_iff, rt_iff, hd_iff, true_imp_iff, true_and, and_true, and_self, lt01, Int.ofNat_lt, Int.ofNat_le, Int.natCast_nonneg, Int.toNat_natCast, decide_true, decide_false, Bool.true_eq_false, Bool.false_eq_true, false_imp_iff, Nat.lt_irrefl, imp_self, implies_true,  hi, mapTo_len, hg, wrapS hi hl]
      refine ⟨fun h => ?_, fun h => ⟨fun h2 => ?_, fun h2 => ?_⟩⟩
      · rw [permD_out (Or.inl (of_decide_eq_true h))] at ih
        exact ih
      · rw [permD_out (Or.inr (of_decide_eq_true h2))] at ih
        exact ih
      · have a := of_decide_eq_false h
        have b := of_decide_eq_false h2
        rw [permD_in (by omega)] at ih
        exact ⟨by omega, fun _ => ih⟩)
def k_allP : Con := conO 99 [.d (.sl 8 I), .capfn f_cfg_Permute_cl1 [(.sl 8 I)]] (.sl 8 I) (fun x => True) fun x => permL x.1 x.2.1.1
theorem m_allP (l : List (Den I)) (k : List (Den I)) (h_l : okD (.sl 8 I) l) (h_k : okD (.sl 8 I) k) (hp : True) : Runs E_C2 (start E_C2 f_cfg_mapped_cl1 [(.tv (.sl 8 I) l), (.rop [(.fn f_cfg_Permute_cl1 [(.rtp (.sl 8 I) k)])] 0)]) (fun r_ h_ => r_ = (ownRes 99 (.sl 8 I) (permL l k)).1 ∧ h_ = (ownRes 99 (.sl 8 I) (permL l k)).2) := .tree E_C2_ok (allP_t l k) (by
  simp only [wp_iff, chk_iff, know_iff, any_iff, rt_iff, hd_iff, true_imp_iff, true_and, and_true, and_self, lt01]
  have := allP_l l k (room_lt h_l.1) 0 (Nat.zero_le _)
  rw [mapTo_0, map_idD] at this
  exact this)
theorem c_allP : SpecOK E_C2 f_cfg_mapped_cl1 k_allP.spec := spec_of fun x hx hp => ⟨rfl, m_allP x.1 x.2.1.1 hx.1 hx.2.1.1 hp⟩
def L_C2 : List (FuncId × FSpec) := [(f_cfg_clone_cl1, k_cfg_clone_cl1.spec), (f_cfg_Permute_cl1, k_cfg_Permute_cl1.spec), (f_cfg_mapped_cl1, k_allC.spec), (f_cfg_mapped_cl1, k_allP.spec)] ++ L_C1
theorem L_C2_ok : ∀ x ∈ L_C2, SpecOK (ctx []) x.1 x.2 := by
  unfold L_C2
  simp only [List.cons_append, List.nil_append, List.forall_mem_cons]
  exact ⟨c_cfg_clone_cl1, c_cfg_Permute_cl1, c_allC, c_allP, L_C1_ok⟩
end Burn.M20
namespace Burn.M20
open Go Go.BE Go.Proofs
set_option maxRecDepth 100000
set_option linter.unusedVariables false
set_option linter.unusedSimpArgs false
open Burn.Cfg
noncomputable abbrev E_C3 : Ctx := ctx L_C2
theorem E_C3_ok : EOK E_C3 := ctx_ok L_C2_ok
def cuts_C3 : CutL := [([], 20, 0, [2, 3, 14, 15, 16], [], []),
  ([], 20, 2, [2, 3, 4, 14, 15, 16, 23, 24, 25], [], []),
  ([], 22, 0, [2, 3, 11, 12, 13], [(.c 3 0, .own 24 (.sl 8 I) 1)], []),
  ([], 22, 2, [2, 3, 6, 11, 12, 13, 19, 20, 21], [(.t 6, .own 8 I)], [])]
def rets_C3 : FuncId → List (Option Fx)
  | 20 => [some (.dat s_api_Graph)]
  | 22 => [some (.dat s_api_Graph)]
  | _ => []
def H_C3 : Hints := { cut := cutOf cuts_C3, ret := rets_C3 }
noncomputable def cfg_Graph_L0 (t14 : List (Den s_api_Block)) (t15 : Int) (t16 : Int) (g_0 : List (Den (.sl 8 I))) : Cfg := hcfg E_C3 f_cfg_Graph 0 [(2, (.ref 0 0)), (3, (.ref 1 0)), (14, (.tv (.sl 136 s_api_Block) t14)), (15, (vi t15)), (16, (vi t16))] [(0, ⟨(.cells [(.val (.slice none 0 0))]), 0, [], false, none⟩), (1, ⟨(.cells [(.osl 2 2 [] none)]), 1, [], false, none⟩), (2, ⟨(.arr 1 24 (.sl 8 I) g_0), 2, [], false, none⟩)] 3
noncomputable def cfg_Graph_L2 (i : Int) (t14 : List (Den s_api_Block)) (t15 : Int) (t16 : Int) (t23 : List (Den s_api_Edge)) (t24 : Int) (t25 : Int) (g_0 : List (Den (.sl 8 I))) : Cfg := hcfg E_C3 f_cfg_Graph 2 [(2, (.ref 0 0)), (3, (.ref 1 0)), (4, (vi i)), (14, (.tv (.sl 136 s_api_Block) t14)), (15, (vi t15)), (16, (vi t16)), (23, (.tv (.sl 32 s_api_Edge) t23)), (24, (vi t24)), (25, (vi t25))] [(0, ⟨(.cells [(.val (.slice none 0 0))]), 0, [], false, none⟩), (1, ⟨(.cells [(.osl 2 2 [] none)]), 1, [], false, none⟩), (2, ⟨(.arr 1 24 (.sl 8 I) g_0), 2, [], false, none⟩)] 3
theorem cfg_Graph_t (f : Den s_api_Func) : run E_C3 H_C3 f_cfg_Graph 3000 (start E_C3 f_cfg_Graph [(.tv s_api_Func f)]) = (.chk (((ln s_api_Block f.2.2.2.2.1) : Int) = ((ln s_api_Block f.2.2.2.2.1) : Int)) (.chk (0 ≤ ((ln s_api_Block f.2.2.2.2.1) : Int)) (.chk ((ln s_api_Block f.2.2.2.2.1) * 24 ≤ roomB) (hd (cfg_Graph_L0 f.2.2.2.2.1 ((ln s_api_Block f.2.2.2.2.1) : Int) (0 : Int) (List.replicate (ln s_api_Block f.2.2.2.2.1) (dz (.sl 8 I)))))))) := by kernel_rfl
theorem cfg_Graph_L0_t (t14 : List (Den s_api_Block)) (t15 : Int) (t16 : Int) (g_0 : List (Den (.sl 8 I))) : run E_C3 H_C3 f_cfg_Graph 3000 (cfg_Graph_L0 t14 t15 t16 g_0) = (cond (decide (t16 < t15)) (.chk (0 ≤ t16 ∧ t16 < (ln s_api_Block t14)) (hd (cfg_Graph_L2 t16 t14 t15 t16 ((((((((gd s_api_Block t14 ((t16).toNat)).2).2).1).2).2).2).1) ((ln s_api_Edge ((((((((gd s_api_Block t14 ((t16).toNat)).2).2).1).2).2).2).1)) : Int) (0 : Int) g_0))) (rt (.tv s_api_Graph (g_0, ())) [])) := by kernel_rfl
theorem cfg_Graph_L2_t (i : Int) (t14 : List (Den s_api_Block)) (t15 : Int) (t16 : Int) (t23 : List (Den s_api_Edge)) (t24 : Int) (t25 : Int) (g_0 : List (Den (.sl 8 I))) : run E_C3 H_C3 f_cfg_Graph 3000 (cfg_Graph_L2 i t14 t15 t16 t23 t24 t25 g_0) = (cond (decide (t25 < t24)) (.chk (0 ≤ t25 ∧ t25 < (ln s_api_Edge t23)) (.chk (0 ≤ i ∧ i < (ln (.sl 8 I) g_0)) (.chk ((i).toNat < (ln (.sl 8 I) g_0)) (.chk ((i).toNat < (ln (.sl 8 I) g_0)) (.chk (((ln I (gd (.sl 8 I) g_0 ((i).toNat))) + (1 : Nat)) * 8 ≤ roomB) (.chk (0 ≤ i ∧ i < (ln (.sl 8 I) (st (.sl 8 I) g_0 ((i).toNat) (ap I (gd (.sl 8 I) g_0 ((i).toNat)) ([(gd s_api_Edge t23 ((t25).toNat)).1] : List (Den I)))))) (.chk ((i).toNat = (i).toNat) (.chk ((i).toNat = (i).toNat) (hd (cfg_Graph_L2 i t14 t15 t16 t23 t24 (IntKind.wrap .i64 (t25 + (1 : Int))) (st (.sl 8 I) g_0 ((i).toNat) (ap I (gd (.sl 8 I) g_0 ((i).toNat)) ([(gd s_api_Edge t23 ((t25).toNat)).1] : List (Den I)))))))))))))) (hd (cfg_Graph_L0 t14 t15 (IntKind.wrap .i64 (t16 + (1 : Int))) g_0))) := by kernel_rfl
noncomputable def r20_Graph_L0 (t11 : List (Den s_api_Block)) (t12 : Int) (t13 : Int) (g_0 : List (Den (.sl 8 I))) : Cfg := hcfg E_C3 f_r20_Graph 0 [(2, (.ref 0 0)), (3, (.ref 1 0)), (11, (.tv (.sl 136 s_api_Block) t11)), (12, (vi t12)), (13, (vi t13))] [(0, ⟨(.cells [(.val (.slice none 0 0))]), 0, [], false, none⟩), (1, ⟨(.cells [(.osl 2 2 [] none)]), 1, [], false, none⟩), (2, ⟨(.arr 1 24 (.sl 8 I) g_0), 2, [], false, none⟩)] 3
noncomputable def r20_Graph_L2 (t11 : List (Den s_api_Block)) (t12 : Int) (t13 : Int) (t19 : List (Den s_api_Edge)) (t20 : Int) (t21 : Int) (l : List (Den I)) (g_0 : List (Den (.sl 8 I))) : Cfg := hcfg E_C3 f_r20_Graph 2 [(2, (.ref 0 0)), (3, (.ref 1 0)), (6, (.osl 2 2 [] none)), (11, (.tv (.sl 136 s_api_Block) t11)), (12, (vi t12)), (13, (vi t13)), (19, (.tv (.sl 32 s_api_Edge) t19)), (20, (vi t20)), (21, (vi t21))] [(0, ⟨(.cells [(.val (.slice none 0 0))]), 0, [], false, none⟩), (1, ⟨(.cells [(.osl 3 3 [] none)]), 1, [], false, none⟩), (2, ⟨(.arr 0 8 I l), 2, [], false, none⟩), (3, ⟨(.arr 1 24 (.sl 8 I) g_0), 3, [], false, none⟩)] 4
theorem r20_Graph_t (f : Den s_api_Func) : run E_C3 H_C3 f_r20_Graph 3000 (start E_C3 f_r20_Graph [(.tv s_api_Func f)]) = (hd (r20_Graph_L0 f.2.2.2.2.1 ((ln s_api_Block f.2.2.2.2.1) : Int) (0 : Int) ([] : List (Den (.sl 8 I))))) := by kernel_rfl
theorem r20_Graph_L0_t (t11 : List (Den s_api_Block)) (t12 : Int) (t13 : Int) (g_0 : List (Den (.sl 8 I))) : run E_C3 H_C3 f_r20_Graph 3000 (r20_Graph_L0 t11 t12 t13 g_0) = (cond (decide (t13 < t12)) (.chk (0 ≤ t13 ∧ t13 < (ln s_api_Block t11)) (hd (r20_Graph_L2 t11 t12 t13 ((((((((gd s_api_Block t11 ((t13).toNat)).2).2).1).2).2).2).1) ((ln s_api_Edge ((((((((gd s_api_Block t11 ((t13).toNat)).2).2).1).2).2).2).1)) : Int) (0 : Int) ([] : List (Den I)) g_0))) (rt (.tv s_api_Graph (g_0, ())) [])) := by kernel_rfl
theorem r20_Graph_L2_t (t11 : List (Den s_api_Block)) (t12 : Int) (t13 : Int) (t19 : List (Den s_api_Edge)) (t20 : Int) (t21 : Int) (l : List (Den I)) (g_0 : List (Den (.sl 8 I))) : run E_C3 H_C3 f_r20_Graph 3000 (r20_Graph_L2 t11 t12 t13 t19 t20 t21 l g_0) = (cond (decide (t21 < t20)) (.chk (0 ≤ t21 ∧ t21 < (ln s_api_Edge t19)) (.chk (((ln I l) + (1 : Nat)) * 8 ≤ roomB) (hd (r20_Graph_L2 t11 t12 t13 t19 t20 (IntKind.wrap .i64 (t21 + (1 : Int))) (ap I l ([(gd s_api_Edge t19 ((t21).toNat)).1] : List (Den I))) g_0)))) (.chk (((ln (.sl 8 I) g_0) + (1 : Nat)) * 24 ≤ roomB) (hd (r20_Graph_L0 t11 t12 (IntKind.wrap .i64 (t13 + (1 : Int))) (ap (.sl 8 I) g_0 ([l] : List (Den (.sl 8 I)))))))) := by kernel_rfl
def headsB (b : Blk) : List (Den I) := List.map (α := Den s_api_Edge) (β := Int) (fun e => e.1) (tSuc b)
def graphF (f : Fn) : Den s_api_Graph := (List.map (α := Blk) (β := List (Den I)) headsB (blocks f), ())
def nilB (_ : Blk) : List (Den I) := []
def hd1 (e : Den s_api_Edge) : Den I := e.1
theorem heads_room {s : List (Den s_api_Edge)} (hro : room 32 (ln s_api_Edge s)) {k : Nat} (hk : k < ln s_api_Edge s) : (ln I (List.map hd1 (s.take k)) + 1) * 8 ≤ roomB := by
  rw [ln_map (S := s_api_Edge) (T := I), ln_take (Nat.le_of_lt hk)]
  exact room_part hro hk (by decide)
theorem heads_step {s : List (Den s_api_Edge)} {k : Nat} (hk : k < ln s_api_Edge s) : ap I (List.map hd1 (s.take k)) [(gd s_api_Edge s k).1] = List.map hd1 (s.take (k + 1)) := by
  rw [take_gd hk, List.map_append]
  rfl
def okB (l : List (Den s_api_Block)) : Prop := room 136 (ln s_api_Block l) ∧ ∀ i, i < ln s_api_Block l → okD s_api_Block (gd s_api_Block l i)
theorem okB_of {f : Fn} (h : okD s_api_Func f) : okB (blocks f) := by
  obtain ⟨_, _, _, _, h1, _⟩ := h
  exact ⟨h1.1, fun i hi => ok_gd h1 hi⟩
theorem okB_suc {l : List (Den s_api_Block)} (h : okB l) {i : Nat} (hi : i < ln s_api_Block l) : okD (.sl 32 s_api_Edge) (tSuc (gd s_api_Block l i)) := (h.2 i hi).2.2.1.2.2.2.1
theorem cfg_Graph_l (f : Fn) (l : List (Den s_api_Block)) (hf : blocks f = l) (ho : okB l) : ∀ i, i ≤ ln s_api_Block l → Runs E_C3 (cfg_Graph_L0 l (ln s_api_Block l : Nat) i (mapTo (S := s_api_Block) (T := .sl 8 I) headsB nilB l i)) (fun x h => x = .tv s_api_Graph (graphF f) ∧ h = []) :=
  up_ind (.tree E_C3_ok (cfg_Graph_L0_t _ _ _ _) (by
    rw [mapTo_n]
    simp only [wp_iff, chk_iff, know_iff, any_iff, rt_iff, hd_iff, true_imp_iff, true_and, and_true, and_self, lt01, Int.ofNat_lt, Int.ofNat_le, Int.natCast_nonneg, Int.toNat_natCast, decide_true, decide_false, Bool.true_eq_false, Bool.false_eq_true, false_imp_iff, Nat.lt_irrefl, imp_self, implies_true,  graphF, hf]))
    fun i hi ih => .tree E_C3_ok (cfg_Graph_L0_t _ _ _ _) (by
      simp only [wp_iff, chk_iff, know_iff, any_iff, rt_iff, hd_iff, true_imp_iff, true_and, and_true, and_self, lt01, Int.ofNat_lt, Int.ofNat_le, Int.natCast_nonneg, Int.toNat_natCast, decide_true, decide_false, Bool.true_eq_false, Bool.false_eq_true, false_imp_iff, Nat.lt_irrefl, imp_self, implies_true,  hi]
      have hro := (okB_suc ho hi).1
      generalize hs : tSuc (gd s_api_Block l i) = s at hro
      have hg : mapTo (S := s_api_Block) (T := .sl 8 I) headsB nilB l i = st (.sl 8 I) (mapTo (S := s_api_Block) (T := .sl 8 I) headsB nilB l i) i (List.map hd1 (s.take 0)) := by
        have := st_gd (S := .sl 8 I) (l := mapTo (S := s_api_Block) (T := .sl 8 I) headsB nilB l i) (i := i)
        rw [mapTo_gd hi] at this
        exact this.symm
      have key : ∀ k, k ≤ ln s_api_Edge s → Runs E_C3 (cfg_Graph_L2 i l (ln s_api_Block l : Nat) i s (ln s_api_Edge s : Nat) k (st (.sl 8 I) (mapTo (S := s_api_Block) (T := .sl 8 I) headsB nilB l i) i (List.map hd1 (s.take k)))) (fun x h => x = .tv s_api_Graph (graphF f) ∧ h = []) :=
        up_ind (.tree E_C3_ok (cfg_Graph_L2_t _ _ _ _ _ _ _ _) (by
          have := mapTo_st (S := s_api_Block) (T := .sl 8 I) (f := headsB) (g := nilB) hi
          rw [take_ln]
          simp only [wp_iff, chk_iff, know_iff, any_iff, rt_iff, hd_iff, true_imp_iff, true_and, and_true, and_self, lt01, Int.ofNat_lt, Int.ofNat_le, Int.natCast_nonneg, Int.toNat_natCast, decide_true, decide_false, Bool.true_eq_false, Bool.false_eq_true, false_imp_iff, Nat.lt_irrefl, imp_self, implies_true,  wrapS hi (room_lt ho.1)]
          rw [show List.map hd1 s = headsB (gd s_api_Block l i) by rw [← hs]; rfl, this]
          exact ih))
          fun k hk ihk => .tree E_C3_ok (cfg_Graph_L2_t _ _ _ _ _ _ _ _) (by
            simp only [wp_iff, chk_iff, know_iff, any_iff, rt_iff, hd_iff, true_imp_iff, true_and, and_true, and_self, lt01, Int.ofNat_lt, Int.ofNat_le, Int.natCast_nonneg, Int.toNat_natCast, decide_true, decide_false, Bool.true_eq_false, Bool.false_eq_true, false_imp_iff, Nat.lt_irrefl, imp_self, implies_true,  hk, hi, ln_st, mapTo_len, gd_st, st_st, wrapS hk (room_lt hro), heads_step hk]
            exact ⟨heads_room hro hk, fun _ => ihk⟩)
      rw [hg]
      subst hs
      exact key 0 (Nat.zero_le _))
def k_cfg_Graph : Con := con [.d s_api_Func] s_api_Graph (fun x => True) fun x => graphF x.1
theorem m_cfg_Graph (f : Den s_api_Func) (h_f : okD s_api_Func f) (hp : True) : Runs E_C3 (start E_C3 f_cfg_Graph [(.tv s_api_Func f)]) (fun r_ h_ => r_ = (.tv s_api_Graph (graphF f)) ∧ h_ = []) := .tree E_C3_ok (cfg_Graph_t f) (by
  simp only [wp_iff, chk_iff, know_iff, any_iff, rt_iff, hd_iff, true_imp_iff, true_and, and_true, and_self, lt01]
  obtain ho := okB_of h_f
  have := cfg_Graph_l f _ rfl ho 0 (Nat.zero_le _)
  rw [mapTo_0] at this
  refine ⟨by omega, fun _ => ⟨room_part ho.1 (Nat.le_refl _) (by decide), fun _ => ?_⟩⟩
  rw [show List.replicate (ln s_api_Block f.2.2.2.2.1) (dz (.sl 8 I)) = List.map nilB f.2.2.2.2.1 from (List.map_const' ..).symm]
  exact this)
theorem c_cfg_Graph : SpecOK E_C3 f_cfg_Graph k_cfg_Graph.spec := spec_of fun x hx hp => ⟨rfl, m_cfg_Graph x.1 hx.1 hp⟩
theorem r20_Graph_l (f : Fn) (l : List (Den s_api_Block)) (hf : blocks f = l) (ho : okB l) : ∀ i, i ≤ ln s_api_Block l → Runs E_C3 (r20_Graph_L0 l (ln s_api_Block l : Nat) i (List.map headsB (l.take i))) (fun x h => x = .tv s_api_Graph (graphF f) ∧ h = []) :=
  up_ind (.tree E_C3_ok (r20_Graph_L0_t _ _ _ _) (by
    rw [take_ln]
    simp only [wp_iff, chk_iff, know_iff, any_iff, rt_iff, hd_iff, true_imp_iff, true_and, and_true, and_self, lt01, Int.ofNat_lt, Int.ofNat_le, Int.natCast_nonneg, Int.toNat_natCast, decide_true, decide_false, Bool.true_eq_false, Bool.false_eq_true, false_imp_iff, Nat.lt_irrefl, imp_self, implies_true,  graphF, hf]))
    fun i hi ih => .tree E_C3_ok (r20_Graph_L0_t _ _ _ _) (by
      simp only [wp_iff, chk_iff, know_iff, any_iff, rt_iff, hd_iff, true_imp_iff, true_and, and_true, and_self, lt01, Int.ofNat_lt, Int.ofNat_le, Int.natCast_nonneg, Int.toNat_natCast, decide_true, decide_false, Bool.true_eq_false, Bool.false_eq_true, false_imp_iff, Nat.lt_irrefl, imp_self, implies_true,  hi]
      have hro := (okB_suc ho hi).1
      generalize hs : tSuc (gd s_api_Block l i) = s at hro
      have key : ∀ k, k ≤ ln s_api_Edge s → Runs E_C3 (r20_Graph_L2 l (ln s_api_Block l : Nat) i s (ln s_api_Edge s : Nat) k (List.map hd1 (s.take k)) (List.map headsB (l.take i))) (fun x h => x = .tv s_api_Graph (graphF f) ∧ h = []) :=
        up_ind (.tree E_C3_ok (r20_Graph_L2_t _ _ _ _ _ _ _ _) (by
          rw [take_ln]
          simp only [wp_iff, chk_iff, know_iff, any_iff, rt_iff, hd_iff, true_imp_iff, true_and, and_true, and_self, lt01, Int.ofNat_lt, Int.ofNat_le, Int.natCast_nonneg, Int.toNat_natCast, decide_true, decide_false, Bool.true_eq_false, Bool.false_eq_true, false_imp_iff, Nat.lt_irrefl, imp_self, implies_true,  wrapS hi (room_lt ho.1)]
          rw [take_gd hi, List.map_append] at ih
          rw [ln_map (S := s_api_Block) (T := .sl 8 I), ln_take (Nat.le_of_lt hi), show List.map hd1 s = headsB (gd s_api_Block l i) by rw [← hs]; rfl]
          exact ⟨room_part ho.1 hi (by decide), fun _ => ih⟩))
          fun k hk ihk => .tree E_C3_ok (r20_Graph_L2_t _ _ _ _ _ _ _ _) (by
            simp only [wp_iff, chk_iff, know_iff, any_iff, rt_iff, hd_iff, true_imp_iff, true_and, and_true, and_self, lt01, Int.ofNat_lt, Int.ofNat_le, Int.natCast_nonneg, Int.toNat_natCast, decide_true, decide_false, Bool.true_eq_false, Bool.false_eq_true, false_imp_iff, Nat.lt_irrefl, imp_self, implies_true,  hk, wrapS hk (room_lt hro), heads_step hk]
            exact ⟨heads_room hro hk, fun _ => ihk⟩)
      subst hs
      exact key 0 (Nat.zero_le _))
def k_r20_Graph : Con := con [.d s_api_Func] s_api_Graph (fun x => True) fun x => graphF x.1
theorem m_r20_Graph (f : Den s_api_Func) (h_f : okD s_api_Func f) (hp : True) : Runs E_C3 (start E_C3 f_r20_Graph [(.tv s_api_Func f)]) (fun r_ h_ => r_ = (.tv s_api_Graph (graphF f)) ∧ h_ = []) := .tree E_C3_ok (r20_Graph_t f) (by
  simp only [wp_iff, chk_iff, know_iff, any_iff, rt_iff, hd_iff, true_imp_iff, true_and, and_true, and_self, lt01]
  exact r20_Graph_l f _ rfl (okB_of h_f) 0 (Nat.zero_le _))
theorem c_r20_Graph : SpecOK E_C3 f_r20_Graph k_r20_Graph.spec := spec_of fun x hx hp => ⟨rfl, m_r20_Graph x.1 hx.1 hp⟩
def L_C3 : List (FuncId × FSpec) := [(f_cfg_Graph, k_cfg_Graph.spec), (f_r20_Graph, k_r20_Graph.spec)] ++ L_C2
theorem L_C3_ok : ∀ x ∈ L_C3, SpecOK (ctx []) x.1 x.2 := by
  unfold L_C3
  simp only [List.cons_append, List.nil_append, List.forall_mem_cons]
  exact ⟨c_cfg_Graph, c_r20_Graph, L_C2_ok⟩
end Burn.M20
namespace Burn.M20
open Go Go.BE Go.Proofs
set_option maxRecDepth 100000
set_option linter.unusedVariables false
set_option linter.unusedSimpArgs false
open Burn.Cfg
noncomputable abbrev E_C4 : Ctx := ctx L_C3
theorem E_C4_ok : EOK E_C4 := ctx_ok L_C3_ok
def cuts_C4 : CutL := [([], 43, 0, [3, 4, 5, 6, 28, 29, 30], [(.c 6 4, .own 136 s_api_Block 1)], []),
  ([], 43, 2, [3, 4, 5, 6, 8, 9, 28, 29, 30, 40, 41, 42], [(.c 9 1, .own 80 s_api_Instr)], []),
  ([], 43, 4, [3, 4, 5, 6, 9, 28, 29, 30, 82, 83, 84], [(.c 9 5, .own 32 s_api_Edge)], [])]
def rets_C4 : FuncId → List (Option Fx)
  | _ => []
def H_C4 : Hints := { cut := cutOf cuts_C4, ret := rets_C4 }
noncomputable def mapC_L0 (t28 : List (Den s_api_Block)) (t29 : Int) (t30 : Int) (t4_0 : ByteArray) (t4_2 : Int) (g_0 : ByteArray) (g_2 : Int) (g_1 : List (Den I)) (g_3 : List (Den I)) (g_4 : List (Den s_api_Block)) : Cfg := hcfg E_C4 f_cfg_mapped 0 [(3, (.rop [(.fn f_cfg_clone_cl1 [])] 0)), (4, (.ref 0 0)), (5, (.fn f_cfg_mapped_cl1 [(.rop [(.fn f_cfg_clone_cl1 [])] 0)])), (6, (.ref 1 0)), (28, (.tv (.sl 136 s_api_Block) t28)), (29, (vi t29)), (30, (vi t30))] [(0, ⟨(.cells [(vs t4_0), (.val (.slice none 0 0)), (vi t4_2), (.val (.slice none 0 0)), (.val (.slice none 0 0))]), 0, [], false, none⟩), (1, ⟨(.cells [(vs g_0), (.osl 2 2 [] none), (vi g_2), (.osl 3 3 [] none), (.osl 4 4 [] none)]), 1, [], false, none⟩), (2, ⟨(.arr 0 8 I g_1), 2, [], false, none⟩), (3, ⟨(.arr 0 8 I g_3), 3, [], false, none⟩), (4, ⟨(.arr 1 136 s_api_Block g_4), 4, [], false, none⟩)] 5
noncomputable def mapC_L2 (t28 : List (Den s_api_Block)) (t29 : Int) (t30 : Int) (t40 : List (Den s_api_Instr)) (t41 : Int) (t42 : Int) (t4_0 : ByteArray) (t4_2 : Int) (g_0 : ByteArray) (g_2 : Int) (b_0 : List (Den I)) (b_1 : List (Den s_api_Instr)) (b_2 : Int) (b_3 : List (Den I)) (b_4 : List (Den I)) (b_5 : List (Den s_api_Edge)) (b_6 : Int) (n_2 : Int) (n_6 : Int) (g_1 : List (Den I)) (g_3 : List (Den I)) (g_4 : List (Den s_api_Block)) (n_0 : List (Den I)) (n_1 : List (Den s_api_Instr)) : Cfg := hcfg E_C4 f_cfg_mapped 2 [(3, (.rop [(.fn f_cfg_clone_cl1 [])] 0)), (4, (.ref 0 0)), (5, (.fn f_cfg_mapped_cl1 [(.rop [(.fn f_cfg_clone_cl1 [])] 0)])), (6, (.ref 1 0)), (8, (.ref 2 0)), (9, (.ref 3 0)), (28, (.tv (.sl 136 s_api_Block) t28)), (29, (vi t29)), (30, (vi t30)), (40, (.tv (.sl 80 s_api_Instr) t40)), (41, (vi t41)), (42, (vi t42))] [(0, ⟨(.cells [(vs t4_0), (.val (.slice none 0 0)), (vi t4_2), (.val (.slice none 0 0)), (.val (.slice none 0 0))]), 0, [], false, none⟩), (1, ⟨(.cells [(vs g_0), (.osl 4 4 [] none), (vi g_2), (.osl 5 5 [] none), (.osl 6 6 [] none)]), 1, [], false, none⟩), (2, ⟨(.cells [(.tv (.sl 8 I) b_0), (.tv (.sl 80 s_api_Instr) b_1), (vi b_2), (.tv (.sl 8 I) b_3), (.tv (.sl 8 I) b_4), (.tv (.sl 32 s_api_Edge) b_5), (vi b_6)]), 2, [], false, none⟩), (3, ⟨(.cells [(.osl 7 7 [] none), (.osl 8 8 [] none), (vi n_2), (.val (.slice none 0 0)), (.val (.slice none 0 0)), (.val (.slice none 0 0)), (vi n_6)]), 3, [], false, none⟩), (4, ⟨(.arr 0 8 I g_1), 4, [], false, none⟩), (5, ⟨(.arr 0 8 I g_3), 5, [], false, none⟩), (6, ⟨(.arr 1 136 s_api_Block g_4), 6, [], false, none⟩), (7, ⟨(.arr 0 8 I n_0), 7, [], false, none⟩), (8, ⟨(.arr 0 80 s_api_Instr n_1), 8, [], false, none⟩)] 9
noncomputable def mapC_L4 (t28 : List (Den s_api_Block)) (t29 : Int) (t30 : Int) (t82 : List (Den s_api_Edge)) (t83 : Int) (t84 : Int) (t4_0 : ByteArray) (t4_2 : Int) (g_0 : ByteArray) (g_2 : Int) (n_2 : Int) (n_6 : Int) (g_1 : List (Den I)) (g_3 : List (Den I)) (g_4 : List (Den s_api_Block)) (n_0 : List (Den I)) (n_1 : List (Den s_api_Instr)) (n_3 : List (Den I)) (n_4 : List (Den I)) (n_5 : List (Den s_api_Edge)) : Cfg := hcfg E_C4 f_cfg_mapped 4 [(3, (.rop [(.fn f_cfg_clone_cl1 [])] 0)), (4, (.ref 0 0)), (5, (.fn f_cfg_mapped_cl1 [(.rop [(.fn f_cfg_clone_cl1 [])] 0)])), (6, (.ref 1 0)), (9, (.ref 2 0)), (28, (.tv (.sl 136 s_api_Block) t28)), (29, (vi t29)), (30, (vi t30)), (82, (.tv (.sl 32 s_api_Edge) t82)), (83, (vi t83)), (84, (vi t84))] [(0, ⟨(.cells [(vs t4_0), (.val (.slice none 0 0)), (vi t4_2), (.val (.slice none 0 0)), (.val (.slice none 0 0))]), 0, [], false, none⟩), (1, ⟨(.cells [(vs g_0), (.osl 3 3 [] none), (vi g_2), (.osl 4 4 [] none), (.osl 5 5 [] none)]), 1, [], false, none⟩), (2, ⟨(.cells [(.osl 6 6 [] none), (.osl 7 7 [] none), (vi n_2), (.osl 8 8 [] none), (.osl 9 9 [] none), (.osl 10 10 [] none), (vi n_6)]), 2, [], false, none⟩), (3, ⟨(.arr 0 8 I g_1), 3, [], false, none⟩), (4, ⟨(.arr 0 8 I g_3), 4, [], false, none⟩), (5, ⟨(.arr 1 136 s_api_Block g_4), 5, [], false, none⟩), (6, ⟨(.arr 0 8 I n_0), 6, [], false, none⟩), (7, ⟨(.arr 0 80 s_api_Instr n_1), 7, [], false, none⟩), (8, ⟨(.arr 0 8 I n_3), 8, [], false, none⟩), (9, ⟨(.arr 0 8 I n_4), 9, [], false, none⟩), (10, ⟨(.arr 0 32 s_api_Edge n_5), 10, [], false, none⟩)] 11
theorem mapC_t (f : Den s_api_Func) : run E_C4 H_C4 f_cfg_mapped 3000 (start E_C4 f_cfg_mapped [(.tv s_api_Func f), (.fn f_cfg_clone_cl1 [])]) = (.chk (True) (.chk (True) (.know True (.know True (hd (mapC_L0 f.2.2.2.2.1 ((ln s_api_Block f.2.2.2.2.1) : Int) (0 : Int) ByteArray.empty (0 : Int) (tOf f.1) (z f.2.2.1) (idL f.2.1) (idL f.2.2.2.1) ([] : List (Den s_api_Block)))))))) := by kernel_rfl
theorem mapC_L0_t (t28 : List (Den s_api_Block)) (t29 : Int) (t30 : Int) (t4_0 : ByteArray) (t4_2 : Int) (g_0 : ByteArray) (g_2 : Int) (g_1 : List (Den I)) (g_3 : List (Den I)) (g_4 : List (Den s_api_Block)) : run E_C4 H_C4 f_cfg_mapped 3000 (mapC_L0 t28 t29 t30 t4_0 t4_2 g_0 g_2 g_1 g_3 g_4) = (cond (decide (t30 < t29)) (.chk (0 ≤ t30 ∧ t30 < (ln s_api_Block t28)) (.chk (True) (.know True (hd (mapC_L2 t28 t29 t30 (((gd s_api_Block t28 ((t30).toNat)).2).1) ((ln s_api_Instr (((gd s_api_Block t28 ((t30).toNat)).2).1)) : Int) (0 : Int) t4_0 t4_2 g_0 g_2 ((gd s_api_Block t28 ((t30).toNat)).1) (((gd s_api_Block t28 ((t30).toNat)).2).1) (z (((((gd s_api_Block t28 ((t30).toNat)).2).2).1).1)) ((((((gd s_api_Block t28 ((t30).toNat)).2).2).1).2).1) (((((((gd s_api_Block t28 ((t30).toNat)).2).2).1).2).2).1) ((((((((gd s_api_Block t28 ((t30).toNat)).2).2).1).2).2).2).1) (z (((((((((gd s_api_Block t28 ((t30).toNat)).2).2).1).2).2).2).2).1)) (0 : Int) (0 : Int) g_1 g_3 g_4 (idL (gd s_api_Block t28 ((t30).toNat)).1) ([] : List (Den s_api_Instr))))))) (rt (.agg [(vs g_0), (.osl 0 0 [] none), (vi g_2), (.osl 1 1 [] none), (.osl 2 2 [] none)]) [(0, ⟨(.arr 0 8 I g_1), 0, [], false, none⟩), (1, ⟨(.arr 0 8 I g_3), 1, [], false, none⟩), (2, ⟨(.arr 1 136 s_api_Block g_4), 2, [], false, none⟩)])) := by kernel_rfl
theorem mapC_L2_t (t28 : List (Den s_api_Block)) (t29 : Int) (t30 : Int) (t40 : List (Den s_api_Instr)) (t41 : Int) (t42 : Int) (t4_0 : ByteArray) (t4_2 : Int) (g_0 : ByteArray) (g_2 : Int) (b_0 : List (Den I)) (b_1 : List (Den s_api_Instr)) (b_2 : Int) (b_3 : List (Den I)) (b_4 : List (Den I)) (b_5 : List (Den s_api_Edge)) (b_6 : Int) (n_2 : Int) (n_6 : Int) (g_1 : List (Den I)) (g_3 : List (Den I)) (g_4 : List (Den s_api_Block)) (n_0 : List (Den I)) (n_1 : List (Den s_api_Instr)) : run E_C4 H_C4 f_cfg_mapped 3000 (mapC_L2 t28 t29 t30 t40 t41 t42 t4_0 t4_2 g_0 g_2 b_0 b_1 b_2 b_3 b_4 b_5 b_6 n_2 n_6 g_1 g_3 g_4 n_0 n_1) = (cond (decide (t42 < t41)) (.chk (0 ≤ t42 ∧ t42 < (ln s_api_Instr t40)) (.chk (True) (.chk (True) (.know True (.know (okD (.int .i64) (idR (((gd s_api_Instr t40 ((t42).toNat)).2).2).1)) (.chk (((ln s_api_Instr n_1) + (1 : Nat)) * 80 ≤ roomB) (hd (mapC_L2 t28 t29 t30 t40 t41 (IntKind.wrap .i64 (t42 + (1 : Int))) t4_0 t4_2 g_0 g_2 b_0 b_1 b_2 b_3 b_4 b_5 b_6 n_2 n_6 g_1 g_3 g_4 n_0 (ap s_api_Instr n_1 ([((gd s_api_Instr t40 ((t42).toNat)).1, ((gd s_api_Instr t40 ((t42).toNat)).2).1, (idR (((gd s_api_Instr t40 ((t42).toNat)).2).2).1), (idL ((((gd s_api_Instr t40 ((t42).toNat)).2).2).2).1), ((((gd s_api_Instr t40 ((t42).toNat)).2).2).2).2)] : List (Den s_api_Instr))))))))))) (.chk (True) (.chk (True) (.know True (.know True (hd (mapC_L4 t28 t29 t30 b_5 ((ln s_api_Edge b_5) : Int) (0 : Int) t4_0 t4_2 g_0 g_2 b_2 b_6 g_1 g_3 g_4 n_0 n_1 (idL b_3) (idL b_4) ([] : List (Den s_api_Edge))))))))) := by kernel_rfl
theorem mapC_L4_t (t28 : List (Den s_api_Block)) (t29 : Int) (t30 : Int) (t82 : List (Den s_api_Edge)) (t83 : Int) (t84 : Int) (t4_0 : ByteArray) (t4_2 : Int) (g_0 : ByteArray) (g_2 : Int) (n_2 : Int) (n_6 : Int) (g_1 : List (Den I)) (g_3 : List (Den I)) (g_4 : List (Den s_api_Block)) (n_0 : List (Den I)) (n_1 : List (Den s_api_Instr)) (n_3 : List (Den I)) (n_4 : List (Den I)) (n_5 : List (Den s_api_Edge)) : run E_C4 H_C4 f_cfg_mapped 3000 (mapC_L4 t28 t29 t30 t82 t83 t84 t4_0 t4_2 g_0 g_2 n_2 n_6 g_1 g_3 g_4 n_0 n_1 n_3 n_4 n_5) = (cond (decide (t84 < t83)) (.chk (0 ≤ t84 ∧ t84 < (ln s_api_Edge t82)) (.chk (True) (.chk (((ln s_api_Edge n_5) + (1 : Nat)) * 32 ≤ roomB) (.know True (hd (mapC_L4 t28 t29 t30 t82 t83 (IntKind.wrap .i64 (t84 + (1 : Int))) t4_0 t4_2 g_0 g_2 n_2 n_6 g_1 g_3 g_4 n_0 n_1 n_3 n_4 (ap s_api_Edge n_5 ([((gd s_api_Edge t82 ((t84).toNat)).1, (idL ((gd s_api_Edge t82 ((t84).toNat)).2).1), ())] : List (Den s_api_Edge))))))))) (.chk (((ln s_api_Block g_4) + (1 : Nat)) * 136 ≤ roomB) (hd (mapC_L0 t28 t29 (IntKind.wrap .i64 (t30 + (1 : Int))) t4_0 t4_2 g_0 g_2 g_1 g_3 (ap s_api_Block g_4 ([(n_0, n_1, (n_2, n_3, n_4, n_5, n_6, ()), ())] : List (Den s_api_Block))))))) := by kernel_rfl
def idF (f : Fn) : Den s_api_Func := f
def idI (i : Den s_api_Instr) : Den s_api_Instr := i
def ret1 (f : Fn) (x : AV) (h : Heap) : Prop := x = (ownRes 1 s_api_Func (idF f)).1 ∧ h = (ownRes 1 s_api_Func (idF f)).2
theorem mapC_l (f : Fn) (l : List (Den s_api_Block)) (hf : blocks f = l) (ho : okB l) : ∀ i, i ≤ ln s_api_Block l → ∀ a b, Runs E_C4 (mapC_L0 l (ln s_api_Block l : Nat) i a b (tOf f.1) (z f.2.2.1) (idL f.2.1) (idL f.2.2.2.1) (l.take i)) (ret1 f) :=
  up_ind (fun a b => .tree E_C4_ok (mapC_L0_t _ _ _ _ _ _ _ _ _ _) (by
    rw [take_ln]
    simp only [wp_iff, chk_iff, know_iff, any_iff, rt_iff, hd_iff, true_imp_iff, true_and, and_true, and_self, lt01, Int.ofNat_lt, Int.ofNat_le, Int.natCast_nonneg, Int.toNat_natCast, decide_true, decide_false, Bool.true_eq_false, Bool.false_eq_true, false_imp_iff, Nat.lt_irrefl, imp_self, implies_true,  ret1]
    rw [← hf]
    exact ⟨rfl, rfl⟩))
    fun i hi ih a b => .tree E_C4_ok (mapC_L0_t _ _ _ _ _ _ _ _ _ _) (by
      simp only [wp_iff, chk_iff, know_iff, any_iff, rt_iff, hd_iff, true_imp_iff, true_and, and_true, and_self, lt01, Int.ofNat_lt, Int.ofNat_le, Int.natCast_nonneg, Int.toNat_natCast, decide_true, decide_false, Bool.true_eq_false, Bool.false_eq_true, false_imp_iff, Nat.lt_irrefl, imp_self, implies_true,  hi, idL]
      have hob := ho.2 i hi
      have hst := take_gd hi
      generalize gd s_api_Block l i = B at hob hst
      have k4 : ∀ k, k ≤ ln s_api_Edge (tSuc B) → Runs E_C4 (mapC_L4 l (ln s_api_Block l : Nat) i (tSuc B) (ln s_api_Edge (tSuc B) : Nat) k a b (tOf f.1) (z f.2.2.1) (z B.2.2.1.1) (z B.2.2.1.2.2.2.2.1) f.2.1 f.2.2.2.1 (l.take i) (bPar B) (bIns B) (tArgs B) B.2.2.1.2.2.1 ((tSuc B).take k)) (ret1 f) :=
        up_ind (.tree E_C4_ok (mapC_L4_t _ _ _ _ _ _ _ _ _ _ _ _ _ _ _ _ _ _ _ _) (by
          rw [take_ln]
          simp only [wp_iff, chk_iff, know_iff, any_iff, rt_iff, hd_iff, true_imp_iff, true_and, and_true, and_self, lt01, Int.ofNat_lt, Int.ofNat_le, Int.natCast_nonneg, Int.toNat_natCast, decide_true, decide_false, Bool.true_eq_false, Bool.false_eq_true, false_imp_iff, Nat.lt_irrefl, imp_self, implies_true,  ln_take (Nat.le_of_lt hi), wrapS hi (room_lt ho.1)]
          refine ⟨room_part ho.1 hi (by decide), fun _ => ?_⟩
          have := ih a b
          rw [hst] at this
          exact this))
          fun k hk ihk => .tree E_C4_ok (mapC_L4_t _ _ _ _ _ _ _ _ _ _ _ _ _ _ _ _ _ _ _ _) (by
            have hr := hob.2.2.1.2.2.2.1.1
            rw [take_gd hk] at ihk
            simp only [wp_iff, chk_iff, know_iff, any_iff, rt_iff, hd_iff, true_imp_iff, true_and, and_true, and_self, lt01, Int.ofNat_lt, Int.ofNat_le, Int.natCast_nonneg, Int.toNat_natCast, decide_true, decide_false, Bool.true_eq_false, Bool.false_eq_true, false_imp_iff, Nat.lt_irrefl, imp_self, implies_true,  hk, ln_take (Nat.le_of_lt hk), wrapS hk (room_lt hr), idL]
            exact ⟨room_part hr hk (by decide), fun _ => ihk⟩)
      have k2 : ∀ k, k ≤ ln s_api_Instr (bIns B) → Runs E_C4 (mapC_L2 l (ln s_api_Block l : Nat) i (bIns B) (ln s_api_Instr (bIns B) : Nat) k a b (tOf f.1) (z f.2.2.1) (bPar B) (bIns B) (z B.2.2.1.1) (tArgs B) B.2.2.1.2.2.1 (tSuc B) (z B.2.2.1.2.2.2.2.1) 0 0 f.2.1 f.2.2.2.1 (l.take i) (bPar B) ((bIns B).take k)) (ret1 f) :=
        up_ind (.tree E_C4_ok (mapC_L2_t _ _ _ _ _ _ _ _ _ _ _ _ _ _ _ _ _ _ _ _ _ _ _ _) (by
          rw [take_ln]
          simp only [wp_iff, chk_iff, know_iff, any_iff, rt_iff, hd_iff, true_imp_iff, true_and, and_true, and_self, lt01, Int.ofNat_lt, Int.ofNat_le, Int.natCast_nonneg, Int.toNat_natCast, decide_true, decide_false, Bool.true_eq_false, Bool.false_eq_true, false_imp_iff, Nat.lt_irrefl, imp_self, implies_true,  idL]
          exact k4 0 (Nat.zero_le _)))
          fun k hk ihk => .tree E_C4_ok (mapC_L2_t _ _ _ _ _ _ _ _ _ _ _ _ _ _ _ _ _ _ _ _ _ _ _ _) (by
            have hr := hob.2.1.1
            rw [take_gd hk] at ihk
            simp only [wp_iff, chk_iff, know_iff, any_iff, rt_iff, hd_iff, true_imp_iff, true_and, and_true, and_self, lt01, Int.ofNat_lt, Int.ofNat_le, Int.natCast_nonneg, Int.toNat_natCast, decide_true, decide_false, Bool.true_eq_false, Bool.false_eq_true, false_imp_iff, Nat.lt_irrefl, imp_self, implies_true,  hk, ln_take (Nat.le_of_lt hk), wrapS hk (room_lt hr), idL, idR]
            exact fun _ => ⟨room_part hr hk (by decide), fun _ => ihk⟩)
      exact k2 0 (Nat.zero_le _))
def k_mapC : Con := conO 1 [.d s_api_Func, .fn f_cfg_clone_cl1 []] s_api_Func (fun x => True) fun x => idF x.1
theorem m_mapC (f : Den s_api_Func) (h_f : okD s_api_Func f) (hp : True) : Runs E_C4 (start E_C4 f_cfg_mapped [(.tv s_api_Func f), (.fn f_cfg_clone_cl1 [])]) (fun r_ h_ => r_ = (ownRes 1 s_api_Func (idF f)).1 ∧ h_ = (ownRes 1 s_api_Func (idF f)).2) := .tree E_C4_ok (mapC_t f) (by
  simp only [wp_iff, chk_iff, know_iff, any_iff, rt_iff, hd_iff, true_imp_iff, true_and, and_true, and_self, lt01]
  exact mapC_l f _ rfl (okB_of h_f) 0 (Nat.zero_le _) _ _)
theorem c_mapC : SpecOK E_C4 f_cfg_mapped k_mapC.spec := spec_of fun x hx hp => ⟨rfl, m_mapC x.1 hx.1 hp⟩
def L_C4 : List (FuncId × FSpec) := [(f_cfg_mapped, k_mapC.spec)] ++ L_C3
theorem L_C4_ok : ∀ x ∈ L_C4, SpecOK (ctx []) x.1 x.2 := by
  unfold L_C4
  simp only [List.cons_append, List.nil_append, List.forall_mem_cons]
  exact ⟨c_mapC, L_C3_ok⟩
end Burn.M20
namespace Burn.M20
open Go Go.BE Go.Proofs
set_option maxRecDepth 100000
set_option linter.unusedVariables false
set_option linter.unusedSimpArgs false
open Burn.Cfg
noncomputable abbrev E_C5 : Ctx := ctx L_C4
theorem E_C5_ok : EOK E_C5 := ctx_ok L_C4_ok
def cuts_C5 : CutL := [([], 16, 0, [2, 3, 24, 25, 26], [(.c 3 4, .own 136 s_api_Block)], []),
  ([], 16, 2, [2, 3, 5, 6, 24, 25, 26, 38, 39, 40], [(.c 6 1, .own 80 s_api_Instr)], []),
  ([], 16, 4, [2, 3, 6, 24, 25, 26, 74, 75, 76], [(.c 6 5, .own 32 s_api_Edge)], []),
  ([], 48, 0, [1, 2, 3, 16, 17, 18], [(.c 3 1, .own 80 s_api_Instr)], []),
  ([], 48, 2, [2, 3, 52, 53, 54], [(.c 3 5, .own 32 s_api_Edge)], [])]
def rets_C5 : FuncId → List (Option Fx)
  | 16 => [some (.dat s_api_Func)]
  | _ => []
def H_C5 : Hints := { cut := cutOf cuts_C5, ret := rets_C5 }
theorem cfg_clone_t (f : Den s_api_Func) : run E_C5 H_C5 f_cfg_clone 3000 (start E_C5 f_cfg_clone [(.tv s_api_Func f)]) = (.chk (True) (.know (okAVs [(vs (tOf ((idF f).1))), (.osl 0 0 [] none), (vi (z ((((idF f).2).2).1))), (.osl 1 1 [] none), (.osl 2 2 [] none)]) (rt (.agg [(vs (tOf ((idF f).1))), (.osl 0 0 [] none), (vi (z ((((idF f).2).2).1))), (.osl 1 1 [] none), (.osl 2 2 [] none)]) [(0, ⟨(.arr 0 8 I (((idF f).2).1)), 0, [], false, none⟩), (1, ⟨(.arr 0 8 I (((((idF f).2).2).2).1)), 1, [], false, none⟩), (2, ⟨(.arr 1 136 s_api_Block ((((((idF f).2).2).2).2).1)), 2, [], false, none⟩)]))) := by kernel_rfl
noncomputable def r20_cloneBlock_L0 (b : Den s_api_Block) (t16 : List (Den s_api_Instr)) (t17 : Int) (t18 : Int) (t2_2 : Int) (t2_6 : Int) (out_2 : Int) (out_3 : List (Den I)) (out_4 : List (Den I)) (out_5 : List (Den s_api_Edge)) (out_6 : Int) (out_0 : List (Den I)) (out_1 : List (Den s_api_Instr)) : Cfg := hcfg E_C5 f_r20_cloneBlock 0 [(1, (.rtp s_api_Block b)), (2, (.ref 0 0)), (3, (.ref 1 0)), (16, (.tv (.sl 80 s_api_Instr) t16)), (17, (vi t17)), (18, (vi t18))] [(0, ⟨(.cells [(.val (.slice none 0 0)), (.val (.slice none 0 0)), (vi t2_2), (.val (.slice none 0 0)), (.val (.slice none 0 0)), (.val (.slice none 0 0)), (vi t2_6)]), 0, [], false, none⟩), (1, ⟨(.cells [(.osl 2 2 [] none), (.osl 3 3 [] none), (vi out_2), (.tv (.sl 8 I) out_3), (.tv (.sl 8 I) out_4), (.tv (.sl 32 s_api_Edge) out_5), (vi out_6)]), 1, [], false, none⟩), (2, ⟨(.arr 0 8 I out_0), 2, [], false, none⟩), (3, ⟨(.arr 0 80 s_api_Instr out_1), 3, [], false, none⟩)] 4
noncomputable def r20_cloneBlock_L2 (t52 : List (Den s_api_Edge)) (t53 : Int) (t54 : Int) (t2_2 : Int) (t2_6 : Int) (out_2 : Int) (out_6 : Int) (out_0 : List (Den I)) (out_1 : List (Den s_api_Instr)) (out_3 : List (Den I)) (out_4 : List (Den I)) (out_5 : List (Den s_api_Edge)) : Cfg := hcfg E_C5 f_r20_cloneBlock 2 [(2, (.ref 0 0)), (3, (.ref 1 0)), (52, (.tv (.sl 32 s_api_Edge) t52)), (53, (vi t53)), (54, (vi t54))] [(0, ⟨(.cells [(.val (.slice none 0 0)), (.val (.slice none 0 0)), (vi t2_2), (.val (.slice none 0 0)), (.val (.slice none 0 0)), (.val (.slice none 0 0)), (vi t2_6)]), 0, [], false, none⟩), (1, ⟨(.cells [(.osl 2 2 [] none), (.osl 3 3 [] none), (vi out_2), (.osl 4 4 [] none), (.osl 5 5 [] none), (.osl 6 6 [] none), (vi out_6)]), 1, [], false, none⟩), (2, ⟨(.arr 0 8 I out_0), 2, [], false, none⟩), (3, ⟨(.arr 0 80 s_api_Instr out_1), 3, [], false, none⟩), (4, ⟨(.arr 0 8 I out_3), 4, [], false, none⟩), (5, ⟨(.arr 0 8 I out_4), 5, [], false, none⟩), (6, ⟨(.arr 0 32 s_api_Edge out_5), 6, [], false, none⟩)] 7
theorem r20_cloneBlock_t (b : Den s_api_Block) : run E_C5 H_C5 f_r20_cloneBlock 3000 (start E_C5 f_r20_cloneBlock [(.tv s_api_Block b)]) = (.chk (((0 : Nat) + (ln I b.1)) * 8 ≤ roomB) (hd (r20_cloneBlock_L0 b b.2.1 ((ln s_api_Instr b.2.1) : Int) (0 : Int) (0 : Int) (0 : Int) (z b.2.2.1.1) b.2.2.1.2.1 b.2.2.1.2.2.1 b.2.2.1.2.2.2.1 (z b.2.2.1.2.2.2.2.1) (ap I ([] : List (Den I)) b.1) ([] : List (Den s_api_Instr))))) := by kernel_rfl
theorem r20_cloneBlock_L0_t (b : Den s_api_Block) (t16 : List (Den s_api_Instr)) (t17 : Int) (t18 : Int) (t2_2 : Int) (t2_6 : Int) (out_2 : Int) (out_3 : List (Den I)) (out_4 : List (Den I)) (out_5 : List (Den s_api_Edge)) (out_6 : Int) (out_0 : List (Den I)) (out_1 : List (Den s_api_Instr)) : run E_C5 H_C5 f_r20_cloneBlock 3000 (r20_cloneBlock_L0 b t16 t17 t18 t2_2 t2_6 out_2 out_3 out_4 out_5 out_6 out_0 out_1) = (cond (decide (t18 < t17)) (.chk (0 ≤ t18 ∧ t18 < (ln s_api_Instr t16)) (.chk (((0 : Nat) + (ln I (((((gd s_api_Instr t16 ((t18).toNat)).2).2).2).1))) * 8 ≤ roomB) (.chk (((ln s_api_Instr out_1) + (1 : Nat)) * 80 ≤ roomB) (hd (r20_cloneBlock_L0 b t16 t17 (IntKind.wrap .i64 (t18 + (1 : Int))) t2_2 t2_6 out_2 out_3 out_4 out_5 out_6 out_0 (ap s_api_Instr out_1 ([((gd s_api_Instr t16 ((t18).toNat)).1, ((gd s_api_Instr t16 ((t18).toNat)).2).1, (((gd s_api_Instr t16 ((t18).toNat)).2).2).1, (ap I ([] : List (Den I)) (((((gd s_api_Instr t16 ((t18).toNat)).2).2).2).1)), ((((gd s_api_Instr t16 ((t18).toNat)).2).2).2).2)] : List (Den s_api_Instr)))))))) (.chk (((0 : Nat) + (ln I b.2.2.1.2.1)) * 8 ≤ roomB) (.chk (((0 : Nat) + (ln I b.2.2.1.2.2.1)) * 8 ≤ roomB) (hd (r20_cloneBlock_L2 b.2.2.1.2.2.2.1 ((ln s_api_Edge b.2.2.1.2.2.2.1) : Int) (0 : Int) t2_2 t2_6 out_2 out_6 out_0 out_1 (ap I ([] : List (Den I)) b.2.2.1.2.1) (ap I ([] : List (Den I)) b.2.2.1.2.2.1) ([] : List (Den s_api_Edge))))))) := by kernel_rfl
theorem r20_cloneBlock_L2_t (t52 : List (Den s_api_Edge)) (t53 : Int) (t54 : Int) (t2_2 : Int) (t2_6 : Int) (out_2 : Int) (out_6 : Int) (out_0 : List (Den I)) (out_1 : List (Den s_api_Instr)) (out_3 : List (Den I)) (out_4 : List (Den I)) (out_5 : List (Den s_api_Edge)) : run E_C5 H_C5 f_r20_cloneBlock 3000 (r20_cloneBlock_L2 t52 t53 t54 t2_2 t2_6 out_2 out_6 out_0 out_1 out_3 out_4 out_5) = (cond (decide (t54 < t53)) (.chk (0 ≤ t54 ∧ t54 < (ln s_api_Edge t52)) (.chk (((0 : Nat) + (ln I (((gd s_api_Edge t52 ((t54).toNat)).2).1))) * 8 ≤ roomB) (.chk (((ln s_api_Edge out_5) + (1 : Nat)) * 32 ≤ roomB) (hd (r20_cloneBlock_L2 t52 t53 (IntKind.wrap .i64 (t54 + (1 : Int))) t2_2 t2_6 out_2 out_6 out_0 out_1 out_3 out_4 (ap s_api_Edge out_5 ([((gd s_api_Edge t52 ((t54).toNat)).1, (ap I ([] : List (Den I)) (((gd s_api_Edge t52 ((t54).toNat)).2).1)), ())] : List (Den s_api_Edge)))))))) (rt (.agg [(.osl 0 0 [] none), (.osl 1 1 [] none), (vi out_2), (.osl 2 2 [] none), (.osl 3 3 [] none), (.osl 4 4 [] none), (vi out_6)]) [(0, ⟨(.arr 0 8 I out_0), 0, [], false, none⟩), (1, ⟨(.arr 0 80 s_api_Instr out_1), 1, [], false, none⟩), (2, ⟨(.arr 0 8 I out_3), 2, [], false, none⟩), (3, ⟨(.arr 0 8 I out_4), 3, [], false, none⟩), (4, ⟨(.arr 0 32 s_api_Edge out_5), 4, [], false, none⟩)])) := by kernel_rfl
noncomputable def r14_CloneFunc_L0 (t24 : List (Den s_api_Block)) (t25 : Int) (t26 : Int) (t2_0 : ByteArray) (t2_2 : Int) (out_0 : ByteArray) (out_2 : Int) (out_1 : List (Den I)) (out_3 : List (Den I)) (out_4 : List (Den s_api_Block)) : Cfg := hcfg E_C5 f_r14_CloneFunc 0 [(2, (.ref 0 0)), (3, (.ref 1 0)), (24, (.tv (.sl 136 s_api_Block) t24)), (25, (vi t25)), (26, (vi t26))] [(0, ⟨(.cells [(vs t2_0), (.val (.slice none 0 0)), (vi t2_2), (.val (.slice none 0 0)), (.val (.slice none 0 0))]), 0, [], false, none⟩), (1, ⟨(.cells [(vs out_0), (.osl 2 2 [] none), (vi out_2), (.osl 3 3 [] none), (.osl 4 4 [] none)]), 1, [], false, none⟩), (2, ⟨(.arr 0 8 I out_1), 2, [], false, none⟩), (3, ⟨(.arr 0 8 I out_3), 3, [], false, none⟩), (4, ⟨(.arr 0 136 s_api_Block out_4), 4, [], false, none⟩)] 5
noncomputable def r14_CloneFunc_L2 (t24 : List (Den s_api_Block)) (t25 : Int) (t26 : Int) (t38 : List (Den s_api_Instr)) (t39 : Int) (t40 : Int) (t2_0 : ByteArray) (t2_2 : Int) (out_0 : ByteArray) (out_2 : Int) (b_0 : List (Den I)) (b_1 : List (Den s_api_Instr)) (b_2 : Int) (b_3 : List (Den I)) (b_4 : List (Den I)) (b_5 : List (Den s_api_Edge)) (b_6 : Int) (x_2 : Int) (x_3 : List (Den I)) (x_4 : List (Den I)) (x_5 : List (Den s_api_Edge)) (x_6 : Int) (out_1 : List (Den I)) (out_3 : List (Den I)) (out_4 : List (Den s_api_Block)) (x_0 : List (Den I)) (x_1 : List (Den s_api_Instr)) : Cfg := hcfg E_C5 f_r14_CloneFunc 2 [(2, (.ref 0 0)), (3, (.ref 1 0)), (5, (.ref 2 0)), (6, (.ref 3 0)), (24, (.tv (.sl 136 s_api_Block) t24)), (25, (vi t25)), (26, (vi t26)), (38, (.tv (.sl 80 s_api_Instr) t38)), (39, (vi t39)), (40, (vi t40))] [(0, ⟨(.cells [(vs t2_0), (.val (.slice none 0 0)), (vi t2_2), (.val (.slice none 0 0)), (.val (.slice none 0 0))]), 0, [], false, none⟩), (1, ⟨(.cells [(vs out_0), (.osl 4 4 [] none), (vi out_2), (.osl 5 5 [] none), (.osl 6 6 [] none)]), 1, [], false, none⟩), (2, ⟨(.cells [(.tv (.sl 8 I) b_0), (.tv (.sl 80 s_api_Instr) b_1), (vi b_2), (.tv (.sl 8 I) b_3), (.tv (.sl 8 I) b_4), (.tv (.sl 32 s_api_Edge) b_5), (vi b_6)]), 2, [], false, none⟩), (3, ⟨(.cells [(.osl 7 7 [] none), (.osl 8 8 [] none), (vi x_2), (.tv (.sl 8 I) x_3), (.tv (.sl 8 I) x_4), (.tv (.sl 32 s_api_Edge) x_5), (vi x_6)]), 3, [], false, none⟩), (4, ⟨(.arr 0 8 I out_1), 4, [], false, none⟩), (5, ⟨(.arr 0 8 I out_3), 5, [], false, none⟩), (6, ⟨(.arr 0 136 s_api_Block out_4), 6, [], false, none⟩), (7, ⟨(.arr 0 8 I x_0), 7, [], false, none⟩), (8, ⟨(.arr 0 80 s_api_Instr x_1), 8, [], false, none⟩)] 9
noncomputable def r14_CloneFunc_L4 (t24 : List (Den s_api_Block)) (t25 : Int) (t26 : Int) (t74 : List (Den s_api_Edge)) (t75 : Int) (t76 : Int) (t2_0 : ByteArray) (t2_2 : Int) (out_0 : ByteArray) (out_2 : Int) (x_2 : Int) (x_6 : Int) (out_1 : List (Den I)) (out_3 : List (Den I)) (out_4 : List (Den s_api_Block)) (x_0 : List (Den I)) (x_1 : List (Den s_api_Instr)) (x_3 : List (Den I)) (x_4 : List (Den I)) (x_5 : List (Den s_api_Edge)) : Cfg := hcfg E_C5 f_r14_CloneFunc 4 [(2, (.ref 0 0)), (3, (.ref 1 0)), (6, (.ref 2 0)), (24, (.tv (.sl 136 s_api_Block) t24)), (25, (vi t25)), (26, (vi t26)), (74, (.tv (.sl 32 s_api_Edge) t74)), (75, (vi t75)), (76, (vi t76))] [(0, ⟨(.cells [(vs t2_0), (.val (.slice none 0 0)), (vi t2_2), (.val (.slice none 0 0)), (.val (.slice none 0 0))]), 0, [], false, none⟩), (1, ⟨(.cells [(vs out_0), (.osl 3 3 [] none), (vi out_2), (.osl 4 4 [] none), (.osl 5 5 [] none)]), 1, [], false, none⟩), (2, ⟨(.cells [(.osl 6 6 [] none), (.osl 7 7 [] none), (vi x_2), (.osl 8 8 [] none), (.osl 9 9 [] none), (.osl 10 10 [] none), (vi x_6)]), 2, [], false, none⟩), (3, ⟨(.arr 0 8 I out_1), 3, [], false, none⟩), (4, ⟨(.arr 0 8 I out_3), 4, [], false, none⟩), (5, ⟨(.arr 0 136 s_api_Block out_4), 5, [], false, none⟩), (6, ⟨(.arr 0 8 I x_0), 6, [], false, none⟩), (7, ⟨(.arr 0 80 s_api_Instr x_1), 7, [], false, none⟩), (8, ⟨(.arr 0 8 I x_3), 8, [], false, none⟩), (9, ⟨(.arr 0 8 I x_4), 9, [], false, none⟩), (10, ⟨(.arr 0 32 s_api_Edge x_5), 10, [], false, none⟩)] 11
theorem r14_CloneFunc_t (f : Den s_api_Func) : run E_C5 H_C5 f_r14_CloneFunc 3000 (start E_C5 f_r14_CloneFunc [(.tv s_api_Func f)]) = (.chk (((0 : Nat) + (ln I f.2.1)) * 8 ≤ roomB) (.chk (((0 : Nat) + (ln I f.2.2.2.1)) * 8 ≤ roomB) (hd (r14_CloneFunc_L0 f.2.2.2.2.1 ((ln s_api_Block f.2.2.2.2.1) : Int) (0 : Int) ByteArray.empty (0 : Int) (tOf f.1) (z f.2.2.1) (ap I ([] : List (Den I)) f.2.1) (ap I ([] : List (Den I)) f.2.2.2.1) ([] : List (Den s_api_Block)))))) := by kernel_rfl
theorem r14_CloneFunc_L0_t (t24 : List (Den s_api_Block)) (t25 : Int) (t26 : Int) (t2_0 : ByteArray) (t2_2 : Int) (out_0 : ByteArray) (out_2 : Int) (out_1 : List (Den I)) (out_3 : List (Den I)) (out_4 : List (Den s_api_Block)) : run E_C5 H_C5 f_r14_CloneFunc 3000 (r14_CloneFunc_L0 t24 t25 t26 t2_0 t2_2 out_0 out_2 out_1 out_3 out_4) = (cond (decide (t26 < t25)) (.chk (0 ≤ t26 ∧ t26 < (ln s_api_Block t24)) (.chk (((0 : Nat) + (ln I ((gd s_api_Block t24 ((t26).toNat)).1))) * 8 ≤ roomB) (hd (r14_CloneFunc_L2 t24 t25 t26 (((gd s_api_Block t24 ((t26).toNat)).2).1) ((ln s_api_Instr (((gd s_api_Block t24 ((t26).toNat)).2).1)) : Int) (0 : Int) t2_0 t2_2 out_0 out_2 ((gd s_api_Block t24 ((t26).toNat)).1) (((gd s_api_Block t24 ((t26).toNat)).2).1) (z (((((gd s_api_Block t24 ((t26).toNat)).2).2).1).1)) ((((((gd s_api_Block t24 ((t26).toNat)).2).2).1).2).1) (((((((gd s_api_Block t24 ((t26).toNat)).2).2).1).2).2).1) ((((((((gd s_api_Block t24 ((t26).toNat)).2).2).1).2).2).2).1) (z (((((((((gd s_api_Block t24 ((t26).toNat)).2).2).1).2).2).2).2).1)) (z (((((gd s_api_Block t24 ((t26).toNat)).2).2).1).1)) ((((((gd s_api_Block t24 ((t26).toNat)).2).2).1).2).1) (((((((gd s_api_Block t24 ((t26).toNat)).2).2).1).2).2).1) ((((((((gd s_api_Block t24 ((t26).toNat)).2).2).1).2).2).2).1) (z (((((((((gd s_api_Block t24 ((t26).toNat)).2).2).1).2).2).2).2).1)) out_1 out_3 out_4 (ap I ([] : List (Den I)) ((gd s_api_Block t24 ((t26).toNat)).1)) ([] : List (Den s_api_Instr)))))) (rt (.tv s_api_Func (out_0, out_1, out_2, out_3, out_4, ())) [])) := by kernel_rfl
theorem r14_CloneFunc_L2_t (t24 : List (Den s_api_Block)) (t25 : Int) (t26 : Int) (t38 : List (Den s_api_Instr)) (t39 : Int) (t40 : Int) (t2_0 : ByteArray) (t2_2 : Int) (out_0 : ByteArray) (out_2 : Int) (b_0 : List (Den I)) (b_1 : List (Den s_api_Instr)) (b_2 : Int) (b_3 : List (Den I)) (b_4 : List (Den I)) (b_5 : List (Den s_api_Edge)) (b_6 : Int) (x_2 : Int) (x_3 : List (Den I)) (x_4 : List (Den I)) (x_5 : List (Den s_api_Edge)) (x_6 : Int) (out_1 : List (Den I)) (out_3 : List (Den I)) (out_4 : List (Den s_api_Block)) (x_0 : List (Den I)) (x_1 : List (Den s_api_Instr)) : run E_C5 H_C5 f_r14_CloneFunc 3000 (r14_CloneFunc_L2 t24 t25 t26 t38 t39 t40 t2_0 t2_2 out_0 out_2 b_0 b_1 b_2 b_3 b_4 b_5 b_6 x_2 x_3 x_4 x_5 x_6 out_1 out_3 out_4 x_0 x_1) = (cond (decide (t40 < t39)) (.chk (0 ≤ t40 ∧ t40 < (ln s_api_Instr t38)) (.chk (((0 : Nat) + (ln I (((((gd s_api_Instr t38 ((t40).toNat)).2).2).2).1))) * 8 ≤ roomB) (.chk (((ln s_api_Instr x_1) + (1 : Nat)) * 80 ≤ roomB) (hd (r14_CloneFunc_L2 t24 t25 t26 t38 t39 (IntKind.wrap .i64 (t40 + (1 : Int))) t2_0 t2_2 out_0 out_2 b_0 b_1 b_2 b_3 b_4 b_5 b_6 x_2 x_3 x_4 x_5 x_6 out_1 out_3 out_4 x_0 (ap s_api_Instr x_1 ([((gd s_api_Instr t38 ((t40).toNat)).1, ((gd s_api_Instr t38 ((t40).toNat)).2).1, (((gd s_api_Instr t38 ((t40).toNat)).2).2).1, (ap I ([] : List (Den I)) (((((gd s_api_Instr t38 ((t40).toNat)).2).2).2).1)), ((((gd s_api_Instr t38 ((t40).toNat)).2).2).2).2)] : List (Den s_api_Instr)))))))) (.chk (((0 : Nat) + (ln I b_3)) * 8 ≤ roomB) (.chk (((0 : Nat) + (ln I b_4)) * 8 ≤ roomB) (hd (r14_CloneFunc_L4 t24 t25 t26 b_5 ((ln s_api_Edge b_5) : Int) (0 : Int) t2_0 t2_2 out_0 out_2 x_2 x_6 out_1 out_3 out_4 x_0 x_1 (ap I ([] : List (Den I)) b_3) (ap I ([] : List (Den I)) b_4) ([] : List (Den s_api_Edge))))))) := by kernel_rfl
theorem r14_CloneFunc_L4_t (t24 : List (Den s_api_Block)) (t25 : Int) (t26 : Int) (t74 : List (Den s_api_Edge)) (t75 : Int) (t76 : Int) (t2_0 : ByteArray) (t2_2 : Int) (out_0 : ByteArray) (out_2 : Int) (x_2 : Int) (x_6 : Int) (out_1 : List (Den I)) (out_3 : List (Den I)) (out_4 : List (Den s_api_Block)) (x_0 : List (Den I)) (x_1 : List (Den s_api_Instr)) (x_3 : List (Den I)) (x_4 : List (Den I)) (x_5 : List (Den s_api_Edge)) : run E_C5 H_C5 f_r14_CloneFunc 3000 (r14_CloneFunc_L4 t24 t25 t26 t74 t75 t76 t2_0 t2_2 out_0 out_2 x_2 x_6 out_1 out_3 out_4 x_0 x_1 x_3 x_4 x_5) = (cond (decide (t76 < t75)) (.chk (0 ≤ t76 ∧ t76 < (ln s_api_Edge t74)) (.chk (((0 : Nat) + (ln I (((gd s_api_Edge t74 ((t76).toNat)).2).1))) * 8 ≤ roomB) (.chk (((ln s_api_Edge x_5) + (1 : Nat)) * 32 ≤ roomB) (hd (r14_CloneFunc_L4 t24 t25 t26 t74 t75 (IntKind.wrap .i64 (t76 + (1 : Int))) t2_0 t2_2 out_0 out_2 x_2 x_6 out_1 out_3 out_4 x_0 x_1 x_3 x_4 (ap s_api_Edge x_5 ([((gd s_api_Edge t74 ((t76).toNat)).1, (ap I ([] : List (Den I)) (((gd s_api_Edge t74 ((t76).toNat)).2).1)), ())] : List (Den s_api_Edge)))))))) (.chk (((ln s_api_Block out_4) + (1 : Nat)) * 136 ≤ roomB) (hd (r14_CloneFunc_L0 t24 t25 (IntKind.wrap .i64 (t26 + (1 : Int))) t2_0 t2_2 out_0 out_2 out_1 out_3 (ap s_api_Block out_4 ([(x_0, x_1, (x_2, x_3, x_4, x_5, x_6, ()), ())] : List (Den s_api_Block))))))) := by kernel_rfl
theorem r14_equalInstr_t (a : Den s_api_Instr) (b : Den s_api_Instr) : run E_C5 H_C5 f_r14_equalInstr 3000 (start E_C5 f_r14_equalInstr [(.tv s_api_Instr a), (.tv s_api_Instr b)]) = (cond ((z a.1) == (z b.1)) (cond ((z a.2.1) == (z b.2.1)) (cond ((z a.2.2.1) == (z b.2.2.1)) (cond ((z a.2.2.2.2.1) == (z b.2.2.2.2.1)) (cond ((z a.2.2.2.2.2.1) == (z b.2.2.2.2.2.1)) (cond ((z a.2.2.2.2.2.2.1) == (z b.2.2.2.2.2.2.1)) (cond ((bOf a.2.2.2.2.2.2.2.1) == (bOf b.2.2.2.2.2.2.2.1)) (.chk (True) (.know True (rt (vb (eqI a.2.2.2.1 b.2.2.2.1)) []))) (rt (vb false) [])) (rt (vb false) [])) (rt (vb false) [])) (rt (vb false) [])) (rt (vb false) [])) (rt (vb false) [])) (rt (vb false) [])) := by kernel_rfl

def k_cfg_clone : Con := conO 1 [.d s_api_Func] s_api_Func (fun x => True) fun x => idF x.1
theorem m_cfg_clone (f : Den s_api_Func) (h_f : okD s_api_Func f) (hp : True) : Runs E_C5 (start E_C5 f_cfg_clone [(.tv s_api_Func f)]) (fun r_ h_ => r_ = (ownRes 1 s_api_Func (idF f)).1 ∧ h_ = (ownRes 1 s_api_Func (idF f)).2) := .tree E_C5_ok (cfg_clone_t f) (by
  simp only [wp_iff, chk_iff, know_iff, any_iff, rt_iff, hd_iff, true_imp_iff, true_and, and_true, and_self, lt01]
  exact fun _ => ⟨rfl, rfl⟩)
theorem c_cfg_clone : SpecOK E_C5 f_cfg_clone k_cfg_clone.spec := spec_of fun x hx hp => ⟨rfl, m_cfg_clone x.1 hx.1 hp⟩
def idB (b : Blk) : Den s_api_Block := b
def retB (b : Blk) (x : AV) (h : Heap) : Prop := x = (ownRes 0 s_api_Block (idB b)).1 ∧ h = (ownRes 0 s_api_Block (idB b)).2
theorem room8 {l : List (Den I)} (h : okD (.sl 8 I) l) : (0 + ln I l) * 8 ≤ roomB := by
  rw [Nat.zero_add]
  exact h.1.1
theorem r20_cloneBlock_l (b : Blk) (hb : okD s_api_Block b) : ∀ i, i ≤ ln s_api_Instr (bIns b) → Runs E_C5 (r20_cloneBlock_L0 b (bIns b) (ln s_api_Instr (bIns b) : Nat) i 0 0 (z b.2.2.1.1) (tArgs b) b.2.2.1.2.2.1 (tSuc b) (z b.2.2.1.2.2.2.2.1) (bPar b) ((bIns b).take i)) (retB b) := by
  have k4 : ∀ k, k ≤ ln s_api_Edge (tSuc b) → Runs E_C5 (r20_cloneBlock_L2 (tSuc b) (ln s_api_Edge (tSuc b) : Nat) k 0 0 (z b.2.2.1.1) (z b.2.2.1.2.2.2.2.1) (bPar b) (bIns b) (tArgs b) b.2.2.1.2.2.1 ((tSuc b).take k)) (retB b) :=
    up_ind (.tree E_C5_ok (r20_cloneBlock_L2_t _ _ _ _ _ _ _ _ _ _ _ _) (by
      rw [take_ln]
      simp only [wp_iff, chk_iff, know_iff, any_iff, rt_iff, hd_iff, true_imp_iff, true_and, and_true, and_self, lt01, Int.ofNat_lt, Int.ofNat_le, Int.natCast_nonneg, Int.toNat_natCast, decide_true, decide_false, Bool.true_eq_false, Bool.false_eq_true, false_imp_iff, Nat.lt_irrefl, imp_self, implies_true,  retB]
      exact ⟨rfl, rfl⟩))
      fun k hk ihk => .tree E_C5_ok (r20_cloneBlock_L2_t _ _ _ _ _ _ _ _ _ _ _ _) (by
        have hr := hb.2.2.1.2.2.2.1
        have hi := room8 (ok_gd hr hk).2.1
        rw [take_gd hk] at ihk
        simp only [wp_iff, chk_iff, know_iff, any_iff, rt_iff, hd_iff, true_imp_iff, true_and, and_true, and_self, lt01, Int.ofNat_lt, Int.ofNat_le, Int.natCast_nonneg, Int.toNat_natCast, decide_true, decide_false, Bool.true_eq_false, Bool.false_eq_true, false_imp_iff, Nat.lt_irrefl, imp_self, implies_true,  hk, ln_take (Nat.le_of_lt hk), wrapS hk (room_lt hr.1), nil_ap]
        exact ⟨hi, fun _ => ⟨room_part hr.1 hk (by decide), fun _ => ihk⟩⟩)
  refine up_ind (.tree E_C5_ok (r20_cloneBlock_L0_t _ _ _ _ _ _ _ _ _ _ _ _ _) (by
      rw [take_ln]
      simp only [wp_iff, chk_iff, know_iff, any_iff, rt_iff, hd_iff, true_imp_iff, true_and, and_true, and_self, lt01, Int.ofNat_lt, Int.ofNat_le, Int.natCast_nonneg, Int.toNat_natCast, decide_true, decide_false, Bool.true_eq_false, Bool.false_eq_true, false_imp_iff, Nat.lt_irrefl, imp_self, implies_true,  nil_ap]
      exact ⟨room8 hb.2.2.1.2.1, fun _ => ⟨room8 hb.2.2.1.2.2.1, fun _ => k4 0 (Nat.zero_le _)⟩⟩))
      fun k hk ihk => .tree E_C5_ok (r20_cloneBlock_L0_t _ _ _ _ _ _ _ _ _ _ _ _ _) (by
        have hr := hb.2.1
        have hi := room8 (ok_gd hr hk).2.2.2.1
        rw [take_gd hk] at ihk
        simp only [wp_iff, chk_iff, know_iff, any_iff, rt_iff, hd_iff, true_imp_iff, true_and, and_true, and_self, lt01, Int.ofNat_lt, Int.ofNat_le, Int.natCast_nonneg, Int.toNat_natCast, decide_true, decide_false, Bool.true_eq_false, Bool.false_eq_true, false_imp_iff, Nat.lt_irrefl, imp_self, implies_true,  hk, ln_take (Nat.le_of_lt hk), wrapS hk (room_lt hr.1), nil_ap]
        exact ⟨hi, fun _ => ⟨room_part hr.1 hk (by decide), fun _ => ihk⟩⟩)
def k_r20_cloneBlock : Con := conO 0 [.d s_api_Block] s_api_Block (fun x => True) fun x => idB x.1
theorem m_r20_cloneBlock (b : Den s_api_Block) (h_b : okD s_api_Block b) (hp : True) : Runs E_C5 (start E_C5 f_r20_cloneBlock [(.tv s_api_Block b)]) (fun r_ h_ => r_ = (ownRes 0 s_api_Block (idB b)).1 ∧ h_ = (ownRes 0 s_api_Block (idB b)).2) := .tree E_C5_ok (r20_cloneBlock_t b) (by
  simp only [wp_iff, chk_iff, know_iff, any_iff, rt_iff, hd_iff, true_imp_iff, true_and, and_true, and_self, lt01]
  exact ⟨room8 h_b.1, fun _ => r20_cloneBlock_l b h_b 0 (Nat.zero_le _)⟩)
theorem c_r20_cloneBlock : SpecOK E_C5 f_r20_cloneBlock k_r20_cloneBlock.spec := spec_of fun x hx hp => ⟨rfl, m_r20_cloneBlock x.1 hx.1 hp⟩
theorem r14_CloneFunc_l (f : Fn) (l : List (Den s_api_Block)) (hf : blocks f = l) (ho : okB l) : ∀ i, i ≤ ln s_api_Block l → ∀ a b, Runs E_C5 (r14_CloneFunc_L0 l (ln s_api_Block l : Nat) i a b (tOf f.1) (z f.2.2.1) f.2.1 f.2.2.2.1 (l.take i)) (fun x h => x = .tv s_api_Func (idF f) ∧ h = []) :=
  up_ind (fun a b => .tree E_C5_ok (r14_CloneFunc_L0_t _ _ _ _ _ _ _ _ _ _) (by
    rw [take_ln]
    simp only [wp_iff, chk_iff, know_iff, any_iff, rt_iff, hd_iff, true_imp_iff, true_and, and_true, and_self, lt01, Int.ofNat_lt, Int.ofNat_le, Int.natCast_nonneg, Int.toNat_natCast, decide_true, decide_false, Bool.true_eq_false, Bool.false_eq_true, false_imp_iff, Nat.lt_irrefl, imp_self, implies_true,  idF]
    rw [← hf]))
    fun i hi ih a b => .tree E_C5_ok (r14_CloneFunc_L0_t _ _ _ _ _ _ _ _ _ _) (by
      simp only [wp_iff, chk_iff, know_iff, any_iff, rt_iff, hd_iff, true_imp_iff, true_and, and_true, and_self, lt01, Int.ofNat_lt, Int.ofNat_le, Int.natCast_nonneg, Int.toNat_natCast, decide_true, decide_false, Bool.true_eq_false, Bool.false_eq_true, false_imp_iff, Nat.lt_irrefl, imp_self, implies_true,  hi, nil_ap]
      have hob := ho.2 i hi
      have hst := take_gd hi
      generalize gd s_api_Block l i = B at hob hst
      have k4 : ∀ k, k ≤ ln s_api_Edge (tSuc B) → Runs E_C5 (r14_CloneFunc_L4 l (ln s_api_Block l : Nat) i (tSuc B) (ln s_api_Edge (tSuc B) : Nat) k a b (tOf f.1) (z f.2.2.1) (z B.2.2.1.1) (z B.2.2.1.2.2.2.2.1) f.2.1 f.2.2.2.1 (l.take i) (bPar B) (bIns B) (tArgs B) B.2.2.1.2.2.1 ((tSuc B).take k)) (fun x h => x = .tv s_api_Func (idF f) ∧ h = []) :=
        up_ind (.tree E_C5_ok (r14_CloneFunc_L4_t _ _ _ _ _ _ _ _ _ _ _ _ _ _ _ _ _ _ _ _) (by
          rw [take_ln]
          simp only [wp_iff, chk_iff, know_iff, any_iff, rt_iff, hd_iff, true_imp_iff, true_and, and_true, and_self, lt01, Int.ofNat_lt, Int.ofNat_le, Int.natCast_nonneg, Int.toNat_natCast, decide_true, decide_false, Bool.true_eq_false, Bool.false_eq_true, false_imp_iff, Nat.lt_irrefl, imp_self, implies_true,  ln_take (Nat.le_of_lt hi), wrapS hi (room_lt ho.1)]
          refine ⟨room_part ho.1 hi (by decide), fun _ => ?_⟩
          have := ih a b
          rw [hst] at this
          exact this))
          fun k hk ihk => .tree E_C5_ok (r14_CloneFunc_L4_t _ _ _ _ _ _ _ _ _ _ _ _ _ _ _ _ _ _ _ _) (by
            have hr := hob.2.2.1.2.2.2.1
            have hi := room8 (ok_gd hr hk).2.1
            rw [take_gd hk] at ihk
            simp only [wp_iff, chk_iff, know_iff, any_iff, rt_iff, hd_iff, true_imp_iff, true_and, and_true, and_self, lt01, Int.ofNat_lt, Int.ofNat_le, Int.natCast_nonneg, Int.toNat_natCast, decide_true, decide_false, Bool.true_eq_false, Bool.false_eq_true, false_imp_iff, Nat.lt_irrefl, imp_self, implies_true,  hk, ln_take (Nat.le_of_lt hk), wrapS hk (room_lt hr.1), nil_ap]
            exact ⟨hi, fun _ => ⟨room_part hr.1 hk (by decide), fun _ => ihk⟩⟩)
      have k2 : ∀ k, k ≤ ln s_api_Instr (bIns B) → Runs E_C5 (r14_CloneFunc_L2 l (ln s_api_Block l : Nat) i (bIns B) (ln s_api_Instr (bIns B) : Nat) k a b (tOf f.1) (z f.2.2.1) (bPar B) (bIns B) (z B.2.2.1.1) (tArgs B) B.2.2.1.2.2.1 (tSuc B) (z B.2.2.1.2.2.2.2.1) (z B.2.2.1.1) (tArgs B) B.2.2.1.2.2.1 (tSuc B) (z B.2.2.1.2.2.2.2.1) f.2.1 f.2.2.2.1 (l.take i) (bPar B) ((bIns B).take k)) (fun x h => x = .tv s_api_Func (idF f) ∧ h = []) :=
        up_ind (.tree E_C5_ok (r14_CloneFunc_L2_t _ _ _ _ _ _ _ _ _ _ _ _ _ _ _ _ _ _ _ _ _ _ _ _ _ _ _) (by
          rw [take_ln]
          simp only [wp_iff, chk_iff, know_iff, any_iff, rt_iff, hd_iff, true_imp_iff, true_and, and_true, and_self, lt01, Int.ofNat_lt, Int.ofNat_le, Int.natCast_nonneg, Int.toNat_natCast, decide_true, decide_false, Bool.true_eq_false, Bool.false_eq_true, false_imp_iff, Nat.lt_irrefl, imp_self, implies_true,  nil_ap]
          exact ⟨room8 hob.2.2.1.2.1, fun _ => ⟨room8 hob.2.2.1.2.2.1, fun _ => k4 0 (Nat.zero_le _)⟩⟩))
          fun k hk ihk => .tree E_C5_ok (r14_CloneFunc_L2_t _ _ _ _ _ _ _ _ _ _ _ _ _ _ _ _ _ _ _ _ _ _ _ _ _ _ _) (by
            have hr := hob.2.1
            have hi := room8 (ok_gd hr hk).2.2.2.1
            rw [take_gd hk] at ihk
            simp only [wp_iff, chk_iff, know_iff, any_iff, rt_iff, hd_iff, true_imp_iff, true_and, and_true, and_self, lt01, Int.ofNat_lt, Int.ofNat_le, Int.natCast_nonneg, Int.toNat_natCast, decide_true, decide_false, Bool.true_eq_false, Bool.false_eq_true, false_imp_iff, Nat.lt_irrefl, imp_self, implies_true,  hk, ln_take (Nat.le_of_lt hk), wrapS hk (room_lt hr.1), nil_ap]
            exact ⟨hi, fun _ => ⟨room_part hr.1 hk (by decide), fun _ => ihk⟩⟩)
      exact ⟨room8 hob.1, fun _ => k2 0 (Nat.zero_le _)⟩)
def k_r14_CloneFunc : Con := con [.d s_api_Func] s_api_Func (fun x => True) fun x => idF x.1
theorem m_r14_CloneFunc (f : Den s_api_Func) (h_f : okD s_api_Func f) (hp : True) : Runs E_C5 (start E_C5 f_r14_CloneFunc [(.tv s_api_Func f)]) (fun r_ h_ => r_ = (.tv s_api_Func (idF f)) ∧ h_ = []) := .tree E_C5_ok (r14_CloneFunc_t f) (by
  simp only [wp_iff, chk_iff, know_iff, any_iff, rt_iff, hd_iff, true_imp_iff, true_and, and_true, and_self, lt01]
  exact ⟨room8 h_f.2.1, fun _ => ⟨room8 h_f.2.2.2.1, fun _ => r14_CloneFunc_l f _ rfl (okB_of h_f) 0 (Nat.zero_le _) _ _⟩⟩)
theorem c_r14_CloneFunc : SpecOK E_C5 f_r14_CloneFunc k_r14_CloneFunc.spec := spec_of fun x hx hp => ⟨rfl, m_r14_CloneFunc x.1 hx.1 hp⟩
def eqIn (a b : Den s_api_Instr) : Bool := z a.1 == z b.1 && (z a.2.1 == z b.2.1 && (z a.2.2.1 == z b.2.2.1 && (z a.2.2.2.2.1 == z b.2.2.2.2.1 && (z a.2.2.2.2.2.1 == z b.2.2.2.2.2.1 && (z a.2.2.2.2.2.2.1 == z b.2.2.2.2.2.2.1 && (bOf a.2.2.2.2.2.2.2.1 == bOf b.2.2.2.2.2.2.2.1 && eqI (iArgs a) (iArgs b)))))))
def eqEd (a b : Den s_api_Edge) : Bool := z a.1 == z b.1 && eqI a.2.1 b.2.1
def eqBl (a b : Den s_api_Block) : Bool := eqI a.1 b.1 && (z a.2.2.1.1 == z b.2.2.1.1 && (z a.2.2.1.2.2.2.2.1 == z b.2.2.1.2.2.2.2.1 && (eqI (tArgs a) (tArgs b) && (eqI a.2.2.1.2.2.1 b.2.2.1.2.2.1 && (eqL eqIn (bIns a) (bIns b) && eqL eqEd (tSuc a) (tSuc b))))))

def k_r14_equalInstr : Con := con [.d s_api_Instr, .d s_api_Instr] .bool (fun x => True) fun x => eqIn x.1 x.2.1
theorem m_r14_equalInstr (a : Den s_api_Instr) (b : Den s_api_Instr) (h_a : okD s_api_Instr a) (h_b : okD s_api_Instr b) (hp : True) : Runs E_C5 (start E_C5 f_r14_equalInstr [(.tv s_api_Instr a), (.tv s_api_Instr b)]) (fun r_ h_ => r_ = (vb (eqIn a b)) ∧ h_ = []) := .tree E_C5_ok (r14_equalInstr_t a b) (by
  unfold eqIn
  simp only [wp_iff, chk_iff, know_iff, any_iff, rt_iff, hd_iff, true_imp_iff, true_and, and_true, and_self, lt01]
  exact and7 _ _ _ _ _ _ _ _)
theorem c_r14_equalInstr : SpecOK E_C5 f_r14_equalInstr k_r14_equalInstr.spec := spec_of fun x hx hp => ⟨rfl, m_r14_equalInstr x.1 x.2.1 hx.1 hx.2.1 hp⟩
def L_C5 : List (FuncId × FSpec) := [(f_cfg_clone, k_cfg_clone.spec), (f_r20_cloneBlock, k_r20_cloneBlock.spec), (f_r14_CloneFunc, k_r14_CloneFunc.spec), (f_r14_equalInstr, k_r14_equalInstr.spec)] ++ L_C4
theorem L_C5_ok : ∀ x ∈ L_C5, SpecOK (ctx []) x.1 x.2 := by
  unfold L_C5
  simp only [List.cons_append, List.nil_append, List.forall_mem_cons]
  exact ⟨c_cfg_clone, c_r20_cloneBlock, c_r14_CloneFunc, c_r14_equalInstr, L_C4_ok⟩
end Burn.M20
namespace Burn.M20
open Go Go.BE Go.Proofs
set_option maxRecDepth 100000
set_option linter.unusedVariables false
set_option linter.unusedSimpArgs false
open Burn.Cfg
noncomputable abbrev E_C6 : Ctx := ctx L_C5
theorem E_C6_ok : EOK E_C6 := ctx_ok L_C5_ok
def cuts_C6 : CutL := [([], 37, 0, [2, 3, 19, 20, 21], [(.c 3 4, .own 136 s_api_Block 1)], []),
  ([], 39, 0, [2, 3, 5, 6, 70, 71], [], []),
  ([], 39, 2, [6, 88, 89, 90], [], [])]
def rets_C6 : FuncId → List (Option Fx)
  | 17 => [some (.dat s_api_Func), none]
  | 28 => [some (.dat s_api_Func), none]
  | _ => []
def H_C6 : Hints := { cut := cutOf cuts_C6, ret := rets_C6 }
noncomputable def r14_equalBlock_L0 (a : Den s_api_Block) (b : Den s_api_Block) (t70 : Int) (t71 : Int) (x_0 : Int) (x_1 : List (Den I)) (x_2 : List (Den I)) (x_3 : List (Den s_api_Edge)) (x_4 : Int) (y_0 : Int) (y_1 : List (Den I)) (y_2 : List (Den I)) (y_3 : List (Den s_api_Edge)) (y_4 : Int) : Cfg := hcfg E_C6 f_r14_equalBlock 0 [(2, (.rtp s_api_Block a)), (3, (.rtp s_api_Block b)), (5, (.ref 0 0)), (6, (.ref 1 0)), (70, (vi t70)), (71, (vi t71))] [(0, ⟨(.cells [(vi x_0), (.tv (.sl 8 I) x_1), (.tv (.sl 8 I) x_2), (.tv (.sl 32 s_api_Edge) x_3), (vi x_4)]), 0, [], false, none⟩), (1, ⟨(.cells [(vi y_0), (.tv (.sl 8 I) y_1), (.tv (.sl 8 I) y_2), (.tv (.sl 32 s_api_Edge) y_3), (vi y_4)]), 1, [], false, none⟩)] 2
noncomputable def r14_equalBlock_L2 (t88 : List (Den s_api_Edge)) (t89 : Int) (t90 : Int) (y_0 : Int) (y_1 : List (Den I)) (y_2 : List (Den I)) (y_3 : List (Den s_api_Edge)) (y_4 : Int) : Cfg := hcfg E_C6 f_r14_equalBlock 2 [(6, (.ref 0 0)), (88, (.tv (.sl 32 s_api_Edge) t88)), (89, (vi t89)), (90, (vi t90))] [(0, ⟨(.cells [(vi y_0), (.tv (.sl 8 I) y_1), (.tv (.sl 8 I) y_2), (.tv (.sl 32 s_api_Edge) y_3), (vi y_4)]), 0, [], false, none⟩)] 1
theorem r14_equalBlock_t (a : Den s_api_Block) (b : Den s_api_Block) : run E_C6 H_C6 f_r14_equalBlock 3000 (start E_C6 f_r14_equalBlock [(.tv s_api_Block a), (.tv s_api_Block b)]) = (.chk (True) (.know True (cond (!(eqI a.1 b.1)) (rt (vb false) []) (cond (((ln s_api_Instr a.2.1) : Int) != ((ln s_api_Instr b.2.1) : Int)) (rt (vb false) []) (cond ((z a.2.2.1.1) != (z b.2.2.1.1)) (rt (vb false) []) (cond ((z a.2.2.1.2.2.2.2.1) != (z b.2.2.1.2.2.2.2.1)) (rt (vb false) []) (.chk (True) (.know True (cond (!(eqI a.2.2.1.2.1 b.2.2.1.2.1)) (rt (vb false) []) (.chk (True) (.know True (cond (!(eqI a.2.2.1.2.2.1 b.2.2.1.2.2.1)) (rt (vb false) []) (cond (((ln s_api_Edge a.2.2.1.2.2.2.1) : Int) != ((ln s_api_Edge b.2.2.1.2.2.2.1) : Int)) (rt (vb false) []) (hd (r14_equalBlock_L0 a b ((ln s_api_Instr a.2.1) : Int) (0 : Int) (z a.2.2.1.1) a.2.2.1.2.1 a.2.2.1.2.2.1 a.2.2.1.2.2.2.1 (z a.2.2.1.2.2.2.2.1) (z b.2.2.1.1) b.2.2.1.2.1 b.2.2.1.2.2.1 b.2.2.1.2.2.2.1 (z b.2.2.1.2.2.2.2.1)))))))))))))))) := by kernel_rfl
theorem r14_equalBlock_L0_t (a : Den s_api_Block) (b : Den s_api_Block) (t70 : Int) (t71 : Int) (x_0 : Int) (x_1 : List (Den I)) (x_2 : List (Den I)) (x_3 : List (Den s_api_Edge)) (x_4 : Int) (y_0 : Int) (y_1 : List (Den I)) (y_2 : List (Den I)) (y_3 : List (Den s_api_Edge)) (y_4 : Int) : run E_C6 H_C6 f_r14_equalBlock 3000 (r14_equalBlock_L0 a b t70 t71 x_0 x_1 x_2 x_3 x_4 y_0 y_1 y_2 y_3 y_4) = (cond (decide (t71 < t70)) (.chk (0 ≤ t71 ∧ t71 < (ln s_api_Instr a.2.1)) (.chk (0 ≤ t71 ∧ t71 < (ln s_api_Instr b.2.1)) (.chk (True) (.know True (cond (!(eqIn (gd s_api_Instr a.2.1 ((t71).toNat)) (gd s_api_Instr b.2.1 ((t71).toNat)))) (rt (vb false) []) (hd (r14_equalBlock_L0 a b t70 (IntKind.wrap .i64 (t71 + (1 : Int))) x_0 x_1 x_2 x_3 x_4 y_0 y_1 y_2 y_3 y_4))))))) (hd (r14_equalBlock_L2 x_3 ((ln s_api_Edge x_3) : Int) (0 : Int) y_0 y_1 y_2 y_3 y_4))) := by kernel_rfl
theorem r14_equalBlock_L2_t (t88 : List (Den s_api_Edge)) (t89 : Int) (t90 : Int) (y_0 : Int) (y_1 : List (Den I)) (y_2 : List (Den I)) (y_3 : List (Den s_api_Edge)) (y_4 : Int) : run E_C6 H_C6 f_r14_equalBlock 3000 (r14_equalBlock_L2 t88 t89 t90 y_0 y_1 y_2 y_3 y_4) = (cond (decide (t90 < t89)) (.chk (0 ≤ t90 ∧ t90 < (ln s_api_Edge t88)) (.chk (0 ≤ t90 ∧ t90 < (ln s_api_Edge y_3)) (cond ((z ((gd s_api_Edge t88 ((t90).toNat)).1)) != (z ((gd s_api_Edge y_3 ((t90).toNat)).1))) (rt (vb false) []) (.chk (0 ≤ t90 ∧ t90 < (ln s_api_Edge y_3)) (.chk (True) (.know True (cond (!(eqI ((gd s_api_Edge t88 ((t90).toNat)).2).1 ((gd s_api_Edge y_3 ((t90).toNat)).2).1)) (rt (vb false) []) (hd (r14_equalBlock_L2 t88 t89 (IntKind.wrap .i64 (t90 + (1 : Int))) y_0 y_1 y_2 y_3 y_4))))))))) (rt (vb true) [])) := by kernel_rfl
theorem cfg_SplitEdge_t (f : Den s_api_Func) (block : Int) (succ : Int) : run E_C6 H_C6 f_cfg_SplitEdge 3000 (start E_C6 f_cfg_SplitEdge [(.tv s_api_Func f), (vi block), (vi succ)]) = (cond (decide (block < (0 : Int))) (rt (.tup [(.tv s_api_Func (ByteArray.empty, ([] : List (Den I)), (0 : Int), ([] : List (Den I)), ([] : List (Den s_api_Block)), ())), (vb false)]) []) (cond (decide (block ≥ ((ln s_api_Block f.2.2.2.2.1) : Int))) (rt (.tup [(.tv s_api_Func (ByteArray.empty, ([] : List (Den I)), (0 : Int), ([] : List (Den I)), ([] : List (Den s_api_Block)), ())), (vb false)]) []) (cond (decide (succ < (0 : Int))) (rt (.tup [(.tv s_api_Func (ByteArray.empty, ([] : List (Den I)), (0 : Int), ([] : List (Den I)), ([] : List (Den s_api_Block)), ())), (vb false)]) []) (.chk (0 ≤ block ∧ block < (ln s_api_Block f.2.2.2.2.1)) (cond (decide (succ ≥ ((ln s_api_Edge ((((((((gd s_api_Block f.2.2.2.2.1 ((block).toNat)).2).2).1).2).2).2).1)) : Int))) (rt (.tup [(.tv s_api_Func (ByteArray.empty, ([] : List (Den I)), (0 : Int), ([] : List (Den I)), ([] : List (Den s_api_Block)), ())), (vb false)]) []) (.chk (True) (.know (okAVs [(vs (tOf ((idF f).1))), (.osl 0 0 [] none), (vi (z ((((idF f).2).2).1))), (.osl 1 1 [] none), (.osl 2 2 [] none)]) (.chk (0 ≤ block ∧ block < (ln s_api_Block ((((((idF f).2).2).2).2).1))) (.chk ((block).toNat < (ln s_api_Block ((((((idF f).2).2).2).2).1))) (.chk ((block).toNat < (ln s_api_Block ((((((idF f).2).2).2).2).1))) (.chk (0 ≤ succ ∧ succ < (ln s_api_Edge ((((((((gd s_api_Block ((((((idF f).2).2).2).2).1) ((block).toNat)).2).2).1).2).2).2).1))) (.chk ((block).toNat < (ln s_api_Block ((((((idF f).2).2).2).2).1))) (.chk ((succ).toNat < (ln s_api_Edge ((((((((gd s_api_Block ((((((idF f).2).2).2).2).1) ((block).toNat)).2).2).1).2).2).2).1))) (.chk (((ln s_api_Block ((((((idF f).2).2).2).2).1)) + (1 : Nat)) * 136 ≤ roomB) (.chk ((block).toNat < (ln s_api_Block (ap s_api_Block ((((((idF f).2).2).2).2).1) ([(([] : List (Den I)), ([] : List (Den s_api_Instr)), ((1 : Int), ([] : List (Den I)), ([] : List (Den I)), ([(gd s_api_Edge ((((((((gd s_api_Block ((((((idF f).2).2).2).2).1) ((block).toNat)).2).2).1).2).2).2).1) ((succ).toNat))] : List (Den s_api_Edge)), (0 : Int), ()), ())] : List (Den s_api_Block))))) (.chk ((succ).toNat < (ln s_api_Edge ((((((((gd s_api_Block (ap s_api_Block ((((((idF f).2).2).2).2).1) ([(([] : List (Den I)), ([] : List (Den s_api_Instr)), ((1 : Int), ([] : List (Den I)), ([] : List (Den I)), ([(gd s_api_Edge ((((((((gd s_api_Block ((((((idF f).2).2).2).2).1) ((block).toNat)).2).2).1).2).2).2).1) ((succ).toNat))] : List (Den s_api_Edge)), (0 : Int), ()), ())] : List (Den s_api_Block))) ((block).toNat)).2).2).1).2).2).2).1))) (rt (.tup [(.tv s_api_Func ((idF f).1, ((idF f).2).1, (((idF f).2).2).1, ((((idF f).2).2).2).1, (st s_api_Block (ap s_api_Block ((((((idF f).2).2).2).2).1) ([(([] : List (Den I)), ([] : List (Den s_api_Instr)), ((1 : Int), ([] : List (Den I)), ([] : List (Den I)), ([(gd s_api_Edge ((((((((gd s_api_Block ((((((idF f).2).2).2).2).1) ((block).toNat)).2).2).1).2).2).2).1) ((succ).toNat))] : List (Den s_api_Edge)), (0 : Int), ()), ())] : List (Den s_api_Block))) ((block).toNat) ((gd s_api_Block (ap s_api_Block ((((((idF f).2).2).2).2).1) ([(([] : List (Den I)), ([] : List (Den s_api_Instr)), ((1 : Int), ([] : List (Den I)), ([] : List (Den I)), ([(gd s_api_Edge ((((((((gd s_api_Block ((((((idF f).2).2).2).2).1) ((block).toNat)).2).2).1).2).2).2).1) ((succ).toNat))] : List (Den s_api_Edge)), (0 : Int), ()), ())] : List (Den s_api_Block))) ((block).toNat)).1, ((gd s_api_Block (ap s_api_Block ((((((idF f).2).2).2).2).1) ([(([] : List (Den I)), ([] : List (Den s_api_Instr)), ((1 : Int), ([] : List (Den I)), ([] : List (Den I)), ([(gd s_api_Edge ((((((((gd s_api_Block ((((((idF f).2).2).2).2).1) ((block).toNat)).2).2).1).2).2).2).1) ((succ).toNat))] : List (Den s_api_Edge)), (0 : Int), ()), ())] : List (Den s_api_Block))) ((block).toNat)).2).1, (((((gd s_api_Block (ap s_api_Block ((((((idF f).2).2).2).2).1) ([(([] : List (Den I)), ([] : List (Den s_api_Instr)), ((1 : Int), ([] : List (Den I)), ([] : List (Den I)), ([(gd s_api_Edge ((((((((gd s_api_Block ((((((idF f).2).2).2).2).1) ((block).toNat)).2).2).1).2).2).2).1) ((succ).toNat))] : List (Den s_api_Edge)), (0 : Int), ()), ())] : List (Den s_api_Block))) ((block).toNat)).2).2).1).1, (((((gd s_api_Block (ap s_api_Block ((((((idF f).2).2).2).2).1) ([(([] : List (Den I)), ([] : List (Den s_api_Instr)), ((1 : Int), ([] : List (Den I)), ([] : List (Den I)), ([(gd s_api_Edge ((((((((gd s_api_Block ((((((idF f).2).2).2).2).1) ((block).toNat)).2).2).1).2).2).2).1) ((succ).toNat))] : List (Den s_api_Edge)), (0 : Int), ()), ())] : List (Den s_api_Block))) ((block).toNat)).2).2).1).2).1, ((((((gd s_api_Block (ap s_api_Block ((((((idF f).2).2).2).2).1) ([(([] : List (Den I)), ([] : List (Den s_api_Instr)), ((1 : Int), ([] : List (Den I)), ([] : List (Den I)), ([(gd s_api_Edge ((((((((gd s_api_Block ((((((idF f).2).2).2).2).1) ((block).toNat)).2).2).1).2).2).2).1) ((succ).toNat))] : List (Den s_api_Edge)), (0 : Int), ()), ())] : List (Den s_api_Block))) ((block).toNat)).2).2).1).2).2).1, (st s_api_Edge ((((((((gd s_api_Block (ap s_api_Block ((((((idF f).2).2).2).2).1) ([(([] : List (Den I)), ([] : List (Den s_api_Instr)), ((1 : Int), ([] : List (Den I)), ([] : List (Den I)), ([(gd s_api_Edge ((((((((gd s_api_Block ((((((idF f).2).2).2).2).1) ((block).toNat)).2).2).1).2).2).2).1) ((succ).toNat))] : List (Den s_api_Edge)), (0 : Int), ()), ())] : List (Den s_api_Block))) ((block).toNat)).2).2).1).2).2).2).1) ((succ).toNat) ((IntKind.wrap .i64 (((ln s_api_Block (ap s_api_Block ((((((idF f).2).2).2).2).1) ([(([] : List (Den I)), ([] : List (Den s_api_Instr)), ((1 : Int), ([] : List (Den I)), ([] : List (Den I)), ([(gd s_api_Edge ((((((((gd s_api_Block ((((((idF f).2).2).2).2).1) ((block).toNat)).2).2).1).2).2).2).1) ((succ).toNat))] : List (Den s_api_Edge)), (0 : Int), ()), ())] : List (Den s_api_Block)))) : Int) - (1 : Int))), ([] : List (Den I)), ())), (((((((gd s_api_Block (ap s_api_Block ((((((idF f).2).2).2).2).1) ([(([] : List (Den I)), ([] : List (Den s_api_Instr)), ((1 : Int), ([] : List (Den I)), ([] : List (Den I)), ([(gd s_api_Edge ((((((((gd s_api_Block ((((((idF f).2).2).2).2).1) ((block).toNat)).2).2).1).2).2).2).1) ((succ).toNat))] : List (Den s_api_Edge)), (0 : Int), ()), ())] : List (Den s_api_Block))) ((block).toNat)).2).2).1).2).2).2).2), (((gd s_api_Block (ap s_api_Block ((((((idF f).2).2).2).2).1) ([(([] : List (Den I)), ([] : List (Den s_api_Instr)), ((1 : Int), ([] : List (Den I)), ([] : List (Den I)), ([(gd s_api_Edge ((((((((gd s_api_Block ((((((idF f).2).2).2).2).1) ((block).toNat)).2).2).1).2).2).2).1) ((succ).toNat))] : List (Den s_api_Edge)), (0 : Int), ()), ())] : List (Den s_api_Block))) ((block).toNat)).2).2).2)), ())), (vb true)]) []))))))))))))))))) := by kernel_rfl
theorem cfg_NewReg_t (f : Den s_api_Func) (t : Int) : run E_C6 H_C6 f_cfg_NewReg 3000 (start E_C6 f_cfg_NewReg [(.tv s_api_Func f), (vi t)]) = (.chk (True) (.know (okAVs [(vs (tOf ((idF f).1))), (.osl 0 0 [] none), (vi (z ((((idF f).2).2).1))), (.osl 1 1 [] none), (.osl 2 2 [] none)]) (.chk (((ln I (((((idF f).2).2).2).1)) + (1 : Nat)) * 8 ≤ roomB) (rt (.tup [(.tv s_api_Func ((idF f).1, ((idF f).2).1, (((idF f).2).2).1, (ap I (((((idF f).2).2).2).1) ([t] : List (Den I))), ((((idF f).2).2).2).2)), (vi (IntKind.wrap .i64 (((ln I (ap I (((((idF f).2).2).2).1) ([t] : List (Den I)))) : Int) - (1 : Int))))]) [])))) := by kernel_rfl
noncomputable def r20_clone_L0 (t19 : List (Den s_api_Block)) (t20 : Int) (t21 : Int) (t2_0 : ByteArray) (t2_2 : Int) (out_0 : ByteArray) (out_2 : Int) (out_1 : List (Den I)) (out_3 : List (Den I)) (out_4 : List (Den s_api_Block)) : Cfg := hcfg E_C6 f_r20_clone 0 [(2, (.ref 0 0)), (3, (.ref 1 0)), (19, (.tv (.sl 136 s_api_Block) t19)), (20, (vi t20)), (21, (vi t21))] [(0, ⟨(.cells [(vs t2_0), (.val (.slice none 0 0)), (vi t2_2), (.val (.slice none 0 0)), (.val (.slice none 0 0))]), 0, [], false, none⟩), (1, ⟨(.cells [(vs out_0), (.osl 2 2 [] none), (vi out_2), (.osl 3 3 [] none), (.osl 4 4 [] none)]), 1, [], false, none⟩), (2, ⟨(.arr 0 8 I out_1), 2, [], false, none⟩), (3, ⟨(.arr 0 8 I out_3), 3, [], false, none⟩), (4, ⟨(.arr 1 136 s_api_Block out_4), 4, [], false, none⟩)] 5
theorem r20_clone_t (f : Den s_api_Func) : run E_C6 H_C6 f_r20_clone 3000 (start E_C6 f_r20_clone [(.tv s_api_Func f)]) = (.chk (((0 : Nat) + (ln I f.2.1)) * 8 ≤ roomB) (.chk (((0 : Nat) + (ln I f.2.2.2.1)) * 8 ≤ roomB) (hd (r20_clone_L0 f.2.2.2.2.1 ((ln s_api_Block f.2.2.2.2.1) : Int) (0 : Int) ByteArray.empty (0 : Int) (tOf f.1) (z f.2.2.1) (ap I ([] : List (Den I)) f.2.1) (ap I ([] : List (Den I)) f.2.2.2.1) ([] : List (Den s_api_Block)))))) := by kernel_rfl
theorem r20_clone_L0_t (t19 : List (Den s_api_Block)) (t20 : Int) (t21 : Int) (t2_0 : ByteArray) (t2_2 : Int) (out_0 : ByteArray) (out_2 : Int) (out_1 : List (Den I)) (out_3 : List (Den I)) (out_4 : List (Den s_api_Block)) : run E_C6 H_C6 f_r20_clone 3000 (r20_clone_L0 t19 t20 t21 t2_0 t2_2 out_0 out_2 out_1 out_3 out_4) = (cond (decide (t21 < t20)) (.chk (0 ≤ t21 ∧ t21 < (ln s_api_Block t19)) (.chk (True) (.chk (((ln s_api_Block out_4) + (1 : Nat)) * 136 ≤ roomB) (.know (okAVs [(.osl 0 0 [] none), (.osl 1 1 [] none), (vi (z (((((idB (gd s_api_Block t19 ((t21).toNat))).2).2).1).1))), (.osl 2 2 [] none), (.osl 3 3 [] none), (.osl 4 4 [] none), (vi (z (((((((((idB (gd s_api_Block t19 ((t21).toNat))).2).2).1).2).2).2).2).1)))]) (hd (r20_clone_L0 t19 t20 (IntKind.wrap .i64 (t21 + (1 : Int))) t2_0 t2_2 out_0 out_2 out_1 out_3 (ap s_api_Block out_4 ([(idB (gd s_api_Block t19 ((t21).toNat)))] : List (Den s_api_Block))))))))) (rt (.agg [(vs out_0), (.osl 0 0 [] none), (vi out_2), (.osl 1 1 [] none), (.osl 2 2 [] none)]) [(0, ⟨(.arr 0 8 I out_1), 0, [], false, none⟩), (1, ⟨(.arr 0 8 I out_3), 1, [], false, none⟩), (2, ⟨(.arr 1 136 s_api_Block out_4), 2, [], false, none⟩)])) := by kernel_rfl
theorem r14_equalBlock_l2 (l m : List (Den s_api_Edge)) (hr : room 32 (ln s_api_Edge l)) (hl : ln s_api_Edge l = ln s_api_Edge m) (y0 y4 : Int) (y1 y2 : List (Den I)) : ∀ i, i ≤ ln s_api_Edge l → Runs E_C6 (r14_equalBlock_L2 l (ln s_api_Edge l : Nat) i y0 y1 y2 m y4) (fun x h => x = vb (eqL eqEd (l.drop i) (m.drop i)) ∧ h = []) :=
  up_ind (.tree E_C6_ok (r14_equalBlock_L2_t _ _ _ _ _ _ _ _) (by
    rw [show m.drop (ln s_api_Edge l) = [] from List.drop_eq_nil_of_le (by rw [hl]; exact Nat.le_refl _), drop_ln]
    simp only [wp_iff, chk_iff, know_iff, any_iff, rt_iff, hd_iff, true_imp_iff, true_and, and_true, and_self, lt01, Int.ofNat_lt, Int.ofNat_le, Int.natCast_nonneg, Int.toNat_natCast, decide_true, decide_false, Bool.true_eq_false, Bool.false_eq_true, false_imp_iff, Nat.lt_irrefl, imp_self, implies_true,  eqL]))
    fun i hi ih => .tree E_C6_ok (r14_equalBlock_L2_t _ _ _ _ _ _ _ _) (by
      have hb : i < ln s_api_Edge m := hl ▸ hi
      rw [drop_gd (l := l) (i := i) hi, drop_gd (l := m) (i := i) hb]
      simp only [wp_iff, chk_iff, know_iff, any_iff, rt_iff, hd_iff, true_imp_iff, true_and, and_true, and_self, lt01, Int.ofNat_lt, Int.ofNat_le, Int.natCast_nonneg, Int.toNat_natCast, decide_true, decide_false, Bool.true_eq_false, Bool.false_eq_true, false_imp_iff, Nat.lt_irrefl, imp_self, implies_true,  hi, hb, wrapS hi (room_lt hr)]
      rw [eqL, eqEd, Bool.and_assoc]
      refine ⟨fun h => ?_, fun h => ?_⟩
      · have : (z (gd s_api_Edge l i).1 == z (gd s_api_Edge m i).1) = false := by simpa using h
        rw [this]; rfl
      · have : (z (gd s_api_Edge l i).1 == z (gd s_api_Edge m i).1) = true := by simpa using h
        rw [this, Bool.true_and]
        exact and_step ih)
theorem r14_equalBlock_l0 (a b : Blk) (l m : List (Den s_api_Instr)) (ha : bIns a = l) (hb : bIns b = m) (hr : room 80 (ln s_api_Instr l)) (hl : ln s_api_Instr l = ln s_api_Instr m) (x3 y3 : List (Den s_api_Edge)) (x0 x4 y0 y4 : Int) (x1 x2 y1 y2 : List (Den I)) (hr3 : room 32 (ln s_api_Edge x3)) (hl3 : ln s_api_Edge x3 = ln s_api_Edge y3) : ∀ i, i ≤ ln s_api_Instr l → Runs E_C6 (r14_equalBlock_L0 a b (ln s_api_Instr l : Nat) i x0 x1 x2 x3 x4 y0 y1 y2 y3 y4) (fun x h => x = vb (eqL eqIn (l.drop i) (m.drop i) && eqL eqEd x3 y3) ∧ h = []) :=
  up_ind (.tree E_C6_ok (r14_equalBlock_L0_t _ _ _ _ _ _ _ _ _ _ _ _ _ _) (by
    rw [show m.drop (ln s_api_Instr l) = [] from List.drop_eq_nil_of_le (by rw [hl]; exact Nat.le_refl _), drop_ln]
    simp only [wp_iff, chk_iff, know_iff, any_iff, rt_iff, hd_iff, true_imp_iff, true_and, and_true, and_self, lt01, Int.ofNat_lt, Int.ofNat_le, Int.natCast_nonneg, Int.toNat_natCast, decide_true, decide_false, Bool.true_eq_false, Bool.false_eq_true, false_imp_iff, Nat.lt_irrefl, imp_self, implies_true,  eqL, Bool.true_and]
    exact r14_equalBlock_l2 x3 y3 hr3 hl3 y0 y4 y1 y2 0 (Nat.zero_le _)))
    fun i hi ih => .tree E_C6_ok (r14_equalBlock_L0_t _ _ _ _ _ _ _ _ _ _ _ _ _ _) (by
      have hb' : i < ln s_api_Instr m := hl ▸ hi
      rw [drop_gd (l := l) (i := i) hi, drop_gd (l := m) (i := i) hb', eqL, Bool.and_assoc]
      have ha : a.2.1 = l := ha
      have hb : b.2.1 = m := hb
      simp only [wp_iff, chk_iff, know_iff, any_iff, rt_iff, hd_iff, true_imp_iff, true_and, and_true, and_self, lt01, Int.ofNat_lt, Int.ofNat_le, Int.natCast_nonneg, Int.toNat_natCast, decide_true, decide_false, Bool.true_eq_false, Bool.false_eq_true, false_imp_iff, Nat.lt_irrefl, imp_self, implies_true,  ha, hb, hi, hb', wrapS hi (room_lt hr)]
      exact and_step ih)
def k_r14_equalBlock : Con := con [.d s_api_Block, .d s_api_Block] .bool (fun x => True) fun x => eqBl x.1 x.2.1
theorem m_r14_equalBlock (a : Den s_api_Block) (b : Den s_api_Block) (h_a : okD s_api_Block a) (h_b : okD s_api_Block b) (hp : True) : Runs E_C6 (start E_C6 f_r14_equalBlock [(.tv s_api_Block a), (.tv s_api_Block b)]) (fun r_ h_ => r_ = (vb (eqBl a b)) ∧ h_ = []) := .tree E_C6_ok (r14_equalBlock_t a b) (by
  unfold eqBl
  simp only [wp_iff, chk_iff, know_iff, any_iff, rt_iff, hd_iff, true_imp_iff, true_and, and_true, and_self, lt01]
  refine ⟨fun h1 => ?_, fun h1 => ⟨fun h2 => ?_, fun h2 => ⟨fun h3 => ?_, fun h3 => ⟨fun h4 => ?_, fun h4 => ⟨fun h5 => ?_, fun h5 => ⟨fun h6 => ?_, fun h6 => ⟨fun h7 => ?_, fun h7 => ?_⟩⟩⟩⟩⟩⟩⟩
  · rw [show eqI a.1 b.1 = false by simpa using h1]; rfl
  · rw [eqL_len (e := eqIn) (l := bIns a) (m := bIns b) (by simp only [bne_iff_ne, ne_eq, Int.natCast_inj] at h2; exact h2)]
    simp only [Bool.false_and, Bool.and_false]
  · rw [show (z a.2.2.1.1 == z b.2.2.1.1) = false by simpa using h3]
    simp only [Bool.false_and, Bool.and_false]
  · rw [show (z a.2.2.1.2.2.2.2.1 == z b.2.2.1.2.2.2.2.1) = false by simpa using h4]
    simp only [Bool.false_and, Bool.and_false]
  · rw [show eqI (tArgs a) (tArgs b) = false by simpa using h5]
    simp only [Bool.false_and, Bool.and_false]
  · rw [show eqI a.2.2.1.2.2.1 b.2.2.1.2.2.1 = false by simpa using h6]
    simp only [Bool.false_and, Bool.and_false]
  · rw [eqL_len (e := eqEd) (l := tSuc a) (m := tSuc b) (by simp only [bne_iff_ne, ne_eq, Int.natCast_inj] at h7; exact h7)]
    simp only [Bool.false_and, Bool.and_false]
  · rw [show eqI a.1 b.1 = true by simpa using h1, show (z a.2.2.1.1 == z b.2.2.1.1) = true by simpa using h3, show (z a.2.2.1.2.2.2.2.1 == z b.2.2.1.2.2.2.2.1) = true by simpa using h4, show eqI (tArgs a) (tArgs b) = true by simpa using h5, show eqI a.2.2.1.2.2.1 b.2.2.1.2.2.1 = true by simpa using h6]
    simp only [Bool.true_and]
    have e2 : ln s_api_Instr (bIns a) = ln s_api_Instr (bIns b) := by simp only [bne_eq_false_iff_eq, Int.natCast_inj] at h2; exact h2
    have e7 : ln s_api_Edge (tSuc a) = ln s_api_Edge (tSuc b) := by simp only [bne_eq_false_iff_eq, Int.natCast_inj] at h7; exact h7
    exact r14_equalBlock_l0 a b _ _ rfl rfl h_a.2.1.1 e2 _ _ _ _ _ _ _ _ _ _ h_a.2.2.1.2.2.2.1.1 e7 0 (Nat.zero_le _))
theorem c_r14_equalBlock : SpecOK E_C6 f_r14_equalBlock k_r14_equalBlock.spec := spec_of fun x hx hp => ⟨rfl, m_r14_equalBlock x.1 x.2.1 hx.1 hx.2.1 hp⟩
def newB (f : Fn) (b s : Int) : Blk := (([] : List (Den I)), ([] : List (Den s_api_Instr)), ((1 : Int), ([] : List (Den I)), ([] : List (Den I)), ([gd s_api_Edge (tSuc (blk f b)) s.toNat] : List (Den s_api_Edge)), (0 : Int), ()), ())
def setSuc (b : Blk) (s : Nat) (e : Den s_api_Edge) : Blk := (b.1, b.2.1, (b.2.2.1.1, b.2.2.1.2.1, b.2.2.1.2.2.1, st s_api_Edge (tSuc b) s e, b.2.2.1.2.2.2.2), b.2.2.2)
def splitOK (f : Fn) (b s : Int) : Fn := (f.1, f.2.1, f.2.2.1, f.2.2.2.1, ap s_api_Block (st s_api_Block (blocks f) b.toNat (setSuc (blk f b) s.toNat ((ln s_api_Block (blocks f) : Int), ([] : List (Den I)), ()))) [newB f b s], ())
def noF : Fn := (ByteArray.empty, ([] : List (Den I)), (0 : Int), ([] : List (Den I)), ([] : List (Den s_api_Block)), ())
def splitIs (f : Fn) (b s : Int) : Bool := !(decide (b < 0) || (decide (b ≥ (ln s_api_Block (blocks f) : Int)) || (decide (s < 0) || decide (s ≥ (ln s_api_Edge (tSuc (blk f b)) : Int)))))
def splitF (f : Fn) (b s : Int) : Fn × Bool := if splitIs f b s then (splitOK f b s, true) else (noF, false)

def k_cfg_SplitEdge : Con := conT2 [.d s_api_Func, .d I, .d I] s_api_Func .bool (fun x => ln s_api_Block x.1.2.2.2.2.1 ≤ 1000) fun x => splitF x.1 x.2.1 x.2.2.1
theorem m_cfg_SplitEdge (f : Den s_api_Func) (block : Int) (succ : Int) (h_f : okD s_api_Func f) (h_block : okD I block) (h_succ : okD I succ) (hp : ln s_api_Block f.2.2.2.2.1 ≤ 1000) : Runs E_C6 (start E_C6 f_cfg_SplitEdge [(.tv s_api_Func f), (vi block), (vi succ)]) (fun r_ h_ => r_ = (.tup [(.tv s_api_Func ((splitF f block succ).1)), (vb (bOf ((splitF f block succ).2)))]) ∧ h_ = []) := .tree E_C6_ok (cfg_SplitEdge_t f block succ) (by
  unfold splitF splitIs
  simp only [wp_iff, chk_iff, know_iff, any_iff, rt_iff, hd_iff, true_imp_iff, true_and, and_true, and_self, lt01]
  refine ⟨fun h1 => ?_, fun h1 => ⟨fun h2 => ?_, fun h2 => ⟨fun h3 => ?_, fun h3 => ?_⟩⟩⟩
  · rw [h1]; rfl
  · rw [h1, h2]; rfl
  · rw [h1, h2, h3]; rfl
  · have a1 := of_decide_eq_false h1
    have a2 := of_decide_eq_false h2
    have a3 := of_decide_eq_false h3
    refine ⟨by omega, fun _ => ⟨fun h4 => ?_, fun h4 _ => ?_⟩⟩
    · rw [h1, h2, h3, h4]; rfl
    · have a4 := of_decide_eq_false h4
      rw [h1, h2, h3, h4]
      unfold idF
      have hb : block.toNat < ln s_api_Block f.2.2.2.2.1 := by omega
      have hr := (okB_of h_f).1
      have hs : succ.toNat < ln s_api_Edge (gd s_api_Block f.2.2.2.2.1 block.toNat).2.2.1.2.2.2.1 := by omega
      have hlen : ln s_api_Block (ap s_api_Block f.2.2.2.2.1 [newB f block succ]) = ln s_api_Block f.2.2.2.2.1 + 1 := by rw [ln_ap, ln_one]
      have hw : IntKind.wrap .i64 (((ln s_api_Block f.2.2.2.2.1 + 1 : Nat) : Int) - 1) = (ln s_api_Block f.2.2.2.2.1 : Int) := by
        rw [wrap64 _ (by omega) (by omega)]
        omega
      unfold newB blk at hlen
      have f1 : 0 ≤ block ∧ block < (ln s_api_Block f.2.2.2.2.1 : Int) := ⟨by omega, by omega⟩
      have f3 : 0 ≤ succ ∧ succ < (ln s_api_Edge (gd s_api_Block f.2.2.2.2.1 block.toNat).2.2.1.2.2.2.1 : Int) := ⟨by omega, by omega⟩
      have f5 : (ln s_api_Block f.2.2.2.2.1 + 1) * 136 ≤ roomB := by
        have : (ln s_api_Block f.2.2.2.2.1 + 1) * 136 ≤ 1001 * 136 := Nat.mul_le_mul_right _ (by omega)
        unfold roomB
        omega
      have f6 : block.toNat < ln s_api_Block f.2.2.2.2.1 + 1 := by omega
      simp only [f1, hb, f3, hs, f5, f6, gd_ap hb, st_ap hb, hlen, hw, true_imp_iff, true_and, and_self]
      rfl)
theorem c_cfg_SplitEdge : SpecOK E_C6 f_cfg_SplitEdge k_cfg_SplitEdge.spec := spec_of fun x hx hp => ⟨rfl, m_cfg_SplitEdge x.1 x.2.1 x.2.2.1 hx.1 hx.2.1 hx.2.2.1 hp⟩
def newRegF (f : Fn) (t : Int) : Fn × Int := ((f.1, f.2.1, f.2.2.1, ap I f.2.2.2.1 [t], f.2.2.2.2), (ln I f.2.2.2.1 : Int))

def k_cfg_NewReg : Con := conT2 [.d s_api_Func, .d I] s_api_Func I (fun x => ln I x.1.2.2.2.1 ≤ 1000) fun x => newRegF x.1 x.2.1
theorem m_cfg_NewReg (f : Den s_api_Func) (t : Int) (h_f : okD s_api_Func f) (h_t : okD I t) (hp : ln I f.2.2.2.1 ≤ 1000) : Runs E_C6 (start E_C6 f_cfg_NewReg [(.tv s_api_Func f), (vi t)]) (fun r_ h_ => r_ = (.tup [(.tv s_api_Func ((newRegF f t).1)), (vi (z ((newRegF f t).2)))]) ∧ h_ = []) := .tree E_C6_ok (cfg_NewReg_t f t) (by
  unfold newRegF idF
  simp only [wp_iff, chk_iff, know_iff, any_iff, rt_iff, hd_iff, true_imp_iff, true_and, and_true, and_self, lt01]
  have hw : IntKind.wrap .i64 (((ln I f.2.2.2.1 + 1 : Nat) : Int) - 1) = (ln I f.2.2.2.1 : Int) := by
    rw [wrap64 _ (by omega) (by omega)]
    omega
  refine fun _ => ⟨?_, fun _ => ?_⟩
  · have : (ln I f.2.2.2.1 + 1) * 8 ≤ 1001 * 8 := Nat.mul_le_mul_right _ (by omega)
    unfold roomB
    omega
  · rw [ln_ap, ln_one, hw])
theorem c_cfg_NewReg : SpecOK E_C6 f_cfg_NewReg k_cfg_NewReg.spec := spec_of fun x hx hp => ⟨rfl, m_cfg_NewReg x.1 x.2.1 hx.1 hx.2.1 hp⟩
theorem r20_clone_l (f : Fn) (l : List (Den s_api_Block)) (hf : blocks f = l) (ho : okB l) : ∀ i, i ≤ ln s_api_Block l → ∀ a b, Runs E_C6 (r20_clone_L0 l (ln s_api_Block l : Nat) i a b (tOf f.1) (z f.2.2.1) f.2.1 f.2.2.2.1 (l.take i)) (ret1 f) :=
  up_ind (fun a b => .tree E_C6_ok (r20_clone_L0_t _ _ _ _ _ _ _ _ _ _) (by
    rw [take_ln]
    simp only [wp_iff, chk_iff, know_iff, any_iff, rt_iff, hd_iff, true_imp_iff, true_and, and_true, and_self, lt01, Int.ofNat_lt, Int.ofNat_le, Int.natCast_nonneg, Int.toNat_natCast, decide_true, decide_false, Bool.true_eq_false, Bool.false_eq_true, false_imp_iff, Nat.lt_irrefl, imp_self, implies_true,  ret1]
    rw [← hf]
    exact ⟨rfl, rfl⟩))
    fun i hi ih a b => .tree E_C6_ok (r20_clone_L0_t _ _ _ _ _ _ _ _ _ _) (by
      have := ih a b
      rw [take_gd hi] at this
      simp only [wp_iff, chk_iff, know_iff, any_iff, rt_iff, hd_iff, true_imp_iff, true_and, and_true, and_self, lt01, Int.ofNat_lt, Int.ofNat_le, Int.natCast_nonneg, Int.toNat_natCast, decide_true, decide_false, Bool.true_eq_false, Bool.false_eq_true, false_imp_iff, Nat.lt_irrefl, imp_self, implies_true,  hi, ln_take (Nat.le_of_lt hi), wrapS hi (room_lt ho.1), idB]
      exact ⟨room_part ho.1 hi (by decide), fun _ _ => this⟩)
def k_r20_clone : Con := conO 1 [.d s_api_Func] s_api_Func (fun x => True) fun x => idF x.1
theorem m_r20_clone (f : Den s_api_Func) (h_f : okD s_api_Func f) (hp : True) : Runs E_C6 (start E_C6 f_r20_clone [(.tv s_api_Func f)]) (fun r_ h_ => r_ = (ownRes 1 s_api_Func (idF f)).1 ∧ h_ = (ownRes 1 s_api_Func (idF f)).2) := .tree E_C6_ok (r20_clone_t f) (by
  simp only [wp_iff, chk_iff, know_iff, any_iff, rt_iff, hd_iff, true_imp_iff, true_and, and_true, and_self, lt01]
  exact ⟨room8 h_f.2.1, fun _ => ⟨room8 h_f.2.2.2.1, fun _ => r20_clone_l f _ rfl (okB_of h_f) 0 (Nat.zero_le _) _ _⟩⟩)
theorem c_r20_clone : SpecOK E_C6 f_r20_clone k_r20_clone.spec := spec_of fun x hx hp => ⟨rfl, m_r20_clone x.1 hx.1 hp⟩
def L_C6 : List (FuncId × FSpec) := [(f_r14_equalBlock, k_r14_equalBlock.spec), (f_cfg_SplitEdge, k_cfg_SplitEdge.spec), (f_cfg_NewReg, k_cfg_NewReg.spec), (f_r20_clone, k_r20_clone.spec)] ++ L_C5
theorem L_C6_ok : ∀ x ∈ L_C6, SpecOK (ctx []) x.1 x.2 := by
  unfold L_C6
  simp only [List.cons_append, List.nil_append, List.forall_mem_cons]
  exact ⟨c_r14_equalBlock, c_cfg_SplitEdge, c_cfg_NewReg, c_r20_clone, L_C5_ok⟩
end Burn.M20
namespace Burn.M20
open Go Go.BE Go.Proofs
set_option maxRecDepth 100000
set_option linter.unusedVariables false
set_option linter.unusedSimpArgs false
open Burn.Cfg
noncomputable abbrev E_C7 : Ctx := ctx L_C6
theorem E_C7_ok : EOK E_C7 := ctx_ok L_C6_ok
def cuts_C7 : CutL := [([], 12, 0, [6, 44, 45, 46], [], []),
  ([], 13, 0, [5, 47, 48, 49], [], []),
  ([], 19, 0, [2, 3, 45, 46], [], [])]
def rets_C7 : FuncId → List (Option Fx)
  | 12 => [some (.dat (.sl 8 I))]
  | 13 => [some (.dat (.sl 8 I))]
  | 14 => [some (.dat (.sl 8 I))]
  | 15 => [some (.dat (.sl 8 I))]
  | 18 => [some (.dat s_api_Func), none]
  | _ => []
def H_C7 : Hints := { cut := cutOf cuts_C7, ret := rets_C7 }
noncomputable def cfg_Reads_L0 (t44 : List (Den s_api_Edge)) (t45 : Int) (t46 : Int) (l : List (Den I)) : Cfg := hcfg E_C7 f_cfg_Reads 0 [(6, (.osl 0 0 [] none)), (44, (.tv (.sl 32 s_api_Edge) t44)), (45, (vi t45)), (46, (vi t46))] [(0, ⟨(.arr 0 8 I l), 0, [], false, none⟩)] 1
theorem cfg_Reads_t (f : Den s_api_Func) (at_ : Den s_api_Pos) : run E_C7 H_C7 f_cfg_Reads 3000 (start E_C7 f_cfg_Reads [(.tv s_api_Func f), (.tv s_api_Pos at_)]) = (.chk (True) (.know True (cond (!(insideF f at_)) (rt (.tv (.sl 8 I) ([] : List (Den I))) []) (cond (decide ((z at_.2.1) < (0 : Int))) (rt (.tv (.sl 8 I) ([] : List (Den I))) []) (.chk (0 ≤ (z at_.1) ∧ (z at_.1) < (ln s_api_Block f.2.2.2.2.1)) (cond (decide ((z at_.2.1) < ((ln s_api_Instr (((gd s_api_Block f.2.2.2.2.1 (((z at_.1)).toNat)).2).1)) : Int))) (.chk (0 ≤ (z at_.2.1) ∧ (z at_.2.1) < (ln s_api_Instr (((gd s_api_Block f.2.2.2.2.1 (((z at_.1)).toNat)).2).1))) (.chk (True) (.know True (rt (.tv (.sl 8 I) (idL ((((gd s_api_Instr (((gd s_api_Block f.2.2.2.2.1 (((z at_.1)).toNat)).2).1) (((z at_.2.1)).toNat)).2).2).2).1)) [])))) (.chk (True) (.know True (hd (cfg_Reads_L0 ((((((((gd s_api_Block f.2.2.2.2.1 (((z at_.1)).toNat)).2).2).1).2).2).2).1) ((ln s_api_Edge ((((((((gd s_api_Block f.2.2.2.2.1 (((z at_.1)).toNat)).2).2).1).2).2).2).1)) : Int) (0 : Int) (idL (((((gd s_api_Block f.2.2.2.2.1 (((z at_.1)).toNat)).2).2).1).2).1))))))))))) := by kernel_rfl
theorem cfg_Reads_L0_t (t44 : List (Den s_api_Edge)) (t45 : Int) (t46 : Int) (l : List (Den I)) : run E_C7 H_C7 f_cfg_Reads 3000 (cfg_Reads_L0 t44 t45 t46 l) = (cond (decide (t46 < t45)) (.chk (0 ≤ t46 ∧ t46 < (ln s_api_Edge t44)) (.chk (((ln I l) + (ln I (((gd s_api_Edge t44 ((t46).toNat)).2).1))) * 8 ≤ roomB) (hd (cfg_Reads_L0 t44 t45 (IntKind.wrap .i64 (t46 + (1 : Int))) (ap I l (((gd s_api_Edge t44 ((t46).toNat)).2).1)))))) (rt (.tv (.sl 8 I) l) [])) := by kernel_rfl
noncomputable def r20_Reads_L0 (t47 : List (Den s_api_Edge)) (t48 : Int) (t49 : Int) (out : List (Den I)) : Cfg := hcfg E_C7 f_r20_Reads 0 [(5, (.osl 0 0 [] none)), (47, (.tv (.sl 32 s_api_Edge) t47)), (48, (vi t48)), (49, (vi t49))] [(0, ⟨(.arr 0 8 I out), 0, [], false, none⟩)] 1
theorem r20_Reads_t (f : Den s_api_Func) (at_ : Den s_api_Pos) : run E_C7 H_C7 f_r20_Reads 3000 (start E_C7 f_r20_Reads [(.tv s_api_Func f), (.tv s_api_Pos at_)]) = (.chk (True) (.know True (cond (!(insideF f at_)) (rt (.tv (.sl 8 I) ([] : List (Den I))) []) (cond (decide ((z at_.2.1) < (0 : Int))) (rt (.tv (.sl 8 I) ([] : List (Den I))) []) (.chk (0 ≤ (z at_.1) ∧ (z at_.1) < (ln s_api_Block f.2.2.2.2.1)) (cond (decide ((z at_.2.1) < ((ln s_api_Instr (((gd s_api_Block f.2.2.2.2.1 (((z at_.1)).toNat)).2).1)) : Int))) (.chk (0 ≤ (z at_.2.1) ∧ (z at_.2.1) < (ln s_api_Instr (((gd s_api_Block f.2.2.2.2.1 (((z at_.1)).toNat)).2).1))) (.chk ((ln I (((((gd s_api_Instr (((gd s_api_Block f.2.2.2.2.1 (((z at_.1)).toNat)).2).1) (((z at_.2.1)).toNat)).2).2).2).1)) * 8 ≤ roomB) (rt (.tv (.sl 8 I) (((((gd s_api_Instr (((gd s_api_Block f.2.2.2.2.1 (((z at_.1)).toNat)).2).1) (((z at_.2.1)).toNat)).2).2).2).1)) []))) (.chk ((ln I ((((((gd s_api_Block f.2.2.2.2.1 (((z at_.1)).toNat)).2).2).1).2).1)) * 8 ≤ roomB) (hd (r20_Reads_L0 ((((((((gd s_api_Block f.2.2.2.2.1 (((z at_.1)).toNat)).2).2).1).2).2).2).1) ((ln s_api_Edge ((((((((gd s_api_Block f.2.2.2.2.1 (((z at_.1)).toNat)).2).2).1).2).2).2).1)) : Int) (0 : Int) ((((((gd s_api_Block f.2.2.2.2.1 (((z at_.1)).toNat)).2).2).1).2).1)))))))))) := by kernel_rfl
theorem r20_Reads_L0_t (t47 : List (Den s_api_Edge)) (t48 : Int) (t49 : Int) (out : List (Den I)) : run E_C7 H_C7 f_r20_Reads 3000 (r20_Reads_L0 t47 t48 t49 out) = (cond (decide (t49 < t48)) (.chk (0 ≤ t49 ∧ t49 < (ln s_api_Edge t47)) (.chk (((ln I out) + (ln I (((gd s_api_Edge t47 ((t49).toNat)).2).1))) * 8 ≤ roomB) (hd (r20_Reads_L0 t47 t48 (IntKind.wrap .i64 (t49 + (1 : Int))) (ap I out (((gd s_api_Edge t47 ((t49).toNat)).2).1)))))) (rt (.tv (.sl 8 I) out) [])) := by kernel_rfl
theorem cfg_Writes_t (f : Den s_api_Func) (at_ : Den s_api_Pos) : run E_C7 H_C7 f_cfg_Writes 3000 (start E_C7 f_cfg_Writes [(.tv s_api_Func f), (.tv s_api_Pos at_)]) = (.chk (True) (.know True (cond (!(insideF f at_)) (rt (.tv (.sl 8 I) ([] : List (Den I))) []) (.chk (0 ≤ (z at_.1) ∧ (z at_.1) < (ln s_api_Block f.2.2.2.2.1)) (cond ((z at_.2.1) == (-1 : Int)) (cond ((z at_.1) == (0 : Int)) (.chk (True) (.chk (((ln I (idL f.2.1)) + (ln I ((gd s_api_Block f.2.2.2.2.1 (((z at_.1)).toNat)).1))) * 8 ≤ roomB) (.know True (rt (.tv (.sl 8 I) (ap I (idL f.2.1) ((gd s_api_Block f.2.2.2.2.1 (((z at_.1)).toNat)).1))) [])))) (cond ((z at_.2.1) == (-1 : Int)) (.chk (True) (.know True (rt (.tv (.sl 8 I) (idL (gd s_api_Block f.2.2.2.2.1 (((z at_.1)).toNat)).1)) []))) (cond (decide ((z at_.2.1) < ((ln s_api_Instr (((gd s_api_Block f.2.2.2.2.1 (((z at_.1)).toNat)).2).1)) : Int))) (.chk (0 ≤ (z at_.2.1) ∧ (z at_.2.1) < (ln s_api_Instr (((gd s_api_Block f.2.2.2.2.1 (((z at_.1)).toNat)).2).1))) (cond (decide ((z ((((gd s_api_Instr (((gd s_api_Block f.2.2.2.2.1 (((z at_.1)).toNat)).2).1) (((z at_.2.1)).toNat)).2).2).1)) ≥ (0 : Int))) (.chk (0 ≤ (z at_.2.1) ∧ (z at_.2.1) < (ln s_api_Instr (((gd s_api_Block f.2.2.2.2.1 (((z at_.1)).toNat)).2).1))) (rt (.tv (.sl 8 I) ([(((gd s_api_Instr (((gd s_api_Block f.2.2.2.2.1 (((z at_.1)).toNat)).2).1) (((z at_.2.1)).toNat)).2).2).1] : List (Den I))) [])) (rt (.tv (.sl 8 I) ([] : List (Den I))) []))) (rt (.tv (.sl 8 I) ([] : List (Den I))) [])))) (cond ((z at_.2.1) == (-1 : Int)) (.chk (True) (.know True (rt (.tv (.sl 8 I) (idL (gd s_api_Block f.2.2.2.2.1 (((z at_.1)).toNat)).1)) []))) (cond (decide ((z at_.2.1) < ((ln s_api_Instr (((gd s_api_Block f.2.2.2.2.1 (((z at_.1)).toNat)).2).1)) : Int))) (.chk (0 ≤ (z at_.2.1) ∧ (z at_.2.1) < (ln s_api_Instr (((gd s_api_Block f.2.2.2.2.1 (((z at_.1)).toNat)).2).1))) (cond (decide ((z ((((gd s_api_Instr (((gd s_api_Block f.2.2.2.2.1 (((z at_.1)).toNat)).2).1) (((z at_.2.1)).toNat)).2).2).1)) ≥ (0 : Int))) (.chk (0 ≤ (z at_.2.1) ∧ (z at_.2.1) < (ln s_api_Instr (((gd s_api_Block f.2.2.2.2.1 (((z at_.1)).toNat)).2).1))) (rt (.tv (.sl 8 I) ([(((gd s_api_Instr (((gd s_api_Block f.2.2.2.2.1 (((z at_.1)).toNat)).2).1) (((z at_.2.1)).toNat)).2).2).1] : List (Den I))) [])) (rt (.tv (.sl 8 I) ([] : List (Den I))) []))) (rt (.tv (.sl 8 I) ([] : List (Den I))) [])))))))) := by kernel_rfl
theorem r20_Writes_t (f : Den s_api_Func) (at_ : Den s_api_Pos) : run E_C7 H_C7 f_r20_Writes 3000 (start E_C7 f_r20_Writes [(.tv s_api_Func f), (.tv s_api_Pos at_)]) = (.chk (True) (.know True (cond (!(insideF f at_)) (rt (.tv (.sl 8 I) ([] : List (Den I))) []) (.chk (0 ≤ (z at_.1) ∧ (z at_.1) < (ln s_api_Block f.2.2.2.2.1)) (cond (decide ((z at_.2.1) < (0 : Int))) (cond ((z at_.1) == (0 : Int)) (.chk ((ln I f.2.1) * 8 ≤ roomB) (.chk (((ln I f.2.1) + (ln I ((gd s_api_Block f.2.2.2.2.1 (((z at_.1)).toNat)).1))) * 8 ≤ roomB) (rt (.tv (.sl 8 I) (ap I f.2.1 ((gd s_api_Block f.2.2.2.2.1 (((z at_.1)).toNat)).1))) []))) (.chk ((ln I ((gd s_api_Block f.2.2.2.2.1 (((z at_.1)).toNat)).1)) * 8 ≤ roomB) (rt (.tv (.sl 8 I) ((gd s_api_Block f.2.2.2.2.1 (((z at_.1)).toNat)).1)) []))) (cond (decide ((z at_.2.1) < ((ln s_api_Instr (((gd s_api_Block f.2.2.2.2.1 (((z at_.1)).toNat)).2).1)) : Int))) (.chk (0 ≤ (z at_.2.1) ∧ (z at_.2.1) < (ln s_api_Instr (((gd s_api_Block f.2.2.2.2.1 (((z at_.1)).toNat)).2).1))) (cond (decide ((z ((((gd s_api_Instr (((gd s_api_Block f.2.2.2.2.1 (((z at_.1)).toNat)).2).1) (((z at_.2.1)).toNat)).2).2).1)) ≥ (0 : Int))) (.chk (0 ≤ (z at_.2.1) ∧ (z at_.2.1) < (ln s_api_Instr (((gd s_api_Block f.2.2.2.2.1 (((z at_.1)).toNat)).2).1))) (.chk ((1 : Nat) * 8 ≤ roomB) (rt (.tv (.sl 8 I) ([(((gd s_api_Instr (((gd s_api_Block f.2.2.2.2.1 (((z at_.1)).toNat)).2).1) (((z at_.2.1)).toNat)).2).2).1] : List (Den I))) []))) (rt (.tv (.sl 8 I) ([] : List (Den I))) []))) (rt (.tv (.sl 8 I) ([] : List (Den I))) []))))))) := by kernel_rfl
theorem r20_SplitEdge_t (f : Den s_api_Func) (block : Int) (succ : Int) : run E_C7 H_C7 f_r20_SplitEdge 3000 (start E_C7 f_r20_SplitEdge [(.tv s_api_Func f), (vi block), (vi succ)]) = (cond (decide (block < (0 : Int))) (rt (.tup [(.tv s_api_Func (ByteArray.empty, ([] : List (Den I)), (0 : Int), ([] : List (Den I)), ([] : List (Den s_api_Block)), ())), (vb false)]) []) (cond (decide (block ≥ ((ln s_api_Block f.2.2.2.2.1) : Int))) (rt (.tup [(.tv s_api_Func (ByteArray.empty, ([] : List (Den I)), (0 : Int), ([] : List (Den I)), ([] : List (Den s_api_Block)), ())), (vb false)]) []) (cond (decide (succ < (0 : Int))) (rt (.tup [(.tv s_api_Func (ByteArray.empty, ([] : List (Den I)), (0 : Int), ([] : List (Den I)), ([] : List (Den s_api_Block)), ())), (vb false)]) []) (.chk (0 ≤ block ∧ block < (ln s_api_Block f.2.2.2.2.1)) (cond (decide (succ ≥ ((ln s_api_Edge ((((((((gd s_api_Block f.2.2.2.2.1 ((block).toNat)).2).2).1).2).2).2).1)) : Int))) (rt (.tup [(.tv s_api_Func (ByteArray.empty, ([] : List (Den I)), (0 : Int), ([] : List (Den I)), ([] : List (Den s_api_Block)), ())), (vb false)]) []) (.chk (True) (.know (okAVs [(vs (tOf ((idF f).1))), (.osl 0 0 [] none), (vi (z ((((idF f).2).2).1))), (.osl 1 1 [] none), (.osl 2 2 [] none)]) (.chk (0 ≤ block ∧ block < (ln s_api_Block ((((((idF f).2).2).2).2).1))) (.chk ((block).toNat < (ln s_api_Block ((((((idF f).2).2).2).2).1))) (.chk ((block).toNat < (ln s_api_Block ((((((idF f).2).2).2).2).1))) (.chk (0 ≤ succ ∧ succ < (ln s_api_Edge ((((((((gd s_api_Block ((((((idF f).2).2).2).2).1) ((block).toNat)).2).2).1).2).2).2).1))) (.chk ((block).toNat < (ln s_api_Block ((((((idF f).2).2).2).2).1))) (.chk ((succ).toNat < (ln s_api_Edge ((((((((gd s_api_Block ((((((idF f).2).2).2).2).1) ((block).toNat)).2).2).1).2).2).2).1))) (.chk (0 ≤ block ∧ block < (ln s_api_Block ((((((idF f).2).2).2).2).1))) (.chk ((block).toNat < (ln s_api_Block ((((((idF f).2).2).2).2).1))) (.chk ((block).toNat < (ln s_api_Block ((((((idF f).2).2).2).2).1))) (.chk (0 ≤ succ ∧ succ < (ln s_api_Edge ((((((((gd s_api_Block ((((((idF f).2).2).2).2).1) ((block).toNat)).2).2).1).2).2).2).1))) (.chk ((block).toNat < (ln s_api_Block ((((((idF f).2).2).2).2).1))) (.chk ((succ).toNat < (ln s_api_Edge ((((((((gd s_api_Block ((((((idF f).2).2).2).2).1) ((block).toNat)).2).2).1).2).2).2).1))) (.chk (((ln s_api_Block (st s_api_Block ((((((idF f).2).2).2).2).1) ((block).toNat) ((gd s_api_Block ((((((idF f).2).2).2).2).1) ((block).toNat)).1, ((gd s_api_Block ((((((idF f).2).2).2).2).1) ((block).toNat)).2).1, (((((gd s_api_Block ((((((idF f).2).2).2).2).1) ((block).toNat)).2).2).1).1, (((((gd s_api_Block ((((((idF f).2).2).2).2).1) ((block).toNat)).2).2).1).2).1, ((((((gd s_api_Block ((((((idF f).2).2).2).2).1) ((block).toNat)).2).2).1).2).2).1, (st s_api_Edge ((((((((gd s_api_Block ((((((idF f).2).2).2).2).1) ((block).toNat)).2).2).1).2).2).2).1) ((succ).toNat) (((ln s_api_Block f.2.2.2.2.1) : Int), ([] : List (Den I)), ())), (((((((gd s_api_Block ((((((idF f).2).2).2).2).1) ((block).toNat)).2).2).1).2).2).2).2), (((gd s_api_Block ((((((idF f).2).2).2).2).1) ((block).toNat)).2).2).2))) + (1 : Nat)) * 136 ≤ roomB) (rt (.tup [(.tv s_api_Func ((idF f).1, ((idF f).2).1, (((idF f).2).2).1, ((((idF f).2).2).2).1, (ap s_api_Block (st s_api_Block ((((((idF f).2).2).2).2).1) ((block).toNat) ((gd s_api_Block ((((((idF f).2).2).2).2).1) ((block).toNat)).1, ((gd s_api_Block ((((((idF f).2).2).2).2).1) ((block).toNat)).2).1, (((((gd s_api_Block ((((((idF f).2).2).2).2).1) ((block).toNat)).2).2).1).1, (((((gd s_api_Block ((((((idF f).2).2).2).2).1) ((block).toNat)).2).2).1).2).1, ((((((gd s_api_Block ((((((idF f).2).2).2).2).1) ((block).toNat)).2).2).1).2).2).1, (st s_api_Edge ((((((((gd s_api_Block ((((((idF f).2).2).2).2).1) ((block).toNat)).2).2).1).2).2).2).1) ((succ).toNat) (((ln s_api_Block f.2.2.2.2.1) : Int), ([] : List (Den I)), ())), (((((((gd s_api_Block ((((((idF f).2).2).2).2).1) ((block).toNat)).2).2).1).2).2).2).2), (((gd s_api_Block ((((((idF f).2).2).2).2).1) ((block).toNat)).2).2).2)) ([(([] : List (Den I)), ([] : List (Den s_api_Instr)), ((1 : Int), ([] : List (Den I)), ([] : List (Den I)), ([(gd s_api_Edge ((((((((gd s_api_Block ((((((idF f).2).2).2).2).1) ((block).toNat)).2).2).1).2).2).2).1) ((succ).toNat))] : List (Den s_api_Edge)), (0 : Int), ()), ())] : List (Den s_api_Block))), ())), (vb true)]) []))))))))))))))))))))) := by kernel_rfl
noncomputable def r14_EqualFunc_L0 (a : Den s_api_Func) (b : Den s_api_Func) (t45 : Int) (t46 : Int) : Cfg := hcfg E_C7 f_r14_EqualFunc 0 [(2, (.rtp s_api_Func a)), (3, (.rtp s_api_Func b)), (45, (vi t45)), (46, (vi t46))] [] 0
theorem r14_EqualFunc_t (a : Den s_api_Func) (b : Den s_api_Func) : run E_C7 H_C7 f_r14_EqualFunc 3000 (start E_C7 f_r14_EqualFunc [(.tv s_api_Func a), (.tv s_api_Func b)]) = (cond (!(((tOf a.1)).toList == ((tOf b.1)).toList)) (rt (vb false) []) (cond ((z a.2.2.1) != (z b.2.2.1)) (rt (vb false) []) (.chk (True) (.know True (cond (!(eqI a.2.1 b.2.1)) (rt (vb false) []) (.chk (True) (.know True (cond (!(eqI a.2.2.2.1 b.2.2.2.1)) (rt (vb false) []) (cond (((ln s_api_Block a.2.2.2.2.1) : Int) != ((ln s_api_Block b.2.2.2.2.1) : Int)) (rt (vb false) []) (hd (r14_EqualFunc_L0 a b ((ln s_api_Block a.2.2.2.2.1) : Int) (0 : Int)))))))))))) := by kernel_rfl
theorem r14_EqualFunc_L0_t (a : Den s_api_Func) (b : Den s_api_Func) (t45 : Int) (t46 : Int) : run E_C7 H_C7 f_r14_EqualFunc 3000 (r14_EqualFunc_L0 a b t45 t46) = (cond (decide (t46 < t45)) (.chk (0 ≤ t46 ∧ t46 < (ln s_api_Block a.2.2.2.2.1)) (.chk (0 ≤ t46 ∧ t46 < (ln s_api_Block b.2.2.2.2.1)) (.chk (True) (.know True (cond (!(eqBl (gd s_api_Block a.2.2.2.2.1 ((t46).toNat)) (gd s_api_Block b.2.2.2.2.1 ((t46).toNat)))) (rt (vb false) []) (hd (r14_EqualFunc_L0 a b t45 (IntKind.wrap .i64 (t46 + (1 : Int)))))))))) (rt (vb true) [])) := by kernel_rfl
def smallF (f : Fn) : Prop := szD s_api_Func f ≤ 1048576
def flatA : List (Den s_api_Edge) → List (Den I)
  | [] => []
  | e :: l => ap I e.2.1 (flatA l)
theorem sz_I : ∀ (l : List (Den I)), szD (.sl 8 I) l = ln I l
  | [] => rfl
  | a :: l => by
    have := sz_I l
    show 0 + 1 + szD (.sl 8 I) l = l.length + 1
    rw [this]
    unfold ln
    omega
theorem sz_cons {b : Nat} {S : Sh} {x : Den S} {l : List (Den S)} : szD (.sl b S) (x :: l) = szD S x + 1 + szD (.sl b S) l := rfl
theorem sz_mem {b : Nat} {S : Sh} : ∀ {l : List (Den S)} {i : Nat}, i < ln S l → szD S (gd S l i) + 1 ≤ szD (.sl b S) l
  | [], i, h => absurd h (Nat.not_lt_zero i)
  | x :: l, 0, h => by
    rw [sz_cons]
    show szD S x + 1 ≤ _
    omega
  | x :: l, i + 1, h => by
    have h1 : i < ln S l := Nat.lt_of_succ_lt_succ h
    have := sz_mem (b := b) h1
    rw [sz_cons]
    show szD S (gd S l i) + 1 ≤ _
    omega
theorem sz_flat : ∀ l : List (Den s_api_Edge), ln I (flatA l) ≤ szD (.sl 32 s_api_Edge) l
  | [] => Nat.le_refl _
  | e :: l => by
    have h := sz_flat l
    have h1 : szD s_api_Edge e = 0 + (szD (.sl 8 I) e.2.1 + 0) := rfl
    rw [sz_cons, flatA, ln_ap, h1, sz_I]
    omega
theorem sz_func (f : Fn) : szD s_api_Func f = szD .str f.1 + (szD (.sl 8 I) f.2.1 + (0 + (szD (.sl 8 I) f.2.2.2.1 + (szD (.sl 136 s_api_Block) f.2.2.2.2.1 + 0)))) := rfl
theorem sz_blk (b : Blk) : szD s_api_Block b = szD (.sl 8 I) b.1 + (szD (.sl 80 s_api_Instr) b.2.1 + ((0 + (szD (.sl 8 I) b.2.2.1.2.1 + (szD (.sl 8 I) b.2.2.1.2.2.1 + (szD (.sl 32 s_api_Edge) b.2.2.1.2.2.2.1 + (0 + 0))))) + 0)) := rfl
def readsF (f : Fn) (p : Den s_api_Pos) : Den (.sl 8 I) := cond (!insideF f p) [] (cond (decide (z p.2.1 < 0)) [] (cond (decide (z p.2.1 < (ln s_api_Instr (bIns (blk f (z p.1))) : Int))) (iArgs (gd s_api_Instr (bIns (blk f (z p.1))) (z p.2.1).toNat)) (ap I (tArgs (blk f (z p.1))) (flatA (tSuc (blk f (z p.1)))))))
def writesF (f : Fn) (p : Den s_api_Pos) : Den (.sl 8 I) := cond (!insideF f p) [] (cond (decide (z p.2.1 < 0)) (cond (z p.1 == 0) (ap I f.2.1 (bPar (blk f (z p.1)))) (bPar (blk f (z p.1)))) (cond (decide (z p.2.1 < (ln s_api_Instr (bIns (blk f (z p.1))) : Int))) (cond (decide (iDst (gd s_api_Instr (bIns (blk f (z p.1))) (z p.2.1).toNat) ≥ 0)) [iDst (gd s_api_Instr (bIns (blk f (z p.1))) (z p.2.1).toNat)] []) []))
theorem inside_b {f : Fn} {p : Den s_api_Pos} (h : insideF f p = true) : (0 ≤ z p.1 ∧ z p.1 < (ln s_api_Block (blocks f) : Int)) ∧ (-1 ≤ z p.2.1 ∧ z p.2.1 ≤ (ln s_api_Instr (bIns (blk f (z p.1))) : Int)) := by
  unfold insideF at h
  simp only [Bool.and_eq_true, decide_eq_true_eq] at h
  exact ⟨⟨h.1, h.2.1⟩, h.2.2.1, h.2.2.2⟩
theorem small_b {f : Fn} (hp : smallF f) {n : Int} (h : 0 ≤ n ∧ n < (ln s_api_Block (blocks f) : Int)) : szD s_api_Block (blk f n) + ln I f.2.1 ≤ 1048576 := by
  have h1 := sz_mem (b := 136) (l := blocks f) (i := n.toNat) (by omega)
  have h2 := sz_func f
  have h3 := sz_I f.2.1
  unfold smallF at hp
  unfold blk
  have e : blocks f = f.2.2.2.2.1 := rfl
  rw [e] at h1 ⊢
  omega
theorem roomS {n : Nat} (h : n ≤ 4194304) : n * 8 ≤ roomB := by
  unfold roomB
  omega
theorem cfg_Reads_l (l : List (Den s_api_Edge)) (hr : room 32 (ln s_api_Edge l)) : ∀ i, i ≤ ln s_api_Edge l → ∀ o : List (Den I), ln I o + ln I (flatA (l.drop i)) ≤ 1048576 → Runs E_C7 (cfg_Reads_L0 l (ln s_api_Edge l : Nat) i o) (fun x h => x = .tv (.sl 8 I) (ap I o (flatA (l.drop i))) ∧ h = []) :=
  up_ind (fun o ho => .tree E_C7_ok (cfg_Reads_L0_t _ _ _ _) (by
    rw [drop_ln]
    simp only [wp_iff, chk_iff, know_iff, any_iff, rt_iff, hd_iff, true_imp_iff, true_and, and_true, and_self, lt01, Int.ofNat_lt, Int.ofNat_le, Int.natCast_nonneg, Int.toNat_natCast, decide_true, decide_false, Bool.true_eq_false, Bool.false_eq_true, false_imp_iff, Nat.lt_irrefl, imp_self, implies_true,  flatA]
    unfold ap
    rw [List.append_nil]))
    fun i hi ih o ho => .tree E_C7_ok (cfg_Reads_L0_t _ _ _ _) (by
      rw [drop_gd hi, flatA, ln_ap] at ho
      simp only [wp_iff, chk_iff, know_iff, any_iff, rt_iff, hd_iff, true_imp_iff, true_and, and_true, and_self, lt01, Int.ofNat_lt, Int.ofNat_le, Int.natCast_nonneg, Int.toNat_natCast, decide_true, decide_false, Bool.true_eq_false, Bool.false_eq_true, false_imp_iff, Nat.lt_irrefl, imp_self, implies_true,  hi, wrapS hi (room_lt hr)]
      refine ⟨roomS (by omega), fun _ => ?_⟩
      have := ih (ap I o (gd s_api_Edge l i).2.1) (by rw [ln_ap]; omega)
      rw [drop_gd hi, flatA]
      unfold ap at this ⊢
      rw [← List.append_assoc]
      exact this)
def k_cfg_Reads : Con := con [.d s_api_Func, .d s_api_Pos] (.sl 8 I) (fun x => smallF x.1) fun x => readsF x.1 x.2.1
theorem m_cfg_Reads (f : Den s_api_Func) (at_ : Den s_api_Pos) (h_f : okD s_api_Func f) (h_at_ : okD s_api_Pos at_) (hp : smallF f) : Runs E_C7 (start E_C7 f_cfg_Reads [(.tv s_api_Func f), (.tv s_api_Pos at_)]) (fun r_ h_ => r_ = (.tv (.sl 8 I) (readsF f at_)) ∧ h_ = []) := .tree E_C7_ok (cfg_Reads_t f at_) (by
  unfold readsF
  simp only [wp_iff, chk_iff, know_iff, any_iff, rt_iff, hd_iff, true_imp_iff, true_and, and_true, and_self, lt01]
  refine ⟨fun h => ?_, fun h => ⟨fun h2 => ?_, fun h2 => ?_⟩⟩
  · rw [h]; rfl
  · rw [h, h2]; rfl
  · have hi : insideF f at_ = true := by simpa using h
    have b := inside_b hi
    have sb := small_b hp b.1
    have a2 := of_decide_eq_false h2
    rw [h, h2]
    refine ⟨b.1, fun _ => ⟨fun h3 => ?_, fun h3 => ?_⟩⟩
    · rw [h3]
      exact ⟨⟨by omega, of_decide_eq_true h3⟩, fun _ => rfl⟩
    · rw [h3]
      have hb := sz_blk (blk f (z at_.1))
      have hf := sz_flat (blk f (z at_.1)).2.2.1.2.2.2.1
      have ha := sz_I (blk f (z at_.1)).2.2.1.2.1
      have hbn : (z at_.1).toNat < ln s_api_Block (blocks f) := by omega
      exact cfg_Reads_l _ (okB_suc (okB_of h_f) hbn).1 0 (Nat.zero_le _) _ (by
        show ln I (blk f (z at_.1)).2.2.1.2.1 + ln I (flatA (blk f (z at_.1)).2.2.1.2.2.2.1) ≤ _
        omega))
theorem c_cfg_Reads : SpecOK E_C7 f_cfg_Reads k_cfg_Reads.spec := spec_of fun x hx hp => ⟨rfl, m_cfg_Reads x.1 x.2.1 hx.1 hx.2.1 hp⟩
theorem r20_Reads_l (l : List (Den s_api_Edge)) (hr : room 32 (ln s_api_Edge l)) : ∀ i, i ≤ ln s_api_Edge l → ∀ o : List (Den I), ln I o + ln I (flatA (l.drop i)) ≤ 1048576 → Runs E_C7 (r20_Reads_L0 l (ln s_api_Edge l : Nat) i o) (fun x h => x = .tv (.sl 8 I) (ap I o (flatA (l.drop i))) ∧ h = []) :=
  up_ind (fun o ho => .tree E_C7_ok (r20_Reads_L0_t _ _ _ _) (by
    rw [drop_ln]
    simp only [wp_iff, chk_iff, know_iff, any_iff, rt_iff, hd_iff, true_imp_iff, true_and, and_true, and_self, lt01, Int.ofNat_lt, Int.ofNat_le, Int.natCast_nonneg, Int.toNat_natCast, decide_true, decide_false, Bool.true_eq_false, Bool.false_eq_true, false_imp_iff, Nat.lt_irrefl, imp_self, implies_true,  flatA]
    unfold ap
    rw [List.append_nil]))
    fun i hi ih o ho => .tree E_C7_ok (r20_Reads_L0_t _ _ _ _) (by
      rw [drop_gd hi, flatA, ln_ap] at ho
      simp only [wp_iff, chk_iff, know_iff, any_iff, rt_iff, hd_iff, true_imp_iff, true_and, and_true, and_self, lt01, Int.ofNat_lt, Int.ofNat_le, Int.natCast_nonneg, Int.toNat_natCast, decide_true, decide_false, Bool.true_eq_false, Bool.false_eq_true, false_imp_iff, Nat.lt_irrefl, imp_self, implies_true,  hi, wrapS hi (room_lt hr)]
      refine ⟨roomS (by omega), fun _ => ?_⟩
      have := ih (ap I o (gd s_api_Edge l i).2.1) (by rw [ln_ap]; omega)
      rw [drop_gd hi, flatA]
      unfold ap at this ⊢
      rw [← List.append_assoc]
      exact this)
def k_r20_Reads : Con := con [.d s_api_Func, .d s_api_Pos] (.sl 8 I) (fun x => smallF x.1) fun x => readsF x.1 x.2.1
theorem m_r20_Reads (f : Den s_api_Func) (at_ : Den s_api_Pos) (h_f : okD s_api_Func f) (h_at_ : okD s_api_Pos at_) (hp : smallF f) : Runs E_C7 (start E_C7 f_r20_Reads [(.tv s_api_Func f), (.tv s_api_Pos at_)]) (fun r_ h_ => r_ = (.tv (.sl 8 I) (readsF f at_)) ∧ h_ = []) := .tree E_C7_ok (r20_Reads_t f at_) (by
  unfold readsF
  simp only [wp_iff, chk_iff, know_iff, any_iff, rt_iff, hd_iff, true_imp_iff, true_and, and_true, and_self, lt01]
  refine ⟨fun h => ?_, fun h => ⟨fun h2 => ?_, fun h2 => ?_⟩⟩
  · rw [h]; rfl
  · rw [h, h2]; rfl
  · have hi : insideF f at_ = true := by simpa using h
    have b := inside_b hi
    have sb := small_b hp b.1
    have a2 := of_decide_eq_false h2
    have hbn : (z at_.1).toNat < ln s_api_Block (blocks f) := by omega
    have hob := (okB_of h_f).2 _ hbn
    rw [h, h2]
    refine ⟨b.1, fun _ => ⟨fun h3 => ?_, fun h3 => ?_⟩⟩
    · rw [h3]
      have a3 := of_decide_eq_true h3
      have a3' : z at_.2.1 < (ln s_api_Instr (blk f (z at_.1)).2.1 : Int) := a3
      have hx : (z at_.2.1).toNat < ln s_api_Instr (blk f (z at_.1)).2.1 := by omega
      exact ⟨⟨by omega, a3⟩, fun _ => ⟨(ok_gd hob.2.1 hx).2.2.2.1.1.1, fun _ => rfl⟩⟩
    · rw [h3]
      have hb := sz_blk (blk f (z at_.1))
      have hf := sz_flat (blk f (z at_.1)).2.2.1.2.2.2.1
      have ha := sz_I (blk f (z at_.1)).2.2.1.2.1
      exact ⟨hob.2.2.1.2.1.1.1, fun _ => r20_Reads_l _ (okB_suc (okB_of h_f) hbn).1 0 (Nat.zero_le _) _ (by
        show ln I (blk f (z at_.1)).2.2.1.2.1 + ln I (flatA (blk f (z at_.1)).2.2.1.2.2.2.1) ≤ _
        omega)⟩)
theorem c_r20_Reads : SpecOK E_C7 f_r20_Reads k_r20_Reads.spec := spec_of fun x hx hp => ⟨rfl, m_r20_Reads x.1 x.2.1 hx.1 hx.2.1 hp⟩

def k_cfg_Writes : Con := con [.d s_api_Func, .d s_api_Pos] (.sl 8 I) (fun x => smallF x.1) fun x => writesF x.1 x.2.1
theorem m_cfg_Writes (f : Den s_api_Func) (at_ : Den s_api_Pos) (h_f : okD s_api_Func f) (h_at_ : okD s_api_Pos at_) (hp : smallF f) : Runs E_C7 (start E_C7 f_cfg_Writes [(.tv s_api_Func f), (.tv s_api_Pos at_)]) (fun r_ h_ => r_ = (.tv (.sl 8 I) (writesF f at_)) ∧ h_ = []) := .tree E_C7_ok (cfg_Writes_t f at_) (by
  unfold writesF
  simp only [wp_iff, chk_iff, know_iff, any_iff, rt_iff, hd_iff, true_imp_iff, true_and, and_true, and_self, lt01]
  refine ⟨fun h => ?_, fun h => ?_⟩
  · rw [h]; rfl
  have hi : insideF f at_ = true := by simpa using h
  have b := inside_b hi
  have sb := small_b hp b.1
  have hbn : (z at_.1).toNat < ln s_api_Block (blocks f) := by omega
  have hob := (okB_of h_f).2 _ hbn
  have hb := sz_blk (blk f (z at_.1))
  have h1 := sz_I (blk f (z at_.1)).1
  have hroom : (ln I f.2.1 + ln I (blk f (z at_.1)).1) * 8 ≤ roomB := roomS (by omega)
  rw [h]
  refine ⟨b.1, fun _ => ⟨fun h2 => ?_, fun h2 => ?_⟩⟩
  · have e2 : z at_.2.1 = -1 := by simpa using h2
    have d2 : decide (z at_.2.1 < 0) = true := by rw [e2]; rfl
    rw [d2]
    refine ⟨fun h3 => ?_, fun h3 => ?_⟩
    · rw [h3]
      exact ⟨hroom, fun _ => rfl⟩
    · rw [h3]
      refine ⟨fun _ => rfl, fun h4 => absurd (h2.symm.trans h4) (by decide)⟩
  · have d2 : decide (z at_.2.1 < 0) = false := by
      have e2 : z at_.2.1 ≠ -1 := by simpa using h2
      have := b.2.1
      simp only [decide_eq_false_iff_not]
      omega
    rw [d2]
    have a2 := of_decide_eq_false d2
    refine ⟨fun h4 => absurd (h2.symm.trans h4) (by decide), fun _ => ⟨fun h3 => ?_, fun h3 => ?_⟩⟩
    · rw [h3]
      have a3 := of_decide_eq_true h3
      have f1 : 0 ≤ z at_.2.1 ∧ z at_.2.1 < (ln s_api_Instr (gd s_api_Block f.2.2.2.2.1 (z at_.1).toNat).2.1 : Int) := ⟨by omega, a3⟩
      refine ⟨f1, fun _ => ⟨fun h4 => ⟨f1, fun _ => ?_⟩, fun h4 => ?_⟩⟩
      · rw [show decide (iDst (gd s_api_Instr (bIns (blk f (z at_.1))) (z at_.2.1).toNat) ≥ 0) = true from h4]
        rfl
      · rw [show decide (iDst (gd s_api_Instr (bIns (blk f (z at_.1))) (z at_.2.1).toNat) ≥ 0) = false from h4]
        rfl
    · rw [h3]
      rfl)
theorem c_cfg_Writes : SpecOK E_C7 f_cfg_Writes k_cfg_Writes.spec := spec_of fun x hx hp => ⟨rfl, m_cfg_Writes x.1 x.2.1 hx.1 hx.2.1 hp⟩

def k_r20_Writes : Con := con [.d s_api_Func, .d s_api_Pos] (.sl 8 I) (fun x => smallF x.1) fun x => writesF x.1 x.2.1
theorem m_r20_Writes (f : Den s_api_Func) (at_ : Den s_api_Pos) (h_f : okD s_api_Func f) (h_at_ : okD s_api_Pos at_) (hp : smallF f) : Runs E_C7 (start E_C7 f_r20_Writes [(.tv s_api_Func f), (.tv s_api_Pos at_)]) (fun r_ h_ => r_ = (.tv (.sl 8 I) (writesF f at_)) ∧ h_ = []) := .tree E_C7_ok (r20_Writes_t f at_) (by
  unfold writesF
  simp only [wp_iff, chk_iff, know_iff, any_iff, rt_iff, hd_iff, true_imp_iff, true_and, and_true, and_self, lt01]
  refine ⟨fun h => ?_, fun h => ?_⟩
  · rw [h]; rfl
  have hi : insideF f at_ = true := by simpa using h
  have b := inside_b hi
  have sb := small_b hp b.1
  have hbn : (z at_.1).toNat < ln s_api_Block (blocks f) := by omega
  have hob := (okB_of h_f).2 _ hbn
  have hb := sz_blk (blk f (z at_.1))
  have h1 := sz_I (blk f (z at_.1)).1
  have hroom : (ln I f.2.1 + ln I (blk f (z at_.1)).1) * 8 ≤ roomB := roomS (by omega)
  rw [h]
  refine ⟨b.1, fun _ => ⟨fun h2 => ?_, fun h2 => ?_⟩⟩
  · rw [h2]
    refine ⟨fun h3 => ?_, fun h3 => ?_⟩
    · rw [h3]
      exact ⟨h_f.2.1.1.1, fun _ => ⟨hroom, fun _ => rfl⟩⟩
    · rw [h3]
      exact ⟨hob.1.1.1, fun _ => rfl⟩
  · rw [h2]
    have a2 := of_decide_eq_false h2
    refine ⟨fun h3 => ?_, fun h3 => ?_⟩
    · rw [h3]
      have a3 := of_decide_eq_true h3
      have f1 : 0 ≤ z at_.2.1 ∧ z at_.2.1 < (ln s_api_Instr (gd s_api_Block f.2.2.2.2.1 (z at_.1).toNat).2.1 : Int) := ⟨by omega, a3⟩
      refine ⟨f1, fun _ => ⟨fun h4 => ⟨f1, fun _ => ⟨by decide, fun _ => ?_⟩⟩, fun h4 => ?_⟩⟩
      · rw [show decide (iDst (gd s_api_Instr (bIns (blk f (z at_.1))) (z at_.2.1).toNat) ≥ 0) = true from h4]
        rfl
      · rw [show decide (iDst (gd s_api_Instr (bIns (blk f (z at_.1))) (z at_.2.1).toNat) ≥ 0) = false from h4]
        rfl
    · rw [h3]
      rfl)
theorem c_r20_Writes : SpecOK E_C7 f_r20_Writes k_r20_Writes.spec := spec_of fun x hx hp => ⟨rfl, m_r20_Writes x.1 x.2.1 hx.1 hx.2.1 hp⟩

def k_r20_SplitEdge : Con := conT2 [.d s_api_Func, .d I, .d I] s_api_Func .bool (fun x => ln s_api_Block x.1.2.2.2.2.1 ≤ 1000) fun x => splitF x.1 x.2.1 x.2.2.1
theorem m_r20_SplitEdge (f : Den s_api_Func) (block : Int) (succ : Int) (h_f : okD s_api_Func f) (h_block : okD I block) (h_succ : okD I succ) (hp : ln s_api_Block f.2.2.2.2.1 ≤ 1000) : Runs E_C7 (start E_C7 f_r20_SplitEdge [(.tv s_api_Func f), (vi block), (vi succ)]) (fun r_ h_ => r_ = (.tup [(.tv s_api_Func ((splitF f block succ).1)), (vb (bOf ((splitF f block succ).2)))]) ∧ h_ = []) := .tree E_C7_ok (r20_SplitEdge_t f block succ) (by
  unfold splitF splitIs
  simp only [wp_iff, chk_iff, know_iff, any_iff, rt_iff, hd_iff, true_imp_iff, true_and, and_true, and_self, lt01]
  refine ⟨fun h1 => ?_, fun h1 => ⟨fun h2 => ?_, fun h2 => ⟨fun h3 => ?_, fun h3 => ?_⟩⟩⟩
  · rw [h1]; rfl
  · rw [h1, h2]; rfl
  · rw [h1, h2, h3]; rfl
  · have a1 := of_decide_eq_false h1
    have a2 := of_decide_eq_false h2
    have a3 := of_decide_eq_false h3
    refine ⟨by omega, fun _ => ⟨fun h4 => ?_, fun h4 _ => ?_⟩⟩
    · rw [h1, h2, h3, h4]; rfl
    · have a4 := of_decide_eq_false h4
      rw [h1, h2, h3, h4]
      unfold idF
      have hb : block.toNat < ln s_api_Block f.2.2.2.2.1 := by omega
      have hs : succ.toNat < ln s_api_Edge (gd s_api_Block f.2.2.2.2.1 block.toNat).2.2.1.2.2.2.1 := by omega
      have f1 : 0 ≤ block ∧ block < (ln s_api_Block f.2.2.2.2.1 : Int) := ⟨by omega, by omega⟩
      have f3 : 0 ≤ succ ∧ succ < (ln s_api_Edge (gd s_api_Block f.2.2.2.2.1 block.toNat).2.2.1.2.2.2.1 : Int) := ⟨by omega, by omega⟩
      have f5 : (ln s_api_Block f.2.2.2.2.1 + 1) * 136 ≤ roomB := by
        have : (ln s_api_Block f.2.2.2.2.1 + 1) * 136 ≤ 1001 * 136 := Nat.mul_le_mul_right _ (by omega)
        unfold roomB
        omega
      simp only [f1, hb, f3, hs, f5, ln_st, true_imp_iff, true_and, and_self]
      rfl)
theorem c_r20_SplitEdge : SpecOK E_C7 f_r20_SplitEdge k_r20_SplitEdge.spec := spec_of fun x hx hp => ⟨rfl, m_r20_SplitEdge x.1 x.2.1 x.2.2.1 hx.1 hx.2.1 hx.2.2.1 hp⟩
def eqFn (a b : Fn) : Bool := ((tOf a.1).toList == (tOf b.1).toList) && (z a.2.2.1 == z b.2.2.1 && (eqI a.2.1 b.2.1 && (eqI a.2.2.2.1 b.2.2.2.1 && eqL eqBl (blocks a) (blocks b))))
theorem r14_EqualFunc_l (a b : Fn) (l m : List (Den s_api_Block)) (ha : blocks a = l) (hb : blocks b = m) (hr : room 136 (ln s_api_Block l)) (hl : ln s_api_Block l = ln s_api_Block m) : ∀ i, i ≤ ln s_api_Block l → Runs E_C7 (r14_EqualFunc_L0 a b (ln s_api_Block l : Nat) i) (fun x h => x = vb (eqL eqBl (l.drop i) (m.drop i)) ∧ h = []) :=
  up_ind (.tree E_C7_ok (r14_EqualFunc_L0_t _ _ _ _) (by
    rw [show m.drop (ln s_api_Block l) = [] from List.drop_eq_nil_of_le (by rw [hl]; exact Nat.le_refl _), drop_ln]
    simp only [wp_iff, chk_iff, know_iff, any_iff, rt_iff, hd_iff, true_imp_iff, true_and, and_true, and_self, lt01, Int.ofNat_lt, Int.ofNat_le, Int.natCast_nonneg, Int.toNat_natCast, decide_true, decide_false, Bool.true_eq_false, Bool.false_eq_true, false_imp_iff, Nat.lt_irrefl, imp_self, implies_true,  eqL]))
    fun i hi ih => .tree E_C7_ok (r14_EqualFunc_L0_t _ _ _ _) (by
      have hb' : i < ln s_api_Block m := hl ▸ hi
      rw [drop_gd (l := l) (i := i) hi, drop_gd (l := m) (i := i) hb', eqL]
      have ha : a.2.2.2.2.1 = l := ha
      have hb : b.2.2.2.2.1 = m := hb
      simp only [wp_iff, chk_iff, know_iff, any_iff, rt_iff, hd_iff, true_imp_iff, true_and, and_true, and_self, lt01, Int.ofNat_lt, Int.ofNat_le, Int.natCast_nonneg, Int.toNat_natCast, decide_true, decide_false, Bool.true_eq_false, Bool.false_eq_true, false_imp_iff, Nat.lt_irrefl, imp_self, implies_true,  ha, hb, hi, hb', wrapS hi (room_lt hr)]
      exact and_step ih)
def k_r14_EqualFunc : Con := con [.d s_api_Func, .d s_api_Func] .bool (fun x => True) fun x => eqFn x.1 x.2.1
theorem m_r14_EqualFunc (a : Den s_api_Func) (b : Den s_api_Func) (h_a : okD s_api_Func a) (h_b : okD s_api_Func b) (hp : True) : Runs E_C7 (start E_C7 f_r14_EqualFunc [(.tv s_api_Func a), (.tv s_api_Func b)]) (fun r_ h_ => r_ = (vb (eqFn a b)) ∧ h_ = []) := .tree E_C7_ok (r14_EqualFunc_t a b) (by
  unfold eqFn
  simp only [wp_iff, chk_iff, know_iff, any_iff, rt_iff, hd_iff, true_imp_iff, true_and, and_true, and_self, lt01]
  refine ⟨fun h1 => ?_, fun h1 => ⟨fun h2 => ?_, fun h2 => ⟨fun h3 => ?_, fun h3 => ⟨fun h4 => ?_, fun h4 => ⟨fun h5 => ?_, fun h5 => ?_⟩⟩⟩⟩⟩
  · rw [show ((tOf a.1).toList == (tOf b.1).toList) = false by rw [← Bool.not_eq_true']; exact h1]; rfl
  · rw [show (z a.2.2.1 == z b.2.2.1) = false by simpa using h2]
    simp only [Bool.false_and, Bool.and_false]
  · rw [show eqI a.2.1 b.2.1 = false by simpa using h3]
    simp only [Bool.false_and, Bool.and_false]
  · rw [show eqI a.2.2.2.1 b.2.2.2.1 = false by simpa using h4]
    simp only [Bool.false_and, Bool.and_false]
  · rw [eqL_len (e := eqBl) (l := blocks a) (m := blocks b) (by simp only [bne_iff_ne, ne_eq, Int.natCast_inj] at h5; exact h5)]
    simp only [Bool.false_and, Bool.and_false]
  · rw [show ((tOf a.1).toList == (tOf b.1).toList) = true by rw [← Bool.not_eq_false']; exact h1, show (z a.2.2.1 == z b.2.2.1) = true by simpa using h2, show eqI a.2.1 b.2.1 = true by simpa using h3, show eqI a.2.2.2.1 b.2.2.2.1 = true by simpa using h4]
    simp only [Bool.true_and]
    have e5 : ln s_api_Block (blocks a) = ln s_api_Block (blocks b) := by simp only [bne_eq_false_iff_eq, Int.natCast_inj] at h5; exact h5
    exact r14_EqualFunc_l a b _ _ rfl rfl (okB_of h_a).1 e5 0 (Nat.zero_le _))
theorem c_r14_EqualFunc : SpecOK E_C7 f_r14_EqualFunc k_r14_EqualFunc.spec := spec_of fun x hx hp => ⟨rfl, m_r14_EqualFunc x.1 x.2.1 hx.1 hx.2.1 hp⟩
def L_C7 : List (FuncId × FSpec) := [(f_cfg_Reads, k_cfg_Reads.spec), (f_r20_Reads, k_r20_Reads.spec), (f_cfg_Writes, k_cfg_Writes.spec), (f_r20_Writes, k_r20_Writes.spec), (f_r20_SplitEdge, k_r20_SplitEdge.spec), (f_r14_EqualFunc, k_r14_EqualFunc.spec)] ++ L_C6
theorem L_C7_ok : ∀ x ∈ L_C7, SpecOK (ctx []) x.1 x.2 := by
  unfold L_C7
  simp only [List.cons_append, List.nil_append, List.forall_mem_cons]
  exact ⟨c_cfg_Reads, c_r20_Reads, c_cfg_Writes, c_r20_Writes, c_r20_SplitEdge, c_r14_EqualFunc, L_C6_ok⟩
end Burn.M20
namespace Burn.M20
open Go Go.BE Go.Proofs
set_option maxRecDepth 100000
set_option linter.unusedVariables false
set_option linter.unusedSimpArgs false
open Burn.Cfg
noncomputable abbrev E_C8 : Ctx := ctx L_C7
theorem E_C8_ok : EOK E_C8 := ctx_ok L_C7_ok
def cuts_C8 : CutL := [([], 40, 0, [1, 2, 5, 17, 18], [], []),
  ([], 40, 2, [1, 2, 5, 6, 7, 17, 18], [], []),
  ([], 40, 4, [1, 2, 5, 6, 7, 8, 17, 18, 38, 39, 40], [], [])]
def rets_C8 : FuncId → List (Option Fx)
  | 40 => [some (.dat (.sl 24 (.sl 16 s_api_Pos)))]
  | _ => []
def H_C8 : Hints := { cut := cutOf cuts_C8, ret := rets_C8 }
noncomputable def colR_L0 (f : Den s_api_Func) (t17 : Int) (t18 : Int) (out : List (Den (.sl 16 s_api_Pos))) : Cfg := hcfg E_C8 f_cfg_collect 0 [(1, (.fn f_cfg_Reads [])), (2, (.rtp s_api_Func f)), (5, (.osl 0 0 [] none)), (17, (vi t17)), (18, (vi t18))] [(0, ⟨(.arr 1 24 (.sl 16 s_api_Pos) out), 0, [], false, none⟩)] 1
noncomputable def colR_L2 (f : Den s_api_Func) (b : Int) (i : Int) (t17 : Int) (t18 : Int) (out : List (Den (.sl 16 s_api_Pos))) : Cfg := hcfg E_C8 f_cfg_collect 2 [(1, (.fn f_cfg_Reads [])), (2, (.rtp s_api_Func f)), (5, (.osl 0 0 [] none)), (6, (vi b)), (7, (vi i)), (17, (vi t17)), (18, (vi t18))] [(0, ⟨(.arr 1 24 (.sl 16 s_api_Pos) out), 0, [], false, none⟩)] 1
noncomputable def colR_L4 (f : Den s_api_Func) (b : Int) (i : Int) (t17 : Int) (t18 : Int) (t38 : List (Den I)) (t39 : Int) (t40 : Int) (out : List (Den (.sl 16 s_api_Pos))) (p : Den s_api_Pos) : Cfg := hcfg E_C8 f_cfg_collect 4 [(1, (.fn f_cfg_Reads [])), (2, (.rtp s_api_Func f)), (5, (.osl 0 0 [] none)), (6, (vi b)), (7, (vi i)), (8, (.tref 1 1 [] (0 : Nat) [])), (17, (vi t17)), (18, (vi t18)), (38, (.tv (.sl 8 I) t38)), (39, (vi t39)), (40, (vi t40))] [(0, ⟨(.arr 1 24 (.sl 16 s_api_Pos) out), 0, [], false, none⟩), (1, ⟨(.arr 0 16 s_api_Pos ([p] : List (Den s_api_Pos))), 1, [], false, none⟩)] 2
theorem colR_t (f : Den s_api_Func) : run E_C8 H_C8 f_cfg_collect 3000 (start E_C8 f_cfg_collect [(.tv s_api_Func f), (.fn f_cfg_Reads [])]) = (.chk (((ln I f.2.2.2.1) : Int) = ((ln I f.2.2.2.1) : Int)) (.chk (0 ≤ ((ln I f.2.2.2.1) : Int)) (.chk ((ln I f.2.2.2.1) * 24 ≤ roomB) (hd (colR_L0 f ((ln s_api_Block f.2.2.2.2.1) : Int) (0 : Int) (List.replicate (ln I f.2.2.2.1) (dz (.sl 16 s_api_Pos)))))))) := by kernel_rfl
theorem colR_L0_t (f : Den s_api_Func) (t17 : Int) (t18 : Int) (out : List (Den (.sl 16 s_api_Pos))) : run E_C8 H_C8 f_cfg_collect 3000 (colR_L0 f t17 t18 out) = (cond (decide (t18 < t17)) (hd (colR_L2 f t18 (-1 : Int) t17 t18 out)) (rt (.tv (.sl 24 (.sl 16 s_api_Pos)) out) [])) := by kernel_rfl
theorem colR_L2_t (f : Den s_api_Func) (b : Int) (i : Int) (t17 : Int) (t18 : Int) (out : List (Den (.sl 16 s_api_Pos))) : run E_C8 H_C8 f_cfg_collect 3000 (colR_L2 f b i t17 t18 out) = (.chk (0 ≤ b ∧ b < (ln s_api_Block f.2.2.2.2.1)) (cond (decide (i ≤ ((ln s_api_Instr (((gd s_api_Block f.2.2.2.2.1 ((b).toNat)).2).1)) : Int))) (.chk ((0 : Nat) < (1 : Nat)) (.chk ((0 : Nat) < (1 : Nat)) (.chk (smallF f) (.know (okD (.sl 8 I) (readsF f (b, i, ()))) (hd (colR_L4 f b i t17 t18 (readsF f (b, i, ())) ((ln I (readsF f (b, i, ()))) : Int) (0 : Int) out (b, i, ()))))))) (hd (colR_L0 f t17 (IntKind.wrap .i64 (t18 + (1 : Int))) out)))) := by kernel_rfl
theorem colR_L4_t (f : Den s_api_Func) (b : Int) (i : Int) (t17 : Int) (t18 : Int) (t38 : List (Den I)) (t39 : Int) (t40 : Int) (out : List (Den (.sl 16 s_api_Pos))) (p : Den s_api_Pos) : run E_C8 H_C8 f_cfg_collect 3000 (colR_L4 f b i t17 t18 t38 t39 t40 out p) = (cond (decide (t40 < t39)) (.chk (0 ≤ t40 ∧ t40 < (ln I t38)) (cond (decide ((z (gd I t38 ((t40).toNat))) < (0 : Int))) (hd (colR_L4 f b i t17 t18 t38 t39 (IntKind.wrap .i64 (t40 + (1 : Int))) out p)) (cond (decide ((z (gd I t38 ((t40).toNat))) ≥ ((ln (.sl 16 s_api_Pos) out) : Int))) (hd (colR_L4 f b i t17 t18 t38 t39 (IntKind.wrap .i64 (t40 + (1 : Int))) out p)) (.chk (0 ≤ (z (gd I t38 ((t40).toNat))) ∧ (z (gd I t38 ((t40).toNat))) < (ln (.sl 16 s_api_Pos) out)) (.chk (((z (gd I t38 ((t40).toNat)))).toNat < (ln (.sl 16 s_api_Pos) out)) (.chk (((z (gd I t38 ((t40).toNat)))).toNat < (ln (.sl 16 s_api_Pos) out)) (cond (decide (((ln s_api_Pos (gd (.sl 16 s_api_Pos) out (((z (gd I t38 ((t40).toNat)))).toNat))) : Int) > (0 : Int))) (.chk (0 ≤ (z (gd I t38 ((t40).toNat))) ∧ (z (gd I t38 ((t40).toNat))) < (ln (.sl 16 s_api_Pos) out)) (.chk (((z (gd I t38 ((t40).toNat)))).toNat < (ln (.sl 16 s_api_Pos) out)) (.chk (0 ≤ (z (gd I t38 ((t40).toNat))) ∧ (z (gd I t38 ((t40).toNat))) < (ln (.sl 16 s_api_Pos) out)) (.chk (((z (gd I t38 ((t40).toNat)))).toNat < (ln (.sl 16 s_api_Pos) out)) (.chk (((z (gd I t38 ((t40).toNat)))).toNat < (ln (.sl 16 s_api_Pos) out)) (.chk (((z (gd I t38 ((t40).toNat)))).toNat < (ln (.sl 16 s_api_Pos) out)) (.chk (0 ≤ (IntKind.wrap .i64 (((ln s_api_Pos (gd (.sl 16 s_api_Pos) out (((z (gd I t38 ((t40).toNat)))).toNat))) : Int) - (1 : Int))) ∧ (IntKind.wrap .i64 (((ln s_api_Pos (gd (.sl 16 s_api_Pos) out (((z (gd I t38 ((t40).toNat)))).toNat))) : Int) - (1 : Int))) < (ln s_api_Pos (gd (.sl 16 s_api_Pos) out (((z (gd I t38 ((t40).toNat)))).toNat)))) (.chk (((z (gd I t38 ((t40).toNat)))).toNat < (ln (.sl 16 s_api_Pos) out)) (.chk (((IntKind.wrap .i64 (((ln s_api_Pos (gd (.sl 16 s_api_Pos) out (((z (gd I t38 ((t40).toNat)))).toNat))) : Int) - (1 : Int)))).toNat < (ln s_api_Pos (gd (.sl 16 s_api_Pos) out (((z (gd I t38 ((t40).toNat)))).toNat)))) (.chk ((0 : Nat) < (1 : Nat)) (cond (((z ((gd s_api_Pos (gd (.sl 16 s_api_Pos) out (((z (gd I t38 ((t40).toNat)))).toNat)) (((IntKind.wrap .i64 (((ln s_api_Pos (gd (.sl 16 s_api_Pos) out (((z (gd I t38 ((t40).toNat)))).toNat))) : Int) - (1 : Int)))).toNat)).1)) == (z p.1)) && (((z (((gd s_api_Pos (gd (.sl 16 s_api_Pos) out (((z (gd I t38 ((t40).toNat)))).toNat)) (((IntKind.wrap .i64 (((ln s_api_Pos (gd (.sl 16 s_api_Pos) out (((z (gd I t38 ((t40).toNat)))).toNat))) : Int) - (1 : Int)))).toNat)).2).1)) == (z p.2.1)) && true)) (hd (colR_L4 f b i t17 t18 t38 t39 (IntKind.wrap .i64 (t40 + (1 : Int))) out p)) (.chk (0 ≤ (z (gd I t38 ((t40).toNat))) ∧ (z (gd I t38 ((t40).toNat))) < (ln (.sl 16 s_api_Pos) out)) (.chk (((z (gd I t38 ((t40).toNat)))).toNat < (ln (.sl 16 s_api_Pos) out)) (.chk ((0 : Nat) < (1 : Nat)) (.chk (((z (gd I t38 ((t40).toNat)))).toNat < (ln (.sl 16 s_api_Pos) out)) (.chk (((ln s_api_Pos (gd (.sl 16 s_api_Pos) out (((z (gd I t38 ((t40).toNat)))).toNat))) + (1 : Nat)) * 16 ≤ roomB) (.chk (0 ≤ (z (gd I t38 ((t40).toNat))) ∧ (z (gd I t38 ((t40).toNat))) < (ln (.sl 16 s_api_Pos) (st (.sl 16 s_api_Pos) out (((z (gd I t38 ((t40).toNat)))).toNat) (ap s_api_Pos (gd (.sl 16 s_api_Pos) out (((z (gd I t38 ((t40).toNat)))).toNat)) ([p] : List (Den s_api_Pos)))))) (.chk (((z (gd I t38 ((t40).toNat)))).toNat = ((z (gd I t38 ((t40).toNat)))).toNat) (.chk (((z (gd I t38 ((t40).toNat)))).toNat = ((z (gd I t38 ((t40).toNat)))).toNat) (hd (colR_L4 f b i t17 t18 t38 t39 (IntKind.wrap .i64 (t40 + (1 : Int))) (st (.sl 16 s_api_Pos) out (((z (gd I t38 ((t40).toNat)))).toNat) (ap s_api_Pos (gd (.sl 16 s_api_Pos) out (((z (gd I t38 ((t40).toNat)))).toNat)) ([p] : List (Den s_api_Pos)))) p))))))))))))))))))))) (.chk (0 ≤ (z (gd I t38 ((t40).toNat))) ∧ (z (gd I t38 ((t40).toNat))) < (ln (.sl 16 s_api_Pos) out)) (.chk (((z (gd I t38 ((t40).toNat)))).toNat < (ln (.sl 16 s_api_Pos) out)) (.chk ((0 : Nat) < (1 : Nat)) (.chk (((z (gd I t38 ((t40).toNat)))).toNat < (ln (.sl 16 s_api_Pos) out)) (.chk (((ln s_api_Pos (gd (.sl 16 s_api_Pos) out (((z (gd I t38 ((t40).toNat)))).toNat))) + (1 : Nat)) * 16 ≤ roomB) (.chk (0 ≤ (z (gd I t38 ((t40).toNat))) ∧ (z (gd I t38 ((t40).toNat))) < (ln (.sl 16 s_api_Pos) (st (.sl 16 s_api_Pos) out (((z (gd I t38 ((t40).toNat)))).toNat) (ap s_api_Pos (gd (.sl 16 s_api_Pos) out (((z (gd I t38 ((t40).toNat)))).toNat)) ([p] : List (Den s_api_Pos)))))) (.chk (((z (gd I t38 ((t40).toNat)))).toNat = ((z (gd I t38 ((t40).toNat)))).toNat) (.chk (((z (gd I t38 ((t40).toNat)))).toNat = ((z (gd I t38 ((t40).toNat)))).toNat) (hd (colR_L4 f b i t17 t18 t38 t39 (IntKind.wrap .i64 (t40 + (1 : Int))) (st (.sl 16 s_api_Pos) out (((z (gd I t38 ((t40).toNat)))).toNat) (ap s_api_Pos (gd (.sl 16 s_api_Pos) out (((z (gd I t38 ((t40).toNat)))).toNat)) ([p] : List (Den s_api_Pos)))) p))))))))))))))))) (hd (colR_L2 f b (IntKind.wrap .i64 (i + (1 : Int))) t17 t18 out))) := by kernel_rfl
noncomputable def colW_L0 (f : Den s_api_Func) (t17 : Int) (t18 : Int) (out : List (Den (.sl 16 s_api_Pos))) : Cfg := hcfg E_C8 f_cfg_collect 0 [(1, (.fn f_cfg_Writes [])), (2, (.rtp s_api_Func f)), (5, (.osl 0 0 [] none)), (17, (vi t17)), (18, (vi t18))] [(0, ⟨(.arr 1 24 (.sl 16 s_api_Pos) out), 0, [], false, none⟩)] 1
noncomputable def colW_L2 (f : Den s_api_Func) (b : Int) (i : Int) (t17 : Int) (t18 : Int) (out : List (Den (.sl 16 s_api_Pos))) : Cfg := hcfg E_C8 f_cfg_collect 2 [(1, (.fn f_cfg_Writes [])), (2, (.rtp s_api_Func f)), (5, (.osl 0 0 [] none)), (6, (vi b)), (7, (vi i)), (17, (vi t17)), (18, (vi t18))] [(0, ⟨(.arr 1 24 (.sl 16 s_api_Pos) out), 0, [], false, none⟩)] 1
noncomputable def colW_L4 (f : Den s_api_Func) (b : Int) (i : Int) (t17 : Int) (t18 : Int) (t38 : List (Den I)) (t39 : Int) (t40 : Int) (out : List (Den (.sl 16 s_api_Pos))) (p : Den s_api_Pos) : Cfg := hcfg E_C8 f_cfg_collect 4 [(1, (.fn f_cfg_Writes [])), (2, (.rtp s_api_Func f)), (5, (.osl 0 0 [] none)), (6, (vi b)), (7, (vi i)), (8, (.tref 1 1 [] (0 : Nat) [])), (17, (vi t17)), (18, (vi t18)), (38, (.tv (.sl 8 I) t38)), (39, (vi t39)), (40, (vi t40))] [(0, ⟨(.arr 1 24 (.sl 16 s_api_Pos) out), 0, [], false, none⟩), (1, ⟨(.arr 0 16 s_api_Pos ([p] : List (Den s_api_Pos))), 1, [], false, none⟩)] 2
theorem colW_t (f : Den s_api_Func) : run E_C8 H_C8 f_cfg_collect 3000 (start E_C8 f_cfg_collect [(.tv s_api_Func f), (.fn f_cfg_Writes [])]) = (.chk (((ln I f.2.2.2.1) : Int) = ((ln I f.2.2.2.1) : Int)) (.chk (0 ≤ ((ln I f.2.2.2.1) : Int)) (.chk ((ln I f.2.2.2.1) * 24 ≤ roomB) (hd (colW_L0 f ((ln s_api_Block f.2.2.2.2.1) : Int) (0 : Int) (List.replicate (ln I f.2.2.2.1) (dz (.sl 16 s_api_Pos)))))))) := by kernel_rfl
theorem colW_L0_t (f : Den s_api_Func) (t17 : Int) (t18 : Int) (out : List (Den (.sl 16 s_api_Pos))) : run E_C8 H_C8 f_cfg_collect 3000 (colW_L0 f t17 t18 out) = (cond (decide (t18 < t17)) (hd (colW_L2 f t18 (-1 : Int) t17 t18 out)) (rt (.tv (.sl 24 (.sl 16 s_api_Pos)) out) [])) := by kernel_rfl
theorem colW_L2_t (f : Den s_api_Func) (b : Int) (i : Int) (t17 : Int) (t18 : Int) (out : List (Den (.sl 16 s_api_Pos))) : run E_C8 H_C8 f_cfg_collect 3000 (colW_L2 f b i t17 t18 out) = (.chk (0 ≤ b ∧ b < (ln s_api_Block f.2.2.2.2.1)) (cond (decide (i ≤ ((ln s_api_Instr (((gd s_api_Block f.2.2.2.2.1 ((b).toNat)).2).1)) : Int))) (.chk ((0 : Nat) < (1 : Nat)) (.chk ((0 : Nat) < (1 : Nat)) (.chk (smallF f) (.know (okD (.sl 8 I) (writesF f (b, i, ()))) (hd (colW_L4 f b i t17 t18 (writesF f (b, i, ())) ((ln I (writesF f (b, i, ()))) : Int) (0 : Int) out (b, i, ()))))))) (hd (colW_L0 f t17 (IntKind.wrap .i64 (t18 + (1 : Int))) out)))) := by kernel_rfl
theorem colW_L4_t (f : Den s_api_Func) (b : Int) (i : Int) (t17 : Int) (t18 : Int) (t38 : List (Den I)) (t39 : Int) (t40 : Int) (out : List (Den (.sl 16 s_api_Pos))) (p : Den s_api_Pos) : run E_C8 H_C8 f_cfg_collect 3000 (colW_L4 f b i t17 t18 t38 t39 t40 out p) = (cond (decide (t40 < t39)) (.chk (0 ≤ t40 ∧ t40 < (ln I t38)) (cond (decide ((z (gd I t38 ((t40).toNat))) < (0 : Int))) (hd (colW_L4 f b i t17 t18 t38 t39 (IntKind.wrap .i64 (t40 + (1 : Int))) out p)) (cond (decide ((z (gd I t38 ((t40).toNat))) ≥ ((ln (.sl 16 s_api_Pos) out) : Int))) (hd (colW_L4 f b i t17 t18 t38 t39 (IntKind.wrap .i64 (t40 + (1 : Int))) out p)) (.chk (0 ≤ (z (gd I t38 ((t40).toNat))) ∧ (z (gd I t38 ((t40).toNat))) < (ln (.sl 16 s_api_Pos) out)) (.chk (((z (gd I t38 ((t40).toNat)))).toNat < (ln (.sl 16 s_api_Pos) out)) (.chk (((z (gd I t38 ((t40).toNat)))).toNat < (ln (.sl 16 s_api_Pos) out)) (cond (decide (((ln s_api_Pos (gd (.sl 16 s_api_Pos) out (((z (gd I t38 ((t40).toNat)))).toNat))) : Int) > (0 : Int))) (.chk (0 ≤ (z (gd I t38 ((t40).toNat))) ∧ (z (gd I t38 ((t40).toNat))) < (ln (.sl 16 s_api_Pos) out)) (.chk (((z (gd I t38 ((t40).toNat)))).toNat < (ln (.sl 16 s_api_Pos) out)) (.chk (0 ≤ (z (gd I t38 ((t40).toNat))) ∧ (z (gd I t38 ((t40).toNat))) < (ln (.sl 16 s_api_Pos) out)) (.chk (((z (gd I t38 ((t40).toNat)))).toNat < (ln (.sl 16 s_api_Pos) out)) (.chk (((z (gd I t38 ((t40).toNat)))).toNat < (ln (.sl 16 s_api_Pos) out)) (.chk (((z (gd I t38 ((t40).toNat)))).toNat < (ln (.sl 16 s_api_Pos) out)) (.chk (0 ≤ (IntKind.wrap .i64 (((ln s_api_Pos (gd (.sl 16 s_api_Pos) out (((z (gd I t38 ((t40).toNat)))).toNat))) : Int) - (1 : Int))) ∧ (IntKind.wrap .i64 (((ln s_api_Pos (gd (.sl 16 s_api_Pos) out (((z (gd I t38 ((t40).toNat)))).toNat))) : Int) - (1 : Int))) < (ln s_api_Pos (gd (.sl 16 s_api_Pos) out (((z (gd I t38 ((t40).toNat)))).toNat)))) (.chk (((z (gd I t38 ((t40).toNat)))).toNat < (ln (.sl 16 s_api_Pos) out)) (.chk (((IntKind.wrap .i64 (((ln s_api_Pos (gd (.sl 16 s_api_Pos) out (((z (gd I t38 ((t40).toNat)))).toNat))) : Int) - (1 : Int)))).toNat < (ln s_api_Pos (gd (.sl 16 s_api_Pos) out (((z (gd I t38 ((t40).toNat)))).toNat)))) (.chk ((0 : Nat) < (1 : Nat)) (cond (((z ((gd s_api_Pos (gd (.sl 16 s_api_Pos) out (((z (gd I t38 ((t40).toNat)))).toNat)) (((IntKind.wrap .i64 (((ln s_api_Pos (gd (.sl 16 s_api_Pos) out (((z (gd I t38 ((t40).toNat)))).toNat))) : Int) - (1 : Int)))).toNat)).1)) == (z p.1)) && (((z (((gd s_api_Pos (gd (.sl 16 s_api_Pos) out (((z (gd I t38 ((t40).toNat)))).toNat)) (((IntKind.wrap .i64 (((ln s_api_Pos (gd (.sl 16 s_api_Pos) out (((z (gd I t38 ((t40).toNat)))).toNat))) : Int) - (1 : Int)))).toNat)).2).1)) == (z p.2.1)) && true)) (hd (colW_L4 f b i t17 t18 t38 t39 (IntKind.wrap .i64 (t40 + (1 : Int))) out p)) (.chk (0 ≤ (z (gd I t38 ((t40).toNat))) ∧ (z (gd I t38 ((t40).toNat))) < (ln (.sl 16 s_api_Pos) out)) (.chk (((z (gd I t38 ((t40).toNat)))).toNat < (ln (.sl 16 s_api_Pos) out)) (.chk ((0 : Nat) < (1 : Nat)) (.chk (((z (gd I t38 ((t40).toNat)))).toNat < (ln (.sl 16 s_api_Pos) out)) (.chk (((ln s_api_Pos (gd (.sl 16 s_api_Pos) out (((z (gd I t38 ((t40).toNat)))).toNat))) + (1 : Nat)) * 16 ≤ roomB) (.chk (0 ≤ (z (gd I t38 ((t40).toNat))) ∧ (z (gd I t38 ((t40).toNat))) < (ln (.sl 16 s_api_Pos) (st (.sl 16 s_api_Pos) out (((z (gd I t38 ((t40).toNat)))).toNat) (ap s_api_Pos (gd (.sl 16 s_api_Pos) out (((z (gd I t38 ((t40).toNat)))).toNat)) ([p] : List (Den s_api_Pos)))))) (.chk (((z (gd I t38 ((t40).toNat)))).toNat = ((z (gd I t38 ((t40).toNat)))).toNat) (.chk (((z (gd I t38 ((t40).toNat)))).toNat = ((z (gd I t38 ((t40).toNat)))).toNat) (hd (colW_L4 f b i t17 t18 t38 t39 (IntKind.wrap .i64 (t40 + (1 : Int))) (st (.sl 16 s_api_Pos) out (((z (gd I t38 ((t40).toNat)))).toNat) (ap s_api_Pos (gd (.sl 16 s_api_Pos) out (((z (gd I t38 ((t40).toNat)))).toNat)) ([p] : List (Den s_api_Pos)))) p))))))))))))))))))))) (.chk (0 ≤ (z (gd I t38 ((t40).toNat))) ∧ (z (gd I t38 ((t40).toNat))) < (ln (.sl 16 s_api_Pos) out)) (.chk (((z (gd I t38 ((t40).toNat)))).toNat < (ln (.sl 16 s_api_Pos) out)) (.chk ((0 : Nat) < (1 : Nat)) (.chk (((z (gd I t38 ((t40).toNat)))).toNat < (ln (.sl 16 s_api_Pos) out)) (.chk (((ln s_api_Pos (gd (.sl 16 s_api_Pos) out (((z (gd I t38 ((t40).toNat)))).toNat))) + (1 : Nat)) * 16 ≤ roomB) (.chk (0 ≤ (z (gd I t38 ((t40).toNat))) ∧ (z (gd I t38 ((t40).toNat))) < (ln (.sl 16 s_api_Pos) (st (.sl 16 s_api_Pos) out (((z (gd I t38 ((t40).toNat)))).toNat) (ap s_api_Pos (gd (.sl 16 s_api_Pos) out (((z (gd I t38 ((t40).toNat)))).toNat)) ([p] : List (Den s_api_Pos)))))) (.chk (((z (gd I t38 ((t40).toNat)))).toNat = ((z (gd I t38 ((t40).toNat)))).toNat) (.chk (((z (gd I t38 ((t40).toNat)))).toNat = ((z (gd I t38 ((t40).toNat)))).toNat) (hd (colW_L4 f b i t17 t18 t38 t39 (IntKind.wrap .i64 (t40 + (1 : Int))) (st (.sl 16 s_api_Pos) out (((z (gd I t38 ((t40).toNat)))).toNat) (ap s_api_Pos (gd (.sl 16 s_api_Pos) out (((z (gd I t38 ((t40).toNat)))).toNat)) ([p] : List (Den s_api_Pos)))) p))))))))))))))))) (hd (colW_L2 f b (IntKind.wrap .i64 (i + (1 : Int))) t17 t18 out))) := by kernel_rfl
def lastIs (l : List (Den s_api_Pos)) (p : Den s_api_Pos) : Bool := decide ((ln s_api_Pos l : Int) > 0) && eP (gd s_api_Pos l (ln s_api_Pos l - 1)) p
def step1 (p : Den s_api_Pos) (out : List (Den (.sl 16 s_api_Pos))) (r : Int) : List (Den (.sl 16 s_api_Pos)) := if r < 0 ∨ r ≥ (ln (.sl 16 s_api_Pos) out : Int) then out else if lastIs (gd (.sl 16 s_api_Pos) out r.toNat) p then out else st (.sl 16 s_api_Pos) out r.toNat (ap s_api_Pos (gd (.sl 16 s_api_Pos) out r.toNat) [p])
def stepL (p : Den s_api_Pos) : List (Den I) → List (Den (.sl 16 s_api_Pos)) → List (Den (.sl 16 s_api_Pos))
  | [], out => out
  | r :: rs, out => stepL p rs (step1 p out (z r))
def posA (b : Nat) (k : Nat) : Den s_api_Pos := ((b : Int), (k : Int) - 1, ())
def colB (R : Fn → Den s_api_Pos → Den (.sl 8 I)) (f : Fn) (b : Nat) : Nat → Nat → List (Den (.sl 16 s_api_Pos)) → List (Den (.sl 16 s_api_Pos))
  | 0, _, out => out
  | n + 1, k, out => colB R f b n (k + 1) (stepL (posA b k) (R f (posA b k)) out)
def colF (R : Fn → Den s_api_Pos → Den (.sl 8 I)) (f : Fn) : Nat → Nat → List (Den (.sl 16 s_api_Pos)) → List (Den (.sl 16 s_api_Pos))
  | 0, _, out => out
  | n + 1, b, out => colF R f n (b + 1) (colB R f b (ln s_api_Instr (bIns (gd s_api_Block (blocks f) b)) + 2) 0 out)
def collectF (R : Fn → Den s_api_Pos → Den (.sl 8 I)) (f : Fn) : Den (.sl 24 (.sl 16 s_api_Pos)) := colF R f (ln s_api_Block (blocks f)) 0 (List.replicate (ln I f.2.2.2.1) [])
def bnd (out : List (Den (.sl 16 s_api_Pos))) (c : Nat) : Prop := ∀ r, ln s_api_Pos (gd (.sl 16 s_api_Pos) out r) ≤ c
theorem gd_st_any {S : Sh} {l : List (Den S)} {i j : Nat} {x : Den S} : gd S (st S l i x) j = if i = j ∧ i < ln S l then x else gd S l j := by
  by_cases hij : i = j
  · subst hij
    by_cases hi : i < ln S l
    · rw [gd_st hi, if_pos ⟨rfl, hi⟩]
    · rw [if_neg (fun h => hi h.2)]
      unfold st
      rw [List.set_eq_of_length_le (Nat.le_of_not_lt hi)]
  · rw [if_neg (fun h => hij h.1)]
    unfold gd st
    rw [List.getD_eq_getElem?_getD, List.getD_eq_getElem?_getD, List.getElem?_set_ne hij]
theorem step1_bnd {p : Den s_api_Pos} {out : List (Den (.sl 16 s_api_Pos))} {r : Int} {c : Nat} (h : bnd out c) : bnd (step1 p out r) (c + 1) := by
  unfold step1
  split
  · exact fun r => Nat.le_succ_of_le (h r)
  · split
    · exact fun r => Nat.le_succ_of_le (h r)
    · intro j
      rw [gd_st_any]
      split
      · rw [ln_ap1]
        exact Nat.succ_le_succ (h _)
      · exact Nat.le_succ_of_le (h j)
theorem step1_ln {p : Den s_api_Pos} {out : List (Den (.sl 16 s_api_Pos))} {r : Int} : ln (.sl 16 s_api_Pos) (step1 p out r) = ln (.sl 16 s_api_Pos) out := by
  unfold step1
  split
  · rfl
  · split
    · rfl
    · exact ln_st
theorem stepL_bnd {p : Den s_api_Pos} : ∀ {rs : List (Den I)} {out : List (Den (.sl 16 s_api_Pos))} {c : Nat}, bnd out c → bnd (stepL p rs out) (c + ln I rs)
  | [], _, _, h => h
  | r :: rs, out, c, h => by
    have := stepL_bnd (p := p) (rs := rs) (step1_bnd (p := p) (r := z r) h)
    rw [show c + ln I (r :: rs) = c + 1 + ln I rs by show c + (rs.length + 1) = c + 1 + rs.length; omega]
    exact this
theorem colB_bnd {R : Fn → Den s_api_Pos → Den (.sl 8 I)} {f : Fn} (hR : ∀ p, ln I (R f p) ≤ 1048576) {b : Nat} : ∀ {n k : Nat} {out : List (Den (.sl 16 s_api_Pos))} {c : Nat}, bnd out c → bnd (colB R f b n k out) (c + n * 1048576)
  | 0, _, _, c, h => by rw [Nat.zero_mul]; exact h
  | n + 1, k, out, c, h => by
    have h1 := stepL_bnd (p := posA b k) (rs := R f (posA b k)) h
    have h2 := colB_bnd hR (b := b) (n := n) (k := k + 1) h1
    have h3 := hR (posA b k)
    refine fun r => Nat.le_trans (h2 r) ?_
    rw [Nat.succ_mul]
    omega
theorem roomM {n : Nat} (h : n ≤ 4398046511104) : (n + 1) * 16 ≤ roomB := by
  unfold roomB
  omega
theorem readsF_len {f : Fn} (hp : smallF f) (p : Den s_api_Pos) : ln I (readsF f p) ≤ 1048576 := by
  unfold readsF
  cases hi : insideF f p with
  | false => exact Nat.zero_le _
  | true =>
    have b := inside_b hi
    have sb := small_b hp b.1
    have hb := sz_blk (blk f (z p.1))
    simp only [Bool.not_true, cond_false]
    cases h2 : decide (z p.2.1 < 0) with
    | true => exact Nat.zero_le _
    | false =>
      have a2 := of_decide_eq_false h2
      simp only [cond_false]
      cases h3 : decide (z p.2.1 < (ln s_api_Instr (bIns (blk f (z p.1))) : Int)) with
      | true =>
        have a3 : z p.2.1 < (ln s_api_Instr (blk f (z p.1)).2.1 : Int) := of_decide_eq_true h3
        have hx : (z p.2.1).toNat < ln s_api_Instr (blk f (z p.1)).2.1 := by omega
        have h4 := sz_mem (b := 80) hx
        have h5 : szD s_api_Instr (gd s_api_Instr (blk f (z p.1)).2.1 (z p.2.1).toNat) = 0 + (0 + (0 + (szD (.sl 8 I) (gd s_api_Instr (blk f (z p.1)).2.1 (z p.2.1).toNat).2.2.2.1 + (0 + (0 + (0 + (0 + 0))))))) := rfl
        rw [sz_I] at h5
        show ln I (gd s_api_Instr (blk f (z p.1)).2.1 (z p.2.1).toNat).2.2.2.1 ≤ _
        omega
      | false =>
        have hf := sz_flat (blk f (z p.1)).2.2.1.2.2.2.1
        have ha := sz_I (blk f (z p.1)).2.2.1.2.1
        show ln I (ap I (blk f (z p.1)).2.2.1.2.1 (flatA (blk f (z p.1)).2.2.1.2.2.2.1)) ≤ _
        rw [ln_ap]
        omega
theorem writesF_len {f : Fn} (hp : smallF f) (p : Den s_api_Pos) : ln I (writesF f p) ≤ 1048576 := by
  unfold writesF
  cases hi : insideF f p with
  | false => exact Nat.zero_le _
  | true =>
    have b := inside_b hi
    have sb := small_b hp b.1
    have hb := sz_blk (blk f (z p.1))
    have h1 := sz_I (blk f (z p.1)).1
    simp only [Bool.not_true, cond_false]
    cases decide (z p.2.1 < 0) with
    | true =>
      cases z p.1 == 0 with
      | true =>
        show ln I (ap I f.2.1 (blk f (z p.1)).1) ≤ _
        rw [ln_ap]
        omega
      | false =>
        show ln I (blk f (z p.1)).1 ≤ _
        omega
    | false =>
      cases decide (z p.2.1 < (ln s_api_Instr (bIns (blk f (z p.1))) : Int)) with
      | true =>
        cases decide (iDst (gd s_api_Instr (bIns (blk f (z p.1))) (z p.2.1).toNat) ≥ 0) with
        | true => show 1 ≤ 1048576; omega
        | false => exact Nat.zero_le _
      | false => exact Nat.zero_le _
theorem sz_ln {b : Nat} {S : Sh} : ∀ {l : List (Den S)}, ln S l ≤ szD (.sl b S) l
  | [] => Nat.le_refl _
  | x :: l => by
    have := sz_ln (b := b) (l := l)
    rw [sz_cons]
    show l.length + 1 ≤ _
    unfold ln at this
    omega
theorem arithN {c N X Z : Nat} (h1 : N ≤ 2 * (X + 1)) (h2 : c + 2 * (X + 1 + Z) * 1048576 ≤ 4398046511104) : c + N * 1048576 + 2 * Z * 1048576 ≤ 4398046511104 := by omega
theorem gd_rep {n r : Nat} : gd (.sl 16 s_api_Pos) (List.replicate n (dz (.sl 16 s_api_Pos))) r = [] := by
  unfold gd
  rw [List.getD_eq_getElem?_getD, List.getElem?_replicate]
  split <;> rfl
def usesF (f : Fn) : Den (.sl 24 (.sl 16 s_api_Pos)) := collectF readsF f
def defsF (f : Fn) : Den (.sl 24 (.sl 16 s_api_Pos)) := collectF writesF f
theorem colR_l4 {Q : AV → Heap → Prop} (f : Fn) (b i n m : Int) (rs : List (Den I)) (hrs : ln I rs ≤ 1048576) (p : Den s_api_Pos) : ∀ k, k ≤ ln I rs → ∀ (out : List (Den (.sl 16 s_api_Pos))) (c : Nat), bnd out c → c + (ln I rs - k) ≤ 4398046511104 → Runs E_C8 (colR_L2 f b (IntKind.wrap .i64 (i + 1)) n m (stepL p (rs.drop k) out)) Q → Runs E_C8 (colR_L4 f b i n m rs (ln I rs : Nat) k out p) Q :=
  up_ind (fun out c _ _ hn => .tree E_C8_ok (colR_L4_t _ _ _ _ _ _ _ _ _ _) (by
    rw [drop_ln] at hn
    simp only [wp_iff, chk_iff, know_iff, any_iff, rt_iff, hd_iff, true_imp_iff, true_and, and_true, and_self, lt01, Int.ofNat_lt, Int.ofNat_le, Int.natCast_nonneg, Int.toNat_natCast, decide_true, decide_false, Bool.true_eq_false, Bool.false_eq_true, false_imp_iff, Nat.lt_irrefl, imp_self, implies_true,  stepL] at hn ⊢
    exact hn))
    fun k hk ih out c hb hc hn => .tree E_C8_ok (colR_L4_t _ _ _ _ _ _ _ _ _ _) (by
      rw [drop_gd hk, stepL] at hn
      have ih := ih (step1 p out (z (gd I rs k))) (c + 1) (step1_bnd hb) (by omega) hn
      clear hn
      simp only [wp_iff, chk_iff, know_iff, any_iff, rt_iff, hd_iff, true_imp_iff, true_and, and_true, and_self, lt01, Int.ofNat_lt, Int.ofNat_le, Int.natCast_nonneg, Int.toNat_natCast, decide_true, decide_false, Bool.true_eq_false, Bool.false_eq_true, false_imp_iff, Nat.lt_irrefl, imp_self, implies_true,  hk, wrapS hk (show ln I rs < 9223372036854775807 by omega)]
      unfold step1 at ih
      refine ⟨fun h1 => ?_, fun h1 => ⟨fun h2 => ?_, fun h2 => ?_⟩⟩
      · rw [if_pos (.inl (of_decide_eq_true h1))] at ih
        exact ih
      · rw [if_pos (.inr (of_decide_eq_true h2))] at ih
        exact ih
      · have a1 := of_decide_eq_false h1
        have a2 := of_decide_eq_false h2
        rw [if_neg (by omega)] at ih
        have f1 : 0 ≤ z (gd I rs k) ∧ z (gd I rs k) < (ln (.sl 16 s_api_Pos) out : Int) := ⟨by omega, by omega⟩
        have f2 : (z (gd I rs k)).toNat < ln (.sl 16 s_api_Pos) out := by omega
        have hG := hb (z (gd I rs k)).toNat
        have f3 : (ln s_api_Pos (gd (.sl 16 s_api_Pos) out (z (gd I rs k)).toNat) + 1) * 16 ≤ roomB := roomM (by omega)
        simp only [f1, f2, f3, ln_st, true_imp_iff, true_and, and_self, lt01]
        refine ⟨fun h3 => ?_, fun h3 => ?_⟩
        · have a3 : 0 < ln s_api_Pos (gd (.sl 16 s_api_Pos) out (z (gd I rs k)).toNat) := by
            have := of_decide_eq_true h3
            omega
          have hw : IntKind.wrap .i64 ((ln s_api_Pos (gd (.sl 16 s_api_Pos) out (z (gd I rs k)).toNat) : Int) - 1) = ((ln s_api_Pos (gd (.sl 16 s_api_Pos) out (z (gd I rs k)).toNat) - 1 : Nat) : Int) := by
            rw [wrap64 _ (by omega) (by omega)]
            omega
          have f4 : (0 : Int) ≤ ((ln s_api_Pos (gd (.sl 16 s_api_Pos) out (z (gd I rs k)).toNat) - 1 : Nat) : Int) ∧ ((ln s_api_Pos (gd (.sl 16 s_api_Pos) out (z (gd I rs k)).toNat) - 1 : Nat) : Int) < (ln s_api_Pos (gd (.sl 16 s_api_Pos) out (z (gd I rs k)).toNat) : Int) := ⟨by omega, by omega⟩
          have f5 : ln s_api_Pos (gd (.sl 16 s_api_Pos) out (z (gd I rs k)).toNat) - 1 < ln s_api_Pos (gd (.sl 16 s_api_Pos) out (z (gd I rs k)).toNat) := by omega
          simp only [hw, f4, f5, Int.toNat_natCast, true_imp_iff, true_and, and_self, lt01]
          have hl : lastIs (gd (.sl 16 s_api_Pos) out (z (gd I rs k)).toNat) p = eP (gd s_api_Pos (gd (.sl 16 s_api_Pos) out (z (gd I rs k)).toNat) (ln s_api_Pos (gd (.sl 16 s_api_Pos) out (z (gd I rs k)).toNat) - 1)) p := by
            unfold lastIs
            rw [h3, Bool.true_and]
          rw [hl] at ih
          refine ⟨fun h4 => ?_, fun h4 => ?_⟩
          · have h4' : eP (gd s_api_Pos (gd (.sl 16 s_api_Pos) out (z (gd I rs k)).toNat) (ln s_api_Pos (gd (.sl 16 s_api_Pos) out (z (gd I rs k)).toNat) - 1)) p = true := h4
            rw [if_pos h4'] at ih
            exact ih
          · have h4' : eP (gd s_api_Pos (gd (.sl 16 s_api_Pos) out (z (gd I rs k)).toNat) (ln s_api_Pos (gd (.sl 16 s_api_Pos) out (z (gd I rs k)).toNat) - 1)) p = false := h4
            rw [if_neg (by rw [h4']; decide)] at ih
            exact ih
        · rw [if_neg (by unfold lastIs; rw [h3]; simp)] at ih
          exact ih)
theorem colR_l2 {Q : AV → Heap → Prop} (f : Fn) (hp : smallF f) (b : Nat) (hbl : b < ln s_api_Block (blocks f)) (N : Nat) (hN : N = ln s_api_Instr (bIns (gd s_api_Block (blocks f) b)) + 2) (hN2 : N ≤ 2097154) (n : Int) : ∀ k, k ≤ N → ∀ (out : List (Den (.sl 16 s_api_Pos))) (c : Nat), bnd out c → c + (N - k) * 1048576 ≤ 4398046511104 → Runs E_C8 (colR_L0 f n (IntKind.wrap .i64 ((b : Int) + 1)) (colB readsF f b (N - k) k out)) Q → Runs E_C8 (colR_L2 f b ((k : Int) - 1) n b out) Q :=
  up_ind (fun out c _ _ hn => .tree E_C8_ok (colR_L2_t _ _ _ _ _ _) (by
    have h1 : ¬ ((N : Int) - 1 ≤ (ln s_api_Instr (gd s_api_Block f.2.2.2.2.1 b).2.1 : Int)) := by
      have e : ln s_api_Instr (gd s_api_Block f.2.2.2.2.1 b).2.1 = ln s_api_Instr (bIns (gd s_api_Block (blocks f) b)) := rfl
      rw [e]
      omega
    have f1 : b < ln s_api_Block f.2.2.2.2.1 := hbl
    rw [Nat.sub_self] at hn
    simp only [wp_iff, chk_iff, know_iff, any_iff, rt_iff, hd_iff, true_imp_iff, true_and, and_true, and_self, lt01, Int.ofNat_lt, Int.ofNat_le, Int.natCast_nonneg, Int.toNat_natCast, decide_true, decide_false, Bool.true_eq_false, Bool.false_eq_true, false_imp_iff, Nat.lt_irrefl, imp_self, implies_true,  h1, f1]
    exact hn))
    fun k hk ih out c hb hc hn => .tree E_C8_ok (colR_L2_t _ _ _ _ _ _) (by
      have hRl := readsF_len hp (posA b k)
      have h1 : (k : Int) - 1 ≤ (ln s_api_Instr (gd s_api_Block f.2.2.2.2.1 b).2.1 : Int) := by
        have e : ln s_api_Instr (gd s_api_Block f.2.2.2.2.1 b).2.1 = ln s_api_Instr (bIns (gd s_api_Block (blocks f) b)) := rfl
        rw [e]
        omega
      have f1 : b < ln s_api_Block f.2.2.2.2.1 := hbl
      have hk2 : N - k = (N - (k + 1)) + 1 := by omega
      rw [hk2, colB] at hn
      rw [hk2, Nat.succ_mul] at hc
      have ih := ih (stepL (posA b k) (readsF f (posA b k)) out) (c + ln I (readsF f (posA b k))) (stepL_bnd hb) (by omega) hn
      have hw : IntKind.wrap .i64 ((k : Int) - 1 + 1) = ((k + 1 : Nat) : Int) - 1 := by
        rw [wrap64 _ (by omega) (by omega)]
        omega
      have l4 := colR_l4 (Q := Q) f b ((k : Int) - 1) n b (readsF f (posA b k)) hRl (posA b k) 0 (Nat.zero_le _) out c hb (by omega) (by rw [hw]; exact ih)
      simp only [wp_iff, chk_iff, know_iff, any_iff, rt_iff, hd_iff, true_imp_iff, true_and, and_true, and_self, lt01, Int.ofNat_lt, Int.ofNat_le, Int.natCast_nonneg, Int.toNat_natCast, decide_true, decide_false, Bool.true_eq_false, Bool.false_eq_true, false_imp_iff, Nat.lt_irrefl, imp_self, implies_true,  h1, f1]
      exact ⟨hp, fun _ _ => l4⟩)
theorem colR_l0 (f : Fn) (hp : smallF f) (l : List (Den s_api_Block)) (hl : blocks f = l) (hr : room 136 (ln s_api_Block l)) (Y : Den (.sl 24 (.sl 16 s_api_Pos))) : ∀ b, b ≤ ln s_api_Block l → ∀ (out : List (Den (.sl 16 s_api_Pos))) (c : Nat), bnd out c → c + 2 * szD (.sl 136 s_api_Block) (l.drop b) * 1048576 ≤ 4398046511104 → colF readsF f (ln s_api_Block l - b) b out = Y → Runs E_C8 (colR_L0 f (ln s_api_Block l : Nat) b out) (fun x h => x = .tv (.sl 24 (.sl 16 s_api_Pos)) Y ∧ h = []) :=
  up_ind (fun out c _ _ hY => .tree E_C8_ok (colR_L0_t _ _ _ _) (by
    rw [Nat.sub_self, colF] at hY
    simp only [wp_iff, chk_iff, know_iff, any_iff, rt_iff, hd_iff, true_imp_iff, true_and, and_true, and_self, lt01, Int.ofNat_lt, Int.ofNat_le, Int.natCast_nonneg, Int.toNat_natCast, decide_true, decide_false, Bool.true_eq_false, Bool.false_eq_true, false_imp_iff, Nat.lt_irrefl, imp_self, implies_true,  hY]))
    fun b hb ih out c hc hM hY => .tree E_C8_ok (colR_L0_t _ _ _ _) (by
      have hbl : b < ln s_api_Block (blocks f) := by rw [hl]; exact hb
      have e : ln s_api_Block l - b = (ln s_api_Block l - (b + 1)) + 1 := by omega
      rw [e, colF, hl] at hY
      rw [drop_gd hb, sz_cons] at hM
      have hsz := sz_blk (gd s_api_Block l b)
      have h80 : ln s_api_Instr (gd s_api_Block l b).2.1 ≤ szD (.sl 80 s_api_Instr) (gd s_api_Block l b).2.1 := sz_ln
      have hsm := small_b hp (n := (b : Int)) (by omega)
      have hblk : blk f (b : Int) = gd s_api_Block l b := by unfold blk; rw [hl]; rfl
      rw [hblk] at hsm
      generalize hN : ln s_api_Instr (bIns (gd s_api_Block l b)) + 2 = N at hY
      have hN' : ln s_api_Instr (gd s_api_Block l b).2.1 + 2 = N := hN
      have hcB := colB_bnd (R := readsF) (readsF_len hp) (b := b) (n := N) (k := 0) hc
      have hN1 : N = ln s_api_Instr (bIns (gd s_api_Block (blocks f) b)) + 2 := by rw [hl]; exact hN.symm
      have hN2 : N ≤ 2097154 := by omega
      have hN0 : N ≤ 2 * (szD s_api_Block (gd s_api_Block l b) + 1) := by omega
      have hA := arithN hN0 hM
      have hN3 : c + (N - 0) * 1048576 ≤ 4398046511104 := Nat.le_trans (Nat.le_add_right _ _) hA
      have hrun := ih _ _ hcB hA hY
      rw [← wrapS hb (room_lt hr)] at hrun
      have := colR_l2 (Q := fun x h => x = .tv (.sl 24 (.sl 16 s_api_Pos)) Y ∧ h = []) f hp b hbl N hN1 hN2 (ln s_api_Block l : Nat) 0 (Nat.zero_le _) out c hc hN3 hrun
      simp only [wp_iff, chk_iff, know_iff, any_iff, rt_iff, hd_iff, true_imp_iff, true_and, and_true, and_self, lt01, Int.ofNat_lt, Int.ofNat_le, Int.natCast_nonneg, Int.toNat_natCast, decide_true, decide_false, Bool.true_eq_false, Bool.false_eq_true, false_imp_iff, Nat.lt_irrefl, imp_self, implies_true,  hb]
      exact this)
def k_colR : Con := con [.d s_api_Func, .fn f_cfg_Reads []] (.sl 24 (.sl 16 s_api_Pos)) (fun x => smallF x.1) fun x => usesF x.1
theorem m_colR (f : Den s_api_Func) (h_f : okD s_api_Func f) (hp : smallF f) : Runs E_C8 (start E_C8 f_cfg_collect [(.tv s_api_Func f), (.fn f_cfg_Reads [])]) (fun r_ h_ => r_ = (.tv (.sl 24 (.sl 16 s_api_Pos)) (usesF f)) ∧ h_ = []) := .tree E_C8_ok (colR_t f) (by
  simp only [wp_iff, chk_iff, know_iff, any_iff, rt_iff, hd_iff, true_imp_iff, true_and, and_true, and_self, lt01]
  have ho := okB_of h_f
  have h2 := sz_func f
  have h3 := hp
  unfold smallF at h3
  refine ⟨by omega, fun _ => ⟨?_, fun _ => ?_⟩⟩
  · have : ln I f.2.2.2.1 ≤ 1048576 := by
      have := sz_I f.2.2.2.1
      omega
    unfold roomB
    omega
  · exact colR_l0 f hp (blocks f) rfl ho.1 (usesF f) 0 (Nat.zero_le _) _ 0 (fun r => by rw [gd_rep]; exact Nat.le_refl _) (by
      show 0 + 2 * szD (.sl 136 s_api_Block) f.2.2.2.2.1 * 1048576 ≤ _
      omega) rfl)
theorem c_colR : SpecOK E_C8 f_cfg_collect k_colR.spec := spec_of fun x hx hp => ⟨rfl, m_colR x.1 hx.1 hp⟩
theorem colW_l4 {Q : AV → Heap → Prop} (f : Fn) (b i n m : Int) (rs : List (Den I)) (hrs : ln I rs ≤ 1048576) (p : Den s_api_Pos) : ∀ k, k ≤ ln I rs → ∀ (out : List (Den (.sl 16 s_api_Pos))) (c : Nat), bnd out c → c + (ln I rs - k) ≤ 4398046511104 → Runs E_C8 (colW_L2 f b (IntKind.wrap .i64 (i + 1)) n m (stepL p (rs.drop k) out)) Q → Runs E_C8 (colW_L4 f b i n m rs (ln I rs : Nat) k out p) Q :=
  up_ind (fun out c _ _ hn => .tree E_C8_ok (colW_L4_t _ _ _ _ _ _ _ _ _ _) (by
    rw [drop_ln] at hn
    simp only [wp_iff, chk_iff, know_iff, any_iff, rt_iff, hd_iff, true_imp_iff, true_and, and_true, and_self, lt01, Int.ofNat_lt, Int.ofNat_le, Int.natCast_nonneg, Int.toNat_natCast, decide_true, decide_false, Bool.true_eq_false, Bool.false_eq_true, false_imp_iff, Nat.lt_irrefl, imp_self, implies_true,  stepL] at hn ⊢
    exact hn))
    fun k hk ih out c hb hc hn => .tree E_C8_ok (colW_L4_t _ _ _ _ _ _ _ _ _ _) (by
      rw [drop_gd hk, stepL] at hn
      have ih := ih (step1 p out (z (gd I rs k))) (c + 1) (step1_bnd hb) (by omega) hn
      clear hn
      simp only [wp_iff, chk_iff, know_iff, any_iff, rt_iff, hd_iff, true_imp_iff, true_and, and_true, and_self, lt01, Int.ofNat_lt, Int.ofNat_le, Int.natCast_nonneg, Int.toNat_natCast, decide_true, decide_false, Bool.true_eq_false, Bool.false_eq_true, false_imp_iff, Nat.lt_irrefl, imp_self, implies_true,  hk, wrapS hk (show ln I rs < 9223372036854775807 by omega)]
      unfold step1 at ih
      refine ⟨fun h1 => ?_, fun h1 => ⟨fun h2 => ?_, fun h2 => ?_⟩⟩
      · rw [if_pos (.inl (of_decide_eq_true h1))] at ih
        exact ih
      · rw [if_pos (.inr (of_decide_eq_true h2))] at ih
        exact ih
      · have a1 := of_decide_eq_false h1
        have a2 := of_decide_eq_false h2
        rw [if_neg (by omega)] at ih
        have f1 : 0 ≤ z (gd I rs k) ∧ z (gd I rs k) < (ln (.sl 16 s_api_Pos) out : Int) := ⟨by omega, by omega⟩
        have f2 : (z (gd I rs k)).toNat < ln (.sl 16 s_api_Pos) out := by omega
        have hG := hb (z (gd I rs k)).toNat
        have f3 : (ln s_api_Pos (gd (.sl 16 s_api_Pos) out (z (gd I rs k)).toNat) + 1) * 16 ≤ roomB := roomM (by omega)
        simp only [f1, f2, f3, ln_st, true_imp_iff, true_and, and_self, lt01]
        refine ⟨fun h3 => ?_, fun h3 => ?_⟩
        · have a3 : 0 < ln s_api_Pos (gd (.sl 16 s_api_Pos) out (z (gd I rs k)).toNat) := by
            have := of_decide_eq_true h3
            omega
          have hw : IntKind.wrap .i64 ((ln s_api_Pos (gd (.sl 16 s_api_Pos) out (z (gd I rs k)).toNat) : Int) - 1) = ((ln s_api_Pos (gd (.sl 16 s_api_Pos) out (z (gd I rs k)).toNat) - 1 : Nat) : Int) := by
            rw [wrap64 _ (by omega) (by omega)]
            omega
          have f4 : (0 : Int) ≤ ((ln s_api_Pos (gd (.sl 16 s_api_Pos) out (z (gd I rs k)).toNat) - 1 : Nat) : Int) ∧ ((ln s_api_Pos (gd (.sl 16 s_api_Pos) out (z (gd I rs k)).toNat) - 1 : Nat) : Int) < (ln s_api_Pos (gd (.sl 16 s_api_Pos) out (z (gd I rs k)).toNat) : Int) := ⟨by omega, by omega⟩
          have f5 : ln s_api_Pos (gd (.sl 16 s_api_Pos) out (z (gd I rs k)).toNat) - 1 < ln s_api_Pos (gd (.sl 16 s_api_Pos) out (z (gd I rs k)).toNat) := by omega
          simp only [hw, f4, f5, Int.toNat_natCast, true_imp_iff, true_and, and_self, lt01]
          have hl : lastIs (gd (.sl 16 s_api_Pos) out (z (gd I rs k)).toNat) p = eP (gd s_api_Pos (gd (.sl 16 s_api_Pos) out (z (gd I rs k)).toNat) (ln s_api_Pos (gd (.sl 16 s_api_Pos) out (z (gd I rs k)).toNat) - 1)) p := by
            unfold lastIs
            rw [h3, Bool.true_and]
          rw [hl] at ih
          refine ⟨fun h4 => ?_, fun h4 => ?_⟩
          · have h4' : eP (gd s_api_Pos (gd (.sl 16 s_api_Pos) out (z (gd I rs k)).toNat) (ln s_api_Pos (gd (.sl 16 s_api_Pos) out (z (gd I rs k)).toNat) - 1)) p = true := h4
            rw [if_pos h4'] at ih
            exact ih
          · have h4' : eP (gd s_api_Pos (gd (.sl 16 s_api_Pos) out (z (gd I rs k)).toNat) (ln s_api_Pos (gd (.sl 16 s_api_Pos) out (z (gd I rs k)).toNat) - 1)) p = false := h4
            rw [if_neg (by rw [h4']; decide)] at ih
            exact ih
        · rw [if_neg (by unfold lastIs; rw [h3]; simp)] at ih
          exact ih)
theorem colW_l2 {Q : AV → Heap → Prop} (f : Fn) (hp : smallF f) (b : Nat) (hbl : b < ln s_api_Block (blocks f)) (N : Nat) (hN : N = ln s_api_Instr (bIns (gd s_api_Block (blocks f) b)) + 2) (hN2 : N ≤ 2097154) (n : Int) : ∀ k, k ≤ N → ∀ (out : List (Den (.sl 16 s_api_Pos))) (c : Nat), bnd out c → c + (N - k) * 1048576 ≤ 4398046511104 → Runs E_C8 (colW_L0 f n (IntKind.wrap .i64 ((b : Int) + 1)) (colB writesF f b (N - k) k out)) Q → Runs E_C8 (colW_L2 f b ((k : Int) - 1) n b out) Q :=
  up_ind (fun out c _ _ hn => .tree E_C8_ok (colW_L2_t _ _ _ _ _ _) (by
    have h1 : ¬ ((N : Int) - 1 ≤ (ln s_api_Instr (gd s_api_Block f.2.2.2.2.1 b).2.1 : Int)) := by
      have e : ln s_api_Instr (gd s_api_Block f.2.2.2.2.1 b).2.1 = ln s_api_Instr (bIns (gd s_api_Block (blocks f) b)) := rfl
      rw [e]
      omega
    have f1 : b < ln s_api_Block f.2.2.2.2.1 := hbl
    rw [Nat.sub_self] at hn
    simp only [wp_iff, chk_iff, know_iff, any_iff, rt_iff, hd_iff, true_imp_iff, true_and, and_true, and_self, lt01, Int.ofNat_lt, Int.ofNat_le, Int.natCast_nonneg, Int.toNat_natCast, decide_true, decide_false, Bool.true_eq_false, Bool.false_eq_true, false_imp_iff, Nat.lt_irrefl, imp_self, implies_true,  h1, f1]
    exact hn))
    fun k hk ih out c hb hc hn => .tree E_C8_ok (colW_L2_t _ _ _ _ _ _) (by
      have hRl := writesF_len hp (posA b k)
      have h1 : (k : Int) - 1 ≤ (ln s_api_Instr (gd s_api_Block f.2.2.2.2.1 b).2.1 : Int) := by
        have e : ln s_api_Instr (gd s_api_Block f.2.2.2.2.1 b).2.1 = ln s_api_Instr (bIns (gd s_api_Block (blocks f) b)) := rfl
        rw [e]
        omega
      have f1 : b < ln s_api_Block f.2.2.2.2.1 := hbl
      have hk2 : N - k = (N - (k + 1)) + 1 := by omega
      rw [hk2, colB] at hn
      rw [hk2, Nat.succ_mul] at hc
      have ih := ih (stepL (posA b k) (writesF f (posA b k)) out) (c + ln I (writesF f (posA b k))) (stepL_bnd hb) (by omega) hn
      have hw : IntKind.wrap .i64 ((k : Int) - 1 + 1) = ((k + 1 : Nat) : Int) - 1 := by
        rw [wrap64 _ (by omega) (by omega)]
        omega
      have l4 := colW_l4 (Q := Q) f b ((k : Int) - 1) n b (writesF f (posA b k)) hRl (posA b k) 0 (Nat.zero_le _) out c hb (by omega) (by rw [hw]; exact ih)
      simp only [wp_iff, chk_iff, know_iff, any_iff, rt_iff, hd_iff, true_imp_iff, true_and, and_true, and_self, lt01, Int.ofNat_lt, Int.ofNat_le, Int.natCast_nonneg, Int.toNat_natCast, decide_true, decide_false, Bool.true_eq_false, Bool.false_eq_true, false_imp_iff, Nat.lt_irrefl, imp_self, implies_true,  h1, f1]
      exact ⟨hp, fun _ _ => l4⟩)
theorem colW_l0 (f : Fn) (hp : smallF f) (l : List (Den s_api_Block)) (hl : blocks f = l) (hr : room 136 (ln s_api_Block l)) (Y : Den (.sl 24 (.sl 16 s_api_Pos))) : ∀ b, b ≤ ln s_api_Block l → ∀ (out : List (Den (.sl 16 s_api_Pos))) (c : Nat), bnd out c → c + 2 * szD (.sl 136 s_api_Block) (l.drop b) * 1048576 ≤ 4398046511104 → colF writesF f (ln s_api_Block l - b) b out = Y → Runs E_C8 (colW_L0 f (ln s_api_Block l : Nat) b out) (fun x h => x = .tv (.sl 24 (.sl 16 s_api_Pos)) Y ∧ h = []) :=
  up_ind (fun out c _ _ hY => .tree E_C8_ok (colW_L0_t _ _ _ _) (by
    rw [Nat.sub_self, colF] at hY
    simp only [wp_iff, chk_iff, know_iff, any_iff, rt_iff, hd_iff, true_imp_iff, true_and, and_true, and_self, lt01, Int.ofNat_lt, Int.ofNat_le, Int.natCast_nonneg, Int.toNat_natCast, decide_true, decide_false, Bool.true_eq_false, Bool.false_eq_true, false_imp_iff, Nat.lt_irrefl, imp_self, implies_true,  hY]))
    fun b hb ih out c hc hM hY => .tree E_C8_ok (colW_L0_t _ _ _ _) (by
      have hbl : b < ln s_api_Block (blocks f) := by rw [hl]; exact hb
      have e : ln s_api_Block l - b = (ln s_api_Block l - (b + 1)) + 1 := by omega
      rw [e, colF, hl] at hY
      rw [drop_gd hb, sz_cons] at hM
      have hsz := sz_blk (gd s_api_Block l b)
      have h80 : ln s_api_Instr (gd s_api_Block l b).2.1 ≤ szD (.sl 80 s_api_Instr) (gd s_api_Block l b).2.1 := sz_ln
      have hsm := small_b hp (n := (b : Int)) (by omega)
      have hblk : blk f (b : Int) = gd s_api_Block l b := by unfold blk; rw [hl]; rfl
      rw [hblk] at hsm
      generalize hN : ln s_api_Instr (bIns (gd s_api_Block l b)) + 2 = N at hY
      have hN' : ln s_api_Instr (gd s_api_Block l b).2.1 + 2 = N := hN
      have hcB := colB_bnd (R := writesF) (writesF_len hp) (b := b) (n := N) (k := 0) hc
      have hN1 : N = ln s_api_Instr (bIns (gd s_api_Block (blocks f) b)) + 2 := by rw [hl]; exact hN.symm
      have hN2 : N ≤ 2097154 := by omega
      have hN0 : N ≤ 2 * (szD s_api_Block (gd s_api_Block l b) + 1) := by omega
      have hA := arithN hN0 hM
      have hN3 : c + (N - 0) * 1048576 ≤ 4398046511104 := Nat.le_trans (Nat.le_add_right _ _) hA
      have hrun := ih _ _ hcB hA hY
      rw [← wrapS hb (room_lt hr)] at hrun
      have := colW_l2 (Q := fun x h => x = .tv (.sl 24 (.sl 16 s_api_Pos)) Y ∧ h = []) f hp b hbl N hN1 hN2 (ln s_api_Block l : Nat) 0 (Nat.zero_le _) out c hc hN3 hrun
      simp only [wp_iff, chk_iff, know_iff, any_iff, rt_iff, hd_iff, true_imp_iff, true_and, and_true, and_self, lt01, Int.ofNat_lt, Int.ofNat_le, Int.natCast_nonneg, Int.toNat_natCast, decide_true, decide_false, Bool.true_eq_false, Bool.false_eq_true, false_imp_iff, Nat.lt_irrefl, imp_self, implies_true,  hb]
      exact this)
def k_colW : Con := con [.d s_api_Func, .fn f_cfg_Writes []] (.sl 24 (.sl 16 s_api_Pos)) (fun x => smallF x.1) fun x => defsF x.1
theorem m_colW (f : Den s_api_Func) (h_f : okD s_api_Func f) (hp : smallF f) : Runs E_C8 (start E_C8 f_cfg_collect [(.tv s_api_Func f), (.fn f_cfg_Writes [])]) (fun r_ h_ => r_ = (.tv (.sl 24 (.sl 16 s_api_Pos)) (defsF f)) ∧ h_ = []) := .tree E_C8_ok (colW_t f) (by
  simp only [wp_iff, chk_iff, know_iff, any_iff, rt_iff, hd_iff, true_imp_iff, true_and, and_true, and_self, lt01]
  have ho := okB_of h_f
  have h2 := sz_func f
  have h3 := hp
  unfold smallF at h3
  refine ⟨by omega, fun _ => ⟨?_, fun _ => ?_⟩⟩
  · have : ln I f.2.2.2.1 ≤ 1048576 := by
      have := sz_I f.2.2.2.1
      omega
    unfold roomB
    omega
  · exact colW_l0 f hp (blocks f) rfl ho.1 (defsF f) 0 (Nat.zero_le _) _ 0 (fun r => by rw [gd_rep]; exact Nat.le_refl _) (by
      show 0 + 2 * szD (.sl 136 s_api_Block) f.2.2.2.2.1 * 1048576 ≤ _
      omega) rfl)
theorem c_colW : SpecOK E_C8 f_cfg_collect k_colW.spec := spec_of fun x hx hp => ⟨rfl, m_colW x.1 hx.1 hp⟩
def L_C8 : List (FuncId × FSpec) := [(f_cfg_collect, k_colR.spec), (f_cfg_collect, k_colW.spec)] ++ L_C7
theorem L_C8_ok : ∀ x ∈ L_C8, SpecOK (ctx []) x.1 x.2 := by
  unfold L_C8
  simp only [List.cons_append, List.nil_append, List.forall_mem_cons]
  exact ⟨c_colR, c_colW, L_C7_ok⟩
end Burn.M20
namespace Burn.M20
open Go Go.BE Go.Proofs
set_option maxRecDepth 100000
set_option linter.unusedVariables false
set_option linter.unusedSimpArgs false
open Burn.Cfg
noncomputable abbrev E_C9 : Ctx := ctx L_C8
theorem E_C9_ok : EOK E_C9 := ctx_ok L_C8_ok
def cuts_C9 : CutL := []
def rets_C9 : FuncId → List (Option Fx)
  | 24 => [some (.dat (.sl 24 (.sl 16 s_api_Pos)))]
  | 26 => [some (.dat (.sl 24 (.sl 16 s_api_Pos)))]
  | _ => []
def H_C9 : Hints := { cut := cutOf cuts_C9, ret := rets_C9 }
theorem cfg_Uses_t (f : Den s_api_Func) : run E_C9 H_C9 f_cfg_Uses 3000 (start E_C9 f_cfg_Uses [(.tv s_api_Func f)]) = (.chk (smallF f) (.know (okD (.sl 24 (.sl 16 s_api_Pos)) (usesF f)) (rt (.tv (.sl 24 (.sl 16 s_api_Pos)) (usesF f)) []))) := by kernel_rfl
theorem cfg_Defs_t (f : Den s_api_Func) : run E_C9 H_C9 f_cfg_Defs 3000 (start E_C9 f_cfg_Defs [(.tv s_api_Func f)]) = (.chk (smallF f) (.know (okD (.sl 24 (.sl 16 s_api_Pos)) (defsF f)) (rt (.tv (.sl 24 (.sl 16 s_api_Pos)) (defsF f)) []))) := by kernel_rfl

def k_cfg_Uses : Con := con [.d s_api_Func] (.sl 24 (.sl 16 s_api_Pos)) (fun x => smallF x.1) fun x => usesF x.1
theorem m_cfg_Uses (f : Den s_api_Func) (h_f : okD s_api_Func f) (hp : smallF f) : Runs E_C9 (start E_C9 f_cfg_Uses [(.tv s_api_Func f)]) (fun r_ h_ => r_ = (.tv (.sl 24 (.sl 16 s_api_Pos)) (usesF f)) ∧ h_ = []) := .tree E_C9_ok (cfg_Uses_t f) (by
  simp only [wp_iff, chk_iff, know_iff, any_iff, rt_iff, hd_iff, true_imp_iff, true_and, and_true, and_self, lt01]
  exact ⟨hp, fun _ _ => trivial⟩)
theorem c_cfg_Uses : SpecOK E_C9 f_cfg_Uses k_cfg_Uses.spec := spec_of fun x hx hp => ⟨rfl, m_cfg_Uses x.1 hx.1 hp⟩

def k_cfg_Defs : Con := con [.d s_api_Func] (.sl 24 (.sl 16 s_api_Pos)) (fun x => smallF x.1) fun x => defsF x.1
theorem m_cfg_Defs (f : Den s_api_Func) (h_f : okD s_api_Func f) (hp : smallF f) : Runs E_C9 (start E_C9 f_cfg_Defs [(.tv s_api_Func f)]) (fun r_ h_ => r_ = (.tv (.sl 24 (.sl 16 s_api_Pos)) (defsF f)) ∧ h_ = []) := .tree E_C9_ok (cfg_Defs_t f) (by
  simp only [wp_iff, chk_iff, know_iff, any_iff, rt_iff, hd_iff, true_imp_iff, true_and, and_true, and_self, lt01]
  exact ⟨hp, fun _ _ => trivial⟩)
theorem c_cfg_Defs : SpecOK E_C9 f_cfg_Defs k_cfg_Defs.spec := spec_of fun x hx hp => ⟨rfl, m_cfg_Defs x.1 hx.1 hp⟩
def L_C9 : List (FuncId × FSpec) := [(f_cfg_Uses, k_cfg_Uses.spec), (f_cfg_Defs, k_cfg_Defs.spec)] ++ L_C8
theorem L_C9_ok : ∀ x ∈ L_C9, SpecOK (ctx []) x.1 x.2 := by
  unfold L_C9
  simp only [List.cons_append, List.nil_append, List.forall_mem_cons]
  exact ⟨c_cfg_Uses, c_cfg_Defs, L_C8_ok⟩
end Burn.M20
namespace Burn.M20
open Go Go.BE Go.Proofs
set_option maxRecDepth 100000
set_option linter.unusedVariables false
set_option linter.unusedSimpArgs false
open Burn.Cfg
noncomputable abbrev E_C10 : Ctx := ctx L_C9
theorem E_C10_ok : EOK E_C10 := ctx_ok L_C9_ok
def cuts_C10 : CutL := []
def rets_C10 : FuncId → List (Option Fx)
  | _ => []
def H_C10 : Hints := { cut := cutOf cuts_C10, ret := rets_C10 }
theorem law20_works_t : run E_C10 H_C10 f_law20_works 3000 (start E_C10 f_law20_works []) = (.chk (True) (.know (okD s_api_Func (twiceF)) (.chk ((0 : Nat) < (1 : Nat)) (.chk ((0 : Nat) < (1 : Nat)) (.chk (True) (.know (okD s_api_Graph (graphF (twiceF))) (.chk ((0 : Nat) < (1 : Nat)) (.chk ((0 : Nat) < (1 : Nat)) (.chk (smallF (twiceF)) (.know (okD (.sl 24 (.sl 16 s_api_Pos)) (usesF (twiceF))) (.chk ((0 : Nat) < (1 : Nat)) (.chk (ln s_api_Block (twiceF).2.2.2.2.1 ≤ 1000) (.know (okAVs [(.tv s_api_Func ((splitF (twiceF) (0 : Int) (1 : Int)).1)), (vb (bOf ((splitF (twiceF) (0 : Int) (1 : Int)).2)))]) (.chk ((0 : Nat) < (1 : Nat)) (.chk ((0 : Nat) < (1 : Nat)) (cond (((ln (.sl 8 I) ((graphF (twiceF)).1)) : Int) == (2 : Int)) (.chk ((0 : Nat) < (1 : Nat)) (.chk (0 ≤ (0 : Int) ∧ (0 : Int) < (ln (.sl 8 I) ((graphF (twiceF)).1))) (.chk (True) (.know True (cond (eqI (gd (.sl 8 I) ((graphF (twiceF)).1) (0 : Nat)) ([(1 : Int), (1 : Int)] : List (Den I))) (.chk ((0 : Nat) < (1 : Nat)) (.chk (smallF (twiceF)) (.know (okD (.sl 8 I) (readsF (twiceF) ((0 : Int), (0 : Int), ()))) (.chk (True) (.know True (cond (eqI (readsF (twiceF) ((0 : Int), (0 : Int), ())) ([(0 : Int), (0 : Int)] : List (Den I))) (.chk ((0 : Nat) < (1 : Nat)) (.chk (smallF (twiceF)) (.know (okD (.sl 8 I) (writesF (twiceF) ((0 : Int), (-1 : Int), ()))) (.chk (True) (.know True (cond (eqI (writesF (twiceF) ((0 : Int), (-1 : Int), ())) ([(0 : Int), (1 : Int)] : List (Den I))) (cond (((ln (.sl 16 s_api_Pos) (usesF (twiceF))) : Int) == (3 : Int)) (.chk (0 ≤ (0 : Int) ∧ (0 : Int) < (ln (.sl 16 s_api_Pos) (usesF (twiceF)))) (.chk (True) (.know True (cond (eqP (gd (.sl 16 s_api_Pos) (usesF (twiceF)) (0 : Nat)) ([((0 : Int), (0 : Int), ())] : List (Den s_api_Pos))) (cond (bOf ((splitF (twiceF) (0 : Int) (1 : Int)).2)) (.chk ((0 : Nat) < (1 : Nat)) (cond (((ln s_api_Block (((((((splitF (twiceF) (0 : Int) (1 : Int)).1).2).2).2).2).1)) : Int) == (3 : Int)) (.chk ((0 : Nat) < (1 : Nat)) (.chk (0 ≤ (0 : Int) ∧ (0 : Int) < (ln s_api_Block (((((((splitF (twiceF) (0 : Int) (1 : Int)).1).2).2).2).2).1))) (.chk (0 ≤ (1 : Int) ∧ (1 : Int) < (ln s_api_Edge ((((((((gd s_api_Block (((((((splitF (twiceF) (0 : Int) (1 : Int)).1).2).2).2).2).1) (0 : Nat)).2).2).1).2).2).2).1))) (rt (vb ((z ((gd s_api_Edge ((((((((gd s_api_Block (((((((splitF (twiceF) (0 : Int) (1 : Int)).1).2).2).2).2).1) (0 : Nat)).2).2).1).2).2).2).1) (1 : Nat)).1)) == (2 : Int))) [])))) (rt (vb false) []))) (rt (vb false) [])) (rt (vb false) []))))) (rt (vb false) [])) (rt (vb false) []))))))) (rt (vb false) []))))))) (rt (vb false) [])))))) (rt (vb false) []))))))))))))))))) := by kernel_rfl
theorem small_twice : smallF twiceF := Nat.le_of_ble_eq_true (by kernel_rfl)
def worksR : Bool := true

def k_law20_works : Con := con [] .bool (fun x => True) fun x => worksR
theorem m_law20_works (hp : True) : Runs E_C10 (start E_C10 f_law20_works []) (fun r_ h_ => r_ = (vb (worksR)) ∧ h_ = []) := .tree E_C10_ok (law20_works_t) (by
  simp only [wp_iff, chk_iff, know_iff, any_iff, rt_iff, hd_iff, true_imp_iff, true_and, and_true, and_self, lt01]
  repeat' (first | intro _ | refine c_true (by kernel_rfl) ?_ | refine c_false (by kernel_rfl) ?_ | refine And.intro ?_ ?_)
  all_goals first | exact small_twice | decide | (exact congrArg (fun b => vb b) (by kernel_rfl)) | trivial)
theorem c_law20_works : SpecOK E_C10 f_law20_works k_law20_works.spec := spec_of fun x hx hp => ⟨rfl, m_law20_works hp⟩
def L_C10 : List (FuncId × FSpec) := [(f_law20_works, k_law20_works.spec)] ++ L_C9
theorem L_C10_ok : ∀ x ∈ L_C10, SpecOK (ctx []) x.1 x.2 := by
  unfold L_C10
  simp only [List.cons_append, List.nil_append, List.forall_mem_cons]
  exact ⟨c_law20_works, L_C9_ok⟩
end Burn.M20

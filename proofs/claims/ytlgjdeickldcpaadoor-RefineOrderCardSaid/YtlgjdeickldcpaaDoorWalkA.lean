/- What the functions that the law reaches compute, one contract each. No conditions beyond those written. -/
import Derived.Test.YtlgjdeickldcpaaDoorEngineC
import Derived.Test.YtlgjdeickldcpaaDoorProg
import Derived.KernelRfl
import Derived.Test.YtlgjdeickldcpaaDoorPlainA
namespace Burn.M19
open Go Go.BE Go.Proofs
set_option maxRecDepth 100000
abbrev s_runtime_boundsError : Sh := (.pair I (.pair I (.pair .bool (.pair (.int .u8) .unit))))
abbrev s_runtime_errorAddressString : Sh := (.pair .str (.pair (.int .u64) .unit))
abbrev s_api_Lane : Sh := (.pair I (.pair .bool (.pair .bool .unit)))
abbrev s_api_Value : Sh := (.pair I (.pair I (.pair (.arr 4 s_api_Lane) .unit)))
abbrev s_api_Outcome : Sh := (.pair I (.pair I (.pair s_api_Value (.pair (.sl 80 s_api_Value) (.pair (.sl 24 (.sl 80 s_api_Value)) (.pair I .unit))))))
abbrev s_api_Global : Sh := (.pair .str (.pair I (.pair I (.pair (.sl 8 I) (.pair .bool .unit)))))
abbrev s_api_Instr : Sh := (.pair I (.pair I (.pair I (.pair (.sl 8 I) (.pair I (.pair I (.pair I (.pair .bool .unit))))))))
abbrev s_api_Edge : Sh := (.pair I (.pair (.sl 8 I) .unit))
abbrev s_api_Terminator : Sh := (.pair I (.pair (.sl 8 I) (.pair (.sl 8 I) (.pair (.sl 32 s_api_Edge) (.pair I .unit)))))
abbrev s_api_Block : Sh := (.pair (.sl 8 I) (.pair (.sl 80 s_api_Instr) (.pair s_api_Terminator .unit)))
abbrev s_api_Func : Sh := (.pair .str (.pair (.sl 8 I) (.pair I (.pair (.sl 8 I) (.pair (.sl 136 s_api_Block) .unit)))))
abbrev s_api_Module : Sh := (.pair (.sl 64 s_api_Global) (.pair (.sl 96 s_api_Func) .unit))
def tyN : Nat := 101
def tyTr : Tr TI := (.node none (.node (some ⟨.other, 1, 8, [.nilFunc], none⟩) (.node (some ⟨.int .i64, 1, 8, [.int .i64 0], some I⟩) (.node (some ⟨.struct [⟨0, 1, false⟩, ⟨1, 1, false⟩, ⟨2, 1, false⟩, ⟨3, 1, false⟩], 4, 24, [.int .i64 0, .int .i64 0, .bool false, .int .u8 0], some s_runtime_boundsError⟩) (.node (some ⟨.ptr 80, 1, 8, [.pointer none], none⟩) (.node (some ⟨.struct [⟨0, 1, false⟩, ⟨1, 1, false⟩, ⟨2, 14, true⟩, ⟨16, 1, false⟩, ⟨17, 1, false⟩, ⟨18, 1, false⟩], 19, 152, [.int .i64 0, .int .i64 0, .int .i64 0, .int .i64 0, .int .i64 0, .bool false, .bool false, .int .i64 0, .bool false, .bool false, .int .i64 0, .bool false, .bool false, .int .i64 0, .bool false, .bool false, .slice none 0 0, .slice none 0 0, .int .i64 0], some s_api_Outcome⟩) (.node (some ⟨.other, 1, 8, [.nilFunc], none⟩) .leaf .leaf) (.node (some ⟨.struct [⟨0, 1, false⟩, ⟨1, 1, false⟩, ⟨2, 1, false⟩, ⟨3, 1, false⟩, ⟨4, 1, false⟩], 5, 64, [.string ⟨#[]⟩, .int .i64 0, .int .i64 0, .slice none 0 0, .bool false], some s_api_Global⟩) .leaf .leaf)) (.node (some ⟨.other, 1, 8, [.nilFunc], none⟩) (.node (some ⟨.struct [⟨0, 1, false⟩, ⟨1, 1, false⟩, ⟨2, 1, false⟩, ⟨3, 1, false⟩], 4, 40, [.pointer none, .pointer none, .pointer none, .string ⟨#[]⟩], none⟩) .leaf .leaf) .leaf)) (.node (some ⟨.struct [⟨0, 1, false⟩, ⟨1, 1, false⟩, ⟨2, 1, false⟩], 3, 16, [.int .i64 0, .bool false, .bool false], some s_api_Lane⟩) (.node (some ⟨.struct [⟨0, 1, false⟩, ⟨1, 1, false⟩], 2, 48, [.slice none 0 0, .slice none 0 0], some s_api_Module⟩) (.node (some ⟨.other, 1, 8, [.nilFunc], none⟩) .leaf .leaf) .leaf) (.node (some ⟨.slice 2, 1, 24, [.slice none 0 0], some (.sl 8 I)⟩) (.node (some ⟨.int .u8, 1, 1, [.int .u8 0], some (.int .u8)⟩) .leaf .leaf) .leaf))) (.node (some ⟨.str, 1, 16, [.string ⟨#[]⟩], some .str⟩) (.node (some ⟨.struct [⟨0, 1, false⟩], 1, 8, [.pointer none], none⟩) (.node (some ⟨.other, 1, 8, [.nilFunc], none⟩) (.node (some ⟨.other, 1, 8, [.nilFunc], none⟩) .leaf .leaf) (.node (some ⟨.struct [⟨0, 1, false⟩, ⟨1, 1, false⟩], 2, 32, [.int .i64 0, .slice none 0 0], some s_api_Edge⟩) .leaf .leaf)) (.node (some ⟨.other, 1, 8, [.nilFunc], none⟩) (.node (some ⟨.struct [⟨0, 0, true⟩], 0, 0, [], none⟩) .leaf .leaf) .leaf)) (.node (some ⟨.struct [⟨0, 1, false⟩, ⟨1, 1, false⟩, ⟨2, 12, true⟩], 14, 80, [.int .i64 0, .int .i64 0, .int .i64 0, .bool false, .bool false, .int .i64 0, .bool false, .bool false, .int .i64 0, .bool false, .bool false, .int .i64 0, .bool false, .bool false], some s_api_Value⟩) (.node (some ⟨.slice 60, 1, 24, [.slice none 0 0], some (.sl 136 s_api_Block)⟩) (.node (some ⟨.other, 1, 8, [.nilFunc], none⟩) .leaf .leaf) .leaf) (.node (some ⟨.struct [⟨0, 1, false⟩, ⟨1, 1, false⟩, ⟨2, 5, true⟩], 7, 136, [.slice none 0 0, .slice none 0 0, .int .i64 0, .slice none 0 0, .slice none 0 0, .slice none 0 0, .int .i64 0], some s_api_Block⟩) (.node (some ⟨.int .i32, 1, 4, [.int .i32 0], some (.int .i32)⟩) .leaf .leaf) .leaf)))) (.node (some ⟨.int .u8, 1, 1, [.int .u8 0], some (.int .u8)⟩) (.node (some ⟨.str, 1, 16, [.string ⟨#[]⟩], some .str⟩) (.node (some ⟨.ptr 93, 1, 8, [.pointer none], none⟩) (.node (some ⟨.other, 1, 8, [.nilFunc], none⟩) (.node (some ⟨.other, 1, 8, [.nilFunc], none⟩) .leaf .leaf) (.node (some ⟨.struct [⟨0, 1, false⟩, ⟨1, 1, false⟩, ⟨2, 1, false⟩, ⟨3, 1, false⟩, ⟨4, 1, false⟩, ⟨5, 1, false⟩, ⟨6, 1, false⟩, ⟨7, 1, false⟩], 8, 80, [.int .i64 0, .int .i64 0, .int .i64 0, .slice none 0 0, .int .i64 0, .int .i64 0, .int .i64 0, .bool false], some s_api_Instr⟩) .leaf .leaf)) (.node (some ⟨.other, 1, 8, [.nilFunc], none⟩) (.node (some ⟨.arr 0 16, 0, 0, [], none⟩) .leaf .leaf) .leaf)) (.node (some ⟨.arr 4 24, 12, 64, [.int .i64 0, .bool false, .bool false, .int .i64 0, .bool false, .bool false, .int .i64 0, .bool false, .bool false, .int .i64 0, .bool false, .bool false], some (.arr 4 s_api_Lane)⟩) (.node (some ⟨.slice 3, 1, 24, [.slice none 0 0], some (.sl 8 I)⟩) (.node (some ⟨.other, 1, 8, [.nilFunc], none⟩) .leaf .leaf) .leaf) (.node (some ⟨.struct [⟨0, 1, false⟩, ⟨1, 1, false⟩, ⟨2, 1, false⟩, ⟨3, 1, false⟩, ⟨4, 1, false⟩], 5, 88, [.int .i64 0, .slice none 0 0, .slice none 0 0, .slice none 0 0, .int .i64 0], some s_api_Terminator⟩) (.node (some ⟨.ptr 5, 1, 8, [.pointer none], some (.ptr (.int .u8))⟩) .leaf .leaf) .leaf))) (.node (some ⟨.struct [⟨0, 1, false⟩, ⟨1, 1, false⟩], 2, 24, [.string ⟨#[]⟩, .int .u64 0], some s_runtime_errorAddressString⟩) (.node (some ⟨.int .i32, 1, 4, [.int .i32 0], some (.int .i32)⟩) (.node (some ⟨.slice 95, 1, 24, [.slice none 0 0], some (.sl 64 s_api_Global)⟩) (.node (some ⟨.other, 1, 8, [.nilFunc], none⟩) .leaf .leaf) .leaf) (.node (some ⟨.other, 1, 8, [.nilFunc], none⟩) (.node (some ⟨.int .u32, 1, 4, [.int .u32 0], some (.int .u32)⟩) .leaf .leaf) .leaf)) (.node (some ⟨.slice 28, 1, 24, [.slice none 0 0], some (.sl 24 (.sl 80 s_api_Value))⟩) (.node (some ⟨.struct [⟨0, 1, false⟩, ⟨1, 1, false⟩, ⟨2, 1, false⟩, ⟨3, 1, false⟩, ⟨4, 1, false⟩], 5, 96, [.string ⟨#[]⟩, .slice none 0 0, .int .i64 0, .slice none 0 0, .slice none 0 0], some s_api_Func⟩) (.node (some ⟨.arr 5 3, 5, 40, [.int .i64 0, .int .i64 0, .int .i64 0, .int .i64 0, .int .i64 0], some (.arr 5 I)⟩) .leaf .leaf) .leaf) (.node (some ⟨.other, 1, 8, [.nilFunc], none⟩) (.node (some ⟨.struct [⟨0, 1, false⟩, ⟨1, 1, false⟩, ⟨2, 1, false⟩, ⟨3, 1, false⟩, ⟨4, 1, false⟩, ⟨5, 1, false⟩, ⟨6, 1, false⟩, ⟨7, 1, false⟩, ⟨8, 1, false⟩, ⟨9, 1, false⟩, ⟨10, 1, false⟩], 11, 48, [.int .u64 0, .int .u64 0, .int .u32 0, .int .u8 0, .int .u8 0, .int .u8 0, .int .u8 0, .nilFunc, .pointer none, .int .i32 0, .int .i32 0], none⟩) .leaf .leaf) .leaf))))) (.node (some ⟨.int .i64, 1, 8, [.int .i64 0], some I⟩) (.node (some ⟨.bool, 1, 1, [.bool false], some .bool⟩) (.node (some ⟨.struct [⟨0, 1, false⟩, ⟨1, 1, false⟩, ⟨2, 1, false⟩, ⟨3, 1, false⟩], 4, 24, [.int .i64 0, .int .i64 0, .bool false, .int .u8 0], some s_runtime_boundsError⟩) (.node (some ⟨.ptr 83, 1, 8, [.pointer none], none⟩) (.node (some ⟨.other, 1, 8, [.nilFunc], none⟩) (.node (some ⟨.other, 1, 8, [.nilFunc], none⟩) .leaf .leaf) (.node (some ⟨.struct [⟨0, 1, false⟩, ⟨1, 1, false⟩, ⟨2, 1, false⟩, ⟨3, 1, false⟩, ⟨4, 1, false⟩, ⟨5, 1, false⟩, ⟨6, 1, false⟩, ⟨7, 1, false⟩], 8, 80, [.int .i64 0, .int .i64 0, .int .i64 0, .slice none 0 0, .int .i64 0, .int .i64 0, .int .i64 0, .bool false], some s_api_Instr⟩) .leaf .leaf)) (.node (some ⟨.arr 3 31, 57, 456, [.int .i64 0, .int .i64 0, .int .i64 0, .int .i64 0, .int .i64 0, .bool false, .bool false, .int .i64 0, .bool false, .bool false, .int .i64 0, .bool false, .bool false, .int .i64 0, .bool false, .bool false, .slice none 0 0, .slice none 0 0, .int .i64 0, .int .i64 0, .int .i64 0, .int .i64 0, .int .i64 0, .int .i64 0, .bool false, .bool false, .int .i64 0, .bool false, .bool false, .int .i64 0, .bool false, .bool false, .int .i64 0, .bool false, .bool false, .slice none 0 0, .slice none 0 0, .int .i64 0, .int .i64 0, .int .i64 0, .int .i64 0, .int .i64 0, .int .i64 0, .bool false, .bool false, .int .i64 0, .bool false, .bool false, .int .i64 0, .bool false, .bool false, .int .i64 0, .bool false, .bool false, .slice none 0 0, .slice none 0 0, .int .i64 0], some (.arr 3 s_api_Outcome)⟩) (.node (some ⟨.struct [⟨0, 1, false⟩, ⟨1, 1, false⟩, ⟨2, 1, false⟩, ⟨3, 1, false⟩], 4, 40, [.pointer none, .pointer none, .pointer none, .string ⟨#[]⟩], none⟩) .leaf .leaf) .leaf)) (.node (some ⟨.struct [⟨0, 1, false⟩, ⟨1, 1, false⟩, ⟨2, 1, false⟩], 3, 16, [.int .i64 0, .bool false, .bool false], some s_api_Lane⟩) (.node (some ⟨.struct [⟨0, 1, false⟩, ⟨1, 1, false⟩], 2, 48, [.slice none 0 0, .slice none 0 0], some s_api_Module⟩) (.node (some ⟨.other, 1, 8, [.nilFunc], none⟩) .leaf .leaf) .leaf) (.node (some ⟨.slice 99, 1, 24, [.slice none 0 0], some (.sl 32 s_api_Edge)⟩) (.node (some ⟨.other, 1, 8, [.nilFunc], none⟩) .leaf .leaf) .leaf))) (.node (some ⟨.int .u64, 1, 8, [.int .u64 0], some (.int .u64)⟩) (.node (some ⟨.other, 1, 16, [.nilIface], none⟩) (.node (some ⟨.other, 1, 8, [.nilFunc], none⟩) (.node (some ⟨.other, 1, 8, [.nilFunc], none⟩) .leaf .leaf) (.node (some ⟨.other, 1, 8, [.pointer none], none⟩) .leaf .leaf)) (.node (some ⟨.other, 1, 8, [.nilFunc], none⟩) (.node (some ⟨.other, 1, 8, [.nilFunc], none⟩) .leaf .leaf) .leaf)) (.node (some ⟨.slice 27, 1, 24, [.slice none 0 0], some (.sl 80 s_api_Value)⟩) (.node (some ⟨.struct [⟨0, 1, false⟩, ⟨1, 1, false⟩, ⟨2, 1, false⟩, ⟨3, 1, false⟩, ⟨4, 1, false⟩], 5, 96, [.string ⟨#[]⟩, .slice none 0 0, .int .i64 0, .slice none 0 0, .slice none 0 0], some s_api_Func⟩) (.node (some ⟨.other, 1, 8, [.nilFunc], none⟩) .leaf .leaf) .leaf) (.node (some ⟨.struct [⟨0, 1, false⟩, ⟨1, 1, false⟩, ⟨2, 5, true⟩], 7, 136, [.slice none 0 0, .slice none 0 0, .int .i64 0, .slice none 0 0, .slice none 0 0, .slice none 0 0, .int .i64 0], some s_api_Block⟩) (.node (some ⟨.struct [⟨0, 1, false⟩, ⟨1, 1, false⟩, ⟨2, 1, false⟩, ⟨3, 1, false⟩, ⟨4, 1, false⟩, ⟨5, 1, false⟩, ⟨6, 1, false⟩, ⟨7, 1, false⟩, ⟨8, 1, false⟩, ⟨9, 1, false⟩, ⟨10, 1, false⟩], 11, 48, [.int .u64 0, .int .u64 0, .int .u32 0, .int .u8 0, .int .u8 0, .int .u8 0, .int .u8 0, .nilFunc, .pointer none, .int .i32 0, .int .i32 0], none⟩) .leaf .leaf) .leaf)))) (.node (some ⟨.int .u8, 1, 1, [.int .u8 0], some (.int .u8)⟩) (.node (some ⟨.str, 1, 16, [.string ⟨#[]⟩], some .str⟩) (.node (some ⟨.struct [⟨0, 1, false⟩], 1, 8, [.pointer none], none⟩) (.node (some ⟨.other, 1, 8, [.nilFunc], none⟩) (.node (some ⟨.other, 1, 8, [.nilFunc], none⟩) .leaf .leaf) (.node (some ⟨.struct [⟨0, 1, false⟩, ⟨1, 1, false⟩], 2, 32, [.int .i64 0, .slice none 0 0], some s_api_Edge⟩) .leaf .leaf)) (.node (some ⟨.arr 2 3, 2, 16, [.int .i64 0, .int .i64 0], some (.arr 2 I)⟩) (.node (some ⟨.struct [⟨0, 0, true⟩], 0, 0, [], none⟩) .leaf .leaf) .leaf)) (.node (some ⟨.struct [⟨0, 1, false⟩, ⟨1, 1, false⟩, ⟨2, 12, true⟩], 14, 80, [.int .i64 0, .int .i64 0, .int .i64 0, .bool false, .bool false, .int .i64 0, .bool false, .bool false, .int .i64 0, .bool false, .bool false, .int .i64 0, .bool false, .bool false], some s_api_Value⟩) (.node (some ⟨.slice 22, 1, 24, [.slice none 0 0], some (.sl 8 I)⟩) (.node (some ⟨.int .u64, 1, 8, [.int .u64 0], some (.int .u64)⟩) .leaf .leaf) .leaf) (.node (some ⟨.struct [⟨0, 1, false⟩, ⟨1, 1, false⟩, ⟨2, 1, false⟩, ⟨3, 1, false⟩, ⟨4, 1, false⟩], 5, 88, [.int .i64 0, .slice none 0 0, .slice none 0 0, .slice none 0 0, .int .i64 0], some s_api_Terminator⟩) (.node (some ⟨.int .i32, 1, 4, [.int .i32 0], some (.int .i32)⟩) .leaf .leaf) .leaf))) (.node (some ⟨.struct [⟨0, 1, false⟩, ⟨1, 1, false⟩], 2, 24, [.string ⟨#[]⟩, .int .u64 0], some s_runtime_errorAddressString⟩) (.node (some ⟨.int .i64, 1, 8, [.int .i64 0], some I⟩) (.node (some ⟨.slice 45, 1, 24, [.slice none 0 0], some (.sl 96 s_api_Func)⟩) (.node (some ⟨.other, 1, 8, [.nilFunc], none⟩) .leaf .leaf) .leaf) (.node (some ⟨.slice 97, 1, 24, [.slice none 0 0], some (.sl 80 s_api_Instr)⟩) (.node (some ⟨.int .u8, 1, 1, [.int .u8 0], some (.int .u8)⟩) .leaf .leaf) .leaf)) (.node (some ⟨.struct [⟨0, 1, false⟩, ⟨1, 1, false⟩, ⟨2, 14, true⟩, ⟨16, 1, false⟩, ⟨17, 1, false⟩, ⟨18, 1, false⟩], 19, 152, [.int .i64 0, .int .i64 0, .int .i64 0, .int .i64 0, .int .i64 0, .bool false, .bool false, .int .i64 0, .bool false, .bool false, .int .i64 0, .bool false, .bool false, .int .i64 0, .bool false, .bool false, .slice none 0 0, .slice none 0 0, .int .i64 0], some s_api_Outcome⟩) (.node (some ⟨.other, 1, 8, [.nilFunc], none⟩) (.node (some ⟨.other, 1, 8, [.nilFunc], none⟩) .leaf .leaf) .leaf) (.node (some ⟨.other, 1, 8, [.nilFunc], none⟩) (.node (some ⟨.struct [⟨0, 1, false⟩, ⟨1, 1, false⟩, ⟨2, 1, false⟩, ⟨3, 1, false⟩, ⟨4, 1, false⟩], 5, 64, [.string ⟨#[]⟩, .int .i64 0, .int .i64 0, .slice none 0 0, .bool false], some s_api_Global⟩) .leaf .leaf) .leaf))))))
def gl : Nat → Option AV
  | 0 => some (.rtp s_api_Lane ((0 : Int), true, false, ()))
  | 1 => some (.rtp (.arr 5 I) ((0 : Int), (1 : Int), (8 : Int), (32 : Int), (64 : Int), ()))
  | 2 => some (.rtp s_api_Lane ((0 : Int), false, true, ()))
  | _ => none
def fnL : List Nat := [3, 4, 5, 6, 7, 8, 9, 10, 11, 12, 13, 14, 15, 16, 17, 18, 19, 20, 21, 22, 23, 24, 25, 26, 27, 28, 29, 30, 31, 32, 33, 34, 35, 36, 37, 38, 39, 40, 41, 42, 43, 44, 45, 46, 47, 48, 49, 50]
abbrev f_law19_RefineOutcomes : FuncId := 3
abbrev f_law19_RefineValues : FuncId := 4
abbrev f_law19_RefineSteps : FuncId := 5
abbrev f_law19_RefineOrder : FuncId := 6
abbrev f_law19_RefineGlobals : FuncId := 7
abbrev f_law19_large : FuncId := 8
abbrev f_law19_awake : FuncId := 9
abbrev f_r19_Difference : FuncId := 10
abbrev f_refine_Difference : FuncId := 11
abbrev f_refine_Outcome : FuncId := 12
abbrev f_refine_Values : FuncId := 13
abbrev f_r19_Values : FuncId := 14
abbrev f_refine_StepBound : FuncId := 15
abbrev f_r19_StepBound : FuncId := 16
abbrev f_law19_valid : FuncId := 17
abbrev f_r11_Int : FuncId := 18
abbrev f_value_Int : FuncId := 19
abbrev f_value_Poison : FuncId := 20
abbrev f_r19_results : FuncId := 21
abbrev f_r19_cells : FuncId := 22
abbrev f_refine_results : FuncId := 23
abbrev f_refine_pairwise_L_api_Value : FuncId := 24
abbrev f_refine_Difference_cl1 : FuncId := 25
abbrev f_refine_pairwise_api_Value : FuncId := 26
abbrev f_refine_Values_cl1 : FuncId := 27
abbrev f_value_Refines : FuncId := 28
abbrev f_r11_Refines : FuncId := 29
abbrev f_verify_Size : FuncId := 30
abbrev f_r14_Size : FuncId := 31
abbrev f_r11_Valid : FuncId := 32
abbrev f_r11_isInt : FuncId := 33
abbrev f_r11_NumLanes : FuncId := 34
abbrev f_r01_Wrap : FuncId := 35
abbrev f_r11_laneType : FuncId := 36
abbrev f_value_integer : FuncId := 37
abbrev f_value_each : FuncId := 38
abbrev f_value_Int_cl1 : FuncId := 39
abbrev f_intn_Wrap : FuncId := 40
abbrev f_value_laneType : FuncId := 41
abbrev f_value_NumLanes : FuncId := 42
abbrev f_value_Poison_cl1 : FuncId := 43
abbrev f_value_Valid : FuncId := 44
abbrev f_value_refinesLane : FuncId := 45
abbrev f_r11_laneRefines : FuncId := 46
abbrev f_r01_Unsigned : FuncId := 47
abbrev f_r01_Bits : FuncId := 48
abbrev f_intn_Bits : FuncId := 49
abbrev f_value_validLane : FuncId := 50
def siteTr : Tr (List (Nat × Nat)) := (.node none (.node none (.node (some [(2, 1), (3, 1)]) (.node (some [(3, 1), (4, 1), (9, 2), (10, 2)]) (.node (some [(3, 1)]) (.node (some [(1, 1)]) .leaf .leaf) .leaf) (.node (some [(2, 1), (3, 1)]) (.node (some [(4, 2)]) .leaf .leaf) .leaf)) (.node (some [(2, 1), (3, 1)]) (.node (some [(2, 1), (3, 1), (4, 2)]) .leaf .leaf) (.node (some [(2, 1), (3, 1)]) (.node (some [(2, 2)]) .leaf .leaf) .leaf))) (.node (some [(5, 1)]) (.node (some [(1, 2), (4, 2)]) (.node (some [(1, 1), (4, 2), (8, 2)]) .leaf .leaf) .leaf) (.node none (.node (some [(2, 1), (3, 1)]) .leaf .leaf) (.node (some [(2, 1), (3, 1)]) (.node (some [(2, 1), (3, 1)]) .leaf .leaf) .leaf)))) (.node none (.node none (.node (some [(1, 1)]) (.node (some [(3, 1)]) (.node (some [(1, 1), (5, 2)]) .leaf .leaf) .leaf) .leaf) (.node (some [(2, 1), (3, 1)]) (.node (some [(2, 2)]) .leaf .leaf) (.node (some [(2, 1), (3, 1)]) (.node (some [(1, 1), (5, 2)]) .leaf .leaf) .leaf))) (.node (some [(1, 1)]) (.node (some [(2, 1), (3, 1)]) (.node (some [(4, 2), (5, 2)]) .leaf (.node (some [(2, 1)]) .leaf .leaf)) (.node (some [(8, 2)]) .leaf .leaf)) (.node none (.node none (.node (some [(4, 2), (5, 2)]) .leaf .leaf) .leaf) (.node (some [(1, 1)]) (.node (some [(2, 1), (3, 1)]) .leaf .leaf) .leaf)))))
noncomputable def ctx (l : List (FuncId × FSpec)) : Ctx := { P := Tryd.prog, ty := tyOf tyN tyTr, gl := gl, env := envOf l, fns := fnsOf fnL, site := siteOf siteTr }
theorem ty_ok : TyOK Tryd.prog (tyOf tyN tyTr) := chkTy_ok (by kernel_rfl)
theorem fns_ok (l : List (FuncId × FSpec)) : FnsOK (ctx l) := chkFns_ok (by kernel_rfl)
theorem ctx_ok {l : List (FuncId × FSpec)} (h : ∀ x ∈ l, SpecOK (ctx []) x.1 x.2) : EOK (ctx l) := ⟨ty_ok, envOK_of rfl h, fns_ok l, by kernel_rfl⟩
theorem E0_ok : EOK (ctx []) := ctx_ok (by simp)
end Burn.M19
namespace Burn.M19
open Go Go.BE Go.Proofs
set_option maxRecDepth 100000
set_option linter.unusedVariables false
set_option linter.unusedSimpArgs false
open Burn.Intn Burn.Ref
noncomputable abbrev E_V1 : Ctx := ctx []
theorem E_V1_ok : EOK E_V1 := E0_ok
def cuts_V1 : FuncId → Nat → List Nat × List (Wh × Fx)
  | _, _ => ([], [])
def rets_V1 : FuncId → List (Option Sh)
  | _ => []
def H_V1 : Hints := ⟨cuts_V1, rets_V1⟩
theorem r01_Bits_t (t : Int) : run E_V1 H_V1 f_r01_Bits 3000 (start E_V1 f_r01_Bits [(vi t)]) = (cond (t == (1 : Int)) (rt (vi (1 : Int)) []) (cond (t == (2 : Int)) (rt (vi (8 : Int)) []) (cond (t == (3 : Int)) (rt (vi (32 : Int)) []) (cond (t == (4 : Int)) (rt (vi (64 : Int)) []) (rt (vi (0 : Int)) []))))) := by kernel_rfl
theorem intn_Bits_t (t : Int) : run E_V1 H_V1 f_intn_Bits 3000 (start E_V1 f_intn_Bits [(vi t)]) = (cond (decide (t < (0 : Int))) (rt (vi (0 : Int)) []) (cond (decide (t ≥ (5 : Int))) (rt (vi (0 : Int)) []) (.chk (0 ≤ t ∧ t < (5 : Nat)) (rt (vi (z (vget (dz I) 5 (((0 : Int), (1 : Int), (8 : Int), (32 : Int), (64 : Int), ())) ((t).toNat)))) [])))) := by kernel_rfl
theorem r11_NumLanes_t (t : Int) : run E_V1 H_V1 f_r11_NumLanes 3000 (start E_V1 f_r11_NumLanes [(vi t)]) = (cond (decide (t ≥ (1 : Int))) (cond (decide (t ≤ (4 : Int))) (rt (vi (1 : Int)) []) (cond (t == (5 : Int)) (rt (vi (1 : Int)) []) (cond (t == (6 : Int)) (rt (vi (2 : Int)) []) (cond (t == (7 : Int)) (rt (vi (4 : Int)) []) (rt (vi (0 : Int)) []))))) (cond (t == (5 : Int)) (rt (vi (1 : Int)) []) (cond (t == (6 : Int)) (rt (vi (2 : Int)) []) (cond (t == (7 : Int)) (rt (vi (4 : Int)) []) (rt (vi (0 : Int)) []))))) := by kernel_rfl
theorem value_NumLanes_t (t : Int) : run E_V1 H_V1 f_value_NumLanes 3000 (start E_V1 f_value_NumLanes [(vi t)]) = (cond (t == (1 : Int)) (rt (vi (1 : Int)) []) (cond (t == (2 : Int)) (rt (vi (1 : Int)) []) (cond (t == (3 : Int)) (rt (vi (1 : Int)) []) (cond (t == (4 : Int)) (rt (vi (1 : Int)) []) (cond (t == (5 : Int)) (rt (vi (1 : Int)) []) (cond (t == (6 : Int)) (rt (vi (2 : Int)) []) (cond (t == (7 : Int)) (rt (vi (4 : Int)) []) (rt (vi (0 : Int)) [])))))))) := by kernel_rfl
theorem r11_laneType_t (t : Int) : run E_V1 H_V1 f_r11_laneType 3000 (start E_V1 f_r11_laneType [(vi t)]) = (cond (t == (5 : Int)) (rt (vi (4 : Int)) []) (cond (t == (6 : Int)) (rt (vi (3 : Int)) []) (cond (t == (7 : Int)) (rt (vi (3 : Int)) []) (rt (vi t) [])))) := by kernel_rfl
theorem value_laneType_t (t : Int) : run E_V1 H_V1 f_value_laneType 3000 (start E_V1 f_value_laneType [(vi t)]) = (cond (t == (5 : Int)) (rt (vi (4 : Int)) []) (cond (t == (6 : Int)) (rt (vi (3 : Int)) []) (cond (t == (7 : Int)) (rt (vi (3 : Int)) []) (rt (vi t) [])))) := by kernel_rfl
theorem r11_isInt_t (t : Int) : run E_V1 H_V1 f_r11_isInt 3000 (start E_V1 f_r11_isInt [(vi t)]) = (cond (decide (t ≥ (1 : Int))) (rt (vb (decide (t ≤ (4 : Int)))) []) (rt (vb false) [])) := by kernel_rfl
theorem value_integer_t (t : Int) : run E_V1 H_V1 f_value_integer 3000 (start E_V1 f_value_integer [(vi t)]) = (cond (decide (t ≥ (1 : Int))) (rt (vb (decide (t ≤ (4 : Int)))) []) (rt (vb false) [])) := by kernel_rfl
theorem value_refinesLane_t (a : Den s_api_Lane) (b : Den s_api_Lane) : run E_V1 H_V1 f_value_refinesLane 3000 (start E_V1 f_value_refinesLane [(.tv s_api_Lane a), (.tv s_api_Lane b)]) = (cond (bOf b.2.1) (rt (vb true) []) (cond (((z a.1) == (z b.1)) && (((bOf a.2.1) == (bOf b.2.1)) && (((bOf a.2.2.1) == (bOf b.2.2.1)) && true))) (rt (vb true) []) (cond (bOf b.2.2.1) (rt (vb (!(bOf a.2.1))) []) (rt (vb false) [])))) := by kernel_rfl
theorem r11_laneRefines_t (a : Den s_api_Lane) (b : Den s_api_Lane) : run E_V1 H_V1 f_r11_laneRefines 3000 (start E_V1 f_r11_laneRefines [(.tv s_api_Lane a), (.tv s_api_Lane b)]) = (cond (bOf b.2.1) (rt (vb true) []) (cond (bOf b.2.2.1) (rt (vb (!(bOf a.2.1))) []) (rt (vb (((z a.1) == (z b.1)) && (((bOf a.2.1) == (bOf b.2.1)) && (((bOf a.2.2.1) == (bOf b.2.2.1)) && true)))) []))) := by kernel_rfl
def isI (t : Int) : Bool := decide (t ≥ 1) && decide (t ≤ 4)
def laneP (x : Den s_api_Lane) : LaneP := ⟨x.1, x.2.1, x.2.2.1⟩

def k_r01_Bits : Con := con [.d I] I (fun x => True) fun x => bitsZ x.1
theorem m_r01_Bits (t : Int) (h_t : okD I t) (hp : True) : Runs E_V1 (start E_V1 f_r01_Bits [(vi t)]) (fun r_ h_ => r_ = (vi (bitsZ t)) ∧ h_ = []) := .tree E_V1_ok (r01_Bits_t t) (by
  simp only [wp_iff, chk_iff, know_iff, any_iff, rt_iff, hd_iff, true_imp_iff, true_and, and_true, and_self, lt01,  bitsZ]
  grind)
theorem c_r01_Bits : SpecOK E_V1 f_r01_Bits k_r01_Bits.spec := spec_of fun x hx hp => ⟨rfl, m_r01_Bits x.1 hx.1 hp⟩

def k_intn_Bits : Con := con [.d I] I (fun x => True) fun x => bitsZ x.1
theorem m_intn_Bits (t : Int) (h_t : okD I t) (hp : True) : Runs E_V1 (start E_V1 f_intn_Bits [(vi t)]) (fun r_ h_ => r_ = (vi (bitsZ t)) ∧ h_ = []) := .tree E_V1_ok (intn_Bits_t t) (by
  simp only [wp_iff, chk_iff, know_iff, any_iff, rt_iff, hd_iff, true_imp_iff, true_and, and_true, and_self, lt01,  bitsZ, z]
  refine ⟨by grind, fun h1 => ⟨by grind, fun h2 => ⟨by grind, fun h3 => ?_⟩⟩⟩
  have : t = 0 ∨ t = 1 ∨ t = 2 ∨ t = 3 ∨ t = 4 := by omega
  rcases this with rfl | rfl | rfl | rfl | rfl <;> rfl)
theorem c_intn_Bits : SpecOK E_V1 f_intn_Bits k_intn_Bits.spec := spec_of fun x hx hp => ⟨rfl, m_intn_Bits x.1 hx.1 hp⟩

def k_r11_NumLanes : Con := con [.d I] I (fun x => True) fun x => nlZ x.1
theorem m_r11_NumLanes (t : Int) (h_t : okD I t) (hp : True) : Runs E_V1 (start E_V1 f_r11_NumLanes [(vi t)]) (fun r_ h_ => r_ = (vi (nlZ t)) ∧ h_ = []) := .tree E_V1_ok (r11_NumLanes_t t) (by
  simp only [wp_iff, chk_iff, know_iff, any_iff, rt_iff, hd_iff, true_imp_iff, true_and, and_true, and_self, lt01,  nlZ]
  grind)
theorem c_r11_NumLanes : SpecOK E_V1 f_r11_NumLanes k_r11_NumLanes.spec := spec_of fun x hx hp => ⟨rfl, m_r11_NumLanes x.1 hx.1 hp⟩

def k_value_NumLanes : Con := con [.d I] I (fun x => True) fun x => nlZ x.1
theorem m_value_NumLanes (t : Int) (h_t : okD I t) (hp : True) : Runs E_V1 (start E_V1 f_value_NumLanes [(vi t)]) (fun r_ h_ => r_ = (vi (nlZ t)) ∧ h_ = []) := .tree E_V1_ok (value_NumLanes_t t) (by
  simp only [wp_iff, chk_iff, know_iff, any_iff, rt_iff, hd_iff, true_imp_iff, true_and, and_true, and_self, lt01,  nlZ]
  grind)
theorem c_value_NumLanes : SpecOK E_V1 f_value_NumLanes k_value_NumLanes.spec := spec_of fun x hx hp => ⟨rfl, m_value_NumLanes x.1 hx.1 hp⟩

def k_r11_laneType : Con := con [.d I] I (fun x => True) fun x => ltZ x.1
theorem m_r11_laneType (t : Int) (h_t : okD I t) (hp : True) : Runs E_V1 (start E_V1 f_r11_laneType [(vi t)]) (fun r_ h_ => r_ = (vi (ltZ t)) ∧ h_ = []) := .tree E_V1_ok (r11_laneType_t t) (by
  simp only [wp_iff, chk_iff, know_iff, any_iff, rt_iff, hd_iff, true_imp_iff, true_and, and_true, and_self, lt01,  ltZ]
  grind)
theorem c_r11_laneType : SpecOK E_V1 f_r11_laneType k_r11_laneType.spec := spec_of fun x hx hp => ⟨rfl, m_r11_laneType x.1 hx.1 hp⟩

def k_value_laneType : Con := con [.d I] I (fun x => True) fun x => ltZ x.1
theorem m_value_laneType (t : Int) (h_t : okD I t) (hp : True) : Runs E_V1 (start E_V1 f_value_laneType [(vi t)]) (fun r_ h_ => r_ = (vi (ltZ t)) ∧ h_ = []) := .tree E_V1_ok (value_laneType_t t) (by
  simp only [wp_iff, chk_iff, know_iff, any_iff, rt_iff, hd_iff, true_imp_iff, true_and, and_true, and_self, lt01,  ltZ]
  grind)
theorem c_value_laneType : SpecOK E_V1 f_value_laneType k_value_laneType.spec := spec_of fun x hx hp => ⟨rfl, m_value_laneType x.1 hx.1 hp⟩

def k_r11_isInt : Con := con [.d I] .bool (fun x => True) fun x => isI x.1
theorem m_r11_isInt (t : Int) (h_t : okD I t) (hp : True) : Runs E_V1 (start E_V1 f_r11_isInt [(vi t)]) (fun r_ h_ => r_ = (vb (isI t)) ∧ h_ = []) := .tree E_V1_ok (r11_isInt_t t) (by
  simp only [wp_iff, chk_iff, know_iff, any_iff, rt_iff, hd_iff, true_imp_iff, true_and, and_true, and_self, lt01,  isI]
  grind)
theorem c_r11_isInt : SpecOK E_V1 f_r11_isInt k_r11_isInt.spec := spec_of fun x hx hp => ⟨rfl, m_r11_isInt x.1 hx.1 hp⟩

def k_value_integer : Con := con [.d I] .bool (fun x => True) fun x => isI x.1
theorem m_value_integer (t : Int) (h_t : okD I t) (hp : True) : Runs E_V1 (start E_V1 f_value_integer [(vi t)]) (fun r_ h_ => r_ = (vb (isI t)) ∧ h_ = []) := .tree E_V1_ok (value_integer_t t) (by
  simp only [wp_iff, chk_iff, know_iff, any_iff, rt_iff, hd_iff, true_imp_iff, true_and, and_true, and_self, lt01,  isI]
  grind)
theorem c_value_integer : SpecOK E_V1 f_value_integer k_value_integer.spec := spec_of fun x hx hp => ⟨rfl, m_value_integer x.1 hx.1 hp⟩
def refL (x y : Den s_api_Lane) : Bool := laneRef (laneP x) (laneP y)

def k_value_refinesLane : Con := con [.d s_api_Lane, .d s_api_Lane] .bool (fun x => True) fun x => refL x.1 x.2.1
theorem m_value_refinesLane (a : Den s_api_Lane) (b : Den s_api_Lane) (h_a : okD s_api_Lane a) (h_b : okD s_api_Lane b) (hp : True) : Runs E_V1 (start E_V1 f_value_refinesLane [(.tv s_api_Lane a), (.tv s_api_Lane b)]) (fun r_ h_ => r_ = (vb (refL a b)) ∧ h_ = []) := .tree E_V1_ok (value_refinesLane_t a b) (by
  obtain ⟨n, p, u, _⟩ : Int × Bool × Bool × Unit := a
  obtain ⟨m, q, v, _⟩ : Int × Bool × Bool × Unit := b
  simp only [wp_iff, chk_iff, know_iff, any_iff, rt_iff, hd_iff, true_imp_iff, true_and, and_true, and_self, lt01,  refL, laneRef, laneP, z, bOf]
  cases p <;> cases q <;> cases u <;> cases v <;> simp)
theorem c_value_refinesLane : SpecOK E_V1 f_value_refinesLane k_value_refinesLane.spec := spec_of fun x hx hp => ⟨rfl, m_value_refinesLane x.1 x.2.1 hx.1 hx.2.1 hp⟩

def k_r11_laneRefines : Con := con [.d s_api_Lane, .d s_api_Lane] .bool (fun x => True) fun x => refL x.1 x.2.1
theorem m_r11_laneRefines (a : Den s_api_Lane) (b : Den s_api_Lane) (h_a : okD s_api_Lane a) (h_b : okD s_api_Lane b) (hp : True) : Runs E_V1 (start E_V1 f_r11_laneRefines [(.tv s_api_Lane a), (.tv s_api_Lane b)]) (fun r_ h_ => r_ = (vb (refL a b)) ∧ h_ = []) := .tree E_V1_ok (r11_laneRefines_t a b) (by
  obtain ⟨n, p, u, _⟩ : Int × Bool × Bool × Unit := a
  obtain ⟨m, q, v, _⟩ : Int × Bool × Bool × Unit := b
  simp only [wp_iff, chk_iff, know_iff, any_iff, rt_iff, hd_iff, true_imp_iff, true_and, and_true, and_self, lt01,  refL, laneRef, laneP, z, bOf]
  cases p <;> cases q <;> cases u <;> cases v <;> simp)
theorem c_r11_laneRefines : SpecOK E_V1 f_r11_laneRefines k_r11_laneRefines.spec := spec_of fun x hx hp => ⟨rfl, m_r11_laneRefines x.1 x.2.1 hx.1 hx.2.1 hp⟩
def L_V1 : List (FuncId × FSpec) := [(f_r01_Bits, k_r01_Bits.spec), (f_intn_Bits, k_intn_Bits.spec), (f_r11_NumLanes, k_r11_NumLanes.spec), (f_value_NumLanes, k_value_NumLanes.spec), (f_r11_laneType, k_r11_laneType.spec), (f_value_laneType, k_value_laneType.spec), (f_r11_isInt, k_r11_isInt.spec), (f_value_integer, k_value_integer.spec), (f_value_refinesLane, k_value_refinesLane.spec), (f_r11_laneRefines, k_r11_laneRefines.spec)] ++ []
theorem L_V1_ok : ∀ x ∈ L_V1, SpecOK (ctx []) x.1 x.2 := by
  unfold L_V1
  simp only [List.cons_append, List.nil_append, List.forall_mem_cons]
  exact ⟨c_r01_Bits, c_intn_Bits, c_r11_NumLanes, c_value_NumLanes, c_r11_laneType, c_value_laneType, c_r11_isInt, c_value_integer, c_value_refinesLane, c_r11_laneRefines, by simp⟩
end Burn.M19
namespace Burn.M19
open Go Go.BE Go.Proofs
set_option maxRecDepth 100000
set_option linter.unusedVariables false
set_option linter.unusedSimpArgs false
open Burn.Intn Burn.Ref
noncomputable abbrev E_V2 : Ctx := ctx L_V1
theorem E_V2_ok : EOK E_V2 := ctx_ok L_V1_ok
def cuts_V2 : FuncId → Nat → List Nat × List (Wh × Fx)
  | _, _ => ([], [])
def rets_V2 : FuncId → List (Option Sh)
  | _ => []
def H_V2 : Hints := ⟨cuts_V2, rets_V2⟩
theorem intn_Wrap_t (t : Int) (n : Int) : run E_V2 H_V2 f_intn_Wrap 3000 (start E_V2 f_intn_Wrap [(vi t), (vi n)]) = (.chk (True) (.know (okD (.int .i64) (bitsZ t)) (cond ((bitsZ t) == (0 : Int)) (rt (vi (0 : Int)) []) (cond ((bitsZ t) == (1 : Int)) (rt (vi (IntKind.wrap .i64 (bvand .i64 n (1 : Int)))) []) (.chk (0 ≤ (IntKind.wrap .i64 ((64 : Int) - (bitsZ t)))) (.chk (0 ≤ (IntKind.wrap .i64 ((64 : Int) - (bitsZ t)))) (rt (vi (Int.fdiv (IntKind.wrap .i64 (n * 2 ^ min ((IntKind.wrap .i64 ((64 : Int) - (bitsZ t)))).toNat (IntKind.bits .i64))) (2 ^ min ((IntKind.wrap .i64 ((64 : Int) - (bitsZ t)))).toNat (IntKind.bits .i64)))) []))))))) := by kernel_rfl
theorem r01_Unsigned_t (t : Int) (n : Int) : run E_V2 H_V2 f_r01_Unsigned 3000 (start E_V2 f_r01_Unsigned [(vi t), (vi n)]) = (.chk (True) (.know (okD (.int .i64) (bitsZ t)) (cond ((bitsZ t) == (1 : Int)) (.chk ((2 : Int) ≠ 0) (rt (aint .u64 (Int.tmod (IntKind.wrap .u64 n) (2 : Int))) [])) (cond ((bitsZ t) == (8 : Int)) (.chk ((256 : Int) ≠ 0) (rt (aint .u64 (Int.tmod (IntKind.wrap .u64 n) (256 : Int))) [])) (cond ((bitsZ t) == (32 : Int)) (.chk ((4294967296 : Int) ≠ 0) (rt (aint .u64 (Int.tmod (IntKind.wrap .u64 n) (4294967296 : Int))) [])) (cond ((bitsZ t) == (64 : Int)) (rt (aint .u64 (IntKind.wrap .u64 n)) []) (rt (aint .u64 (0 : Int)) []))))))) := by kernel_rfl
theorem b1 : bitsZ 1 = 1 := rfl
theorem b2 : bitsZ 2 = 8 := rfl
theorem b3 : bitsZ 3 = 32 := rfl
theorem b4 : bitsZ 4 = 64 := rfl
theorem u1 (n : Int) : unsZ 1 n = n % 2 := rfl
theorem u2 (n : Int) : unsZ 2 n = n % 256 := rfl
theorem u3 (n : Int) : unsZ 3 n = n % 4294967296 := rfl
theorem u4 (n : Int) : unsZ 4 n = n % 18446744073709551616 := rfl
theorem tmod_pos (n m : Int) (hm : 0 < m) : (n % 18446744073709551616).tmod m = n % 18446744073709551616 % m := by
  rw [Int.tmod_eq_emod_of_nonneg (Int.emod_nonneg _ (by decide))]

def k_intn_Wrap : Con := con [.d I, .d I] I (fun x => True) fun x => wrapZ x.1 x.2.1
theorem m_intn_Wrap (t : Int) (n : Int) (h_t : okD I t) (h_n : okD I n) (hp : True) : Runs E_V2 (start E_V2 f_intn_Wrap [(vi t), (vi n)]) (fun r_ h_ => r_ = (vi (wrapZ t n)) ∧ h_ = []) := .tree E_V2_ok (intn_Wrap_t t n) (by
  simp only [wp_iff, chk_iff, know_iff, any_iff, rt_iff, hd_iff, true_imp_iff, true_and, and_true, and_self, lt01,  z]
  rcases tcases t with rfl | rfl | rfl | rfl | h
  · have := and1 n
    rw [← wrap1] at this
    exact fun _ => ⟨fun h => absurd h (by decide), fun _ => ⟨fun _ => by rw [this], fun h => absurd h (by decide)⟩⟩
  · have := sh n 56 (.inl rfl)
    simp [b2, w64] at this ⊢
    exact fun _ => this
  · have := sh n 32 (.inr (.inl rfl))
    simp [b3, w64] at this ⊢
    exact fun _ => this
  · have := sh n 0 (.inr (.inr rfl))
    simp [b4, w64] at this ⊢
    exact fun _ => this
  · simp [other h, wrap_other h])
theorem c_intn_Wrap : SpecOK E_V2 f_intn_Wrap k_intn_Wrap.spec := spec_of fun x hx hp => ⟨rfl, m_intn_Wrap x.1 x.2.1 hx.1 hx.2.1 hp⟩

def k_r01_Unsigned : Con := con [.d I, .d I] (.int .u64) (fun x => True) fun x => unsZ x.1 x.2.1
theorem m_r01_Unsigned (t : Int) (n : Int) (h_t : okD I t) (h_n : okD I n) (hp : True) : Runs E_V2 (start E_V2 f_r01_Unsigned [(vi t), (vi n)]) (fun r_ h_ => r_ = (aint .u64 (unsZ t n)) ∧ h_ = []) := .tree E_V2_ok (r01_Unsigned_t t n) (by
  simp only [wp_iff, chk_iff, know_iff, any_iff, rt_iff, hd_iff, true_imp_iff, true_and, and_true, and_self, lt01,  z]
  rcases tcases t with rfl | rfl | rfl | rfl | h
  · simp [b1, u1, u64, tmod_pos]
  · simp [b2, u2, u64, tmod_pos]
  · simp [b3, u3, u64, tmod_pos]
  · simp [b4, u4, u64]
  · simp [other h, uns_other h])
theorem c_r01_Unsigned : SpecOK E_V2 f_r01_Unsigned k_r01_Unsigned.spec := spec_of fun x hx hp => ⟨rfl, m_r01_Unsigned x.1 x.2.1 hx.1 hx.2.1 hp⟩
def L_V2 : List (FuncId × FSpec) := [(f_intn_Wrap, k_intn_Wrap.spec), (f_r01_Unsigned, k_r01_Unsigned.spec)] ++ L_V1
theorem L_V2_ok : ∀ x ∈ L_V2, SpecOK (ctx []) x.1 x.2 := by
  unfold L_V2
  simp only [List.cons_append, List.nil_append, List.forall_mem_cons]
  exact ⟨c_intn_Wrap, c_r01_Unsigned, L_V1_ok⟩
end Burn.M19
namespace Burn.M19
open Go Go.BE Go.Proofs
set_option maxRecDepth 100000
set_option linter.unusedVariables false
set_option linter.unusedSimpArgs false
open Burn.Intn Burn.Ref
noncomputable abbrev E_V3 : Ctx := ctx L_V2
theorem E_V3_ok : EOK E_V3 := ctx_ok L_V2_ok
def cuts_V3 : FuncId → Nat → List Nat × List (Wh × Fx)
  | _, _ => ([], [])
def rets_V3 : FuncId → List (Option Sh)
  | _ => []
def H_V3 : Hints := ⟨cuts_V3, rets_V3⟩
theorem r01_Wrap_t (t : Int) (n : Int) : run E_V3 H_V3 f_r01_Wrap 3000 (start E_V3 f_r01_Wrap [(vi t), (vi n)]) = (.chk (True) (.know (okD (.int .u64) (unsZ t n)) (.chk (True) (.know (okD (.int .i64) (bitsZ t)) (cond ((bitsZ t) == (8 : Int)) (cond (decide ((unsZ t n) ≥ (128 : Int))) (rt (vi (IntKind.wrap .i64 ((IntKind.wrap .i64 (unsZ t n)) - (256 : Int)))) []) (rt (vi (IntKind.wrap .i64 (unsZ t n))) [])) (cond ((bitsZ t) == (32 : Int)) (cond (decide ((unsZ t n) ≥ (2147483648 : Int))) (rt (vi (IntKind.wrap .i64 ((IntKind.wrap .i64 (unsZ t n)) - (4294967296 : Int)))) []) (rt (vi (IntKind.wrap .i64 (unsZ t n))) [])) (rt (vi (IntKind.wrap .i64 (unsZ t n))) []))))))) := by kernel_rfl
theorem value_validLane_t (l : Den s_api_Lane) (t : Int) : run E_V3 H_V3 f_value_validLane 3000 (start E_V3 f_value_validLane [(.tv s_api_Lane l), (vi t)]) = (cond (bOf l.2.1) (cond (((z l.1) == (z ((((0 : Int), true, false, ())).1))) && (((bOf l.2.1) == (bOf (((((0 : Int), true, false, ())).2).1))) && (((bOf l.2.2.1) == (bOf ((((((0 : Int), true, false, ())).2).2).1))) && true))) (rt (vb true) []) (rt (vb (((z l.1) == (z ((((0 : Int), false, true, ())).1))) && (((bOf l.2.1) == (bOf (((((0 : Int), false, true, ())).2).1))) && (((bOf l.2.2.1) == (bOf ((((((0 : Int), false, true, ())).2).2).1))) && true)))) [])) (cond (bOf l.2.2.1) (cond (((z l.1) == (z ((((0 : Int), true, false, ())).1))) && (((bOf l.2.1) == (bOf (((((0 : Int), true, false, ())).2).1))) && (((bOf l.2.2.1) == (bOf ((((((0 : Int), true, false, ())).2).2).1))) && true))) (rt (vb true) []) (rt (vb (((z l.1) == (z ((((0 : Int), false, true, ())).1))) && (((bOf l.2.1) == (bOf (((((0 : Int), false, true, ())).2).1))) && (((bOf l.2.2.1) == (bOf ((((((0 : Int), false, true, ())).2).2).1))) && true)))) [])) (.chk (True) (.know (okD (.int .i64) (wrapZ t l.1)) (rt (vb ((wrapZ t l.1) == (z l.1))) []))))) := by kernel_rfl

def k_r01_Wrap : Con := con [.d I, .d I] I (fun x => True) fun x => wrapZ x.1 x.2.1
theorem m_r01_Wrap (t : Int) (n : Int) (h_t : okD I t) (h_n : okD I n) (hp : True) : Runs E_V3 (start E_V3 f_r01_Wrap [(vi t), (vi n)]) (fun r_ h_ => r_ = (vi (wrapZ t n)) ∧ h_ = []) := .tree E_V3_ok (r01_Wrap_t t n) (by
  simp only [wp_iff, chk_iff, know_iff, any_iff, rt_iff, hd_iff, true_imp_iff, true_and, and_true, and_self, lt01,  z]
  rcases tcases t with rfl | rfl | rfl | rfl | h
  · simp only [b1, u1, w64, wrap1]
    simp
    omega
  · simp only [b2, u2, w64, wrap2]
    simp
    omega
  · simp only [b3, u3, w64, wrap3]
    simp
    omega
  · simp only [b4, u4, w64, wrap4]
    simp
  · simp [other h, wrap_other h, uns_other h, w64])
theorem c_r01_Wrap : SpecOK E_V3 f_r01_Wrap k_r01_Wrap.spec := spec_of fun x hx hp => ⟨rfl, m_r01_Wrap x.1 x.2.1 hx.1 hx.2.1 hp⟩
def lanB (x : Den s_api_Lane) (t : Int) : Bool := laneB t (laneP x)

def k_value_validLane : Con := con [.d s_api_Lane, .d I] .bool (fun x => True) fun x => lanB x.1 x.2.1
theorem m_value_validLane (l : Den s_api_Lane) (t : Int) (h_l : okD s_api_Lane l) (h_t : okD I t) (hp : True) : Runs E_V3 (start E_V3 f_value_validLane [(.tv s_api_Lane l), (vi t)]) (fun r_ h_ => r_ = (vb (lanB l t)) ∧ h_ = []) := .tree E_V3_ok (value_validLane_t l t) (by
  obtain ⟨n, p, u, _⟩ : Int × Bool × Bool × Unit := l
  simp only [wp_iff, chk_iff, know_iff, any_iff, rt_iff, hd_iff, true_imp_iff, true_and, and_true, and_self, lt01,  lanB, laneB, laneP, z, bOf]
  cases p <;> cases u <;> simp)
theorem c_value_validLane : SpecOK E_V3 f_value_validLane k_value_validLane.spec := spec_of fun x hx hp => ⟨rfl, m_value_validLane x.1 x.2.1 hx.1 hx.2.1 hp⟩
def L_V3 : List (FuncId × FSpec) := [(f_r01_Wrap, k_r01_Wrap.spec), (f_value_validLane, k_value_validLane.spec)] ++ L_V2
theorem L_V3_ok : ∀ x ∈ L_V3, SpecOK (ctx []) x.1 x.2 := by
  unfold L_V3
  simp only [List.cons_append, List.nil_append, List.forall_mem_cons]
  exact ⟨c_r01_Wrap, c_value_validLane, L_V2_ok⟩
end Burn.M19
namespace Burn.M19
open Go Go.BE Go.Proofs
set_option maxRecDepth 100000
set_option linter.unusedVariables false
set_option linter.unusedSimpArgs false
open Burn.Intn Burn.Ref
noncomputable abbrev E_V4 : Ctx := ctx L_V3
theorem E_V4_ok : EOK E_V4 := ctx_ok L_V3_ok
def cuts_V4 : FuncId → Nat → List Nat × List (Wh × Fx)
  | 32, 0 => ([1, 3, 12, 13], [])
  | 44, 0 => ([1, 3, 12, 13], [])
  | _, _ => ([], [])
def rets_V4 : FuncId → List (Option Sh)
  | _ => []
def H_V4 : Hints := ⟨cuts_V4, rets_V4⟩
noncomputable def value_Valid_L0 (v : Den s_api_Value) (n : Int) (t12 : Den (.arr 4 s_api_Lane)) (t13 : Int) : Cfg := hcfg E_V4 f_value_Valid 0 [(1, (.rtp s_api_Value v)), (3, (vi n)), (12, (.tv (.arr 4 s_api_Lane) t12)), (13, (vi t13))] [] 0
theorem value_Valid_t (v : Den s_api_Value) : run E_V4 H_V4 f_value_Valid 3000 (start E_V4 f_value_Valid [(.tv s_api_Value v)]) = (.chk (True) (.know (okD (.int .i64) (nlZ v.1)) (cond ((nlZ v.1) == (0 : Int)) (rt (vb false) []) (hd (value_Valid_L0 v (nlZ v.1) v.2.2.1 (0 : Int)))))) := by kernel_rfl
theorem value_Valid_L0_t (v : Den s_api_Value) (n : Int) (t12 : Den (.arr 4 s_api_Lane)) (t13 : Int) : run E_V4 H_V4 f_value_Valid 3000 (value_Valid_L0 v n t12 t13) = (cond (decide (t13 < (4 : Int))) (.chk (0 ≤ t13 ∧ t13 < (4 : Nat)) (.chk ((0 : Nat) < (1 : Nat)) (cond (decide (t13 < n)) (.chk ((0 : Nat) < (1 : Nat)) (.chk (True) (.chk (True) (cond (!(lanB (vget (dz s_api_Lane) 4 t12 ((t13).toNat)) (ltZ v.1))) (.know (okD (.int .i64) (ltZ v.1)) (.know True (rt (vb false) []))) (cond (decide (t13 ≥ n)) (.chk ((0 : Nat) < (1 : Nat)) (.know (okD (.int .i64) (ltZ v.1)) (.know True (cond (!(((z ((vget (dz s_api_Lane) 4 t12 ((t13).toNat)).1)) == (0 : Int)) && (((bOf (((vget (dz s_api_Lane) 4 t12 ((t13).toNat)).2).1)) == false) && (((bOf ((((vget (dz s_api_Lane) 4 t12 ((t13).toNat)).2).2).1)) == false) && true)))) (rt (vb false) []) (hd (value_Valid_L0 v n t12 (IntKind.wrap .i64 (t13 + (1 : Int))))))))) (.know (okD (.int .i64) (ltZ v.1)) (.know True (hd (value_Valid_L0 v n t12 (IntKind.wrap .i64 (t13 + (1 : Int)))))))))))) (cond (decide (t13 ≥ n)) (.chk ((0 : Nat) < (1 : Nat)) (cond (!(((z ((vget (dz s_api_Lane) 4 t12 ((t13).toNat)).1)) == (0 : Int)) && (((bOf (((vget (dz s_api_Lane) 4 t12 ((t13).toNat)).2).1)) == false) && (((bOf ((((vget (dz s_api_Lane) 4 t12 ((t13).toNat)).2).2).1)) == false) && true)))) (rt (vb false) []) (hd (value_Valid_L0 v n t12 (IntKind.wrap .i64 (t13 + (1 : Int))))))) (hd (value_Valid_L0 v n t12 (IntKind.wrap .i64 (t13 + (1 : Int))))))))) (cond ((z v.1) == (5 : Int)) (.chk (0 ≤ (0 : Int) ∧ (0 : Int) < (4 : Nat)) (cond (!(bOf v.2.2.1.1.2.1)) (rt (vb (decide ((z v.2.1) ≥ (-1 : Int)))) []) (rt (vb ((z v.2.1) == (0 : Int))) []))) (rt (vb ((z v.2.1) == (0 : Int))) []))) := by kernel_rfl
noncomputable def r11_Valid_L0 (v : Den s_api_Value) (n : Int) (t12 : Den (.arr 4 s_api_Lane)) (t13 : Int) : Cfg := hcfg E_V4 f_r11_Valid 0 [(1, (.rtp s_api_Value v)), (3, (vi n)), (12, (.tv (.arr 4 s_api_Lane) t12)), (13, (vi t13))] [] 0
theorem r11_Valid_t (v : Den s_api_Value) : run E_V4 H_V4 f_r11_Valid 3000 (start E_V4 f_r11_Valid [(.tv s_api_Value v)]) = (.chk (True) (.know (okD (.int .i64) (nlZ v.1)) (cond ((nlZ v.1) == (0 : Int)) (rt (vb false) []) (hd (r11_Valid_L0 v (nlZ v.1) v.2.2.1 (0 : Int)))))) := by kernel_rfl
theorem r11_Valid_L0_t (v : Den s_api_Value) (n : Int) (t12 : Den (.arr 4 s_api_Lane)) (t13 : Int) : run E_V4 H_V4 f_r11_Valid 3000 (r11_Valid_L0 v n t12 t13) = (cond (decide (t13 < (4 : Int))) (.chk (0 ≤ t13 ∧ t13 < (4 : Nat)) (.chk ((0 : Nat) < (1 : Nat)) (.chk ((0 : Nat) < (1 : Nat)) (cond (bOf (((vget (dz s_api_Lane) 4 t12 ((t13).toNat)).2).1)) (.chk ((0 : Nat) < (1 : Nat)) (cond (bOf ((((vget (dz s_api_Lane) 4 t12 ((t13).toNat)).2).2).1)) (rt (vb false) []) (.chk ((0 : Nat) < (1 : Nat)) (cond (bOf (((vget (dz s_api_Lane) 4 t12 ((t13).toNat)).2).1)) (.chk ((0 : Nat) < (1 : Nat)) (cond ((z ((vget (dz s_api_Lane) 4 t12 ((t13).toNat)).1)) != (0 : Int)) (rt (vb false) []) (cond (decide (t13 ≥ n)) (.chk ((0 : Nat) < (1 : Nat)) (cond (bOf (((vget (dz s_api_Lane) 4 t12 ((t13).toNat)).2).1)) (rt (vb false) []) (.chk ((0 : Nat) < (1 : Nat)) (cond (bOf ((((vget (dz s_api_Lane) 4 t12 ((t13).toNat)).2).2).1)) (rt (vb false) []) (.chk ((0 : Nat) < (1 : Nat)) (cond ((z ((vget (dz s_api_Lane) 4 t12 ((t13).toNat)).1)) != (0 : Int)) (rt (vb false) []) (cond (decide (t13 < n)) (.chk (True) (.chk ((0 : Nat) < (1 : Nat)) (.chk (True) (.chk ((0 : Nat) < (1 : Nat)) (.know (okD (.int .i64) (ltZ v.1)) (.know (okD (.int .i64) (wrapZ (ltZ v.1) (vget (dz s_api_Lane) 4 t12 ((t13).toNat)).1)) (cond ((wrapZ (ltZ v.1) (vget (dz s_api_Lane) 4 t12 ((t13).toNat)).1) != (z ((vget (dz s_api_Lane) 4 t12 ((t13).toNat)).1))) (rt (vb false) []) (hd (r11_Valid_L0 v n t12 (IntKind.wrap .i64 (t13 + (1 : Int)))))))))))) (hd (r11_Valid_L0 v n t12 (IntKind.wrap .i64 (t13 + (1 : Int)))))))))))) (cond (decide (t13 < n)) (.chk (True) (.chk ((0 : Nat) < (1 : Nat)) (.chk (True) (.chk ((0 : Nat) < (1 : Nat)) (.know (okD (.int .i64) (ltZ v.1)) (.know (okD (.int .i64) (wrapZ (ltZ v.1) (vget (dz s_api_Lane) 4 t12 ((t13).toNat)).1)) (cond ((wrapZ (ltZ v.1) (vget (dz s_api_Lane) 4 t12 ((t13).toNat)).1) != (z ((vget (dz s_api_Lane) 4 t12 ((t13).toNat)).1))) (rt (vb false) []) (hd (r11_Valid_L0 v n t12 (IntKind.wrap .i64 (t13 + (1 : Int)))))))))))) (hd (r11_Valid_L0 v n t12 (IntKind.wrap .i64 (t13 + (1 : Int))))))))) (.chk ((0 : Nat) < (1 : Nat)) (cond (bOf ((((vget (dz s_api_Lane) 4 t12 ((t13).toNat)).2).2).1)) (.chk ((0 : Nat) < (1 : Nat)) (cond ((z ((vget (dz s_api_Lane) 4 t12 ((t13).toNat)).1)) != (0 : Int)) (rt (vb false) []) (cond (decide (t13 ≥ n)) (.chk ((0 : Nat) < (1 : Nat)) (cond (bOf (((vget (dz s_api_Lane) 4 t12 ((t13).toNat)).2).1)) (rt (vb false) []) (.chk ((0 : Nat) < (1 : Nat)) (cond (bOf ((((vget (dz s_api_Lane) 4 t12 ((t13).toNat)).2).2).1)) (rt (vb false) []) (.chk ((0 : Nat) < (1 : Nat)) (cond ((z ((vget (dz s_api_Lane) 4 t12 ((t13).toNat)).1)) != (0 : Int)) (rt (vb false) []) (cond (decide (t13 < n)) (.chk (True) (.chk ((0 : Nat) < (1 : Nat)) (.chk (True) (.chk ((0 : Nat) < (1 : Nat)) (.know (okD (.int .i64) (ltZ v.1)) (.know (okD (.int .i64) (wrapZ (ltZ v.1) (vget (dz s_api_Lane) 4 t12 ((t13).toNat)).1)) (cond ((wrapZ (ltZ v.1) (vget (dz s_api_Lane) 4 t12 ((t13).toNat)).1) != (z ((vget (dz s_api_Lane) 4 t12 ((t13).toNat)).1))) (rt (vb false) []) (hd (r11_Valid_L0 v n t12 (IntKind.wrap .i64 (t13 + (1 : Int)))))))))))) (hd (r11_Valid_L0 v n t12 (IntKind.wrap .i64 (t13 + (1 : Int)))))))))))) (cond (decide (t13 < n)) (.chk (True) (.chk ((0 : Nat) < (1 : Nat)) (.chk (True) (.chk ((0 : Nat) < (1 : Nat)) (.know (okD (.int .i64) (ltZ v.1)) (.know (okD (.int .i64) (wrapZ (ltZ v.1) (vget (dz s_api_Lane) 4 t12 ((t13).toNat)).1)) (cond ((wrapZ (ltZ v.1) (vget (dz s_api_Lane) 4 t12 ((t13).toNat)).1) != (z ((vget (dz s_api_Lane) 4 t12 ((t13).toNat)).1))) (rt (vb false) []) (hd (r11_Valid_L0 v n t12 (IntKind.wrap .i64 (t13 + (1 : Int)))))))))))) (hd (r11_Valid_L0 v n t12 (IntKind.wrap .i64 (t13 + (1 : Int))))))))) (cond (decide (t13 ≥ n)) (.chk ((0 : Nat) < (1 : Nat)) (cond (bOf (((vget (dz s_api_Lane) 4 t12 ((t13).toNat)).2).1)) (rt (vb false) []) (.chk ((0 : Nat) < (1 : Nat)) (cond (bOf ((((vget (dz s_api_Lane) 4 t12 ((t13).toNat)).2).2).1)) (rt (vb false) []) (.chk ((0 : Nat) < (1 : Nat)) (cond ((z ((vget (dz s_api_Lane) 4 t12 ((t13).toNat)).1)) != (0 : Int)) (rt (vb false) []) (cond (decide (t13 < n)) (.chk (True) (.chk ((0 : Nat) < (1 : Nat)) (.chk (True) (.chk ((0 : Nat) < (1 : Nat)) (.know (okD (.int .i64) (ltZ v.1)) (.know (okD (.int .i64) (wrapZ (ltZ v.1) (vget (dz s_api_Lane) 4 t12 ((t13).toNat)).1)) (cond ((wrapZ (ltZ v.1) (vget (dz s_api_Lane) 4 t12 ((t13).toNat)).1) != (z ((vget (dz s_api_Lane) 4 t12 ((t13).toNat)).1))) (rt (vb false) []) (hd (r11_Valid_L0 v n t12 (IntKind.wrap .i64 (t13 + (1 : Int)))))))))))) (hd (r11_Valid_L0 v n t12 (IntKind.wrap .i64 (t13 + (1 : Int)))))))))))) (cond (decide (t13 < n)) (.chk (True) (.chk ((0 : Nat) < (1 : Nat)) (.chk (True) (.chk ((0 : Nat) < (1 : Nat)) (.know (okD (.int .i64) (ltZ v.1)) (.know (okD (.int .i64) (wrapZ (ltZ v.1) (vget (dz s_api_Lane) 4 t12 ((t13).toNat)).1)) (cond ((wrapZ (ltZ v.1) (vget (dz s_api_Lane) 4 t12 ((t13).toNat)).1) != (z ((vget (dz s_api_Lane) 4 t12 ((t13).toNat)).1))) (rt (vb false) []) (hd (r11_Valid_L0 v n t12 (IntKind.wrap .i64 (t13 + (1 : Int)))))))))))) (hd (r11_Valid_L0 v n t12 (IntKind.wrap .i64 (t13 + (1 : Int))))))))))))) (.chk ((0 : Nat) < (1 : Nat)) (cond (bOf (((vget (dz s_api_Lane) 4 t12 ((t13).toNat)).2).1)) (.chk ((0 : Nat) < (1 : Nat)) (cond ((z ((vget (dz s_api_Lane) 4 t12 ((t13).toNat)).1)) != (0 : Int)) (rt (vb false) []) (cond (decide (t13 ≥ n)) (.chk ((0 : Nat) < (1 : Nat)) (cond (bOf (((vget (dz s_api_Lane) 4 t12 ((t13).toNat)).2).1)) (rt (vb false) []) (.chk ((0 : Nat) < (1 : Nat)) (cond (bOf ((((vget (dz s_api_Lane) 4 t12 ((t13).toNat)).2).2).1)) (rt (vb false) []) (.chk ((0 : Nat) < (1 : Nat)) (cond ((z ((vget (dz s_api_Lane) 4 t12 ((t13).toNat)).1)) != (0 : Int)) (rt (vb false) []) (cond (decide (t13 < n)) (.chk (True) (.chk ((0 : Nat) < (1 : Nat)) (.chk (True) (.chk ((0 : Nat) < (1 : Nat)) (.know (okD (.int .i64) (ltZ v.1)) (.know (okD (.int .i64) (wrapZ (ltZ v.1) (vget (dz s_api_Lane) 4 t12 ((t13).toNat)).1)) (cond ((wrapZ (ltZ v.1) (vget (dz s_api_Lane) 4 t12 ((t13).toNat)).1) != (z ((vget (dz s_api_Lane) 4 t12 ((t13).toNat)).1))) (rt (vb false) []) (hd (r11_Valid_L0 v n t12 (IntKind.wrap .i64 (t13 + (1 : Int)))))))))))) (hd (r11_Valid_L0 v n t12 (IntKind.wrap .i64 (t13 + (1 : Int)))))))))))) (cond (decide (t13 < n)) (.chk (True) (.chk ((0 : Nat) < (1 : Nat)) (.chk (True) (.chk ((0 : Nat) < (1 : Nat)) (.know (okD (.int .i64) (ltZ v.1)) (.know (okD (.int .i64) (wrapZ (ltZ v.1) (vget (dz s_api_Lane) 4 t12 ((t13).toNat)).1)) (cond ((wrapZ (ltZ v.1) (vget (dz s_api_Lane) 4 t12 ((t13).toNat)).1) != (z ((vget (dz s_api_Lane) 4 t12 ((t13).toNat)).1))) (rt (vb false) []) (hd (r11_Valid_L0 v n t12 (IntKind.wrap .i64 (t13 + (1 : Int)))))))))))) (hd (r11_Valid_L0 v n t12 (IntKind.wrap .i64 (t13 + (1 : Int))))))))) (.chk ((0 : Nat) < (1 : Nat)) (cond (bOf ((((vget (dz s_api_Lane) 4 t12 ((t13).toNat)).2).2).1)) (.chk ((0 : Nat) < (1 : Nat)) (cond ((z ((vget (dz s_api_Lane) 4 t12 ((t13).toNat)).1)) != (0 : Int)) (rt (vb false) []) (cond (decide (t13 ≥ n)) (.chk ((0 : Nat) < (1 : Nat)) (cond (bOf (((vget (dz s_api_Lane) 4 t12 ((t13).toNat)).2).1)) (rt (vb false) []) (.chk ((0 : Nat) < (1 : Nat)) (cond (bOf ((((vget (dz s_api_Lane) 4 t12 ((t13).toNat)).2).2).1)) (rt (vb false) []) (.chk ((0 : Nat) < (1 : Nat)) (cond ((z ((vget (dz s_api_Lane) 4 t12 ((t13).toNat)).1)) != (0 : Int)) (rt (vb false) []) (cond (decide (t13 < n)) (.chk (True) (.chk ((0 : Nat) < (1 : Nat)) (.chk (True) (.chk ((0 : Nat) < (1 : Nat)) (.know (okD (.int .i64) (ltZ v.1)) (.know (okD (.int .i64) (wrapZ (ltZ v.1) (vget (dz s_api_Lane) 4 t12 ((t13).toNat)).1)) (cond ((wrapZ (ltZ v.1) (vget (dz s_api_Lane) 4 t12 ((t13).toNat)).1) != (z ((vget (dz s_api_Lane) 4 t12 ((t13).toNat)).1))) (rt (vb false) []) (hd (r11_Valid_L0 v n t12 (IntKind.wrap .i64 (t13 + (1 : Int)))))))))))) (hd (r11_Valid_L0 v n t12 (IntKind.wrap .i64 (t13 + (1 : Int)))))))))))) (cond (decide (t13 < n)) (.chk (True) (.chk ((0 : Nat) < (1 : Nat)) (.chk (True) (.chk ((0 : Nat) < (1 : Nat)) (.know (okD (.int .i64) (ltZ v.1)) (.know (okD (.int .i64) (wrapZ (ltZ v.1) (vget (dz s_api_Lane) 4 t12 ((t13).toNat)).1)) (cond ((wrapZ (ltZ v.1) (vget (dz s_api_Lane) 4 t12 ((t13).toNat)).1) != (z ((vget (dz s_api_Lane) 4 t12 ((t13).toNat)).1))) (rt (vb false) []) (hd (r11_Valid_L0 v n t12 (IntKind.wrap .i64 (t13 + (1 : Int)))))))))))) (hd (r11_Valid_L0 v n t12 (IntKind.wrap .i64 (t13 + (1 : Int))))))))) (cond (decide (t13 ≥ n)) (.chk ((0 : Nat) < (1 : Nat)) (cond (bOf (((vget (dz s_api_Lane) 4 t12 ((t13).toNat)).2).1)) (rt (vb false) []) (.chk ((0 : Nat) < (1 : Nat)) (cond (bOf ((((vget (dz s_api_Lane) 4 t12 ((t13).toNat)).2).2).1)) (rt (vb false) []) (.chk ((0 : Nat) < (1 : Nat)) (cond ((z ((vget (dz s_api_Lane) 4 t12 ((t13).toNat)).1)) != (0 : Int)) (rt (vb false) []) (cond (decide (t13 < n)) (.chk (True) (.chk ((0 : Nat) < (1 : Nat)) (.chk (True) (.chk ((0 : Nat) < (1 : Nat)) (.know (okD (.int .i64) (ltZ v.1)) (.know (okD (.int .i64) (wrapZ (ltZ v.1) (vget (dz s_api_Lane) 4 t12 ((t13).toNat)).1)) (cond ((wrapZ (ltZ v.1) (vget (dz s_api_Lane) 4 t12 ((t13).toNat)).1) != (z ((vget (dz s_api_Lane) 4 t12 ((t13).toNat)).1))) (rt (vb false) []) (hd (r11_Valid_L0 v n t12 (IntKind.wrap .i64 (t13 + (1 : Int)))))))))))) (hd (r11_Valid_L0 v n t12 (IntKind.wrap .i64 (t13 + (1 : Int)))))))))))) (cond (decide (t13 < n)) (.chk (True) (.chk ((0 : Nat) < (1 : Nat)) (.chk (True) (.chk ((0 : Nat) < (1 : Nat)) (.know (okD (.int .i64) (ltZ v.1)) (.know (okD (.int .i64) (wrapZ (ltZ v.1) (vget (dz s_api_Lane) 4 t12 ((t13).toNat)).1)) (cond ((wrapZ (ltZ v.1) (vget (dz s_api_Lane) 4 t12 ((t13).toNat)).1) != (z ((vget (dz s_api_Lane) 4 t12 ((t13).toNat)).1))) (rt (vb false) []) (hd (r11_Valid_L0 v n t12 (IntKind.wrap .i64 (t13 + (1 : Int)))))))))))) (hd (r11_Valid_L0 v n t12 (IntKind.wrap .i64 (t13 + (1 : Int))))))))))))))) (cond ((z v.1) != (5 : Int)) (rt (vb ((z v.2.1) == (0 : Int))) []) (.chk (0 ≤ (0 : Int) ∧ (0 : Int) < (4 : Nat)) (cond (bOf v.2.2.1.1.2.1) (rt (vb ((z v.2.1) == (0 : Int))) []) (rt (vb (decide ((z v.2.1) ≥ (-1 : Int)))) []))))) := by kernel_rfl
abbrev Val := Den s_api_Value
def valP (v : Den s_api_Value) : ValP := ⟨v.1, v.2.1, laneP v.2.2.1.1, laneP v.2.2.1.2.1, laneP v.2.2.1.2.2.1, laneP v.2.2.1.2.2.2.1⟩
def vValid (v : Den s_api_Value) : Bool := validB (valP v)
def objB (t o : Int) (p : Bool) : Bool := if t == 5 && !p then decide (o ≥ -1) else o == 0
def lnB (t n : Int) (i : Nat) (l : Den s_api_Lane) : Bool := if (i : Int) < n then laneB t (laneP l) else noneB (laneP l)
theorem vValid_eq (v : Den s_api_Value) : vValid v = (nlZ v.1 != 0 && (lnB (ltZ v.1) (nlZ v.1) 0 v.2.2.1.1 && (lnB (ltZ v.1) (nlZ v.1) 1 v.2.2.1.2.1 && (lnB (ltZ v.1) (nlZ v.1) 2 v.2.2.1.2.2.1 && (lnB (ltZ v.1) (nlZ v.1) 3 v.2.2.1.2.2.2.1 && objB v.1 v.2.1 v.2.2.1.1.2.1))))) := by
  simp only [vValid, validB, lanesB, valP, ValP.lanes, lnB, objB, Bool.and_assoc, Bool.and_true]
  rfl
theorem wrapI (i : Nat) (h : i < 4) : IntKind.wrap .i64 ((i : Int) + 1) = ((i + 1 : Nat) : Int) := by
  have : i = 0 ∨ i = 1 ∨ i = 2 ∨ i = 3 := by omega
  rcases this with rfl | rfl | rfl | rfl <;> rfl
theorem wrapZ_0 (t : Int) : wrapZ t 0 = 0 := by
  rcases tcases t with rfl | rfl | rfl | rfl | h <;> first | rfl | simp [wrap_other h]
theorem value_Valid_s (v : Den s_api_Value) (n : Int) (l : Den (.arr 4 s_api_Lane)) (i : Nat) (hi : i < 4) (r : Bool) (hn : Runs E_V4 (value_Valid_L0 v n l ((i + 1 : Nat) : Int)) (fun x h => x = vb r ∧ h = [])) :
    Runs E_V4 (value_Valid_L0 v n l i) (fun x h => x = vb (lnB (ltZ v.1) n i (vget (dz s_api_Lane) 4 l i) && r) ∧ h = []) := .tree E_V4_ok (value_Valid_L0_t _ _ _ _) (by
  simp only [wp_iff, chk_iff, know_iff, any_iff, rt_iff, hd_iff, true_imp_iff, true_and, and_true, and_self, lt01,  wrapI i hi, Int.toNat_natCast]
  unfold lnB
  generalize vget (dz s_api_Lane) 4 l i = x
  obtain ⟨a, p, u, _⟩ : Int × Bool × Bool × Unit := x
  have h4 : (i : Int) < 4 := by omega
  simp only [h4, decide_true, laneB, noneB, lanB, laneP]
  by_cases hin : (i : Int) < n
  · have : ¬ (i : Int) ≥ n := by omega
    simp only [hin, this, if_true, decide_true, decide_false, forall_const, true_imp_iff, Bool.true_eq_false, Bool.false_eq_true, false_imp_iff, true_and, and_true]
    refine ⟨⟨by omega, by omega⟩, fun _ => ?_⟩
    exact ite_step' hn
  · have : (i : Int) ≥ n := by omega
    simp only [hin, this, if_false, decide_true, decide_false, forall_const, true_imp_iff, Bool.true_eq_false, Bool.false_eq_true, false_imp_iff, true_and, and_true]
    refine ⟨⟨by omega, by omega⟩, fun _ => ?_⟩
    have : (z a == 0 && (bOf p == false && (bOf u == false && true))) = (a == 0 && !p && !u) := by
      show (a == 0 && (p == false && (u == false && true))) = (a == 0 && !p && !u)
      cases p <;> cases u <;> simp
    rw [this]
    exact ite_step hn)
theorem value_Valid_e (v : Den s_api_Value) (n : Int) (l : Den (.arr 4 s_api_Lane)) : Runs E_V4 (value_Valid_L0 v n l ((4 : Nat) : Int)) (fun x h => x = vb (objB v.1 v.2.1 v.2.2.1.1.2.1) ∧ h = []) := .tree E_V4_ok (value_Valid_L0_t _ _ _ _) (by
  simp only [wp_iff, chk_iff, know_iff, any_iff, rt_iff, hd_iff, true_imp_iff, true_and, and_true, and_self, lt01]
  have : ¬ ((4 : Nat) : Int) < 4 := by omega
  simp only [this, decide_false, Bool.false_eq_true, false_imp_iff, true_imp_iff, true_and]
  unfold objB
  obtain ⟨t, o, ⟨⟨a, p, u, _⟩, r⟩, _⟩ : Int × Int × ((Int × Bool × Bool × Unit) × _) × Unit := v
  simp only [z, bOf]
  by_cases h5 : t = 5
  · cases p <;> simp [h5]
  · simp [h5])
def k_value_Valid : Con := con [.d s_api_Value] .bool (fun x => True) fun x => vValid x.1
theorem m_value_Valid (v : Den s_api_Value) (h_v : okD s_api_Value v) (hp : True) : Runs E_V4 (start E_V4 f_value_Valid [(.tv s_api_Value v)]) (fun r_ h_ => r_ = (vb (vValid v)) ∧ h_ = []) := .tree E_V4_ok (value_Valid_t v) (by
  rw [vValid_eq]
  generalize hn : nlZ v.1 = n
  simp only [wp_iff, chk_iff, know_iff, any_iff, rt_iff, hd_iff, true_imp_iff, true_and, and_true, and_self, lt01]
  refine fun _ => ⟨fun h => ?_, fun h => ?_⟩
  · have : n = 0 := by simpa using h
    rw [this]
    rfl
  · have hne : (n != 0) = true := by simpa using h
    have h4 := value_Valid_e v n v.2.2.1
    have h3 := value_Valid_s v n v.2.2.1 3 (by omega) _ h4
    have h2 := value_Valid_s v n v.2.2.1 2 (by omega) _ h3
    have h1 := value_Valid_s v n v.2.2.1 1 (by omega) _ h2
    have h0 := value_Valid_s v n v.2.2.1 0 (by omega) _ h1
    rw [hne, Bool.true_and]
    exact h0)
theorem c_value_Valid : SpecOK E_V4 f_value_Valid k_value_Valid.spec := spec_of fun x hx hp => ⟨rfl, m_value_Valid x.1 hx.1 hp⟩
theorem r11_Valid_s (v : Den s_api_Value) (n : Int) (l : Den (.arr 4 s_api_Lane)) (i : Nat) (hi : i < 4) (r : Bool) (hn : Runs E_V4 (r11_Valid_L0 v n l ((i + 1 : Nat) : Int)) (fun x h => x = vb r ∧ h = [])) :
    Runs E_V4 (r11_Valid_L0 v n l i) (fun x h => x = vb (lnB (ltZ v.1) n i (vget (dz s_api_Lane) 4 l i) && r) ∧ h = []) := .tree E_V4_ok (r11_Valid_L0_t _ _ _ _) (by
  simp only [wrapI i hi, Int.toNat_natCast]
  unfold lnB
  generalize vget (dz s_api_Lane) 4 l i = x
  obtain ⟨a, p, u, _⟩ : Int × Bool × Bool × Unit := x
  have h4 : (i : Int) < 4 := by omega
  have hc : (0 : Int) ≤ (i : Int) ∧ (i : Int) < ((4 : Nat) : Int) := by omega
  simp only [h4, decide_true, laneB, noneB, lanB, laneP]
  show Tre.wp _ _
  cases p <;> cases u <;> (by_cases ha : a = 0) <;> (by_cases hin : (i : Int) < n) <;>
  · first | have hge : ¬ (i : Int) ≥ n := (by omega) | have hge : (i : Int) ≥ n := (by omega)
    simp only [z, bOf, ha, hin, hge, wrapZ_0, cond_true, cond_false, decide_true, decide_false, wp_iff, chk_iff, know_iff, rt_iff, hd_iff]
    simp [hc, hn, wrapZ_0]
    try grind)
theorem r11_Valid_e (v : Den s_api_Value) (n : Int) (l : Den (.arr 4 s_api_Lane)) : Runs E_V4 (r11_Valid_L0 v n l ((4 : Nat) : Int)) (fun x h => x = vb (objB v.1 v.2.1 v.2.2.1.1.2.1) ∧ h = []) := .tree E_V4_ok (r11_Valid_L0_t _ _ _ _) (by
  simp only [wp_iff, chk_iff, know_iff, any_iff, rt_iff, hd_iff, true_imp_iff, true_and, and_true, and_self, lt01]
  have : ¬ ((4 : Nat) : Int) < 4 := by omega
  simp only [this, decide_false, Bool.false_eq_true, false_imp_iff, true_imp_iff, true_and]
  unfold objB
  obtain ⟨t, o, ⟨⟨a, p, u, _⟩, r⟩, _⟩ : Int × Int × ((Int × Bool × Bool × Unit) × _) × Unit := v
  simp only [z, bOf]
  by_cases h5 : t = 5
  · cases p <;> simp [h5]
  · simp [h5])
def k_r11_Valid : Con := con [.d s_api_Value] .bool (fun x => True) fun x => vValid x.1
theorem m_r11_Valid (v : Den s_api_Value) (h_v : okD s_api_Value v) (hp : True) : Runs E_V4 (start E_V4 f_r11_Valid [(.tv s_api_Value v)]) (fun r_ h_ => r_ = (vb (vValid v)) ∧ h_ = []) := .tree E_V4_ok (r11_Valid_t v) (by
  rw [vValid_eq]
  generalize hn : nlZ v.1 = n
  simp only [wp_iff, chk_iff, know_iff, any_iff, rt_iff, hd_iff, true_imp_iff, true_and, and_true, and_self, lt01]
  refine fun _ => ⟨fun h => ?_, fun h => ?_⟩
  · have : n = 0 := by simpa using h
    rw [this]
    rfl
  · have hne : (n != 0) = true := by simpa using h
    have h4 := r11_Valid_e v n v.2.2.1
    have h3 := r11_Valid_s v n v.2.2.1 3 (by omega) _ h4
    have h2 := r11_Valid_s v n v.2.2.1 2 (by omega) _ h3
    have h1 := r11_Valid_s v n v.2.2.1 1 (by omega) _ h2
    have h0 := r11_Valid_s v n v.2.2.1 0 (by omega) _ h1
    rw [hne, Bool.true_and]
    exact h0)
theorem c_r11_Valid : SpecOK E_V4 f_r11_Valid k_r11_Valid.spec := spec_of fun x hx hp => ⟨rfl, m_r11_Valid x.1 hx.1 hp⟩
def L_V4 : List (FuncId × FSpec) := [(f_value_Valid, k_value_Valid.spec), (f_r11_Valid, k_r11_Valid.spec)] ++ L_V3
theorem L_V4_ok : ∀ x ∈ L_V4, SpecOK (ctx []) x.1 x.2 := by
  unfold L_V4
  simp only [List.cons_append, List.nil_append, List.forall_mem_cons]
  exact ⟨c_value_Valid, c_r11_Valid, L_V3_ok⟩
end Burn.M19
namespace Burn.M19
open Go Go.BE Go.Proofs
set_option maxRecDepth 100000
set_option linter.unusedVariables false
set_option linter.unusedSimpArgs false
open Burn.Intn Burn.Ref
noncomputable abbrev E_V5 : Ctx := ctx L_V4
theorem E_V5_ok : EOK E_V5 := ctx_ok L_V4_ok
def cuts_V5 : FuncId → Nat → List Nat × List (Wh × Fx)
  | 28, 0 => ([2, 3, 23, 24], [])
  | 29, 0 => ([2, 3, 5], [])
  | _, _ => ([], [])
def rets_V5 : FuncId → List (Option Sh)
  | _ => []
def H_V5 : Hints := ⟨cuts_V5, rets_V5⟩
noncomputable def value_Refines_L0 (a : Den s_api_Value) (b : Den s_api_Value) (t23 : Int) (t24 : Int) : Cfg := hcfg E_V5 f_value_Refines 0 [(2, (.rtp s_api_Value a)), (3, (.rtp s_api_Value b)), (23, (vi t23)), (24, (vi t24))] [] 0
theorem value_Refines_t (a : Den s_api_Value) (b : Den s_api_Value) : run E_V5 H_V5 f_value_Refines 3000 (start E_V5 f_value_Refines [(.tv s_api_Value a), (.tv s_api_Value b)]) = (.chk (True) (.know True (cond (!(vValid a)) (rt (vb false) []) (.chk (True) (.know True (cond (!(vValid b)) (rt (vb false) []) (cond ((z a.1) != (z b.1)) (rt (vb false) []) (.chk (True) (.know (okD (.int .i64) (nlZ a.1)) (hd (value_Refines_L0 a b (nlZ a.1) (0 : Int)))))))))))) := by kernel_rfl
theorem value_Refines_L0_t (a : Den s_api_Value) (b : Den s_api_Value) (t23 : Int) (t24 : Int) : run E_V5 H_V5 f_value_Refines 3000 (value_Refines_L0 a b t23 t24) = (cond (decide (t24 < t23)) (.chk (0 ≤ t24 ∧ t24 < (4 : Nat)) (.chk (0 ≤ t24 ∧ t24 < (4 : Nat)) (.chk (True) (.know True (cond (!(refL (vget (dz s_api_Lane) 4 a.2.2.1 ((t24).toNat)) (vget (dz s_api_Lane) 4 b.2.2.1 ((t24).toNat)))) (rt (vb false) []) (hd (value_Refines_L0 a b t23 (IntKind.wrap .i64 (t24 + (1 : Int)))))))))) (cond ((z a.1) != (5 : Int)) (rt (vb true) []) (.chk (0 ≤ (0 : Int) ∧ (0 : Int) < (4 : Nat)) (cond (bOf b.2.2.1.1.2.1) (rt (vb true) []) (rt (vb ((z a.2.1) == (z b.2.1))) []))))) := by kernel_rfl
noncomputable def r11_Refines_L0 (a : Den s_api_Value) (b : Den s_api_Value) (i : Int) : Cfg := hcfg E_V5 f_r11_Refines 0 [(2, (.rtp s_api_Value a)), (3, (.rtp s_api_Value b)), (5, (vi i))] [] 0
theorem r11_Refines_t (a : Den s_api_Value) (b : Den s_api_Value) : run E_V5 H_V5 f_r11_Refines 3000 (start E_V5 f_r11_Refines [(.tv s_api_Value a), (.tv s_api_Value b)]) = (.chk (True) (.know True (cond (!(vValid a)) (rt (vb false) []) (.chk (True) (.know True (cond (!(vValid b)) (rt (vb false) []) (cond ((z a.1) != (z b.1)) (rt (vb false) []) (hd (r11_Refines_L0 a b (0 : Int)))))))))) := by kernel_rfl
theorem r11_Refines_L0_t (a : Den s_api_Value) (b : Den s_api_Value) (i : Int) : run E_V5 H_V5 f_r11_Refines 3000 (r11_Refines_L0 a b i) = (.chk (True) (.know (okD (.int .i64) (nlZ a.1)) (cond (decide (i < (nlZ a.1))) (.chk (0 ≤ i ∧ i < (4 : Nat)) (.chk (0 ≤ i ∧ i < (4 : Nat)) (.chk (True) (.know True (cond (!(refL (vget (dz s_api_Lane) 4 a.2.2.1 ((i).toNat)) (vget (dz s_api_Lane) 4 b.2.2.1 ((i).toNat)))) (rt (vb false) []) (hd (r11_Refines_L0 a b (IntKind.wrap .i64 (i + (1 : Int)))))))))) (.chk (0 ≤ (0 : Int) ∧ (0 : Int) < (4 : Nat)) (cond (bOf b.2.2.1.1.2.1) (rt (vb true) []) (rt (vb ((z a.2.1) == (z b.2.1))) [])))))) := by kernel_rfl
def lnR (a b : Den s_api_Value) (j : Nat) : Bool := refL (vget (dz s_api_Lane) 4 a.2.2.1 j) (vget (dz s_api_Lane) 4 b.2.2.1 j)
def tlR (a b : Den s_api_Value) : Bool := z a.1 != 5 || bOf b.2.2.1.1.2.1 || z a.2.1 == z b.2.1
def vRef (a b : Den s_api_Value) : Bool := vValid a && vValid b && z a.1 == z b.1 && (List.range (nlZ a.1).toNat).all (lnR a b) && tlR a b
theorem nlZ_cases (t : Int) : nlZ t = 0 ∨ nlZ t = 1 ∨ nlZ t = 2 ∨ nlZ t = 4 := by unfold nlZ; grind
theorem nl_nat (t : Int) : ∃ n : Nat, nlZ t = n ∧ n ≤ 4 := by
  rcases nlZ_cases t with h | h | h | h
  · exact ⟨0, h, by omega⟩
  · exact ⟨1, h, by omega⟩
  · exact ⟨2, h, by omega⟩
  · exact ⟨4, h, by omega⟩
theorem obj0 {v : Den s_api_Value} (h : vValid v = true) (h5 : z v.1 ≠ 5) : z v.2.1 = 0 := by
  rw [vValid_eq] at h
  simp only [Bool.and_eq_true] at h
  have := h.2.2.2.2.2
  unfold objB at this
  have h5' : ((z v.1) == (5 : Int)) = false := by simpa using h5
  have this : (if ((z v.1) == (5 : Int)) && !bOf v.2.2.1.1.2.1 then decide ((z v.2.1) ≥ -1) else (z v.2.1) == 0) = true := this
  rw [h5'] at this
  simpa using this
theorem value_Refines_l (a b : Den s_api_Value) (n : Nat) (hn : n ≤ 4) : ∀ k i : Nat, i + k = n → Runs E_V5 (value_Refines_L0 a b n i) (fun x h => x = vb (((List.range n).drop i).all (lnR a b) && tlR a b) ∧ h = []) := by
  intro k
  induction k with
  | zero =>
    intro i hi
    refine .tree E_V5_ok (value_Refines_L0_t _ _ _ _) ?_
    simp only [wp_iff, chk_iff, know_iff, any_iff, rt_iff, hd_iff, true_imp_iff, true_and, and_true, and_self, lt01]
    have h1 : ¬ (i : Int) < n := by omega
    have h2 : (List.range n).drop i = [] := by simp; omega
    simp only [h1, h2, decide_false, Bool.false_eq_true, false_imp_iff, true_imp_iff, true_and, List.all_nil, Bool.true_and, tlR]
    refine ⟨fun h => by rw [h]; rfl, fun h => ⟨by decide, fun _ => ⟨fun hp => by rw [hp]; simp, fun hp => by rw [h, hp]; simp⟩⟩⟩
  | succ k ih =>
    intro i hi
    refine .tree E_V5_ok (value_Refines_L0_t _ _ _ _) ?_
    have h1 : (i : Int) < n := by omega
    have h3 : (0 : Int) ≤ i ∧ (i : Int) < ((4 : Nat) : Int) := by omega
    simp only [wp_iff, chk_iff, know_iff, any_iff, rt_iff, hd_iff, true_imp_iff, true_and, and_true, and_self, lt01,  h1, h3, drop_range (show i < n by omega), decide_true, Bool.true_eq_false, false_imp_iff, List.all_cons, wrapI i (by omega), Int.toNat_natCast]
    have := ite_step (b := lnR a b i) (ih (i + 1) (by omega))
    rw [Bool.and_assoc]
    exact this
def k_value_Refines : Con := con [.d s_api_Value, .d s_api_Value] .bool (fun x => True) fun x => vRef x.1 x.2.1
theorem m_value_Refines (a : Den s_api_Value) (b : Den s_api_Value) (h_a : okD s_api_Value a) (h_b : okD s_api_Value b) (hp : True) : Runs E_V5 (start E_V5 f_value_Refines [(.tv s_api_Value a), (.tv s_api_Value b)]) (fun r_ h_ => r_ = (vb (vRef a b)) ∧ h_ = []) := .tree E_V5_ok (value_Refines_t a b) (by
  unfold vRef
  simp only [wp_iff, chk_iff, know_iff, any_iff, rt_iff, hd_iff, true_imp_iff, true_and, and_true, and_self, lt01]
  refine ⟨fun h => ?_, fun ha => ⟨fun h => ?_, fun hb => ⟨fun h => ?_, fun ht hk => ?_⟩⟩⟩
  · simp only [Bool.not_eq_true'] at h; rw [h]; simp
  · simp only [Bool.not_eq_true'] at h; rw [h]; simp
  · have : (z a.1 == z b.1) = false := by simpa using h
    rw [this]; simp
  · obtain ⟨n, hn, hle⟩ := nl_nat a.1
    have ha' : vValid a = true := by simpa using ha
    have hb' : vValid b = true := by simpa using hb
    have ht' : (z a.1 == z b.1) = true := by simpa using ht
    rw [hn, ha', hb', ht', Int.toNat_natCast]
    simpa using value_Refines_l a b n hle n 0 (by omega))
theorem c_value_Refines : SpecOK E_V5 f_value_Refines k_value_Refines.spec := spec_of fun x hx hp => ⟨rfl, m_value_Refines x.1 x.2.1 hx.1 hx.2.1 hp⟩
theorem r11_Refines_l (a b : Den s_api_Value) (n : Nat) (hn : n ≤ 4) (hnl : nlZ a.1 = n) (ht : z a.1 ≠ 5 → z a.2.1 = z b.2.1) : ∀ k i : Nat, i + k = n → Runs E_V5 (r11_Refines_L0 a b i) (fun x h => x = vb (((List.range n).drop i).all (lnR a b) && tlR a b) ∧ h = []) := by
  intro k
  induction k with
  | zero =>
    intro i hi
    refine .tree E_V5_ok (r11_Refines_L0_t _ _ _) ?_
    rw [hnl]
    simp only [wp_iff, chk_iff, know_iff, any_iff, rt_iff, hd_iff, true_imp_iff, true_and, and_true, and_self, lt01]
    have h1 : ¬ (i : Int) < n := by omega
    have h2 : (List.range n).drop i = [] := by simp; omega
    simp only [h1, h2, decide_false, Bool.false_eq_true, false_imp_iff, true_imp_iff, true_and, List.all_nil, Bool.true_and, tlR]
    refine fun _ => ⟨by decide, fun _ => ⟨fun hp => by rw [hp]; simp, fun hp => ?_⟩⟩
    rw [hp]
    by_cases h5 : z a.1 = 5
    · simp [h5]
    · simp [ht h5]
  | succ k ih =>
    intro i hi
    refine .tree E_V5_ok (r11_Refines_L0_t _ _ _) ?_
    rw [hnl]
    have h1 : (i : Int) < n := by omega
    have h3 : (0 : Int) ≤ i ∧ (i : Int) < ((4 : Nat) : Int) := by omega
    simp only [wp_iff, chk_iff, know_iff, any_iff, rt_iff, hd_iff, true_imp_iff, true_and, and_true, and_self, lt01,  h1, h3, drop_range (show i < n by omega), decide_true, Bool.true_eq_false, false_imp_iff, List.all_cons, wrapI i (by omega), Int.toNat_natCast]
    have := ite_step (b := lnR a b i) (ih (i + 1) (by omega))
    rw [Bool.and_assoc]
    exact fun _ => this
def k_r11_Refines : Con := con [.d s_api_Value, .d s_api_Value] .bool (fun x => True) fun x => vRef x.1 x.2.1
theorem m_r11_Refines (a : Den s_api_Value) (b : Den s_api_Value) (h_a : okD s_api_Value a) (h_b : okD s_api_Value b) (hp : True) : Runs E_V5 (start E_V5 f_r11_Refines [(.tv s_api_Value a), (.tv s_api_Value b)]) (fun r_ h_ => r_ = (vb (vRef a b)) ∧ h_ = []) := .tree E_V5_ok (r11_Refines_t a b) (by
  unfold vRef
  simp only [wp_iff, chk_iff, know_iff, any_iff, rt_iff, hd_iff, true_imp_iff, true_and, and_true, and_self, lt01]
  refine ⟨fun h => ?_, fun ha => ⟨fun h => ?_, fun hb => ⟨fun h => ?_, fun ht => ?_⟩⟩⟩
  · simp only [Bool.not_eq_true'] at h; rw [h]; simp
  · simp only [Bool.not_eq_true'] at h; rw [h]; simp
  · have : (z a.1 == z b.1) = false := by simpa using h
    rw [this]; simp
  · obtain ⟨n, hn, hle⟩ := nl_nat a.1
    have ha' : vValid a = true := by simpa using ha
    have hb' : vValid b = true := by simpa using hb
    have ht' : (z a.1 == z b.1) = true := by simpa using ht
    have ht2 : z a.1 = z b.1 := by simpa using ht
    rw [hn, ha', hb', ht', Int.toNat_natCast]
    simpa using r11_Refines_l a b n hle hn (fun h => by rw [obj0 ha' h, obj0 hb' (ht2 ▸ h)]) n 0 (by omega))
theorem c_r11_Refines : SpecOK E_V5 f_r11_Refines k_r11_Refines.spec := spec_of fun x hx hp => ⟨rfl, m_r11_Refines x.1 x.2.1 hx.1 hx.2.1 hp⟩
def L_V5 : List (FuncId × FSpec) := [(f_value_Refines, k_value_Refines.spec), (f_r11_Refines, k_r11_Refines.spec)] ++ L_V4
theorem L_V5_ok : ∀ x ∈ L_V5, SpecOK (ctx []) x.1 x.2 := by
  unfold L_V5
  simp only [List.cons_append, List.nil_append, List.forall_mem_cons]
  exact ⟨c_value_Refines, c_r11_Refines, L_V4_ok⟩
end Burn.M19
namespace Burn.M19
open Go Go.BE Go.Proofs
set_option maxRecDepth 100000
set_option linter.unusedVariables false
set_option linter.unusedSimpArgs false
open Burn.Intn Burn.Ref
noncomputable abbrev E_R1 : Ctx := ctx L_V5
theorem E_R1_ok : EOK E_R1 := ctx_ok L_V5_ok
def cuts_R1 : FuncId → Nat → List Nat × List (Wh × Fx)
  | 18, 0 => ([0, 1, 4, 5, 6], [])
  | _, _ => ([], [])
def rets_R1 : FuncId → List (Option Sh)
  | 18 => [some s_api_Value]
  | 39 => [some s_api_Lane]
  | 43 => [some s_api_Lane]
  | _ => []
def H_R1 : Hints := ⟨cuts_R1, rets_R1⟩
theorem refine_Values_cl1_t (x : Den s_api_Value) (y : Den s_api_Value) : run E_R1 H_R1 f_refine_Values_cl1 3000 (start E_R1 f_refine_Values_cl1 [(.tv s_api_Value x), (.tv s_api_Value y)]) = (.chk (True) (.know True (rt (vb (vRef x y)) []))) := by kernel_rfl
theorem value_Int_cl1_t (x : Int) (x' : Int) (x'' : Int) : run E_R1 H_R1 f_value_Int_cl1 3000 (start E_R1 f_value_Int_cl1 [(vi x), (.rop [(vi x')] 0), (.rop [(vi x'')] 0)]) = (.chk (True) (.chk (True) (.chk ((0 : Nat) < (1 : Nat)) (.know (okD (.int .i64) (ltZ x')) (.know (okD (.int .i64) (wrapZ (ltZ x') x'')) (.chk ((0 : Nat) < (1 : Nat)) (rt (.tv s_api_Lane ((wrapZ (ltZ x') x''), false, false, ())) []))))))) := by kernel_rfl
theorem value_Poison_cl1_t (x : Int) : run E_R1 H_R1 f_value_Poison_cl1 3000 (start E_R1 f_value_Poison_cl1 [(vi x)]) = (.chk ((0 : Nat) < (1 : Nat)) (.chk ((0 : Nat) < (1 : Nat)) (rt (.tv s_api_Lane (((0 : Int), true, false, ()))) []))) := by kernel_rfl
noncomputable def r11_Int_L0 (t : Int) (n : Int) (i : Int) (t4 : Den s_api_Value) (v : Den s_api_Value) : Cfg := hcfg E_R1 f_r11_Int 0 [(0, (vi t)), (1, (vi n)), (4, (.tref 0 0 [] (0 : Nat) [])), (5, (.tref 1 1 [] (0 : Nat) [])), (6, (vi i))] [(0, ⟨(.arr 0 80 s_api_Value ([t4] : List (Den s_api_Value))), 0, [], false, none⟩), (1, ⟨(.arr 0 80 s_api_Value ([v] : List (Den s_api_Value))), 1, [], false, none⟩)] 2
theorem r11_Int_t (t : Int) (n : Int) : run E_R1 H_R1 f_r11_Int 3000 (start E_R1 f_r11_Int [(vi t), (vi n)]) = (.chk (True) (.know True (cond (!(isI t)) (cond (t != (6 : Int)) (cond (t != (7 : Int)) (.chk ((0 : Nat) < (1 : Nat)) (.chk ((0 : Nat) < (1 : Nat)) (rt (.tv s_api_Value ((0 : Int), (0 : Int), (((0 : Int), false, false, ()), (((0 : Int), false, false, ()), (((0 : Int), false, false, ()), (((0 : Int), false, false, ()), ())))), ())) []))) (.chk ((0 : Nat) < (1 : Nat)) (hd (r11_Int_L0 t n (0 : Int) ((0 : Int), (0 : Int), (((0 : Int), false, false, ()), (((0 : Int), false, false, ()), (((0 : Int), false, false, ()), (((0 : Int), false, false, ()), ())))), ()) (t, (0 : Int), (((0 : Int), false, false, ()), (((0 : Int), false, false, ()), (((0 : Int), false, false, ()), (((0 : Int), false, false, ()), ())))), ()))))) (.chk ((0 : Nat) < (1 : Nat)) (hd (r11_Int_L0 t n (0 : Int) ((0 : Int), (0 : Int), (((0 : Int), false, false, ()), (((0 : Int), false, false, ()), (((0 : Int), false, false, ()), (((0 : Int), false, false, ()), ())))), ()) (t, (0 : Int), (((0 : Int), false, false, ()), (((0 : Int), false, false, ()), (((0 : Int), false, false, ()), (((0 : Int), false, false, ()), ())))), ()))))) (.chk ((0 : Nat) < (1 : Nat)) (hd (r11_Int_L0 t n (0 : Int) ((0 : Int), (0 : Int), (((0 : Int), false, false, ()), (((0 : Int), false, false, ()), (((0 : Int), false, false, ()), (((0 : Int), false, false, ()), ())))), ()) (t, (0 : Int), (((0 : Int), false, false, ()), (((0 : Int), false, false, ()), (((0 : Int), false, false, ()), (((0 : Int), false, false, ()), ())))), ()))))))) := by kernel_rfl
theorem r11_Int_L0_t (t : Int) (n : Int) (i : Int) (t4 : Den s_api_Value) (v : Den s_api_Value) : run E_R1 H_R1 f_r11_Int 3000 (r11_Int_L0 t n i t4 v) = (.chk (True) (.know (okD (.int .i64) (nlZ t)) (cond (decide (i < (nlZ t))) (.chk (True) (.know (okD (.int .i64) (ltZ t)) (.chk (True) (.know (okD (.int .i64) (wrapZ (ltZ t) n)) (.chk (0 ≤ i ∧ i < (4 : Nat)) (.chk ((0 : Nat) < (1 : Nat)) (.chk ((i).toNat < 4) (hd (r11_Int_L0 t n (IntKind.wrap .i64 (i + (1 : Int))) t4 (v.1, v.2.1, (vset 4 v.2.2.1 ((i).toNat) ((wrapZ (ltZ t) n), (vget (dz s_api_Lane) 4 v.2.2.1 ((i).toNat)).2)), v.2.2.2)))))))))) (.chk ((0 : Nat) < (1 : Nat)) (.chk ((0 : Nat) < (1 : Nat)) (.chk ((0 : Nat) < (1 : Nat)) (rt (.tv s_api_Value v) []))))))) := by kernel_rfl
abbrev Lane := Den s_api_Lane
def zl : Lane := ((0 : Int), false, false, ())
def lanesK (l : Lane) (k : Nat) : Den (.arr 4 s_api_Lane) := (if 0 < k then l else zl, if 1 < k then l else zl, if 2 < k then l else zl, if 3 < k then l else zl, ())
def mkV (t : Int) (l : Lane) : Val := (t, (0 : Int), lanesK l (nlZ t).toNat, ())
def intL (t n : Int) : Lane := (wrapZ (ltZ t) n, false, false, ())
def intL3 (_ t n : Int) : Lane := intL t n
def poisL : Lane := ((0 : Int), true, false, ())
def poisL1 (_ : Int) : Lane := poisL
def mkInt (t c n : Int) : Val := mkV t (intL c n)
def mkPois (t : Int) : Val := mkV t poisL
def intOK (t : Int) : Bool := isI t || t == 6 || t == 7
def intV (t n : Int) : Val := if intOK t then mkV t (intL t n) else dz s_api_Value
def poisV (t : Int) : Val := if nlZ t == 0 then dz s_api_Value else mkV t poisL
theorem lanesK_set (l : Lane) (k : Nat) (hk : k < 4) : vset 4 (lanesK l k) k l = lanesK l (k + 1) := by
  have : k = 0 ∨ k = 1 ∨ k = 2 ∨ k = 3 := by omega
  rcases this with rfl | rfl | rfl | rfl <;> rfl
theorem lanesK_get (l : Lane) (k : Nat) (hk : k < 4) : vget (dz s_api_Lane) 4 (lanesK l k) k = zl := by
  have : k = 0 ∨ k = 1 ∨ k = 2 ∨ k = 3 := by omega
  rcases this with rfl | rfl | rfl | rfl <;> rfl

def k_refine_Values_cl1 : Con := con [.d s_api_Value, .d s_api_Value] .bool (fun x => True) fun x => vRef x.1 x.2.1
theorem m_refine_Values_cl1 (x : Den s_api_Value) (y : Den s_api_Value) (h_x : okD s_api_Value x) (h_y : okD s_api_Value y) (hp : True) : Runs E_R1 (start E_R1 f_refine_Values_cl1 [(.tv s_api_Value x), (.tv s_api_Value y)]) (fun r_ h_ => r_ = (vb (vRef x y)) ∧ h_ = []) := .tree E_R1_ok (refine_Values_cl1_t x y) (by
  simp only [wp_iff, chk_iff, know_iff, any_iff, rt_iff, hd_iff, true_imp_iff, true_and, and_true, and_self, lt01])
theorem c_refine_Values_cl1 : SpecOK E_R1 f_refine_Values_cl1 k_refine_Values_cl1.spec := spec_of fun x hx hp => ⟨rfl, m_refine_Values_cl1 x.1 x.2.1 hx.1 hx.2.1 hp⟩

def k_value_Int_cl1 : Con := con [.d I, .cap I, .cap I] s_api_Lane (fun x => True) fun x => intL3 x.1 x.2.1 x.2.2.1
theorem m_value_Int_cl1 (x : Int) (x' : Int) (x'' : Int) (h_x : okD I x) (h_x' : okD I x') (h_x'' : okD I x'') (hp : True) : Runs E_R1 (start E_R1 f_value_Int_cl1 [(vi x), (.rop [(vi x')] 0), (.rop [(vi x'')] 0)]) (fun r_ h_ => r_ = (.tv s_api_Lane (intL3 x x' x'')) ∧ h_ = []) := .tree E_R1_ok (value_Int_cl1_t x x' x'') (by
  simp only [wp_iff, chk_iff, know_iff, any_iff, rt_iff, hd_iff, true_imp_iff, true_and, and_true, and_self, lt01]
  exact fun _ _ => rfl)
theorem c_value_Int_cl1 : SpecOK E_R1 f_value_Int_cl1 k_value_Int_cl1.spec := spec_of fun x hx hp => ⟨rfl, m_value_Int_cl1 x.1 x.2.1 x.2.2.1 hx.1 hx.2.1 hx.2.2.1 hp⟩

def k_value_Poison_cl1 : Con := con [.d I] s_api_Lane (fun x => True) fun x => poisL1 x.1
theorem m_value_Poison_cl1 (x : Int) (h_x : okD I x) (hp : True) : Runs E_R1 (start E_R1 f_value_Poison_cl1 [(vi x)]) (fun r_ h_ => r_ = (.tv s_api_Lane (poisL1 x)) ∧ h_ = []) := .tree E_R1_ok (value_Poison_cl1_t x) (by
  simp only [wp_iff, chk_iff, know_iff, any_iff, rt_iff, hd_iff, true_imp_iff, true_and, and_true, and_self, lt01]
  rfl)
theorem c_value_Poison_cl1 : SpecOK E_R1 f_value_Poison_cl1 k_value_Poison_cl1.spec := spec_of fun x hx hp => ⟨rfl, m_value_Poison_cl1 x.1 hx.1 hp⟩
theorem r11_Int_l (t n : Int) (t4 : Val) (m : Nat) (hm : nlZ t = m) (h4 : m ≤ 4) : ∀ k i : Nat, i + k = m → Runs E_R1 (r11_Int_L0 t n i t4 (t, (0 : Int), lanesK (intL t n) i, ())) (fun x h => x = .tv s_api_Value (mkV t (intL t n)) ∧ h = []) := by
  intro k
  induction k with
  | zero =>
    intro i hi
    refine .tree E_R1_ok (r11_Int_L0_t _ _ _ _ _) ?_
    rw [hm]
    have h1 : ¬ (i : Int) < m := by omega
    simp only [wp_iff, chk_iff, know_iff, any_iff, rt_iff, hd_iff, true_imp_iff, true_and, and_true, and_self, lt01,  h1, decide_false, Bool.false_eq_true, false_imp_iff]
    obtain rfl : i = m := by omega
    exact fun _ => by rw [mkV, hm]; rfl
  | succ k ih =>
    intro i hi
    refine .tree E_R1_ok (r11_Int_L0_t _ _ _ _ _) ?_
    rw [hm]
    have h1 : (i : Int) < m := by omega
    simp only [wp_iff, chk_iff, know_iff, any_iff, rt_iff, hd_iff, true_imp_iff, true_and, and_true, and_self, lt01,  h1, decide_true, Bool.true_eq_false, false_imp_iff, Int.toNat_natCast, wrapI i (by omega), rng4 i (by omega), show i < 4 by omega]
    intro _ _ _
    have := ih (i + 1) (by omega)
    rw [← lanesK_set _ _ (by omega)] at this
    rw [lanesK_get _ _ (by omega)]
    exact this
def k_r11_Int : Con := con [.d I, .d I] s_api_Value (fun x => True) fun x => intV x.1 x.2.1
theorem m_r11_Int (t : Int) (n : Int) (h_t : okD I t) (h_n : okD I n) (hp : True) : Runs E_R1 (start E_R1 f_r11_Int [(vi t), (vi n)]) (fun r_ h_ => r_ = (.tv s_api_Value (intV t n)) ∧ h_ = []) := .tree E_R1_ok (r11_Int_t t n) (by
  have key : intOK t = true → Runs E_R1 (r11_Int_L0 t n 0 (dz s_api_Value) (t, (0 : Int), lanesK (intL t n) 0, ())) (fun x h => x = .tv s_api_Value (mkV t (intL t n)) ∧ h = []) := fun _ => by
    obtain ⟨m, hm, h4⟩ := nl_nat t
    exact r11_Int_l t n _ m hm h4 m 0 (by omega)
  simp only [wp_iff, chk_iff, know_iff, any_iff, rt_iff, hd_iff, true_imp_iff, true_and, and_true, and_self, lt01]
  unfold intV intOK at *
  refine ⟨fun h1 => ⟨fun h2 => ⟨fun h3 => ?_, fun h3 => ?_⟩, fun h2 => ?_⟩, fun h1 => ?_⟩
  · simp at h1 h2 h3
    simp [h1, h2, h3]
    rfl
  · simp at h3
    subst h3
    exact key rfl
  · simp at h2
    subst h2
    exact key rfl
  · simp at h1
    simp only [h1, Bool.true_or, if_true] at key ⊢
    exact key trivial)
theorem c_r11_Int : SpecOK E_R1 f_r11_Int k_r11_Int.spec := spec_of fun x hx hp => ⟨rfl, m_r11_Int x.1 x.2.1 hx.1 hx.2.1 hp⟩
def L_R1 : List (FuncId × FSpec) := [(f_refine_Values_cl1, k_refine_Values_cl1.spec), (f_value_Int_cl1, k_value_Int_cl1.spec), (f_value_Poison_cl1, k_value_Poison_cl1.spec), (f_r11_Int, k_r11_Int.spec)] ++ L_V5
theorem L_R1_ok : ∀ x ∈ L_R1, SpecOK (ctx []) x.1 x.2 := by
  unfold L_R1
  simp only [List.cons_append, List.nil_append, List.forall_mem_cons]
  exact ⟨c_refine_Values_cl1, c_value_Int_cl1, c_value_Poison_cl1, c_r11_Int, L_V5_ok⟩
end Burn.M19
namespace Burn.M19
open Go Go.BE Go.Proofs
set_option maxRecDepth 100000
set_option linter.unusedVariables false
set_option linter.unusedSimpArgs false
open Burn.Intn Burn.Ref
noncomputable abbrev E_R2 : Ctx := ctx L_R1
theorem E_R2_ok : EOK E_R2 := ctx_ok L_R1_ok
def cuts_R2 : FuncId → Nat → List Nat × List (Wh × Fx)
  | 38, 0 => ([1, 4, 5, 10, 11], [])
  | _, _ => ([], [])
def rets_R2 : FuncId → List (Option Sh)
  | 38 => [some s_api_Value]
  | _ => []
def H_R2 : Hints := ⟨cuts_R2, rets_R2⟩
noncomputable def each_Int_L0 (one_0 : Int) (one_1 : Int) (t10 : Int) (t11 : Int) (t4 : Den s_api_Value) (v : Den s_api_Value) : Cfg := hcfg E_R2 f_value_each 0 [(1, (.fn f_value_Int_cl1 [(.rop [(vi one_0)] 0), (.rop [(vi one_1)] 0)])), (4, (.tref 0 0 [] (0 : Nat) [])), (5, (.tref 1 1 [] (0 : Nat) [])), (10, (vi t10)), (11, (vi t11))] [(0, ⟨(.arr 0 80 s_api_Value ([t4] : List (Den s_api_Value))), 0, [], false, none⟩), (1, ⟨(.arr 0 80 s_api_Value ([v] : List (Den s_api_Value))), 1, [], false, none⟩)] 2
theorem each_Int_t (t : Int) (c0 : Int) (c1 : Int) : run E_R2 H_R2 f_value_each 3000 (start E_R2 f_value_each [(vi t), (.fn f_value_Int_cl1 [(.rop [(vi c0)] 0), (.rop [(vi c1)] 0)])]) = (.chk ((0 : Nat) < (1 : Nat)) (.chk (True) (.know (okD (.int .i64) (nlZ t)) (hd (each_Int_L0 c0 c1 (nlZ t) (0 : Int) ((0 : Int), (0 : Int), (((0 : Int), false, false, ()), (((0 : Int), false, false, ()), (((0 : Int), false, false, ()), (((0 : Int), false, false, ()), ())))), ()) (t, (0 : Int), (((0 : Int), false, false, ()), (((0 : Int), false, false, ()), (((0 : Int), false, false, ()), (((0 : Int), false, false, ()), ())))), ())))))) := by kernel_rfl
theorem each_Int_L0_t (one_0 : Int) (one_1 : Int) (t10 : Int) (t11 : Int) (t4 : Den s_api_Value) (v : Den s_api_Value) : run E_R2 H_R2 f_value_each 3000 (each_Int_L0 one_0 one_1 t10 t11 t4 v) = (cond (decide (t11 < t10)) (.chk (True) (.know (okD s_api_Lane (intL3 t11 one_0 one_1)) (.chk (0 ≤ t11 ∧ t11 < (4 : Nat)) (.chk ((0 : Nat) < (1 : Nat)) (.chk ((t11).toNat < 4) (hd (each_Int_L0 one_0 one_1 t10 (IntKind.wrap .i64 (t11 + (1 : Int))) t4 (v.1, v.2.1, (vset 4 v.2.2.1 ((t11).toNat) (intL3 t11 one_0 one_1)), v.2.2.2)))))))) (.chk ((0 : Nat) < (1 : Nat)) (.chk ((0 : Nat) < (1 : Nat)) (.chk ((0 : Nat) < (1 : Nat)) (rt (.tv s_api_Value v) []))))) := by kernel_rfl
noncomputable def each_Poison_L0 (t10 : Int) (t11 : Int) (t4 : Den s_api_Value) (v : Den s_api_Value) : Cfg := hcfg E_R2 f_value_each 0 [(1, (.fn f_value_Poison_cl1 [])), (4, (.tref 0 0 [] (0 : Nat) [])), (5, (.tref 1 1 [] (0 : Nat) [])), (10, (vi t10)), (11, (vi t11))] [(0, ⟨(.arr 0 80 s_api_Value ([t4] : List (Den s_api_Value))), 0, [], false, none⟩), (1, ⟨(.arr 0 80 s_api_Value ([v] : List (Den s_api_Value))), 1, [], false, none⟩)] 2
theorem each_Poison_t (t : Int) : run E_R2 H_R2 f_value_each 3000 (start E_R2 f_value_each [(vi t), (.fn f_value_Poison_cl1 [])]) = (.chk ((0 : Nat) < (1 : Nat)) (.chk (True) (.know (okD (.int .i64) (nlZ t)) (hd (each_Poison_L0 (nlZ t) (0 : Int) ((0 : Int), (0 : Int), (((0 : Int), false, false, ()), (((0 : Int), false, false, ()), (((0 : Int), false, false, ()), (((0 : Int), false, false, ()), ())))), ()) (t, (0 : Int), (((0 : Int), false, false, ()), (((0 : Int), false, false, ()), (((0 : Int), false, false, ()), (((0 : Int), false, false, ()), ())))), ())))))) := by kernel_rfl
theorem each_Poison_L0_t (t10 : Int) (t11 : Int) (t4 : Den s_api_Value) (v : Den s_api_Value) : run E_R2 H_R2 f_value_each 3000 (each_Poison_L0 t10 t11 t4 v) = (cond (decide (t11 < t10)) (.chk (True) (.know (okD s_api_Lane (poisL1 t11)) (.chk (0 ≤ t11 ∧ t11 < (4 : Nat)) (.chk ((0 : Nat) < (1 : Nat)) (.chk ((t11).toNat < 4) (hd (each_Poison_L0 t10 (IntKind.wrap .i64 (t11 + (1 : Int))) t4 (v.1, v.2.1, (vset 4 v.2.2.1 ((t11).toNat) (poisL1 t11)), v.2.2.2)))))))) (.chk ((0 : Nat) < (1 : Nat)) (.chk ((0 : Nat) < (1 : Nat)) (.chk ((0 : Nat) < (1 : Nat)) (rt (.tv s_api_Value v) []))))) := by kernel_rfl
theorem each_Int_l (t c n : Int) (t4 : Val) (m : Nat) (hm : nlZ t = m) (h4 : m ≤ 4) : ∀ k i : Nat, i + k = m → Runs E_R2 (each_Int_L0 c n m i t4 (t, (0 : Int), lanesK (intL c n) i, ())) (fun x h => x = .tv s_api_Value (mkV t (intL c n)) ∧ h = []) := by
  intro k
  induction k with
  | zero =>
    intro i hi
    refine .tree E_R2_ok (each_Int_L0_t _ _ _ _ _ _) ?_
    have h1 : ¬ (i : Int) < m := by omega
    simp only [wp_iff, chk_iff, know_iff, any_iff, rt_iff, hd_iff, true_imp_iff, true_and, and_true, and_self, lt01,  h1, decide_false, Bool.false_eq_true, false_imp_iff]
    obtain rfl : i = m := by omega
    rw [mkV, hm]; rfl
  | succ k ih =>
    intro i hi
    refine .tree E_R2_ok (each_Int_L0_t _ _ _ _ _ _) ?_
    have h1 : (i : Int) < m := by omega
    simp only [wp_iff, chk_iff, know_iff, any_iff, rt_iff, hd_iff, true_imp_iff, true_and, and_true, and_self, lt01,  h1, decide_true, Bool.true_eq_false, false_imp_iff, Int.toNat_natCast, wrapI i (by omega), rng4 i (by omega), show i < 4 by omega]
    intro _
    have := ih (i + 1) (by omega)
    rw [← lanesK_set _ _ (by omega)] at this
    exact this
def k_each_Int : Con := con [.d I, .fn f_value_Int_cl1 [I, I]] s_api_Value (fun x => True) fun x => mkInt x.1 x.2.1.1 x.2.1.2.1
theorem m_each_Int (t : Int) (c0 : Int) (c1 : Int) (h_t : okD I t) (h_c0 : okD I c0) (h_c1 : okD I c1) (hp : True) : Runs E_R2 (start E_R2 f_value_each [(vi t), (.fn f_value_Int_cl1 [(.rop [(vi c0)] 0), (.rop [(vi c1)] 0)])]) (fun r_ h_ => r_ = (.tv s_api_Value (mkInt t c0 c1)) ∧ h_ = []) := .tree E_R2_ok (each_Int_t t c0 c1) (by
  obtain ⟨m, hm, h4⟩ := nl_nat t
  simp only [wp_iff, chk_iff, know_iff, any_iff, rt_iff, hd_iff, true_imp_iff, true_and, and_true, and_self, lt01,  hm]
  exact fun _ => each_Int_l t c0 c1 _ m hm h4 m 0 (by omega))
theorem c_each_Int : SpecOK E_R2 f_value_each k_each_Int.spec := spec_of fun x hx hp => ⟨rfl, m_each_Int x.1 x.2.1.1 x.2.1.2.1 hx.1 hx.2.1.1 hx.2.1.2.1 hp⟩
theorem each_Poison_l (t : Int) (t4 : Val) (m : Nat) (hm : nlZ t = m) (h4 : m ≤ 4) : ∀ k i : Nat, i + k = m → Runs E_R2 (each_Poison_L0 m i t4 (t, (0 : Int), lanesK poisL i, ())) (fun x h => x = .tv s_api_Value (mkV t poisL) ∧ h = []) := by
  intro k
  induction k with
  | zero =>
    intro i hi
    refine .tree E_R2_ok (each_Poison_L0_t _ _ _ _) ?_
    have h1 : ¬ (i : Int) < m := by omega
    simp only [wp_iff, chk_iff, know_iff, any_iff, rt_iff, hd_iff, true_imp_iff, true_and, and_true, and_self, lt01,  h1, decide_false, Bool.false_eq_true, false_imp_iff]
    obtain rfl : i = m := by omega
    rw [mkV, hm]; rfl
  | succ k ih =>
    intro i hi
    refine .tree E_R2_ok (each_Poison_L0_t _ _ _ _) ?_
    have h1 : (i : Int) < m := by omega
    simp only [wp_iff, chk_iff, know_iff, any_iff, rt_iff, hd_iff, true_imp_iff, true_and, and_true, and_self, lt01,  h1, decide_true, Bool.true_eq_false, false_imp_iff, Int.toNat_natCast, wrapI i (by omega), rng4 i (by omega), show i < 4 by omega]
    intro _
    have := ih (i + 1) (by omega)
    rw [← lanesK_set _ _ (by omega)] at this
    exact this
def k_each_Poison : Con := con [.d I, .fn f_value_Poison_cl1 []] s_api_Value (fun x => True) fun x => mkPois x.1
theorem m_each_Poison (t : Int) (h_t : okD I t) (hp : True) : Runs E_R2 (start E_R2 f_value_each [(vi t), (.fn f_value_Poison_cl1 [])]) (fun r_ h_ => r_ = (.tv s_api_Value (mkPois t)) ∧ h_ = []) := .tree E_R2_ok (each_Poison_t t) (by
  obtain ⟨m, hm, h4⟩ := nl_nat t
  simp only [wp_iff, chk_iff, know_iff, any_iff, rt_iff, hd_iff, true_imp_iff, true_and, and_true, and_self, lt01,  hm]
  exact fun _ => each_Poison_l t _ m hm h4 m 0 (by omega))
theorem c_each_Poison : SpecOK E_R2 f_value_each k_each_Poison.spec := spec_of fun x hx hp => ⟨rfl, m_each_Poison x.1 hx.1 hp⟩
def L_R2 : List (FuncId × FSpec) := [(f_value_each, k_each_Int.spec), (f_value_each, k_each_Poison.spec)] ++ L_R1
theorem L_R2_ok : ∀ x ∈ L_R2, SpecOK (ctx []) x.1 x.2 := by
  unfold L_R2
  simp only [List.cons_append, List.nil_append, List.forall_mem_cons]
  exact ⟨c_each_Int, c_each_Poison, L_R1_ok⟩
end Burn.M19
namespace Burn.M19
open Go Go.BE Go.Proofs
set_option maxRecDepth 100000
set_option linter.unusedVariables false
set_option linter.unusedSimpArgs false
open Burn.Intn Burn.Ref
noncomputable abbrev E_R3 : Ctx := ctx L_R2
theorem E_R3_ok : EOK E_R3 := ctx_ok L_R2_ok
def cuts_R3 : FuncId → Nat → List Nat × List (Wh × Fx)
  | 14, 0 => ([0, 1, 5], [])
  | 26, 0 => ([1, 2, 14, 15, 16], [])
  | _, _ => ([], [])
def rets_R3 : FuncId → List (Option Sh)
  | 19 => [some s_api_Value]
  | 20 => [some s_api_Value]
  | _ => []
def H_R3 : Hints := ⟨cuts_R3, rets_R3⟩
theorem value_Int_t (t : Int) (n : Int) : run E_R3 H_R3 f_value_Int 3000 (start E_R3 f_value_Int [(vi t), (vi n)]) = (.chk (True) (.know True (cond (!(isI t)) (cond (t != (6 : Int)) (cond (t != (7 : Int)) (.chk ((0 : Nat) < (1 : Nat)) (.chk ((0 : Nat) < (1 : Nat)) (rt (.tv s_api_Value ((0 : Int), (0 : Int), (((0 : Int), false, false, ()), (((0 : Int), false, false, ()), (((0 : Int), false, false, ()), (((0 : Int), false, false, ()), ())))), ())) []))) (.chk (True) (.know (okD s_api_Value (mkInt t t n)) (.chk ((0 : Nat) < (1 : Nat)) (.chk ((0 : Nat) < (1 : Nat)) (rt (.tv s_api_Value (mkInt t t n)) [])))))) (.chk (True) (.know (okD s_api_Value (mkInt t t n)) (.chk ((0 : Nat) < (1 : Nat)) (.chk ((0 : Nat) < (1 : Nat)) (rt (.tv s_api_Value (mkInt t t n)) [])))))) (.chk (True) (.know (okD s_api_Value (mkInt t t n)) (.chk ((0 : Nat) < (1 : Nat)) (.chk ((0 : Nat) < (1 : Nat)) (rt (.tv s_api_Value (mkInt t t n)) [])))))))) := by kernel_rfl
theorem value_Poison_t (t : Int) : run E_R3 H_R3 f_value_Poison 3000 (start E_R3 f_value_Poison [(vi t)]) = (.chk (True) (.know (okD (.int .i64) (nlZ t)) (cond ((nlZ t) == (0 : Int)) (.chk ((0 : Nat) < (1 : Nat)) (.chk ((0 : Nat) < (1 : Nat)) (rt (.tv s_api_Value ((0 : Int), (0 : Int), (((0 : Int), false, false, ()), (((0 : Int), false, false, ()), (((0 : Int), false, false, ()), (((0 : Int), false, false, ()), ())))), ())) []))) (.chk (True) (.know (okD s_api_Value (mkPois t)) (.chk ((0 : Nat) < (1 : Nat)) (.chk ((0 : Nat) < (1 : Nat)) (rt (.tv s_api_Value (mkPois t)) [])))))))) := by kernel_rfl
theorem refine_results_t (a : Den s_api_Value) (b : Den s_api_Value) : run E_R3 H_R3 f_refine_results 3000 (start E_R3 f_refine_results [(.tv s_api_Value a), (.tv s_api_Value b)]) = (cond ((z a.1) == (0 : Int)) (rt (vb ((z a.1) == (z b.1))) []) (cond ((z b.1) == (0 : Int)) (rt (vb ((z a.1) == (z b.1))) []) (.chk (True) (.know True (rt (vb (vRef a b)) []))))) := by kernel_rfl
theorem r19_results_t (a : Den s_api_Value) (b : Den s_api_Value) : run E_R3 H_R3 f_r19_results 3000 (start E_R3 f_r19_results [(.tv s_api_Value a), (.tv s_api_Value b)]) = (cond ((z a.1) == (0 : Int)) (rt (vb ((z a.1) == (z b.1))) []) (cond ((z b.1) == (0 : Int)) (rt (vb ((z a.1) == (z b.1))) []) (.chk (True) (.know True (rt (vb (vRef a b)) []))))) := by kernel_rfl
noncomputable def r19_Values_L0 (a : List (Den s_api_Value)) (b : List (Den s_api_Value)) (i : Int) : Cfg := hcfg E_R3 f_r19_Values 0 [(0, (.tv (.sl 80 s_api_Value) a)), (1, (.tv (.sl 80 s_api_Value) b)), (5, (vi i))] [] 0
theorem r19_Values_t (a : List (Den s_api_Value)) (b : List (Den s_api_Value)) : run E_R3 H_R3 f_r19_Values 3000 (start E_R3 f_r19_Values [(.tv (.sl 80 s_api_Value) a), (.tv (.sl 80 s_api_Value) b)]) = (cond (((ln s_api_Value a) : Int) != ((ln s_api_Value b) : Int)) (rt (vb false) []) (hd (r19_Values_L0 a b (0 : Int)))) := by kernel_rfl
theorem r19_Values_L0_t (a : List (Den s_api_Value)) (b : List (Den s_api_Value)) (i : Int) : run E_R3 H_R3 f_r19_Values 3000 (r19_Values_L0 a b i) = (cond (decide (i < ((ln s_api_Value a) : Int))) (.chk (0 ≤ i ∧ i < (ln s_api_Value a)) (.chk (0 ≤ i ∧ i < (ln s_api_Value b)) (.chk (True) (.know True (cond (!(vRef (gd s_api_Value a ((i).toNat)) (gd s_api_Value b ((i).toNat)))) (rt (vb false) []) (hd (r19_Values_L0 a b (IntKind.wrap .i64 (i + (1 : Int)))))))))) (rt (vb true) [])) := by kernel_rfl
noncomputable def pairV_L0 (b : List (Den s_api_Value)) (t14 : List (Den s_api_Value)) (t15 : Int) (t16 : Int) : Cfg := hcfg E_R3 f_refine_pairwise_api_Value 0 [(1, (.tv (.sl 80 s_api_Value) b)), (2, (.fn f_refine_Values_cl1 [])), (14, (.tv (.sl 80 s_api_Value) t14)), (15, (vi t15)), (16, (vi t16))] [] 0
theorem pairV_t (a : List (Den s_api_Value)) (b : List (Den s_api_Value)) : run E_R3 H_R3 f_refine_pairwise_api_Value 3000 (start E_R3 f_refine_pairwise_api_Value [(.tv (.sl 80 s_api_Value) a), (.tv (.sl 80 s_api_Value) b), (.fn f_refine_Values_cl1 [])]) = (cond (((ln s_api_Value a) : Int) != ((ln s_api_Value b) : Int)) (rt (vb false) []) (hd (pairV_L0 b a ((ln s_api_Value a) : Int) (0 : Int)))) := by kernel_rfl
theorem pairV_L0_t (b : List (Den s_api_Value)) (t14 : List (Den s_api_Value)) (t15 : Int) (t16 : Int) : run E_R3 H_R3 f_refine_pairwise_api_Value 3000 (pairV_L0 b t14 t15 t16) = (cond (decide (t16 < t15)) (.chk (0 ≤ t16 ∧ t16 < (ln s_api_Value t14)) (.chk ((0 : Nat) < (1 : Nat)) (.chk ((0 : Nat) < (1 : Nat)) (.chk (0 ≤ t16 ∧ t16 < (ln s_api_Value b)) (.chk (True) (.know True (cond (!(vRef (gd s_api_Value t14 ((t16).toNat)) (gd s_api_Value b ((t16).toNat)))) (rt (vb false) []) (hd (pairV_L0 b t14 t15 (IntKind.wrap .i64 (t16 + (1 : Int)))))))))))) (rt (vb true) [])) := by kernel_rfl

def k_value_Int : Con := con [.d I, .d I] s_api_Value (fun x => True) fun x => intV x.1 x.2.1
theorem m_value_Int (t : Int) (n : Int) (h_t : okD I t) (h_n : okD I n) (hp : True) : Runs E_R3 (start E_R3 f_value_Int [(vi t), (vi n)]) (fun r_ h_ => r_ = (.tv s_api_Value (intV t n)) ∧ h_ = []) := .tree E_R3_ok (value_Int_t t n) (by
  simp only [wp_iff, chk_iff, know_iff, any_iff, rt_iff, hd_iff, true_imp_iff, true_and, and_true, and_self, lt01]
  unfold intV intOK mkInt
  refine ⟨fun h1 => ⟨fun h2 => ⟨fun h3 => ?_, fun h3 => ?_⟩, fun h2 => ?_⟩, fun h1 => ?_⟩
  · simp at h1 h2 h3
    simp [h1, h2, h3]
    rfl
  · simp at h3
    subst h3
    exact fun _ => rfl
  · simp at h2
    subst h2
    exact fun _ => rfl
  · simp at h1
    simp only [h1, Bool.true_or, if_true]
    exact fun _ => trivial)
theorem c_value_Int : SpecOK E_R3 f_value_Int k_value_Int.spec := spec_of fun x hx hp => ⟨rfl, m_value_Int x.1 x.2.1 hx.1 hx.2.1 hp⟩

def k_value_Poison : Con := con [.d I] s_api_Value (fun x => True) fun x => poisV x.1
theorem m_value_Poison (t : Int) (h_t : okD I t) (hp : True) : Runs E_R3 (start E_R3 f_value_Poison [(vi t)]) (fun r_ h_ => r_ = (.tv s_api_Value (poisV t)) ∧ h_ = []) := .tree E_R3_ok (value_Poison_t t) (by
  simp only [wp_iff, chk_iff, know_iff, any_iff, rt_iff, hd_iff, true_imp_iff, true_and, and_true, and_self, lt01]
  unfold poisV mkPois
  refine fun _ => ⟨fun h => ?_, fun h => ?_⟩
  · rw [h]; rfl
  · rw [h]; exact fun _ => rfl)
theorem c_value_Poison : SpecOK E_R3 f_value_Poison k_value_Poison.spec := spec_of fun x hx hp => ⟨rfl, m_value_Poison x.1 hx.1 hp⟩
def resR (a b : Val) : Bool := if z a.1 == 0 || z b.1 == 0 then z a.1 == z b.1 else vRef a b
def valsR (a b : List (Den s_api_Value)) : Bool := ln s_api_Value a == ln s_api_Value b && (List.range (ln s_api_Value a)).all fun i => vRef (gd s_api_Value a i) (gd s_api_Value b i)

def k_refine_results : Con := con [.d s_api_Value, .d s_api_Value] .bool (fun x => True) fun x => resR x.1 x.2.1
theorem m_refine_results (a : Den s_api_Value) (b : Den s_api_Value) (h_a : okD s_api_Value a) (h_b : okD s_api_Value b) (hp : True) : Runs E_R3 (start E_R3 f_refine_results [(.tv s_api_Value a), (.tv s_api_Value b)]) (fun r_ h_ => r_ = (vb (resR a b)) ∧ h_ = []) := .tree E_R3_ok (refine_results_t a b) (by
  simp only [wp_iff, chk_iff, know_iff, any_iff, rt_iff, hd_iff, true_imp_iff, true_and, and_true, and_self, lt01]
  unfold resR
  refine ⟨fun h => ?_, fun h => ⟨fun h2 => ?_, fun h2 => ?_⟩⟩
  · rw [h]; rfl
  · rw [h, h2]; rfl
  · rw [h, h2]; rfl)
theorem c_refine_results : SpecOK E_R3 f_refine_results k_refine_results.spec := spec_of fun x hx hp => ⟨rfl, m_refine_results x.1 x.2.1 hx.1 hx.2.1 hp⟩

def k_r19_results : Con := con [.d s_api_Value, .d s_api_Value] .bool (fun x => True) fun x => resR x.1 x.2.1
theorem m_r19_results (a : Den s_api_Value) (b : Den s_api_Value) (h_a : okD s_api_Value a) (h_b : okD s_api_Value b) (hp : True) : Runs E_R3 (start E_R3 f_r19_results [(.tv s_api_Value a), (.tv s_api_Value b)]) (fun r_ h_ => r_ = (vb (resR a b)) ∧ h_ = []) := .tree E_R3_ok (r19_results_t a b) (by
  simp only [wp_iff, chk_iff, know_iff, any_iff, rt_iff, hd_iff, true_imp_iff, true_and, and_true, and_self, lt01]
  unfold resR
  refine ⟨fun h => ?_, fun h => ⟨fun h2 => ?_, fun h2 => ?_⟩⟩
  · rw [h]; rfl
  · rw [h, h2]; rfl
  · rw [h, h2]; rfl)
theorem c_r19_results : SpecOK E_R3 f_r19_results k_r19_results.spec := spec_of fun x hx hp => ⟨rfl, m_r19_results x.1 x.2.1 hx.1 hx.2.1 hp⟩
theorem r19_Values_l (a b : List (Den s_api_Value)) (h_a : ln s_api_Value a < 9223372036854775807) (hl : ln s_api_Value a = ln s_api_Value b) : ∀ i, i ≤ ln s_api_Value a → Runs E_R3 (r19_Values_L0 a b i) (fun x h => x = vb (((List.range (ln s_api_Value a)).drop i).all fun i => vRef (gd s_api_Value a i) (gd s_api_Value b i)) ∧ h = []) :=
  up_ind (.tree E_R3_ok (r19_Values_L0_t _ _ _) (by simp only [wp_iff, chk_iff, know_iff, any_iff, rt_iff, hd_iff, true_imp_iff, true_and, and_true, and_self, lt01, Int.ofNat_lt, Int.ofNat_le, Int.natCast_nonneg, Int.toNat_natCast, decide_true, decide_false, Bool.true_eq_false, Bool.false_eq_true, false_imp_iff, Nat.lt_irrefl, imp_self, implies_true,  drop_range_n, List.all_nil]))
    fun i hi ih => .tree E_R3_ok (r19_Values_L0_t _ _ _) (by
      simp only [wp_iff, chk_iff, know_iff, any_iff, rt_iff, hd_iff, true_imp_iff, true_and, and_true, and_self, lt01, Int.ofNat_lt, Int.ofNat_le, Int.natCast_nonneg, Int.toNat_natCast, decide_true, decide_false, Bool.true_eq_false, Bool.false_eq_true, false_imp_iff, Nat.lt_irrefl, imp_self, implies_true,  hi, hl ▸ hi, wrapS hi h_a, drop_range hi, List.all_cons]
      exact ite_step ih)
def k_r19_Values : Con := con [.d (.sl 80 s_api_Value), .d (.sl 80 s_api_Value)] .bool (fun x => True) fun x => valsR x.1 x.2.1
theorem m_r19_Values (a : List (Den s_api_Value)) (b : List (Den s_api_Value)) (h_a : okD (.sl 80 s_api_Value) a) (h_b : okD (.sl 80 s_api_Value) b) (hp : True) : Runs E_R3 (start E_R3 f_r19_Values [(.tv (.sl 80 s_api_Value) a), (.tv (.sl 80 s_api_Value) b)]) (fun r_ h_ => r_ = (vb (valsR a b)) ∧ h_ = []) := .tree E_R3_ok (r19_Values_t a b) (by
  unfold valsR
  simp only [wp_iff, chk_iff, know_iff, any_iff, rt_iff, hd_iff, true_imp_iff, true_and, and_true, and_self, lt01]
  refine ⟨fun h => ?_, fun h => ?_⟩
  · have : (ln s_api_Value a == ln s_api_Value b) = false := by simp at h; simp; omega
    rw [this]; rfl
  · have hl : ln s_api_Value a = ln s_api_Value b := by simp at h; omega
    have : (ln s_api_Value a == ln s_api_Value b) = true := by simpa using hl
    rw [this, Bool.true_and]
    exact r19_Values_l a b (room_lt h_a.1) hl 0 (Nat.zero_le _))
theorem c_r19_Values : SpecOK E_R3 f_r19_Values k_r19_Values.spec := spec_of fun x hx hp => ⟨rfl, m_r19_Values x.1 x.2.1 hx.1 hx.2.1 hp⟩
theorem pairV_l (a b : List (Den s_api_Value)) (h_a : ln s_api_Value a < 9223372036854775807) (hl : ln s_api_Value a = ln s_api_Value b) : ∀ i, i ≤ ln s_api_Value a → Runs E_R3 (pairV_L0 b a (ln s_api_Value a : Nat) i) (fun x h => x = vb (((List.range (ln s_api_Value a)).drop i).all fun i => vRef (gd s_api_Value a i) (gd s_api_Value b i)) ∧ h = []) :=
  up_ind (.tree E_R3_ok (pairV_L0_t _ _ _ _) (by simp only [wp_iff, chk_iff, know_iff, any_iff, rt_iff, hd_iff, true_imp_iff, true_and, and_true, and_self, lt01, Int.ofNat_lt, Int.ofNat_le, Int.natCast_nonneg, Int.toNat_natCast, decide_true, decide_false, Bool.true_eq_false, Bool.false_eq_true, false_imp_iff, Nat.lt_irrefl, imp_self, implies_true,  drop_range_n, List.all_nil]))
    fun i hi ih => .tree E_R3_ok (pairV_L0_t _ _ _ _) (by
      simp only [wp_iff, chk_iff, know_iff, any_iff, rt_iff, hd_iff, true_imp_iff, true_and, and_true, and_self, lt01, Int.ofNat_lt, Int.ofNat_le, Int.natCast_nonneg, Int.toNat_natCast, decide_true, decide_false, Bool.true_eq_false, Bool.false_eq_true, false_imp_iff, Nat.lt_irrefl, imp_self, implies_true,  hi, hl ▸ hi, wrapS hi h_a, drop_range hi, List.all_cons]
      exact ite_step ih)
def k_pairV : Con := con [.d (.sl 80 s_api_Value), .d (.sl 80 s_api_Value), .fn f_refine_Values_cl1 []] .bool (fun x => True) fun x => valsR x.1 x.2.1
theorem m_pairV (a : List (Den s_api_Value)) (b : List (Den s_api_Value)) (h_a : okD (.sl 80 s_api_Value) a) (h_b : okD (.sl 80 s_api_Value) b) (hp : True) : Runs E_R3 (start E_R3 f_refine_pairwise_api_Value [(.tv (.sl 80 s_api_Value) a), (.tv (.sl 80 s_api_Value) b), (.fn f_refine_Values_cl1 [])]) (fun r_ h_ => r_ = (vb (valsR a b)) ∧ h_ = []) := .tree E_R3_ok (pairV_t a b) (by
  unfold valsR
  simp only [wp_iff, chk_iff, know_iff, any_iff, rt_iff, hd_iff, true_imp_iff, true_and, and_true, and_self, lt01]
  refine ⟨fun h => ?_, fun h => ?_⟩
  · have : (ln s_api_Value a == ln s_api_Value b) = false := by simp at h; simp; omega
    rw [this]; rfl
  · have hl : ln s_api_Value a = ln s_api_Value b := by simp at h; omega
    have : (ln s_api_Value a == ln s_api_Value b) = true := by simpa using hl
    rw [this, Bool.true_and]
    exact pairV_l a b (room_lt h_a.1) hl 0 (Nat.zero_le _))
theorem c_pairV : SpecOK E_R3 f_refine_pairwise_api_Value k_pairV.spec := spec_of fun x hx hp => ⟨rfl, m_pairV x.1 x.2.1 hx.1 hx.2.1 hp⟩
def L_R3 : List (FuncId × FSpec) := [(f_value_Int, k_value_Int.spec), (f_value_Poison, k_value_Poison.spec), (f_refine_results, k_refine_results.spec), (f_r19_results, k_r19_results.spec), (f_r19_Values, k_r19_Values.spec), (f_refine_pairwise_api_Value, k_pairV.spec)] ++ L_R2
theorem L_R3_ok : ∀ x ∈ L_R3, SpecOK (ctx []) x.1 x.2 := by
  unfold L_R3
  simp only [List.cons_append, List.nil_append, List.forall_mem_cons]
  exact ⟨c_value_Int, c_value_Poison, c_refine_results, c_r19_results, c_r19_Values, c_pairV, L_R2_ok⟩
end Burn.M19
namespace Burn.M19
open Go Go.BE Go.Proofs
set_option maxRecDepth 100000
set_option linter.unusedVariables false
set_option linter.unusedSimpArgs false
open Burn.Intn Burn.Ref
noncomputable abbrev E_R4 : Ctx := ctx L_R3
theorem E_R4_ok : EOK E_R4 := ctx_ok L_R3_ok
def cuts_R4 : FuncId → Nat → List Nat × List (Wh × Fx)
  | 8, 0 => ([1, 3, 4], [])
  | 17, 0 => ([1, 10, 11, 12], [])
  | 17, 2 => ([1, 21, 22, 23], [])
  | 17, 4 => ([1, 21, 22, 23, 27, 28, 29], [])
  | 22, 0 => ([0, 1, 5], [])
  | 30, 0 => ([3, 10, 11, 12], [])
  | 31, 0 => ([3, 10, 11, 12], [])
  | _, _ => ([], [])
def rets_R4 : FuncId → List (Option Sh)
  | _ => []
def H_R4 : Hints := ⟨cuts_R4, rets_R4⟩
theorem refine_Values_t (a : List (Den s_api_Value)) (b : List (Den s_api_Value)) : run E_R4 H_R4 f_refine_Values 3000 (start E_R4 f_refine_Values [(.tv (.sl 80 s_api_Value) a), (.tv (.sl 80 s_api_Value) b)]) = (.chk (True) (.know True (rt (vb (valsR a b)) []))) := by kernel_rfl
theorem refine_Difference_cl1_t (x : List (Den s_api_Value)) (y : List (Den s_api_Value)) : run E_R4 H_R4 f_refine_Difference_cl1 3000 (start E_R4 f_refine_Difference_cl1 [(.tv (.sl 80 s_api_Value) x), (.tv (.sl 80 s_api_Value) y)]) = (.chk (True) (.know True (rt (vb (valsR x y)) []))) := by kernel_rfl
noncomputable def r19_cells_L0 (a : List (Den (.sl 80 s_api_Value))) (b : List (Den (.sl 80 s_api_Value))) (i : Int) : Cfg := hcfg E_R4 f_r19_cells 0 [(0, (.tv (.sl 24 (.sl 80 s_api_Value)) a)), (1, (.tv (.sl 24 (.sl 80 s_api_Value)) b)), (5, (vi i))] [] 0
theorem r19_cells_t (a : List (Den (.sl 80 s_api_Value))) (b : List (Den (.sl 80 s_api_Value))) : run E_R4 H_R4 f_r19_cells 3000 (start E_R4 f_r19_cells [(.tv (.sl 24 (.sl 80 s_api_Value)) a), (.tv (.sl 24 (.sl 80 s_api_Value)) b)]) = (cond (((ln (.sl 80 s_api_Value) a) : Int) != ((ln (.sl 80 s_api_Value) b) : Int)) (rt (vb false) []) (hd (r19_cells_L0 a b (0 : Int)))) := by kernel_rfl
theorem r19_cells_L0_t (a : List (Den (.sl 80 s_api_Value))) (b : List (Den (.sl 80 s_api_Value))) (i : Int) : run E_R4 H_R4 f_r19_cells 3000 (r19_cells_L0 a b i) = (cond (decide (i < ((ln (.sl 80 s_api_Value) a) : Int))) (.chk (0 ≤ i ∧ i < (ln (.sl 80 s_api_Value) a)) (.chk (0 ≤ i ∧ i < (ln (.sl 80 s_api_Value) b)) (.chk (True) (.know True (cond (!(valsR (gd (.sl 80 s_api_Value) a ((i).toNat)) (gd (.sl 80 s_api_Value) b ((i).toNat)))) (rt (vb false) []) (hd (r19_cells_L0 a b (IntKind.wrap .i64 (i + (1 : Int)))))))))) (rt (vb true) [])) := by kernel_rfl
noncomputable def law19_valid_L0 (o : Den s_api_Outcome) (t10 : List (Den s_api_Value)) (t11 : Int) (t12 : Int) : Cfg := hcfg E_R4 f_law19_valid 0 [(1, (.rtp s_api_Outcome o)), (10, (.tv (.sl 80 s_api_Value) t10)), (11, (vi t11)), (12, (vi t12))] [] 0
noncomputable def law19_valid_L2 (o : Den s_api_Outcome) (t21 : List (Den (.sl 80 s_api_Value))) (t22 : Int) (t23 : Int) : Cfg := hcfg E_R4 f_law19_valid 2 [(1, (.rtp s_api_Outcome o)), (21, (.tv (.sl 24 (.sl 80 s_api_Value)) t21)), (22, (vi t22)), (23, (vi t23))] [] 0
noncomputable def law19_valid_L4 (o : Den s_api_Outcome) (t21 : List (Den (.sl 80 s_api_Value))) (t22 : Int) (t23 : Int) (t27 : List (Den s_api_Value)) (t28 : Int) (t29 : Int) : Cfg := hcfg E_R4 f_law19_valid 4 [(1, (.rtp s_api_Outcome o)), (21, (.tv (.sl 24 (.sl 80 s_api_Value)) t21)), (22, (vi t22)), (23, (vi t23)), (27, (.tv (.sl 80 s_api_Value) t27)), (28, (vi t28)), (29, (vi t29))] [] 0
theorem law19_valid_t (o : Den s_api_Outcome) : run E_R4 H_R4 f_law19_valid 3000 (start E_R4 f_law19_valid [(.tv s_api_Outcome o)]) = (hd (law19_valid_L0 o o.2.2.2.1 ((ln s_api_Value o.2.2.2.1) : Int) (0 : Int))) := by kernel_rfl
theorem law19_valid_L0_t (o : Den s_api_Outcome) (t10 : List (Den s_api_Value)) (t11 : Int) (t12 : Int) : run E_R4 H_R4 f_law19_valid 3000 (law19_valid_L0 o t10 t11 t12) = (cond (decide (t12 < t11)) (.chk (0 ≤ t12 ∧ t12 < (ln s_api_Value t10)) (.chk ((0 : Nat) < (1 : Nat)) (.chk ((0 : Nat) < (1 : Nat)) (.chk (True) (.know True (cond (!(vValid (gd s_api_Value t10 ((t12).toNat)))) (rt (vb false) []) (hd (law19_valid_L0 o t10 t11 (IntKind.wrap .i64 (t12 + (1 : Int))))))))))) (hd (law19_valid_L2 o o.2.2.2.2.1 ((ln (.sl 80 s_api_Value) o.2.2.2.2.1) : Int) (0 : Int)))) := by kernel_rfl
theorem law19_valid_L2_t (o : Den s_api_Outcome) (t21 : List (Den (.sl 80 s_api_Value))) (t22 : Int) (t23 : Int) : run E_R4 H_R4 f_law19_valid 3000 (law19_valid_L2 o t21 t22 t23) = (cond (decide (t23 < t22)) (.chk (0 ≤ t23 ∧ t23 < (ln (.sl 80 s_api_Value) t21)) (hd (law19_valid_L4 o t21 t22 t23 (gd (.sl 80 s_api_Value) t21 ((t23).toNat)) ((ln s_api_Value (gd (.sl 80 s_api_Value) t21 ((t23).toNat))) : Int) (0 : Int)))) (cond ((z o.2.2.1.1) == (0 : Int)) (rt (vb true) []) (.chk (True) (.know True (rt (vb (vValid o.2.2.1)) []))))) := by kernel_rfl
theorem law19_valid_L4_t (o : Den s_api_Outcome) (t21 : List (Den (.sl 80 s_api_Value))) (t22 : Int) (t23 : Int) (t27 : List (Den s_api_Value)) (t28 : Int) (t29 : Int) : run E_R4 H_R4 f_law19_valid 3000 (law19_valid_L4 o t21 t22 t23 t27 t28 t29) = (cond (decide (t29 < t28)) (.chk (0 ≤ t29 ∧ t29 < (ln s_api_Value t27)) (.chk ((0 : Nat) < (1 : Nat)) (.chk ((0 : Nat) < (1 : Nat)) (.chk (True) (.know True (cond (!(vValid (gd s_api_Value t27 ((t29).toNat)))) (rt (vb false) []) (hd (law19_valid_L4 o t21 t22 t23 t27 t28 (IntKind.wrap .i64 (t29 + (1 : Int))))))))))) (hd (law19_valid_L2 o t21 t22 (IntKind.wrap .i64 (t23 + (1 : Int)))))) := by kernel_rfl
noncomputable def law19_large_L0 (o : Den s_api_Outcome) (n : Int) (i : Int) : Cfg := hcfg E_R4 f_law19_large 0 [(1, (.rtp s_api_Outcome o)), (3, (vi n)), (4, (vi i))] [] 0
theorem law19_large_t (o : Den s_api_Outcome) : run E_R4 H_R4 f_law19_large 3000 (start E_R4 f_law19_large [(.tv s_api_Outcome o)]) = (hd (law19_large_L0 o (IntKind.wrap .i64 (((ln s_api_Value o.2.2.2.1) : Int) + ((ln (.sl 80 s_api_Value) o.2.2.2.2.1) : Int))) (0 : Int))) := by kernel_rfl
theorem law19_large_L0_t (o : Den s_api_Outcome) (n : Int) (i : Int) : run E_R4 H_R4 f_law19_large 3000 (law19_large_L0 o n i) = (cond (decide (i < ((ln (.sl 80 s_api_Value) o.2.2.2.2.1) : Int))) (cond (decide (i < (50 : Int))) (.chk (0 ≤ i ∧ i < (ln (.sl 80 s_api_Value) o.2.2.2.2.1)) (cond (decide (((ln s_api_Value (gd (.sl 80 s_api_Value) o.2.2.2.2.1 ((i).toNat))) : Int) > (300 : Int))) (rt (vb true) []) (hd (law19_large_L0 o n (IntKind.wrap .i64 (i + (1 : Int))))))) (rt (vb (decide (n > (100 : Int)))) [])) (rt (vb (decide (n > (100 : Int)))) [])) := by kernel_rfl
noncomputable def verify_Size_L0 (n : Int) (t10 : List (Den s_api_Block)) (t11 : Int) (t12 : Int) : Cfg := hcfg E_R4 f_verify_Size 0 [(3, (vi n)), (10, (.tv (.sl 136 s_api_Block) t10)), (11, (vi t11)), (12, (vi t12))] [] 0
theorem verify_Size_t (f : Den s_api_Func) : run E_R4 H_R4 f_verify_Size 3000 (start E_R4 f_verify_Size [(.tv s_api_Func f)]) = (hd (verify_Size_L0 ((ln s_api_Block f.2.2.2.2.1) : Int) f.2.2.2.2.1 ((ln s_api_Block f.2.2.2.2.1) : Int) (0 : Int))) := by kernel_rfl
theorem verify_Size_L0_t (n : Int) (t10 : List (Den s_api_Block)) (t11 : Int) (t12 : Int) : run E_R4 H_R4 f_verify_Size 3000 (verify_Size_L0 n t10 t11 t12) = (cond (decide (t12 < t11)) (.chk (0 ≤ t12 ∧ t12 < (ln s_api_Block t10)) (hd (verify_Size_L0 (IntKind.wrap .i64 (n + ((ln s_api_Instr (((gd s_api_Block t10 ((t12).toNat)).2).1)) : Int))) t10 t11 (IntKind.wrap .i64 (t12 + (1 : Int)))))) (rt (vi n) [])) := by kernel_rfl
noncomputable def r14_Size_L0 (n : Int) (t10 : List (Den s_api_Block)) (t11 : Int) (t12 : Int) : Cfg := hcfg E_R4 f_r14_Size 0 [(3, (vi n)), (10, (.tv (.sl 136 s_api_Block) t10)), (11, (vi t11)), (12, (vi t12))] [] 0
theorem r14_Size_t (f : Den s_api_Func) : run E_R4 H_R4 f_r14_Size 3000 (start E_R4 f_r14_Size [(.tv s_api_Func f)]) = (hd (r14_Size_L0 ((ln s_api_Block f.2.2.2.2.1) : Int) f.2.2.2.2.1 ((ln s_api_Block f.2.2.2.2.1) : Int) (0 : Int))) := by kernel_rfl
theorem r14_Size_L0_t (n : Int) (t10 : List (Den s_api_Block)) (t11 : Int) (t12 : Int) : run E_R4 H_R4 f_r14_Size 3000 (r14_Size_L0 n t10 t11 t12) = (cond (decide (t12 < t11)) (.chk (0 ≤ t12 ∧ t12 < (ln s_api_Block t10)) (hd (r14_Size_L0 (IntKind.wrap .i64 (n + ((ln s_api_Instr (((gd s_api_Block t10 ((t12).toNat)).2).1)) : Int))) t10 t11 (IntKind.wrap .i64 (t12 + (1 : Int)))))) (rt (vi n) [])) := by kernel_rfl
def cellsR (a b : List (Den (.sl 80 s_api_Value))) : Bool := ln (.sl 80 s_api_Value) a == ln (.sl 80 s_api_Value) b && (List.range (ln (.sl 80 s_api_Value) a)).all fun i => valsR (gd (.sl 80 s_api_Value) a i) (gd (.sl 80 s_api_Value) b i)
def sizeF (f : Den s_api_Func) : Int := List.foldl (α := Int) (β := Den s_api_Block) (fun n b => IntKind.wrap .i64 (n + (ln s_api_Instr b.2.1 : Int))) (ln s_api_Block f.2.2.2.2.1 : Int) f.2.2.2.2.1
def valsOK (l : List (Den s_api_Value)) : Bool := (List.range (ln s_api_Value l)).all fun i => vValid (gd s_api_Value l i)
def validO (o : Den s_api_Outcome) : Bool := valsOK o.2.2.2.1 && ((List.range (ln (.sl 80 s_api_Value) o.2.2.2.2.1)).all (fun i => valsOK (gd (.sl 80 s_api_Value) o.2.2.2.2.1 i)) && (z o.2.2.1.1 == 0 || vValid o.2.2.1))

def k_refine_Values : Con := con [.d (.sl 80 s_api_Value), .d (.sl 80 s_api_Value)] .bool (fun x => True) fun x => valsR x.1 x.2.1
theorem m_refine_Values (a : List (Den s_api_Value)) (b : List (Den s_api_Value)) (h_a : okD (.sl 80 s_api_Value) a) (h_b : okD (.sl 80 s_api_Value) b) (hp : True) : Runs E_R4 (start E_R4 f_refine_Values [(.tv (.sl 80 s_api_Value) a), (.tv (.sl 80 s_api_Value) b)]) (fun r_ h_ => r_ = (vb (valsR a b)) ∧ h_ = []) := .tree E_R4_ok (refine_Values_t a b) (by
  simp only [wp_iff, chk_iff, know_iff, any_iff, rt_iff, hd_iff, true_imp_iff, true_and, and_true, and_self, lt01])
theorem c_refine_Values : SpecOK E_R4 f_refine_Values k_refine_Values.spec := spec_of fun x hx hp => ⟨rfl, m_refine_Values x.1 x.2.1 hx.1 hx.2.1 hp⟩

def k_refine_Difference_cl1 : Con := con [.d (.sl 80 s_api_Value), .d (.sl 80 s_api_Value)] .bool (fun x => True) fun x => valsR x.1 x.2.1
theorem m_refine_Difference_cl1 (x : List (Den s_api_Value)) (y : List (Den s_api_Value)) (h_x : okD (.sl 80 s_api_Value) x) (h_y : okD (.sl 80 s_api_Value) y) (hp : True) : Runs E_R4 (start E_R4 f_refine_Difference_cl1 [(.tv (.sl 80 s_api_Value) x), (.tv (.sl 80 s_api_Value) y)]) (fun r_ h_ => r_ = (vb (valsR x y)) ∧ h_ = []) := .tree E_R4_ok (refine_Difference_cl1_t x y) (by
  simp only [wp_iff, chk_iff, know_iff, any_iff, rt_iff, hd_iff, true_imp_iff, true_and, and_true, and_self, lt01])
theorem c_refine_Difference_cl1 : SpecOK E_R4 f_refine_Difference_cl1 k_refine_Difference_cl1.spec := spec_of fun x hx hp => ⟨rfl, m_refine_Difference_cl1 x.1 x.2.1 hx.1 hx.2.1 hp⟩
theorem r19_cells_l (a b : List (Den (.sl 80 s_api_Value))) (h_a : ln (.sl 80 s_api_Value) a < 9223372036854775807) (hl : ln (.sl 80 s_api_Value) a = ln (.sl 80 s_api_Value) b) : ∀ i, i ≤ ln (.sl 80 s_api_Value) a → Runs E_R4 (r19_cells_L0 a b i) (fun x h => x = vb (((List.range (ln (.sl 80 s_api_Value) a)).drop i).all fun i => valsR (gd (.sl 80 s_api_Value) a i) (gd (.sl 80 s_api_Value) b i)) ∧ h = []) :=
  up_ind (.tree E_R4_ok (r19_cells_L0_t _ _ _) (by simp only [wp_iff, chk_iff, know_iff, any_iff, rt_iff, hd_iff, true_imp_iff, true_and, and_true, and_self, lt01, Int.ofNat_lt, Int.ofNat_le, Int.natCast_nonneg, Int.toNat_natCast, decide_true, decide_false, Bool.true_eq_false, Bool.false_eq_true, false_imp_iff, Nat.lt_irrefl, imp_self, implies_true,  drop_range_n, List.all_nil]))
    fun i hi ih => .tree E_R4_ok (r19_cells_L0_t _ _ _) (by
      simp only [wp_iff, chk_iff, know_iff, any_iff, rt_iff, hd_iff, true_imp_iff, true_and, and_true, and_self, lt01, Int.ofNat_lt, Int.ofNat_le, Int.natCast_nonneg, Int.toNat_natCast, decide_true, decide_false, Bool.true_eq_false, Bool.false_eq_true, false_imp_iff, Nat.lt_irrefl, imp_self, implies_true,  hi, hl ▸ hi, wrapS hi h_a, drop_range hi, List.all_cons]
      exact ite_step ih)
def k_r19_cells : Con := con [.d (.sl 24 (.sl 80 s_api_Value)), .d (.sl 24 (.sl 80 s_api_Value))] .bool (fun x => True) fun x => cellsR x.1 x.2.1
theorem m_r19_cells (a : List (Den (.sl 80 s_api_Value))) (b : List (Den (.sl 80 s_api_Value))) (h_a : okD (.sl 24 (.sl 80 s_api_Value)) a) (h_b : okD (.sl 24 (.sl 80 s_api_Value)) b) (hp : True) : Runs E_R4 (start E_R4 f_r19_cells [(.tv (.sl 24 (.sl 80 s_api_Value)) a), (.tv (.sl 24 (.sl 80 s_api_Value)) b)]) (fun r_ h_ => r_ = (vb (cellsR a b)) ∧ h_ = []) := .tree E_R4_ok (r19_cells_t a b) (by
  unfold cellsR
  simp only [wp_iff, chk_iff, know_iff, any_iff, rt_iff, hd_iff, true_imp_iff, true_and, and_true, and_self, lt01]
  refine ⟨fun h => ?_, fun h => ?_⟩
  · have : (ln (.sl 80 s_api_Value) a == ln (.sl 80 s_api_Value) b) = false := by simp at h; simp; omega
    rw [this]; rfl
  · have hl : ln (.sl 80 s_api_Value) a = ln (.sl 80 s_api_Value) b := by simp at h; omega
    have : (ln (.sl 80 s_api_Value) a == ln (.sl 80 s_api_Value) b) = true := by simpa using hl
    rw [this, Bool.true_and]
    exact r19_cells_l a b (room_lt h_a.1) hl 0 (Nat.zero_le _))
theorem c_r19_cells : SpecOK E_R4 f_r19_cells k_r19_cells.spec := spec_of fun x hx hp => ⟨rfl, m_r19_cells x.1 x.2.1 hx.1 hx.2.1 hp⟩
theorem law19_valid_l2 (o : Den s_api_Outcome) (l : List (Den (.sl 80 s_api_Value))) (hl : ln (.sl 80 s_api_Value) l < 9223372036854775807) (hel : ∀ i, i < ln (.sl 80 s_api_Value) l → ln s_api_Value (gd (.sl 80 s_api_Value) l i) < 9223372036854775807) : ∀ i, i ≤ ln (.sl 80 s_api_Value) l → Runs E_R4 (law19_valid_L2 o l (ln (.sl 80 s_api_Value) l : Nat) i) (fun x h => x = vb (((List.range (ln (.sl 80 s_api_Value) l)).drop i).all (fun i => valsOK (gd (.sl 80 s_api_Value) l i)) && (z o.2.2.1.1 == 0 || vValid o.2.2.1)) ∧ h = []) :=
  up_ind (.tree E_R4_ok (law19_valid_L2_t _ _ _ _) (by
    simp only [wp_iff, chk_iff, know_iff, any_iff, rt_iff, hd_iff, true_imp_iff, true_and, and_true, and_self, lt01, Int.ofNat_lt, Int.ofNat_le, Int.natCast_nonneg, Int.toNat_natCast, decide_true, decide_false, Bool.true_eq_false, Bool.false_eq_true, false_imp_iff, Nat.lt_irrefl, imp_self, implies_true,  drop_range_n, List.all_nil, Bool.true_and]
    exact ⟨fun h => by rw [h]; rfl, fun h => by rw [h]; rfl⟩))
    fun i hi ih => .tree E_R4_ok (law19_valid_L2_t _ _ _ _) (by
      simp only [wp_iff, chk_iff, know_iff, any_iff, rt_iff, hd_iff, true_imp_iff, true_and, and_true, and_self, lt01, Int.ofNat_lt, Int.ofNat_le, Int.natCast_nonneg, Int.toNat_natCast, decide_true, decide_false, Bool.true_eq_false, Bool.false_eq_true, false_imp_iff, Nat.lt_irrefl, imp_self, implies_true,  hi, drop_range hi, List.all_cons]
      have key : ∀ j, j ≤ ln s_api_Value (gd (.sl 80 s_api_Value) l i) → Runs E_R4 (law19_valid_L4 o l (ln (.sl 80 s_api_Value) l : Nat) i (gd (.sl 80 s_api_Value) l i) (ln s_api_Value (gd (.sl 80 s_api_Value) l i) : Nat) j) (fun x h => x = vb (((List.range (ln s_api_Value (gd (.sl 80 s_api_Value) l i))).drop j).all (fun k => vValid (gd s_api_Value (gd (.sl 80 s_api_Value) l i) k)) && (((List.range (ln (.sl 80 s_api_Value) l)).drop (i + 1)).all (fun i => valsOK (gd (.sl 80 s_api_Value) l i)) && (z o.2.2.1.1 == 0 || vValid o.2.2.1))) ∧ h = []) :=
        up_ind (.tree E_R4_ok (law19_valid_L4_t _ _ _ _ _ _ _) (by
          simp only [wp_iff, chk_iff, know_iff, any_iff, rt_iff, hd_iff, true_imp_iff, true_and, and_true, and_self, lt01, Int.ofNat_lt, Int.ofNat_le, Int.natCast_nonneg, Int.toNat_natCast, decide_true, decide_false, Bool.true_eq_false, Bool.false_eq_true, false_imp_iff, Nat.lt_irrefl, imp_self, implies_true,  drop_range_n, List.all_nil, Bool.true_and, wrapS hi hl]
          exact ih))
          fun j hj ihj => .tree E_R4_ok (law19_valid_L4_t _ _ _ _ _ _ _) (by
            simp only [wp_iff, chk_iff, know_iff, any_iff, rt_iff, hd_iff, true_imp_iff, true_and, and_true, and_self, lt01, Int.ofNat_lt, Int.ofNat_le, Int.natCast_nonneg, Int.toNat_natCast, decide_true, decide_false, Bool.true_eq_false, Bool.false_eq_true, false_imp_iff, Nat.lt_irrefl, imp_self, implies_true,  hj, drop_range hj, List.all_cons, wrapS hj (hel i hi)]
            rw [Bool.and_assoc]
            exact ite_step ihj)
      have := key 0 (Nat.zero_le _)
      rw [Bool.and_assoc]
      exact this)
theorem gd_mem {S : Sh} {l : List (Den S)} {i : Nat} (h : i < ln S l) : gd S l i ∈ l := by
  unfold gd
  rw [List.getD_eq_getElem?_getD, List.getElem?_eq_getElem h]
  exact List.getElem_mem h
theorem law19_valid_l0 (o : Den s_api_Outcome) (l : List (Den s_api_Value)) (hl : ln s_api_Value l < 9223372036854775807) (r : Bool) (hr : Runs E_R4 (law19_valid_L2 o o.2.2.2.2.1 (ln (.sl 80 s_api_Value) o.2.2.2.2.1 : Nat) (0 : Int)) (fun x h => x = vb r ∧ h = [])) : ∀ i, i ≤ ln s_api_Value l → Runs E_R4 (law19_valid_L0 o l (ln s_api_Value l : Nat) i) (fun x h => x = vb (((List.range (ln s_api_Value l)).drop i).all (fun i => vValid (gd s_api_Value l i)) && r) ∧ h = []) :=
  up_ind (.tree E_R4_ok (law19_valid_L0_t _ _ _ _) (by
    simp only [wp_iff, chk_iff, know_iff, any_iff, rt_iff, hd_iff, true_imp_iff, true_and, and_true, and_self, lt01, Int.ofNat_lt, Int.ofNat_le, Int.natCast_nonneg, Int.toNat_natCast, decide_true, decide_false, Bool.true_eq_false, Bool.false_eq_true, false_imp_iff, Nat.lt_irrefl, imp_self, implies_true,  drop_range_n, List.all_nil, Bool.true_and]
    exact hr))
    fun i hi ih => .tree E_R4_ok (law19_valid_L0_t _ _ _ _) (by
      simp only [wp_iff, chk_iff, know_iff, any_iff, rt_iff, hd_iff, true_imp_iff, true_and, and_true, and_self, lt01, Int.ofNat_lt, Int.ofNat_le, Int.natCast_nonneg, Int.toNat_natCast, decide_true, decide_false, Bool.true_eq_false, Bool.false_eq_true, false_imp_iff, Nat.lt_irrefl, imp_self, implies_true,  hi, wrapS hi hl, drop_range hi, List.all_cons]
      rw [Bool.and_assoc]
      exact ite_step ih)
def k_law19_valid : Con := con [.d s_api_Outcome] .bool (fun x => True) fun x => validO x.1
theorem m_law19_valid (o : Den s_api_Outcome) (h_o : okD s_api_Outcome o) (hp : True) : Runs E_R4 (start E_R4 f_law19_valid [(.tv s_api_Outcome o)]) (fun r_ h_ => r_ = (vb (validO o)) ∧ h_ = []) := .tree E_R4_ok (law19_valid_t o) (by
  unfold validO
  simp only [wp_iff, chk_iff, know_iff, any_iff, rt_iff, hd_iff, true_imp_iff, true_and, and_true, and_self, lt01]
  obtain ⟨_, _, _, h1, h2, _⟩ := h_o
  exact law19_valid_l0 o _ (room_lt h1.1) _ (law19_valid_l2 o _ (room_lt h2.1) (fun i hi => room_lt (h2.2 _ (gd_mem hi)).1) 0 (Nat.zero_le _)) 0 (Nat.zero_le _))
theorem c_law19_valid : SpecOK E_R4 f_law19_valid k_law19_valid.spec := spec_of fun x hx hp => ⟨rfl, m_law19_valid x.1 hx.1 hp⟩
/-- larger than the statements go through -/
def bigC (o : Den s_api_Outcome) (i : Nat) : Bool := decide ((ln s_api_Value (gd (.sl 80 s_api_Value) o.2.2.2.2.1 i) : Int) > 300)
def largeO (o : Den s_api_Outcome) : Bool := ((List.range (min (ln (.sl 80 s_api_Value) o.2.2.2.2.1) 50)).any (bigC o)) || decide (IntKind.wrap .i64 ((ln s_api_Value o.2.2.2.1 : Int) + (ln (.sl 80 s_api_Value) o.2.2.2.2.1 : Int)) > 100)
theorem law19_large_l (o : Den s_api_Outcome) (w : Int) : ∀ i, i ≤ min (ln (.sl 80 s_api_Value) o.2.2.2.2.1) 50 → Runs E_R4 (law19_large_L0 o w i) (fun x h => x = vb (((List.range (min (ln (.sl 80 s_api_Value) o.2.2.2.2.1) 50)).drop i).any (bigC o) || decide (w > 100)) ∧ h = []) :=
  up_ind (.tree E_R4_ok (law19_large_L0_t _ _ _) (by
    simp only [wp_iff, chk_iff, know_iff, any_iff, rt_iff, hd_iff, true_imp_iff, true_and, and_true, and_self, lt01, Int.ofNat_lt, Int.ofNat_le, Int.natCast_nonneg, Int.toNat_natCast, decide_true, decide_false, Bool.true_eq_false, Bool.false_eq_true, false_imp_iff, Nat.lt_irrefl, imp_self, implies_true,  drop_range_n, List.any_nil, Bool.false_or]
    exact fun h h' => by have := of_decide_eq_true h; have := of_decide_eq_true h'; omega))
    fun i hi ih => .tree E_R4_ok (law19_large_L0_t _ _ _) (by
      have h1 : i < ln (.sl 80 s_api_Value) o.2.2.2.2.1 := by omega
      have h2 : (i : Int) < 50 := by omega
      simp only [wp_iff, chk_iff, know_iff, any_iff, rt_iff, hd_iff, true_imp_iff, true_and, and_true, and_self, lt01, Int.ofNat_lt, Int.ofNat_le, Int.natCast_nonneg, Int.toNat_natCast, decide_true, decide_false, Bool.true_eq_false, Bool.false_eq_true, false_imp_iff, Nat.lt_irrefl, imp_self, implies_true,  h1, h2, drop_range hi, List.any_cons, wrapS hi (show min (ln (.sl 80 s_api_Value) o.2.2.2.2.1) 50 < 9223372036854775807 by omega), bigC] at ih ⊢
      rw [Bool.or_assoc]
      exact or_step ih)
def k_law19_large : Con := con [.d s_api_Outcome] .bool (fun x => True) fun x => largeO x.1
theorem m_law19_large (o : Den s_api_Outcome) (h_o : okD s_api_Outcome o) (hp : True) : Runs E_R4 (start E_R4 f_law19_large [(.tv s_api_Outcome o)]) (fun r_ h_ => r_ = (vb (largeO o)) ∧ h_ = []) := .tree E_R4_ok (law19_large_t o) (by
  unfold largeO
  simp only [wp_iff, chk_iff, know_iff, any_iff, rt_iff, hd_iff, true_imp_iff, true_and, and_true, and_self, lt01]
  exact law19_large_l o _ 0 (Nat.zero_le _))
theorem c_law19_large : SpecOK E_R4 f_law19_large k_law19_large.spec := spec_of fun x hx hp => ⟨rfl, m_law19_large x.1 hx.1 hp⟩
theorem verify_Size_l (l : List (Den s_api_Block)) (hl : ln s_api_Block l < 9223372036854775807) : ∀ i, i ≤ ln s_api_Block l → ∀ n : Int, Runs E_R4 (verify_Size_L0 n l (ln s_api_Block l : Nat) i) (fun x h => x = vi (List.foldl (α := Int) (β := Den s_api_Block) (fun n b => IntKind.wrap .i64 (n + (ln s_api_Instr b.2.1 : Int))) n (l.drop i)) ∧ h = []) :=
  up_ind (fun n => .tree E_R4_ok (verify_Size_L0_t _ _ _ _) (by
    simp only [wp_iff, chk_iff, know_iff, any_iff, rt_iff, hd_iff, true_imp_iff, true_and, and_true, and_self, lt01, Int.ofNat_lt, Int.ofNat_le, Int.natCast_nonneg, Int.toNat_natCast, decide_true, decide_false, Bool.true_eq_false, Bool.false_eq_true, false_imp_iff, Nat.lt_irrefl, imp_self, implies_true,  List.drop_length, List.foldl_nil]))
    fun i hi ih n => .tree E_R4_ok (verify_Size_L0_t _ _ _ _) (by
      simp only [wp_iff, chk_iff, know_iff, any_iff, rt_iff, hd_iff, true_imp_iff, true_and, and_true, and_self, lt01, Int.ofNat_lt, Int.ofNat_le, Int.natCast_nonneg, Int.toNat_natCast, decide_true, decide_false, Bool.true_eq_false, Bool.false_eq_true, false_imp_iff, Nat.lt_irrefl, imp_self, implies_true,  hi, wrapS hi hl, drop_gd hi, List.foldl_cons]
      exact ih _)
def k_verify_Size : Con := con [.d s_api_Func] I (fun x => True) fun x => sizeF x.1
theorem m_verify_Size (f : Den s_api_Func) (h_f : okD s_api_Func f) (hp : True) : Runs E_R4 (start E_R4 f_verify_Size [(.tv s_api_Func f)]) (fun r_ h_ => r_ = (vi (sizeF f)) ∧ h_ = []) := .tree E_R4_ok (verify_Size_t f) (by
  unfold sizeF
  simp only [wp_iff, chk_iff, know_iff, any_iff, rt_iff, hd_iff, true_imp_iff, true_and, and_true, and_self, lt01]
  obtain ⟨_, _, _, _, h1, _⟩ := h_f
  exact verify_Size_l _ (room_lt h1.1) 0 (Nat.zero_le _) _)
theorem c_verify_Size : SpecOK E_R4 f_verify_Size k_verify_Size.spec := spec_of fun x hx hp => ⟨rfl, m_verify_Size x.1 hx.1 hp⟩
theorem r14_Size_l (l : List (Den s_api_Block)) (hl : ln s_api_Block l < 9223372036854775807) : ∀ i, i ≤ ln s_api_Block l → ∀ n : Int, Runs E_R4 (r14_Size_L0 n l (ln s_api_Block l : Nat) i) (fun x h => x = vi (List.foldl (α := Int) (β := Den s_api_Block) (fun n b => IntKind.wrap .i64 (n + (ln s_api_Instr b.2.1 : Int))) n (l.drop i)) ∧ h = []) :=
  up_ind (fun n => .tree E_R4_ok (r14_Size_L0_t _ _ _ _) (by
    simp only [wp_iff, chk_iff, know_iff, any_iff, rt_iff, hd_iff, true_imp_iff, true_and, and_true, and_self, lt01, Int.ofNat_lt, Int.ofNat_le, Int.natCast_nonneg, Int.toNat_natCast, decide_true, decide_false, Bool.true_eq_false, Bool.false_eq_true, false_imp_iff, Nat.lt_irrefl, imp_self, implies_true,  List.drop_length, List.foldl_nil]))
    fun i hi ih n => .tree E_R4_ok (r14_Size_L0_t _ _ _ _) (by
      simp only [wp_iff, chk_iff, know_iff, any_iff, rt_iff, hd_iff, true_imp_iff, true_and, and_true, and_self, lt01, Int.ofNat_lt, Int.ofNat_le, Int.natCast_nonneg, Int.toNat_natCast, decide_true, decide_false, Bool.true_eq_false, Bool.false_eq_true, false_imp_iff, Nat.lt_irrefl, imp_self, implies_true,  hi, wrapS hi hl, drop_gd hi, List.foldl_cons]
      exact ih _)
def k_r14_Size : Con := con [.d s_api_Func] I (fun x => True) fun x => sizeF x.1
theorem m_r14_Size (f : Den s_api_Func) (h_f : okD s_api_Func f) (hp : True) : Runs E_R4 (start E_R4 f_r14_Size [(.tv s_api_Func f)]) (fun r_ h_ => r_ = (vi (sizeF f)) ∧ h_ = []) := .tree E_R4_ok (r14_Size_t f) (by
  unfold sizeF
  simp only [wp_iff, chk_iff, know_iff, any_iff, rt_iff, hd_iff, true_imp_iff, true_and, and_true, and_self, lt01]
  obtain ⟨_, _, _, _, h1, _⟩ := h_f
  exact r14_Size_l _ (room_lt h1.1) 0 (Nat.zero_le _) _)
theorem c_r14_Size : SpecOK E_R4 f_r14_Size k_r14_Size.spec := spec_of fun x hx hp => ⟨rfl, m_r14_Size x.1 hx.1 hp⟩
def L_R4 : List (FuncId × FSpec) := [(f_refine_Values, k_refine_Values.spec), (f_refine_Difference_cl1, k_refine_Difference_cl1.spec), (f_r19_cells, k_r19_cells.spec), (f_law19_valid, k_law19_valid.spec), (f_law19_large, k_law19_large.spec), (f_verify_Size, k_verify_Size.spec), (f_r14_Size, k_r14_Size.spec)] ++ L_R3
theorem L_R4_ok : ∀ x ∈ L_R4, SpecOK (ctx []) x.1 x.2 := by
  unfold L_R4
  simp only [List.cons_append, List.nil_append, List.forall_mem_cons]
  exact ⟨c_refine_Values, c_refine_Difference_cl1, c_r19_cells, c_law19_valid, c_law19_large, c_verify_Size, c_r14_Size, L_R3_ok⟩
end Burn.M19
namespace Burn.M19
open Go Go.BE Go.Proofs
set_option maxRecDepth 100000
set_option linter.unusedVariables false
set_option linter.unusedSimpArgs false
open Burn.Intn Burn.Ref
noncomputable abbrev E_R5 : Ctx := ctx L_R4
theorem E_R5_ok : EOK E_R5 := ctx_ok L_R4_ok
def cuts_R5 : FuncId → Nat → List Nat × List (Wh × Fx)
  | 15, 0 => ([0, 5, 10, 11, 12], [])
  | 16, 0 => ([0, 3, 5, 9, 10], [])
  | 24, 0 => ([1, 2, 14, 15, 16], [])
  | _, _ => ([], [])
def rets_R5 : FuncId → List (Option Sh)
  | _ => []
def H_R5 : Hints := ⟨cuts_R5, rets_R5⟩
noncomputable def pairC_L0 (b : List (Den (.sl 80 s_api_Value))) (t14 : List (Den (.sl 80 s_api_Value))) (t15 : Int) (t16 : Int) : Cfg := hcfg E_R5 f_refine_pairwise_L_api_Value 0 [(1, (.tv (.sl 24 (.sl 80 s_api_Value)) b)), (2, (.fn f_refine_Difference_cl1 [])), (14, (.tv (.sl 24 (.sl 80 s_api_Value)) t14)), (15, (vi t15)), (16, (vi t16))] [] 0
theorem pairC_t (a : List (Den (.sl 80 s_api_Value))) (b : List (Den (.sl 80 s_api_Value))) : run E_R5 H_R5 f_refine_pairwise_L_api_Value 3000 (start E_R5 f_refine_pairwise_L_api_Value [(.tv (.sl 24 (.sl 80 s_api_Value)) a), (.tv (.sl 24 (.sl 80 s_api_Value)) b), (.fn f_refine_Difference_cl1 [])]) = (cond (((ln (.sl 80 s_api_Value) a) : Int) != ((ln (.sl 80 s_api_Value) b) : Int)) (rt (vb false) []) (hd (pairC_L0 b a ((ln (.sl 80 s_api_Value) a) : Int) (0 : Int)))) := by kernel_rfl
theorem pairC_L0_t (b : List (Den (.sl 80 s_api_Value))) (t14 : List (Den (.sl 80 s_api_Value))) (t15 : Int) (t16 : Int) : run E_R5 H_R5 f_refine_pairwise_L_api_Value 3000 (pairC_L0 b t14 t15 t16) = (cond (decide (t16 < t15)) (.chk (0 ≤ t16 ∧ t16 < (ln (.sl 80 s_api_Value) t14)) (.chk (0 ≤ t16 ∧ t16 < (ln (.sl 80 s_api_Value) b)) (.chk (True) (.know True (cond (!(valsR (gd (.sl 80 s_api_Value) t14 ((t16).toNat)) (gd (.sl 80 s_api_Value) b ((t16).toNat)))) (rt (vb false) []) (hd (pairC_L0 b t14 t15 (IntKind.wrap .i64 (t16 + (1 : Int)))))))))) (rt (vb true) [])) := by kernel_rfl
theorem r19_Difference_t (a : Den s_api_Outcome) (b : Den s_api_Outcome) : run E_R5 H_R5 f_r19_Difference 3000 (start E_R5 f_r19_Difference [(.tv s_api_Outcome a), (.tv s_api_Outcome b)]) = (cond ((z b.1) == (3 : Int)) (rt (vi (0 : Int)) []) (cond ((z b.1) == (4 : Int)) (rt (vi (0 : Int)) []) (cond ((z b.1) == (5 : Int)) (rt (vi (0 : Int)) []) (cond ((z a.1) != (z b.1)) (rt (vi (1 : Int)) []) (cond ((z a.1) != (1 : Int)) (cond ((z a.1) != (2 : Int)) (rt (vi (1 : Int)) []) (cond ((z a.1) == (2 : Int)) (cond ((z a.2.1) != (z b.2.1)) (rt (vi (2 : Int)) []) (.chk (True) (.know True (cond (!(valsR a.2.2.2.1 b.2.2.2.1)) (rt (vi (3 : Int)) []) (cond ((z a.1) == (1 : Int)) (.chk (True) (.know True (cond (!(resR a.2.2.1 b.2.2.1)) (rt (vi (4 : Int)) []) (cond ((z a.1) == (1 : Int)) (.chk (True) (.know True (cond (!(cellsR a.2.2.2.2.1 b.2.2.2.2.1)) (rt (vi (5 : Int)) []) (rt (vi (0 : Int)) [])))) (rt (vi (0 : Int)) []))))) (cond ((z a.1) == (1 : Int)) (.chk (True) (.know True (cond (!(cellsR a.2.2.2.2.1 b.2.2.2.2.1)) (rt (vi (5 : Int)) []) (rt (vi (0 : Int)) [])))) (rt (vi (0 : Int)) []))))))) (.chk (True) (.know True (cond (!(valsR a.2.2.2.1 b.2.2.2.1)) (rt (vi (3 : Int)) []) (cond ((z a.1) == (1 : Int)) (.chk (True) (.know True (cond (!(resR a.2.2.1 b.2.2.1)) (rt (vi (4 : Int)) []) (cond ((z a.1) == (1 : Int)) (.chk (True) (.know True (cond (!(cellsR a.2.2.2.2.1 b.2.2.2.2.1)) (rt (vi (5 : Int)) []) (rt (vi (0 : Int)) [])))) (rt (vi (0 : Int)) []))))) (cond ((z a.1) == (1 : Int)) (.chk (True) (.know True (cond (!(cellsR a.2.2.2.2.1 b.2.2.2.2.1)) (rt (vi (5 : Int)) []) (rt (vi (0 : Int)) [])))) (rt (vi (0 : Int)) [])))))))) (cond ((z a.1) == (2 : Int)) (cond ((z a.2.1) != (z b.2.1)) (rt (vi (2 : Int)) []) (.chk (True) (.know True (cond (!(valsR a.2.2.2.1 b.2.2.2.1)) (rt (vi (3 : Int)) []) (cond ((z a.1) == (1 : Int)) (.chk (True) (.know True (cond (!(resR a.2.2.1 b.2.2.1)) (rt (vi (4 : Int)) []) (cond ((z a.1) == (1 : Int)) (.chk (True) (.know True (cond (!(cellsR a.2.2.2.2.1 b.2.2.2.2.1)) (rt (vi (5 : Int)) []) (rt (vi (0 : Int)) [])))) (rt (vi (0 : Int)) []))))) (cond ((z a.1) == (1 : Int)) (.chk (True) (.know True (cond (!(cellsR a.2.2.2.2.1 b.2.2.2.2.1)) (rt (vi (5 : Int)) []) (rt (vi (0 : Int)) [])))) (rt (vi (0 : Int)) []))))))) (.chk (True) (.know True (cond (!(valsR a.2.2.2.1 b.2.2.2.1)) (rt (vi (3 : Int)) []) (cond ((z a.1) == (1 : Int)) (.chk (True) (.know True (cond (!(resR a.2.2.1 b.2.2.1)) (rt (vi (4 : Int)) []) (cond ((z a.1) == (1 : Int)) (.chk (True) (.know True (cond (!(cellsR a.2.2.2.2.1 b.2.2.2.2.1)) (rt (vi (5 : Int)) []) (rt (vi (0 : Int)) [])))) (rt (vi (0 : Int)) []))))) (cond ((z a.1) == (1 : Int)) (.chk (True) (.know True (cond (!(cellsR a.2.2.2.2.1 b.2.2.2.2.1)) (rt (vi (5 : Int)) []) (rt (vi (0 : Int)) [])))) (rt (vi (0 : Int)) [])))))))))))) := by kernel_rfl
noncomputable def refine_StepBound_L0 (steps : Int) (size : Int) (t10 : List (Den s_api_Func)) (t11 : Int) (t12 : Int) : Cfg := hcfg E_R5 f_refine_StepBound 0 [(0, (vi steps)), (5, (vi size)), (10, (.tv (.sl 96 s_api_Func) t10)), (11, (vi t11)), (12, (vi t12))] [] 0
theorem refine_StepBound_t (steps : Int) (m : Den s_api_Module) : run E_R5 H_R5 f_refine_StepBound 3000 (start E_R5 f_refine_StepBound [(vi steps), (.tv s_api_Module m)]) = (hd (refine_StepBound_L0 steps (0 : Int) m.2.1 ((ln s_api_Func m.2.1) : Int) (0 : Int))) := by kernel_rfl
theorem refine_StepBound_L0_t (steps : Int) (size : Int) (t10 : List (Den s_api_Func)) (t11 : Int) (t12 : Int) : run E_R5 H_R5 f_refine_StepBound 3000 (refine_StepBound_L0 steps size t10 t11 t12) = (cond (decide (t12 < t11)) (.chk (0 ≤ t12 ∧ t12 < (ln s_api_Func t10)) (.chk (True) (.know (okD (.int .i64) (sizeF (gd s_api_Func t10 ((t12).toNat)))) (hd (refine_StepBound_L0 steps (if (sizeF (gd s_api_Func t10 ((t12).toNat))) > size then (sizeF (gd s_api_Func t10 ((t12).toNat))) else size) t10 t11 (IntKind.wrap .i64 (t12 + (1 : Int)))))))) (cond (decide ((if (0 : Int) > steps then (0 : Int) else steps) ≥ (1048576 : Int))) (rt (vi (1048576 : Int)) []) (cond (decide (size ≥ (1048576 : Int))) (rt (vi (1048576 : Int)) []) (rt (vi (if (1048576 : Int) < (IntKind.wrap .i64 ((IntKind.wrap .i64 ((if (0 : Int) > steps then (0 : Int) else steps) + (1 : Int))) * (IntKind.wrap .i64 ((1 : Int) + size)))) then (1048576 : Int) else (IntKind.wrap .i64 ((IntKind.wrap .i64 ((if (0 : Int) > steps then (0 : Int) else steps) + (1 : Int))) * (IntKind.wrap .i64 ((1 : Int) + size)))))) [])))) := by kernel_rfl
noncomputable def r19_StepBound_L0 (steps : Int) (m : Den s_api_Module) (size : Int) (t9 : Int) (t10 : Int) : Cfg := hcfg E_R5 f_r19_StepBound 0 [(0, (vi steps)), (3, (.rtp s_api_Module m)), (5, (vi size)), (9, (vi t9)), (10, (vi t10))] [] 0
theorem r19_StepBound_t (steps : Int) (m : Den s_api_Module) : run E_R5 H_R5 f_r19_StepBound 3000 (start E_R5 f_r19_StepBound [(vi steps), (.tv s_api_Module m)]) = (hd (r19_StepBound_L0 steps m (0 : Int) ((ln s_api_Func m.2.1) : Int) (0 : Int))) := by kernel_rfl
theorem r19_StepBound_L0_t (steps : Int) (m : Den s_api_Module) (size : Int) (t9 : Int) (t10 : Int) : run E_R5 H_R5 f_r19_StepBound 3000 (r19_StepBound_L0 steps m size t9 t10) = (cond (decide (t10 < t9)) (.chk (0 ≤ t10 ∧ t10 < (ln s_api_Func m.2.1)) (.chk (True) (.know (okD (.int .i64) (sizeF (gd s_api_Func m.2.1 ((t10).toNat)))) (hd (r19_StepBound_L0 steps m (if (sizeF (gd s_api_Func m.2.1 ((t10).toNat))) > size then (sizeF (gd s_api_Func m.2.1 ((t10).toNat))) else size) t9 (IntKind.wrap .i64 (t10 + (1 : Int)))))))) (cond (decide (steps < (0 : Int))) (cond (decide (size ≥ (1048576 : Int))) (rt (vi (1048576 : Int)) []) (rt (vi (if (1048576 : Int) < (IntKind.wrap .i64 ((1 : Int) * (IntKind.wrap .i64 ((1 : Int) + size)))) then (1048576 : Int) else (IntKind.wrap .i64 ((1 : Int) * (IntKind.wrap .i64 ((1 : Int) + size)))))) [])) (cond (decide (steps ≥ (1048576 : Int))) (rt (vi (1048576 : Int)) []) (cond (decide (size ≥ (1048576 : Int))) (rt (vi (1048576 : Int)) []) (rt (vi (if (1048576 : Int) < (IntKind.wrap .i64 ((IntKind.wrap .i64 (steps + (1 : Int))) * (IntKind.wrap .i64 ((1 : Int) + size)))) then (1048576 : Int) else (IntKind.wrap .i64 ((IntKind.wrap .i64 (steps + (1 : Int))) * (IntKind.wrap .i64 ((1 : Int) + size)))))) []))))) := by kernel_rfl
theorem pairC_l (a b : List (Den (.sl 80 s_api_Value))) (h_a : ln (.sl 80 s_api_Value) a < 9223372036854775807) (hl : ln (.sl 80 s_api_Value) a = ln (.sl 80 s_api_Value) b) : ∀ i, i ≤ ln (.sl 80 s_api_Value) a → Runs E_R5 (pairC_L0 b a (ln (.sl 80 s_api_Value) a : Nat) i) (fun x h => x = vb (((List.range (ln (.sl 80 s_api_Value) a)).drop i).all fun i => valsR (gd (.sl 80 s_api_Value) a i) (gd (.sl 80 s_api_Value) b i)) ∧ h = []) :=
  up_ind (.tree E_R5_ok (pairC_L0_t _ _ _ _) (by simp only [wp_iff, chk_iff, know_iff, any_iff, rt_iff, hd_iff, true_imp_iff, true_and, and_true, and_self, lt01, Int.ofNat_lt, Int.ofNat_le, Int.natCast_nonneg, Int.toNat_natCast, decide_true, decide_false, Bool.true_eq_false, Bool.false_eq_true, false_imp_iff, Nat.lt_irrefl, imp_self, implies_true,  drop_range_n, List.all_nil]))
    fun i hi ih => .tree E_R5_ok (pairC_L0_t _ _ _ _) (by
      simp only [wp_iff, chk_iff, know_iff, any_iff, rt_iff, hd_iff, true_imp_iff, true_and, and_true, and_self, lt01, Int.ofNat_lt, Int.ofNat_le, Int.natCast_nonneg, Int.toNat_natCast, decide_true, decide_false, Bool.true_eq_false, Bool.false_eq_true, false_imp_iff, Nat.lt_irrefl, imp_self, implies_true,  hi, hl ▸ hi, wrapS hi h_a, drop_range hi, List.all_cons]
      exact ite_step ih)
def k_pairC : Con := con [.d (.sl 24 (.sl 80 s_api_Value)), .d (.sl 24 (.sl 80 s_api_Value)), .fn f_refine_Difference_cl1 []] .bool (fun x => True) fun x => cellsR x.1 x.2.1
theorem m_pairC (a : List (Den (.sl 80 s_api_Value))) (b : List (Den (.sl 80 s_api_Value))) (h_a : okD (.sl 24 (.sl 80 s_api_Value)) a) (h_b : okD (.sl 24 (.sl 80 s_api_Value)) b) (hp : True) : Runs E_R5 (start E_R5 f_refine_pairwise_L_api_Value [(.tv (.sl 24 (.sl 80 s_api_Value)) a), (.tv (.sl 24 (.sl 80 s_api_Value)) b), (.fn f_refine_Difference_cl1 [])]) (fun r_ h_ => r_ = (vb (cellsR a b)) ∧ h_ = []) := .tree E_R5_ok (pairC_t a b) (by
  unfold cellsR
  simp only [wp_iff, chk_iff, know_iff, any_iff, rt_iff, hd_iff, true_imp_iff, true_and, and_true, and_self, lt01]
  refine ⟨fun h => ?_, fun h => ?_⟩
  · have : (ln (.sl 80 s_api_Value) a == ln (.sl 80 s_api_Value) b) = false := by simp at h; simp; omega
    rw [this]; rfl
  · have hl : ln (.sl 80 s_api_Value) a = ln (.sl 80 s_api_Value) b := by simp at h; omega
    have : (ln (.sl 80 s_api_Value) a == ln (.sl 80 s_api_Value) b) = true := by simpa using hl
    rw [this, Bool.true_and]
    exact pairC_l a b (room_lt h_a.1) hl 0 (Nat.zero_le _))
theorem c_pairC : SpecOK E_R5 f_refine_pairwise_L_api_Value k_pairC.spec := spec_of fun x hx hp => ⟨rfl, m_pairC x.1 x.2.1 hx.1 hx.2.1 hp⟩
def diffR (a b : Den s_api_Outcome) : Int := if z b.1 == 3 || z b.1 == 4 || z b.1 == 5 then 0 else if z a.1 != z b.1 || (z a.1 != 1 && z a.1 != 2) then 1 else if z a.1 == 2 && z a.2.1 != z b.2.1 then 2 else if !valsR a.2.2.2.1 b.2.2.2.1 then 3 else if z a.1 == 1 && !resR a.2.2.1 b.2.2.1 then 4 else if z a.1 == 1 && !cellsR a.2.2.2.2.1 b.2.2.2.2.1 then 5 else 0
def sizeM (m : Den s_api_Module) : Int := List.foldl (α := Int) (β := Den s_api_Func) (fun s f => if sizeF f > s then sizeF f else s) 0 m.2.1
def boundS (steps s : Int) : Int := if steps ≥ 1048576 ∨ s ≥ 1048576 then 1048576 else if 1048576 < ((if 0 > steps then 0 else steps) + 1) * (1 + s) then 1048576 else ((if 0 > steps then 0 else steps) + 1) * (1 + s)
def boundF (steps : Int) (m : Den s_api_Module) : Int := boundS steps (sizeM m)

def k_r19_Difference : Con := con [.d s_api_Outcome, .d s_api_Outcome] I (fun x => True) fun x => diffR x.1 x.2.1
theorem m_r19_Difference (a : Den s_api_Outcome) (b : Den s_api_Outcome) (h_a : okD s_api_Outcome a) (h_b : okD s_api_Outcome b) (hp : True) : Runs E_R5 (start E_R5 f_r19_Difference [(.tv s_api_Outcome a), (.tv s_api_Outcome b)]) (fun r_ h_ => r_ = (vi (diffR a b)) ∧ h_ = []) := .tree E_R5_ok (r19_Difference_t a b) (by
  unfold diffR
  simp only [wp_iff, chk_iff, know_iff, any_iff, rt_iff, hd_iff, true_imp_iff, true_and, and_true, and_self, lt01]
  repeat' (first | refine And.intro ?_ ?_ | intro _)
  all_goals (refine congrArg (fun n : Int => vi n) ?_; simp_all))
theorem c_r19_Difference : SpecOK E_R5 f_r19_Difference k_r19_Difference.spec := spec_of fun x hx hp => ⟨rfl, m_r19_Difference x.1 x.2.1 hx.1 hx.2.1 hp⟩
theorem bnd_wrap {n s : Int} (h0 : 0 ≤ n) (h1 : n < 1048576) (h2 : 0 ≤ s) (h3 : s < 1048576) : IntKind.wrap .i64 (IntKind.wrap .i64 (n + 1) * IntKind.wrap .i64 (1 + s)) = (n + 1) * (1 + s) := by
  have hp : (n + 1) * (1 + s) ≤ 1048576 * 1048576 := Int.mul_le_mul (by omega) (by omega) (by omega) (by omega)
  have hq : 0 ≤ (n + 1) * (1 + s) := Int.mul_nonneg (by omega) (by omega)
  rw [wrap64 (n + 1) (by omega) (by omega), wrap64 (1 + s) (by omega) (by omega), wrap64 _ (by omega) (by omega)]
theorem refine_StepBound_l (steps : Int) (l : List (Den s_api_Func)) (hl : ln s_api_Func l < 9223372036854775807) : ∀ i, i ≤ ln s_api_Func l → ∀ s : Int, 0 ≤ s → Runs E_R5 (refine_StepBound_L0 steps s l (ln s_api_Func l : Nat) i) (fun x h => x = vi (boundS steps (List.foldl (α := Int) (β := Den s_api_Func) (fun s f => if sizeF f > s then sizeF f else s) s (l.drop i))) ∧ h = []) :=
  up_ind (fun s hs => .tree E_R5_ok (refine_StepBound_L0_t _ _ _ _ _) (by
    simp only [wp_iff, chk_iff, know_iff, any_iff, rt_iff, hd_iff, true_imp_iff, true_and, and_true, and_self, lt01, Int.ofNat_lt, Int.ofNat_le, Int.natCast_nonneg, Int.toNat_natCast, decide_true, decide_false, Bool.true_eq_false, Bool.false_eq_true, false_imp_iff, Nat.lt_irrefl, imp_self, implies_true,  List.drop_length, List.foldl_nil]
    unfold boundS
    refine ⟨fun h => ?_, fun h => ⟨fun h2 => ?_, fun h2 => ?_⟩⟩
    · rw [if_pos (Or.inl (by grind))]
    · rw [if_pos (Or.inr (by grind))]
    · have h' : ¬ (if (0 : Int) > steps then (0 : Int) else steps) ≥ 1048576 := of_decide_eq_false h
      have h2' : ¬ s ≥ 1048576 := of_decide_eq_false h2
      have h3 : (0 : Int) ≤ (if (0 : Int) > steps then (0 : Int) else steps) := by split <;> omega
      have h4 : ¬ (steps ≥ 1048576 ∨ s ≥ 1048576) := by split at h' <;> omega
      rw [if_neg h4, bnd_wrap h3 (by omega) hs (by omega)]))
    fun i hi ih s hs => .tree E_R5_ok (refine_StepBound_L0_t _ _ _ _ _) (by
      simp only [wp_iff, chk_iff, know_iff, any_iff, rt_iff, hd_iff, true_imp_iff, true_and, and_true, and_self, lt01, Int.ofNat_lt, Int.ofNat_le, Int.natCast_nonneg, Int.toNat_natCast, decide_true, decide_false, Bool.true_eq_false, Bool.false_eq_true, false_imp_iff, Nat.lt_irrefl, imp_self, implies_true,  hi, wrapS hi hl, drop_gd hi, List.foldl_cons]
      exact fun _ => ih _ (by grind))
def k_refine_StepBound : Con := con [.d I, .d s_api_Module] I (fun x => True) fun x => boundF x.1 x.2.1
theorem m_refine_StepBound (steps : Int) (m : Den s_api_Module) (h_steps : okD I steps) (h_m : okD s_api_Module m) (hp : True) : Runs E_R5 (start E_R5 f_refine_StepBound [(vi steps), (.tv s_api_Module m)]) (fun r_ h_ => r_ = (vi (boundF steps m)) ∧ h_ = []) := .tree E_R5_ok (refine_StepBound_t steps m) (by
  unfold boundF sizeM
  simp only [wp_iff, chk_iff, know_iff, any_iff, rt_iff, hd_iff, true_imp_iff, true_and, and_true, and_self, lt01]
  obtain ⟨_, h1, _⟩ := h_m
  exact refine_StepBound_l _ _ (room_lt h1.1) 0 (Nat.zero_le _) _ (by decide))
theorem c_refine_StepBound : SpecOK E_R5 f_refine_StepBound k_refine_StepBound.spec := spec_of fun x hx hp => ⟨rfl, m_refine_StepBound x.1 x.2.1 hx.1 hx.2.1 hp⟩
theorem r19_StepBound_l (steps : Int) (m : Den s_api_Module) (l : List (Den s_api_Func)) (e : m.2.1 = l) (hl : ln s_api_Func l < 9223372036854775807) : ∀ i, i ≤ ln s_api_Func l → ∀ s : Int, 0 ≤ s → Runs E_R5 (r19_StepBound_L0 steps m s (ln s_api_Func l : Nat) i) (fun x h => x = vi (boundS steps (List.foldl (α := Int) (β := Den s_api_Func) (fun s f => if sizeF f > s then sizeF f else s) s (l.drop i))) ∧ h = []) :=
  up_ind (fun s hs => .tree E_R5_ok (r19_StepBound_L0_t _ _ _ _ _) (by
    simp only [wp_iff, chk_iff, know_iff, any_iff, rt_iff, hd_iff, true_imp_iff, true_and, and_true, and_self, lt01, Int.ofNat_lt, Int.ofNat_le, Int.natCast_nonneg, Int.toNat_natCast, decide_true, decide_false, Bool.true_eq_false, Bool.false_eq_true, false_imp_iff, Nat.lt_irrefl, imp_self, implies_true,  e, List.drop_length, List.foldl_nil]
    unfold boundS
    refine ⟨fun h0 => ⟨fun h2 => ?_, fun h2 => ?_⟩, fun h0 => ⟨fun h => ?_, fun h => ⟨fun h2 => ?_, fun h2 => ?_⟩⟩⟩
    · rw [if_pos (Or.inr (of_decide_eq_true h2))]
    · have h0' : steps < 0 := of_decide_eq_true h0
      have h2' : ¬ s ≥ 1048576 := of_decide_eq_false h2
      have := bnd_wrap (n := 0) (s := s) (by omega) (by omega) hs (by omega)
      rw [show IntKind.wrap .i64 (0 + 1) = 1 from by decide] at this
      rw [this, if_neg (show ¬ (steps ≥ 1048576 ∨ s ≥ 1048576) by omega), if_pos (show (0 : Int) > steps by omega)]
    · rw [if_pos (Or.inl (of_decide_eq_true h))]
    · rw [if_pos (Or.inr (of_decide_eq_true h2))]
    · have h' : ¬ steps ≥ 1048576 := of_decide_eq_false h
      have h0' : ¬ steps < 0 := of_decide_eq_false h0
      have h2' : ¬ s ≥ 1048576 := of_decide_eq_false h2
      rw [bnd_wrap (by omega) (by omega) hs (by omega), if_neg (show ¬ (steps ≥ 1048576 ∨ s ≥ 1048576) by omega), if_neg (show ¬ (0 : Int) > steps by omega)]))
    fun i hi ih s hs => .tree E_R5_ok (r19_StepBound_L0_t _ _ _ _ _) (by
      simp only [wp_iff, chk_iff, know_iff, any_iff, rt_iff, hd_iff, true_imp_iff, true_and, and_true, and_self, lt01, Int.ofNat_lt, Int.ofNat_le, Int.natCast_nonneg, Int.toNat_natCast, decide_true, decide_false, Bool.true_eq_false, Bool.false_eq_true, false_imp_iff, Nat.lt_irrefl, imp_self, implies_true,  e, hi, wrapS hi hl, drop_gd hi, List.foldl_cons]
      exact fun _ => ih _ (by grind))
def k_r19_StepBound : Con := con [.d I, .d s_api_Module] I (fun x => True) fun x => boundF x.1 x.2.1
theorem m_r19_StepBound (steps : Int) (m : Den s_api_Module) (h_steps : okD I steps) (h_m : okD s_api_Module m) (hp : True) : Runs E_R5 (start E_R5 f_r19_StepBound [(vi steps), (.tv s_api_Module m)]) (fun r_ h_ => r_ = (vi (boundF steps m)) ∧ h_ = []) := .tree E_R5_ok (r19_StepBound_t steps m) (by
  unfold boundF sizeM
  simp only [wp_iff, chk_iff, know_iff, any_iff, rt_iff, hd_iff, true_imp_iff, true_and, and_true, and_self, lt01]
  obtain ⟨_, h1, _⟩ := h_m
  exact r19_StepBound_l _ _ _ rfl (room_lt h1.1) 0 (Nat.zero_le _) _ (by decide))
theorem c_r19_StepBound : SpecOK E_R5 f_r19_StepBound k_r19_StepBound.spec := spec_of fun x hx hp => ⟨rfl, m_r19_StepBound x.1 x.2.1 hx.1 hx.2.1 hp⟩
def L_R5 : List (FuncId × FSpec) := [(f_refine_pairwise_L_api_Value, k_pairC.spec), (f_r19_Difference, k_r19_Difference.spec), (f_refine_StepBound, k_refine_StepBound.spec), (f_r19_StepBound, k_r19_StepBound.spec)] ++ L_R4
theorem L_R5_ok : ∀ x ∈ L_R5, SpecOK (ctx []) x.1 x.2 := by
  unfold L_R5
  simp only [List.cons_append, List.nil_append, List.forall_mem_cons]
  exact ⟨c_pairC, c_r19_Difference, c_refine_StepBound, c_r19_StepBound, L_R4_ok⟩
end Burn.M19
namespace Burn.M19
open Go Go.BE Go.Proofs
set_option maxRecDepth 100000
set_option linter.unusedVariables false
set_option linter.unusedSimpArgs false
open Burn.Intn Burn.Ref
noncomputable abbrev E_R6 : Ctx := ctx L_R5
theorem E_R6_ok : EOK E_R6 := ctx_ok L_R5_ok
def cuts_R6 : FuncId → Nat → List Nat × List (Wh × Fx)
  | _, _ => ([], [])
def rets_R6 : FuncId → List (Option Sh)
  | _ => []
def H_R6 : Hints := ⟨cuts_R6, rets_R6⟩
theorem refine_Difference_t (a : Den s_api_Outcome) (b : Den s_api_Outcome) : run E_R6 H_R6 f_refine_Difference 3000 (start E_R6 f_refine_Difference [(.tv s_api_Outcome a), (.tv s_api_Outcome b)]) = (cond ((z b.1) == (3 : Int)) (rt (vi (0 : Int)) []) (cond ((z b.1) == (4 : Int)) (rt (vi (0 : Int)) []) (cond ((z b.1) == (5 : Int)) (rt (vi (0 : Int)) []) (cond ((z a.1) != (z b.1)) (rt (vi (1 : Int)) []) (cond (!((z b.1) == (1 : Int))) (cond ((z b.1) != (2 : Int)) (rt (vi (1 : Int)) []) (cond (!((z b.1) == (1 : Int))) (cond ((z a.2.1) != (z b.2.1)) (rt (vi (2 : Int)) []) (.chk (True) (.know True (cond (!(valsR a.2.2.2.1 b.2.2.2.1)) (rt (vi (3 : Int)) []) (cond ((z b.1) == (1 : Int)) (.chk (True) (.know True (cond (!(resR a.2.2.1 b.2.2.1)) (rt (vi (4 : Int)) []) (cond ((z b.1) == (1 : Int)) (.chk (True) (.know True (cond (!(cellsR a.2.2.2.2.1 b.2.2.2.2.1)) (rt (vi (5 : Int)) []) (rt (vi (0 : Int)) [])))) (rt (vi (0 : Int)) []))))) (cond ((z b.1) == (1 : Int)) (.chk (True) (.know True (cond (!(cellsR a.2.2.2.2.1 b.2.2.2.2.1)) (rt (vi (5 : Int)) []) (rt (vi (0 : Int)) [])))) (rt (vi (0 : Int)) []))))))) (.chk (True) (.know True (cond (!(valsR a.2.2.2.1 b.2.2.2.1)) (rt (vi (3 : Int)) []) (cond ((z b.1) == (1 : Int)) (.chk (True) (.know True (cond (!(resR a.2.2.1 b.2.2.1)) (rt (vi (4 : Int)) []) (cond ((z b.1) == (1 : Int)) (.chk (True) (.know True (cond (!(cellsR a.2.2.2.2.1 b.2.2.2.2.1)) (rt (vi (5 : Int)) []) (rt (vi (0 : Int)) [])))) (rt (vi (0 : Int)) []))))) (cond ((z b.1) == (1 : Int)) (.chk (True) (.know True (cond (!(cellsR a.2.2.2.2.1 b.2.2.2.2.1)) (rt (vi (5 : Int)) []) (rt (vi (0 : Int)) [])))) (rt (vi (0 : Int)) [])))))))) (cond (!((z b.1) == (1 : Int))) (cond ((z a.2.1) != (z b.2.1)) (rt (vi (2 : Int)) []) (.chk (True) (.know True (cond (!(valsR a.2.2.2.1 b.2.2.2.1)) (rt (vi (3 : Int)) []) (cond ((z b.1) == (1 : Int)) (.chk (True) (.know True (cond (!(resR a.2.2.1 b.2.2.1)) (rt (vi (4 : Int)) []) (cond ((z b.1) == (1 : Int)) (.chk (True) (.know True (cond (!(cellsR a.2.2.2.2.1 b.2.2.2.2.1)) (rt (vi (5 : Int)) []) (rt (vi (0 : Int)) [])))) (rt (vi (0 : Int)) []))))) (cond ((z b.1) == (1 : Int)) (.chk (True) (.know True (cond (!(cellsR a.2.2.2.2.1 b.2.2.2.2.1)) (rt (vi (5 : Int)) []) (rt (vi (0 : Int)) [])))) (rt (vi (0 : Int)) []))))))) (.chk (True) (.know True (cond (!(valsR a.2.2.2.1 b.2.2.2.1)) (rt (vi (3 : Int)) []) (cond ((z b.1) == (1 : Int)) (.chk (True) (.know True (cond (!(resR a.2.2.1 b.2.2.1)) (rt (vi (4 : Int)) []) (cond ((z b.1) == (1 : Int)) (.chk (True) (.know True (cond (!(cellsR a.2.2.2.2.1 b.2.2.2.2.1)) (rt (vi (5 : Int)) []) (rt (vi (0 : Int)) [])))) (rt (vi (0 : Int)) []))))) (cond ((z b.1) == (1 : Int)) (.chk (True) (.know True (cond (!(cellsR a.2.2.2.2.1 b.2.2.2.2.1)) (rt (vi (5 : Int)) []) (rt (vi (0 : Int)) [])))) (rt (vi (0 : Int)) [])))))))))))) := by kernel_rfl

def k_refine_Difference : Con := con [.d s_api_Outcome, .d s_api_Outcome] I (fun x => True) fun x => diffR x.1 x.2.1
theorem m_refine_Difference (a : Den s_api_Outcome) (b : Den s_api_Outcome) (h_a : okD s_api_Outcome a) (h_b : okD s_api_Outcome b) (hp : True) : Runs E_R6 (start E_R6 f_refine_Difference [(.tv s_api_Outcome a), (.tv s_api_Outcome b)]) (fun r_ h_ => r_ = (vi (diffR a b)) ∧ h_ = []) := .tree E_R6_ok (refine_Difference_t a b) (by
  unfold diffR
  simp only [wp_iff, chk_iff, know_iff, any_iff, rt_iff, hd_iff, true_imp_iff, true_and, and_true, and_self, lt01]
  repeat' (first | refine And.intro ?_ ?_ | intro _)
  all_goals (refine congrArg (fun n : Int => vi n) ?_; simp_all)
  all_goals (intro h; exact absurd h (by decide)))
theorem c_refine_Difference : SpecOK E_R6 f_refine_Difference k_refine_Difference.spec := spec_of fun x hx hp => ⟨rfl, m_refine_Difference x.1 x.2.1 hx.1 hx.2.1 hp⟩
def L_R6 : List (FuncId × FSpec) := [(f_refine_Difference, k_refine_Difference.spec)] ++ L_R5
theorem L_R6_ok : ∀ x ∈ L_R6, SpecOK (ctx []) x.1 x.2 := by
  unfold L_R6
  simp only [List.cons_append, List.nil_append, List.forall_mem_cons]
  exact ⟨c_refine_Difference, L_R5_ok⟩
end Burn.M19
namespace Burn.M19
open Go Go.BE Go.Proofs
set_option maxRecDepth 100000
set_option linter.unusedVariables false
set_option linter.unusedSimpArgs false
open Burn.Intn Burn.Ref
noncomputable abbrev E_R7 : Ctx := ctx L_R6
theorem E_R7_ok : EOK E_R7 := ctx_ok L_R6_ok
def cuts_R7 : FuncId → Nat → List Nat × List (Wh × Fx)
  | _, _ => ([], [])
def rets_R7 : FuncId → List (Option Sh)
  | _ => []
def H_R7 : Hints := ⟨cuts_R7, rets_R7⟩
theorem refine_Outcome_t (a : Den s_api_Outcome) (b : Den s_api_Outcome) : run E_R7 H_R7 f_refine_Outcome 3000 (start E_R7 f_refine_Outcome [(.tv s_api_Outcome a), (.tv s_api_Outcome b)]) = (.chk (True) (.know (okD (.int .i64) (diffR a b)) (rt (vb ((diffR a b) == (0 : Int))) []))) := by kernel_rfl
def outR (a b : Den s_api_Outcome) : Bool := diffR a b == 0

def k_refine_Outcome : Con := con [.d s_api_Outcome, .d s_api_Outcome] .bool (fun x => True) fun x => outR x.1 x.2.1
theorem m_refine_Outcome (a : Den s_api_Outcome) (b : Den s_api_Outcome) (h_a : okD s_api_Outcome a) (h_b : okD s_api_Outcome b) (hp : True) : Runs E_R7 (start E_R7 f_refine_Outcome [(.tv s_api_Outcome a), (.tv s_api_Outcome b)]) (fun r_ h_ => r_ = (vb (outR a b)) ∧ h_ = []) := .tree E_R7_ok (refine_Outcome_t a b) (by
  unfold outR
  simp only [wp_iff, chk_iff, know_iff, any_iff, rt_iff, hd_iff, true_imp_iff, true_and, and_true, and_self, lt01]
  exact fun _ => trivial)
theorem c_refine_Outcome : SpecOK E_R7 f_refine_Outcome k_refine_Outcome.spec := spec_of fun x hx hp => ⟨rfl, m_refine_Outcome x.1 x.2.1 hx.1 hx.2.1 hp⟩
def L_R7 : List (FuncId × FSpec) := [(f_refine_Outcome, k_refine_Outcome.spec)] ++ L_R6
theorem L_R7_ok : ∀ x ∈ L_R7, SpecOK (ctx []) x.1 x.2 := by
  unfold L_R7
  simp only [List.cons_append, List.nil_append, List.forall_mem_cons]
  exact ⟨c_refine_Outcome, L_R6_ok⟩
end Burn.M19
namespace Burn.M19
open Go Go.BE Go.Proofs
set_option maxRecDepth 100000
set_option linter.unusedVariables false
set_option linter.unusedSimpArgs false
open Burn.Intn Burn.Ref
noncomputable abbrev E_R8 : Ctx := ctx L_R7
theorem E_R8_ok : EOK E_R8 := ctx_ok L_R7_ok
def cuts_R8 : FuncId → Nat → List Nat × List (Wh × Fx)
  | _, _ => ([], [])
def rets_R8 : FuncId → List (Option Sh)
  | _ => []
def H_R8 : Hints := ⟨cuts_R8, rets_R8⟩
theorem law19_awake_t : run E_R8 H_R8 f_law19_awake 3000 (start E_R8 f_law19_awake []) = (.chk (True) (.know (okD s_api_Value (intV (3 : Int) (5 : Int))) (.chk ((0 : Nat) < (1 : Nat)) (.chk ((0 : Nat) < (1 : Nat)) (.chk (True) (.know (okD s_api_Value (poisV (3 : Int))) (.chk ((2 : Int) = (2 : Int)) (.chk (0 ≤ (2 : Int)) (.chk ((2 : Nat) * 80 ≤ roomB) (.chk ((0 : Nat) < (1 : Nat)) (.chk (True) (.know True (cond (outR ((1 : Int), (0 : Int), (intV (3 : Int) (5 : Int)), ([] : List (Den s_api_Value)), ([] : List (Den (.sl 80 s_api_Value))), (0 : Int), ()) ((3 : Int), (0 : Int), ((0 : Int), (0 : Int), (((0 : Int), false, false, ()), (((0 : Int), false, false, ()), (((0 : Int), false, false, ()), (((0 : Int), false, false, ()), ())))), ()), ([] : List (Den s_api_Value)), ([] : List (Den (.sl 80 s_api_Value))), (0 : Int), ())) (.chk (True) (.know (okD (.int .i64) (diffR ((4 : Int), (0 : Int), ((0 : Int), (0 : Int), (((0 : Int), false, false, ()), (((0 : Int), false, false, ()), (((0 : Int), false, false, ()), (((0 : Int), false, false, ()), ())))), ()), ([] : List (Den s_api_Value)), ([] : List (Den (.sl 80 s_api_Value))), (0 : Int), ()) ((1 : Int), (0 : Int), (intV (3 : Int) (5 : Int)), ([] : List (Den s_api_Value)), ([] : List (Den (.sl 80 s_api_Value))), (0 : Int), ()))) (cond ((diffR ((4 : Int), (0 : Int), ((0 : Int), (0 : Int), (((0 : Int), false, false, ()), (((0 : Int), false, false, ()), (((0 : Int), false, false, ()), (((0 : Int), false, false, ()), ())))), ()), ([] : List (Den s_api_Value)), ([] : List (Den (.sl 80 s_api_Value))), (0 : Int), ()) ((1 : Int), (0 : Int), (intV (3 : Int) (5 : Int)), ([] : List (Den s_api_Value)), ([] : List (Den (.sl 80 s_api_Value))), (0 : Int), ())) == (1 : Int)) (.chk (True) (.know True (cond (outR ((1 : Int), (0 : Int), (intV (3 : Int) (5 : Int)), ([] : List (Den s_api_Value)), ([] : List (Den (.sl 80 s_api_Value))), (0 : Int), ()) ((1 : Int), (0 : Int), (poisV (3 : Int)), ([] : List (Den s_api_Value)), ([] : List (Den (.sl 80 s_api_Value))), (0 : Int), ())) (.chk (True) (.know (okD (.int .i64) (diffR ((1 : Int), (0 : Int), (poisV (3 : Int)), ([] : List (Den s_api_Value)), ([] : List (Den (.sl 80 s_api_Value))), (0 : Int), ()) ((1 : Int), (0 : Int), (intV (3 : Int) (5 : Int)), ([] : List (Den s_api_Value)), ([] : List (Den (.sl 80 s_api_Value))), (0 : Int), ()))) (cond ((diffR ((1 : Int), (0 : Int), (poisV (3 : Int)), ([] : List (Den s_api_Value)), ([] : List (Den (.sl 80 s_api_Value))), (0 : Int), ()) ((1 : Int), (0 : Int), (intV (3 : Int) (5 : Int)), ([] : List (Den s_api_Value)), ([] : List (Den (.sl 80 s_api_Value))), (0 : Int), ())) == (4 : Int)) (.chk ((0 : Nat) < (1 : Nat)) (.chk ((0 : Nat) < (1 : Nat)) (.chk (True) (.know True (cond (valsR ([(intV (3 : Int) (5 : Int))] : List (Den s_api_Value)) ([(intV (3 : Int) (5 : Int))] : List (Den s_api_Value))) (.chk ((0 : Nat) < (1 : Nat)) (.chk (True) (.know True (cond (!(valsR ([] : List (Den s_api_Value)) ([(intV (3 : Int) (5 : Int))] : List (Den s_api_Value)))) (.chk ((0 : Nat) < (1 : Nat)) (.chk (True) (.know (okD (.int .i64) (boundF (0 : Int) (([] : List (Den s_api_Global)), ([(ByteArray.empty, ([] : List (Den I)), (0 : Int), ([] : List (Den I)), ([(([] : List (Den I)), (List.replicate (2 : Nat) (dz s_api_Instr)), ((0 : Int), ([] : List (Den I)), ([] : List (Den I)), ([] : List (Den s_api_Edge)), (0 : Int), ()), ()), (([] : List (Den I)), ([] : List (Den s_api_Instr)), ((0 : Int), ([] : List (Den I)), ([] : List (Den I)), ([] : List (Den s_api_Edge)), (0 : Int), ()), ())] : List (Den s_api_Block)), ())] : List (Den s_api_Func)), ()))) (cond ((boundF (0 : Int) (([] : List (Den s_api_Global)), ([(ByteArray.empty, ([] : List (Den I)), (0 : Int), ([] : List (Den I)), ([(([] : List (Den I)), (List.replicate (2 : Nat) (dz s_api_Instr)), ((0 : Int), ([] : List (Den I)), ([] : List (Den I)), ([] : List (Den s_api_Edge)), (0 : Int), ()), ()), (([] : List (Den I)), ([] : List (Den s_api_Instr)), ((0 : Int), ([] : List (Den I)), ([] : List (Den I)), ([] : List (Den s_api_Edge)), (0 : Int), ()), ())] : List (Den s_api_Block)), ())] : List (Den s_api_Func)), ())) == (5 : Int)) (.chk ((0 : Nat) < (1 : Nat)) (.chk (True) (.know (okD (.int .i64) (boundF (9 : Int) (([] : List (Den s_api_Global)), ([(ByteArray.empty, ([] : List (Den I)), (0 : Int), ([] : List (Den I)), ([(([] : List (Den I)), (List.replicate (2 : Nat) (dz s_api_Instr)), ((0 : Int), ([] : List (Den I)), ([] : List (Den I)), ([] : List (Den s_api_Edge)), (0 : Int), ()), ()), (([] : List (Den I)), ([] : List (Den s_api_Instr)), ((0 : Int), ([] : List (Den I)), ([] : List (Den I)), ([] : List (Den s_api_Edge)), (0 : Int), ()), ())] : List (Den s_api_Block)), ())] : List (Den s_api_Func)), ()))) (rt (vb ((boundF (9 : Int) (([] : List (Den s_api_Global)), ([(ByteArray.empty, ([] : List (Den I)), (0 : Int), ([] : List (Den I)), ([(([] : List (Den I)), (List.replicate (2 : Nat) (dz s_api_Instr)), ((0 : Int), ([] : List (Den I)), ([] : List (Den I)), ([] : List (Den s_api_Edge)), (0 : Int), ()), ()), (([] : List (Den I)), ([] : List (Den s_api_Instr)), ((0 : Int), ([] : List (Den I)), ([] : List (Den I)), ([] : List (Den s_api_Edge)), (0 : Int), ()), ())] : List (Den s_api_Block)), ())] : List (Den s_api_Func)), ())) == (50 : Int))) [])))) (rt (vb false) []))))) (rt (vb false) []))))) (rt (vb false) [])))))) (rt (vb false) [])))) (rt (vb false) [])))) (rt (vb false) [])))) (rt (vb false) [])))))))))))))) := by kernel_rfl
def awakeR : Bool := true

def k_law19_awake : Con := con [] .bool (fun x => True) fun x => awakeR
theorem m_law19_awake (hp : True) : Runs E_R8 (start E_R8 f_law19_awake []) (fun r_ h_ => r_ = (vb (awakeR)) ∧ h_ = []) := .tree E_R8_ok (law19_awake_t) (by
  simp only [wp_iff, chk_iff, know_iff, any_iff, rt_iff, hd_iff, true_imp_iff, true_and, and_true, and_self, lt01]
  repeat' (first | intro _ | refine c_true (by kernel_rfl) ?_ | refine c_false (by kernel_rfl) ?_ | refine And.intro ?_ ?_)
  all_goals first | decide | (exact congrArg (fun b => vb b) (by kernel_rfl)) | trivial)
theorem c_law19_awake : SpecOK E_R8 f_law19_awake k_law19_awake.spec := spec_of fun x hx hp => ⟨rfl, m_law19_awake hp⟩
def L_R8 : List (FuncId × FSpec) := [(f_law19_awake, k_law19_awake.spec)] ++ L_R7
theorem L_R8_ok : ∀ x ∈ L_R8, SpecOK (ctx []) x.1 x.2 := by
  unfold L_R8
  simp only [List.cons_append, List.nil_append, List.forall_mem_cons]
  exact ⟨c_law19_awake, L_R7_ok⟩
end Burn.M19
namespace Burn.M19
open Go Go.BE Go.Proofs
set_option maxRecDepth 100000
set_option linter.unusedVariables false
set_option linter.unusedSimpArgs false
open Burn.Intn Burn.Ref
noncomputable abbrev E_R9 : Ctx := ctx L_R8
theorem E_R9_ok : EOK E_R9 := ctx_ok L_R8_ok
def cuts_R9 : FuncId → Nat → List Nat × List (Wh × Fx)
  | 5, 0 => ([0, 1, 5, 16, 17, 18], [])
  | 6, 0 => ([1, 5, 6], [])
  | _, _ => ([], [])
def rets_R9 : FuncId → List (Option Sh)
  | _ => []
def H_R9 : Hints := ⟨cuts_R9, rets_R9⟩
theorem law19_RefineOutcomes_t (a : Den s_api_Outcome) (b : Den s_api_Outcome) : run E_R9 H_R9 f_law19_RefineOutcomes 3000 (start E_R9 f_law19_RefineOutcomes [(.tv s_api_Outcome a), (.tv s_api_Outcome b)]) = (.chk (True) (.know True (cond (largeO a) (.chk (True) (.know True (rt (vb (awakeR)) []))) (.chk (True) (.know True (cond (largeO b) (.chk (True) (.know True (rt (vb (awakeR)) []))) (.chk (True) (.know (okD (.int .i64) (diffR a b)) (.chk (True) (.know True (cond (awakeR) (.chk (True) (.know (okD (.int .i64) (diffR a b)) (cond ((diffR a b) == (diffR a b)) (.chk (True) (.know True (rt (vb ((outR a b) == ((diffR a b) == (0 : Int)))) []))) (rt (vb false) [])))) (rt (vb false) [])))))))))))) := by kernel_rfl
theorem law19_RefineValues_t (a : List (Den s_api_Value)) (b : List (Den s_api_Value)) : run E_R9 H_R9 f_law19_RefineValues 3000 (start E_R9 f_law19_RefineValues [(.tv (.sl 80 s_api_Value) a), (.tv (.sl 80 s_api_Value) b)]) = (cond (decide (((ln s_api_Value a) : Int) > (300 : Int))) (.chk (True) (.know True (rt (vb (awakeR)) []))) (cond (decide (((ln s_api_Value b) : Int) > (300 : Int))) (.chk (True) (.know True (rt (vb (awakeR)) []))) (.chk (True) (.know True (cond (awakeR) (.chk (True) (.know True (.chk (True) (.know True (rt (vb ((valsR a b) == (valsR a b))) []))))) (rt (vb false) [])))))) := by kernel_rfl
noncomputable def law19_RefineSteps_L0 (steps : Int) (more : Int) (m : Den s_api_Module) (t16 : List (Den s_api_Func)) (t17 : Int) (t18 : Int) : Cfg := hcfg E_R9 f_law19_RefineSteps 0 [(0, (vi steps)), (1, (vi more)), (5, (.rtp s_api_Module m)), (16, (.tv (.sl 96 s_api_Func) t16)), (17, (vi t17)), (18, (vi t18))] [] 0
theorem law19_RefineSteps_t (steps : Int) (more : Int) (m : Den s_api_Module) : run E_R9 H_R9 f_law19_RefineSteps 3000 (start E_R9 f_law19_RefineSteps [(vi steps), (vi more), (.tv s_api_Module m)]) = (cond (decide (((ln s_api_Func m.2.1) : Int) > (40 : Int))) (.chk (True) (.know True (rt (vb (awakeR)) []))) (hd (law19_RefineSteps_L0 steps more m m.2.1 ((ln s_api_Func m.2.1) : Int) (0 : Int)))) := by kernel_rfl
theorem law19_RefineSteps_L0_t (steps : Int) (more : Int) (m : Den s_api_Module) (t16 : List (Den s_api_Func)) (t17 : Int) (t18 : Int) : run E_R9 H_R9 f_law19_RefineSteps 3000 (law19_RefineSteps_L0 steps more m t16 t17 t18) = (cond (decide (t18 < t17)) (.chk (0 ≤ t18 ∧ t18 < (ln s_api_Func t16)) (cond (decide (((ln s_api_Block ((((((gd s_api_Func t16 ((t18).toNat)).2).2).2).2).1)) : Int) > (500 : Int))) (.chk (True) (.know True (rt (vb (awakeR)) []))) (hd (law19_RefineSteps_L0 steps more m t16 t17 (IntKind.wrap .i64 (t18 + (1 : Int))))))) (.chk (True) (.know (okD (.int .i64) (boundF steps m)) (.chk (True) (.know (okD (.int .i64) (boundF steps m)) (cond ((boundF steps m) != (boundF steps m)) (rt (vb false) []) (cond (decide ((boundF steps m) < (if (1048576 : Int) < (if (0 : Int) > steps then (0 : Int) else steps) then (1048576 : Int) else (if (0 : Int) > steps then (0 : Int) else steps)))) (rt (vb false) []) (cond (decide ((boundF steps m) > (1048576 : Int))) (rt (vb false) []) (.chk (True) (.know True (cond (awakeR) (cond (decide (more < steps)) (rt (vb true) []) (.chk (True) (.know (okD (.int .i64) (boundF more m)) (rt (vb (decide ((boundF more m) ≥ (boundF steps m)))) [])))) (rt (vb false) [])))))))))))) := by kernel_rfl
noncomputable def law19_RefineOrder_L0 (l : Den (.arr 3 s_api_Outcome)) (t5 : Den (.arr 3 s_api_Outcome)) (t6 : Int) : Cfg := hcfg E_R9 f_law19_RefineOrder 0 [(1, (.rtp (.arr 3 s_api_Outcome) l)), (5, (.tv (.arr 3 s_api_Outcome) t5)), (6, (vi t6))] [] 0
theorem law19_RefineOrder_t (l : Den (.arr 3 s_api_Outcome)) : run E_R9 H_R9 f_law19_RefineOrder 3000 (start E_R9 f_law19_RefineOrder [(.tv (.arr 3 s_api_Outcome) l)]) = (hd (law19_RefineOrder_L0 l l (0 : Int))) := by kernel_rfl
theorem law19_RefineOrder_L0_t (l : Den (.arr 3 s_api_Outcome)) (t5 : Den (.arr 3 s_api_Outcome)) (t6 : Int) : run E_R9 H_R9 f_law19_RefineOrder 3000 (law19_RefineOrder_L0 l t5 t6) = (cond (decide (t6 < (3 : Int))) (.chk (0 ≤ t6 ∧ t6 < (3 : Nat)) (.chk (True) (.know True (cond (largeO (vget (dz s_api_Outcome) 3 t5 ((t6).toNat))) (.chk (True) (.know True (rt (vb (awakeR)) []))) (.chk (True) (.know True (cond (!(validO (vget (dz s_api_Outcome) 3 t5 ((t6).toNat)))) (.chk (True) (.know True (rt (vb (awakeR)) []))) (cond ((z ((vget (dz s_api_Outcome) 3 t5 ((t6).toNat)).1)) != (1 : Int)) (cond ((z ((vget (dz s_api_Outcome) 3 t5 ((t6).toNat)).1)) != (2 : Int)) (.chk (True) (.know True (rt (vb (awakeR)) []))) (hd (law19_RefineOrder_L0 l t5 (IntKind.wrap .i64 (t6 + (1 : Int)))))) (hd (law19_RefineOrder_L0 l t5 (IntKind.wrap .i64 (t6 + (1 : Int))))))))))))) (.chk (True) (.know True (cond (awakeR) (.chk (0 ≤ (0 : Int) ∧ (0 : Int) < (3 : Nat)) (.chk (0 ≤ (0 : Int) ∧ (0 : Int) < (3 : Nat)) (.chk (True) (.know True (cond (outR l.1 l.1) (.chk (0 ≤ (0 : Int) ∧ (0 : Int) < (3 : Nat)) (.chk (0 ≤ (1 : Int) ∧ (1 : Int) < (3 : Nat)) (.chk (True) (.know True (cond (!(outR l.1 l.2.1)) (rt (vb true) []) (.chk (0 ≤ (1 : Int) ∧ (1 : Int) < (3 : Nat)) (.chk (0 ≤ (2 : Int) ∧ (2 : Int) < (3 : Nat)) (.chk (True) (.know True (cond (!(outR l.2.1 l.2.2.1)) (rt (vb true) []) (.chk (0 ≤ (0 : Int) ∧ (0 : Int) < (3 : Nat)) (.chk (0 ≤ (2 : Int) ∧ (2 : Int) < (3 : Nat)) (.chk (True) (.know True (rt (vb (outR l.1 l.2.2.1)) []))))))))))))))) (rt (vb false) [])))))) (rt (vb false) []))))) := by kernel_rfl
theorem refL_trans {a b c : Lane} (h1 : refL a b = true) (h2 : refL b c = true) : refL a c = true := by
  revert h1 h2
  unfold refL laneRef
  grind
theorem refL_refl (a : Lane) : refL a a = true := by
  unfold refL laneRef
  simp
theorem vRef_iff {a b : Val} : vRef a b = true ↔ vValid a = true ∧ vValid b = true ∧ z a.1 = z b.1 ∧ (∀ i, i < (nlZ a.1).toNat → lnR a b i = true) ∧ tlR a b = true := by
  unfold vRef
  simp [and_assoc]
theorem vRef_refl {a : Val} (h : vValid a = true) : vRef a a = true := by
  rw [vRef_iff]
  exact ⟨h, h, rfl, fun _ _ => refL_refl _, by unfold tlR; simp⟩
theorem vRef_trans {a b c : Val} (h1 : vRef a b = true) (h2 : vRef b c = true) : vRef a c = true := by
  rw [vRef_iff] at *
  obtain ⟨a1, a2, a3, a4, a5⟩ := h1
  obtain ⟨b1, b2, b3, b4, b5⟩ := h2
  have e : nlZ a.1 = nlZ b.1 := by rw [show a.1 = b.1 from a3]
  refine ⟨a1, b2, a3.trans b3, fun i hi => refL_trans (a4 i hi) (b4 i (e ▸ hi)), ?_⟩
  by_cases h5 : z a.1 = 5
  · have h5b' : z b.1 = 5 := a3 ▸ h5
    have h0 : (nlZ (z b.1)).toNat = 1 := by rw [h5b']; rfl
    have c0 : refL b.2.2.1.1 c.2.2.1.1 = true := b4 0 (show 0 < (nlZ (z b.1)).toNat by omega)
    have h5b : z b.1 = 5 := a3 ▸ h5
    revert a5 b5 c0
    unfold tlR refL laneRef laneP
    rw [h5, h5b]
    generalize hbp : bOf b.2.2.1.1.2.1 = bp
    generalize hcp : bOf c.2.2.1.1.2.1 = cp
    show _ → _ → ((bOf c.2.2.1.1.2.1 || (_ && (bOf b.2.2.1.1.2.1 == bOf c.2.2.1.1.2.1) && _) || (_ && !bOf b.2.2.1.1.2.1)) = true) → _
    rw [hbp, hcp]
    cases bp <;> cases cp <;> simp
    · intro h1 h2 _
      exact h1.trans h2
    · intro _ h
      exact absurd ((Bool.and_false _).symm.trans h) (by decide)
  · unfold tlR
    simp [h5]
theorem valsR_iff {a b : List (Den s_api_Value)} : valsR a b = true ↔ ln s_api_Value a = ln s_api_Value b ∧ ∀ i, i < ln s_api_Value a → vRef (gd s_api_Value a i) (gd s_api_Value b i) = true := by
  unfold valsR
  simp
theorem cellsR_iff {a b : List (Den (.sl 80 s_api_Value))} : cellsR a b = true ↔ ln (.sl 80 s_api_Value) a = ln (.sl 80 s_api_Value) b ∧ ∀ i, i < ln (.sl 80 s_api_Value) a → valsR (gd (.sl 80 s_api_Value) a i) (gd (.sl 80 s_api_Value) b i) = true := by
  unfold cellsR
  simp
theorem valsR_refl {a : List (Den s_api_Value)} (h : valsOK a = true) : valsR a a = true := by
  rw [valsR_iff]
  refine ⟨rfl, fun i hi => vRef_refl ?_⟩
  unfold valsOK at h
  simp only [List.all_eq_true, List.mem_range] at h
  exact h i hi
theorem valsR_trans {a b c : List (Den s_api_Value)} (h1 : valsR a b = true) (h2 : valsR b c = true) : valsR a c = true := by
  rw [valsR_iff] at *
  exact ⟨h1.1.trans h2.1, fun i hi => vRef_trans (h1.2 i hi) (h2.2 i (h1.1 ▸ hi))⟩
theorem cellsR_trans {a b c : List (Den (.sl 80 s_api_Value))} (h1 : cellsR a b = true) (h2 : cellsR b c = true) : cellsR a c = true := by
  rw [cellsR_iff] at *
  exact ⟨h1.1.trans h2.1, fun i hi => valsR_trans (h1.2 i hi) (h2.2 i (h1.1 ▸ hi))⟩
theorem resR_iff {a b : Val} : resR a b = true ↔ z a.1 = z b.1 ∧ (z a.1 ≠ 0 → vRef a b = true) := by
  unfold resR
  constructor
  · intro h
    split at h
    · rename_i h0
      have h : z a.1 = z b.1 := by simpa using h
      refine ⟨h, fun h1 => absurd ?_ h1⟩
      simp only [Bool.or_eq_true, beq_iff_eq] at h0
      omega
    · exact ⟨(vRef_iff.1 h).2.2.1, fun _ => h⟩
  · intro ⟨h1, h2⟩
    split
    · simpa using h1
    · rename_i h0
      simp only [Bool.or_eq_true, beq_iff_eq, not_or] at h0
      exact h2 h0.1
theorem resR_trans {a b c : Val} (h1 : resR a b = true) (h2 : resR b c = true) : resR a c = true := by
  rw [resR_iff] at *
  exact ⟨h1.1.trans h2.1, fun h => vRef_trans (h1.2 h) (h2.2 (h1.1 ▸ h))⟩
def kOK (o : Den s_api_Outcome) : Prop := z o.1 = 1 ∨ z o.1 = 2
theorem outR_iff {a b : Den s_api_Outcome} (hb : kOK b) : outR a b = true ↔ z a.1 = z b.1 ∧ (z b.1 = 2 → z a.2.1 = z b.2.1) ∧ valsR a.2.2.2.1 b.2.2.2.1 = true ∧ (z b.1 = 1 → resR a.2.2.1 b.2.2.1 = true ∧ cellsR a.2.2.2.2.1 b.2.2.2.2.1 = true) := by
  unfold outR diffR
  rcases hb with hb | hb
  · rw [hb]
    by_cases ha : z a.1 = 1
    · rw [ha]
      cases valsR a.2.2.2.1 b.2.2.2.1 <;> cases resR a.2.2.1 b.2.2.1 <;> cases cellsR a.2.2.2.2.1 b.2.2.2.2.1 <;> simp <;> decide
    · simp [ha]
  · rw [hb]
    by_cases ha : z a.1 = 2
    · rw [ha]
      by_cases hc : z a.2.1 = z b.2.1 <;> cases valsR a.2.2.2.1 b.2.2.2.1 <;> simp [hc] <;> decide
    · simp [ha]
theorem outR_refl {a : Den s_api_Outcome} (hk : kOK a) (h : validO a = true) : outR a a = true := by
  rw [outR_iff hk]
  unfold validO at h
  simp only [Bool.and_eq_true, List.all_eq_true, List.mem_range, Bool.or_eq_true, beq_iff_eq] at h
  refine ⟨rfl, fun _ => rfl, valsR_refl h.1, fun _ => ⟨resR_iff.2 ⟨rfl, fun h0 => vRef_refl (h.2.2.resolve_left h0)⟩, cellsR_iff.2 ⟨rfl, fun i hi => valsR_refl (h.2.1 i hi)⟩⟩⟩
theorem outR_trans {a b c : Den s_api_Outcome} (hb : kOK b) (hc : kOK c) (h1 : outR a b = true) (h2 : outR b c = true) : outR a c = true := by
  rw [outR_iff hb] at h1
  rw [outR_iff hc] at *
  obtain ⟨a1, a2, a3, a4⟩ := h1
  obtain ⟨b1, b2, b3, b4⟩ := h2
  exact ⟨a1.trans b1, fun h => (a2 (b1 ▸ h)).trans (b2 h), valsR_trans a3 b3, fun h => ⟨resR_trans (a4 (b1 ▸ h)).1 (b4 h).1, cellsR_trans (a4 (b1 ▸ h)).2 (b4 h).2⟩⟩
def yesO2 (_ _ : Den s_api_Outcome) : Bool := true
def yesV2 (_ _ : List (Den s_api_Value)) : Bool := true
def yesS (_ _ : Int) (_ : Den s_api_Module) : Bool := true
def yesO3 (_ : Den (.arr 3 s_api_Outcome)) : Bool := true

def k_law19_RefineOutcomes : Con := con [.d s_api_Outcome, .d s_api_Outcome] .bool (fun x => True) fun x => yesO2 x.1 x.2.1
theorem m_law19_RefineOutcomes (a : Den s_api_Outcome) (b : Den s_api_Outcome) (h_a : okD s_api_Outcome a) (h_b : okD s_api_Outcome b) (hp : True) : Runs E_R9 (start E_R9 f_law19_RefineOutcomes [(.tv s_api_Outcome a), (.tv s_api_Outcome b)]) (fun r_ h_ => r_ = (vb (yesO2 a b)) ∧ h_ = []) := .tree E_R9_ok (law19_RefineOutcomes_t a b) (by
  simp only [wp_iff, chk_iff, know_iff, any_iff, rt_iff, hd_iff, true_imp_iff, true_and, and_true, and_self, lt01,  awakeR, yesO2, outR]
  simp)
theorem c_law19_RefineOutcomes : SpecOK E_R9 f_law19_RefineOutcomes k_law19_RefineOutcomes.spec := spec_of fun x hx hp => ⟨rfl, m_law19_RefineOutcomes x.1 x.2.1 hx.1 hx.2.1 hp⟩

def k_law19_RefineValues : Con := con [.d (.sl 80 s_api_Value), .d (.sl 80 s_api_Value)] .bool (fun x => True) fun x => yesV2 x.1 x.2.1
theorem m_law19_RefineValues (a : List (Den s_api_Value)) (b : List (Den s_api_Value)) (h_a : okD (.sl 80 s_api_Value) a) (h_b : okD (.sl 80 s_api_Value) b) (hp : True) : Runs E_R9 (start E_R9 f_law19_RefineValues [(.tv (.sl 80 s_api_Value) a), (.tv (.sl 80 s_api_Value) b)]) (fun r_ h_ => r_ = (vb (yesV2 a b)) ∧ h_ = []) := .tree E_R9_ok (law19_RefineValues_t a b) (by
  simp only [wp_iff, chk_iff, know_iff, any_iff, rt_iff, hd_iff, true_imp_iff, true_and, and_true, and_self, lt01,  awakeR, yesV2]
  simp)
theorem c_law19_RefineValues : SpecOK E_R9 f_law19_RefineValues k_law19_RefineValues.spec := spec_of fun x hx hp => ⟨rfl, m_law19_RefineValues x.1 x.2.1 hx.1 hx.2.1 hp⟩
theorem boundS_min {n s : Int} (hs : 0 ≤ s) : (if (1048576 : Int) < (if (0 : Int) > n then (0 : Int) else n) then (1048576 : Int) else (if (0 : Int) > n then (0 : Int) else n)) ≤ boundS n s := by
  unfold boundS
  have h3 : (if (0 : Int) > n then (0 : Int) else n) + 1 ≤ ((if (0 : Int) > n then (0 : Int) else n) + 1) * (1 + s) := by
    have := Int.mul_le_mul_of_nonneg_left (show (1 : Int) ≤ 1 + s by omega) (show (0 : Int) ≤ (if (0 : Int) > n then (0 : Int) else n) + 1 by split <;> omega)
    omega
  grind
theorem boundS_le (n s : Int) : boundS n s ≤ 1048576 := by
  unfold boundS
  grind
theorem boundS_mono {n m s : Int} (h : n ≤ m) (hs : 0 ≤ s) : boundS n s ≤ boundS m s := by
  unfold boundS
  have h3 : ((if (0 : Int) > n then (0 : Int) else n) + 1) * (1 + s) ≤ ((if (0 : Int) > m then (0 : Int) else m) + 1) * (1 + s) := Int.mul_le_mul_of_nonneg_right (by grind) (by omega)
  grind
theorem sizeM_nn (m : Den s_api_Module) : 0 ≤ sizeM m := by
  have : ∀ (l : List (Den s_api_Func)) (s : Int), 0 ≤ s → 0 ≤ List.foldl (α := Int) (β := Den s_api_Func) (fun s f => if sizeF f > s then sizeF f else s) s l := fun l => by
    induction l with
    | nil => exact fun _ h => h
    | cons f l ih => exact fun s h => ih _ (by grind)
  exact this _ _ (by decide)
theorem law19_RefineSteps_l (steps more : Int) (m : Den s_api_Module) (l : List (Den s_api_Func)) (hl : ln s_api_Func l < 9223372036854775807) : ∀ i, i ≤ ln s_api_Func l → Runs E_R9 (law19_RefineSteps_L0 steps more m l (ln s_api_Func l : Nat) i) (fun x h => x = vb true ∧ h = []) :=
  up_ind (.tree E_R9_ok (law19_RefineSteps_L0_t _ _ _ _ _ _) (by
    simp only [wp_iff, chk_iff, know_iff, any_iff, rt_iff, hd_iff, true_imp_iff, true_and, and_true, and_self, lt01, Int.ofNat_lt, Int.ofNat_le, Int.natCast_nonneg, Int.toNat_natCast, decide_true, decide_false, Bool.true_eq_false, Bool.false_eq_true, false_imp_iff, Nat.lt_irrefl, imp_self, implies_true,  awakeR]
    have hs := sizeM_nn m
    unfold boundF
    refine fun _ _ => ⟨fun h => ?_, fun _ => ⟨fun h => ?_, fun _ => ⟨fun h => ?_, fun _ h _ => ?_⟩⟩⟩
    · simp at h
    · have := of_decide_eq_true h
      have := boundS_min (n := steps) hs
      omega
    · have := of_decide_eq_true h
      have := boundS_le steps (sizeM m)
      omega
    · have := of_decide_eq_false h
      have := boundS_mono (n := steps) (m := more) (by omega) hs
      simpa using this))
    fun i hi ih => .tree E_R9_ok (law19_RefineSteps_L0_t _ _ _ _ _ _) (by
      simp only [wp_iff, chk_iff, know_iff, any_iff, rt_iff, hd_iff, true_imp_iff, true_and, and_true, and_self, lt01, Int.ofNat_lt, Int.ofNat_le, Int.natCast_nonneg, Int.toNat_natCast, decide_true, decide_false, Bool.true_eq_false, Bool.false_eq_true, false_imp_iff, Nat.lt_irrefl, imp_self, implies_true,  hi, wrapS hi hl, awakeR]
      exact fun _ => ih)
def k_law19_RefineSteps : Con := con [.d I, .d I, .d s_api_Module] .bool (fun x => True) fun x => yesS x.1 x.2.1 x.2.2.1
theorem m_law19_RefineSteps (steps : Int) (more : Int) (m : Den s_api_Module) (h_steps : okD I steps) (h_more : okD I more) (h_m : okD s_api_Module m) (hp : True) : Runs E_R9 (start E_R9 f_law19_RefineSteps [(vi steps), (vi more), (.tv s_api_Module m)]) (fun r_ h_ => r_ = (vb (yesS steps more m)) ∧ h_ = []) := .tree E_R9_ok (law19_RefineSteps_t steps more m) (by
  unfold yesS
  simp only [wp_iff, chk_iff, know_iff, any_iff, rt_iff, hd_iff, true_imp_iff, true_and, and_true, and_self, lt01,  awakeR]
  obtain ⟨_, h1, _⟩ := h_m
  exact ⟨fun _ => trivial, fun _ => law19_RefineSteps_l _ _ _ _ (room_lt h1.1) 0 (Nat.zero_le _)⟩)
theorem c_law19_RefineSteps : SpecOK E_R9 f_law19_RefineSteps k_law19_RefineSteps.spec := spec_of fun x hx hp => ⟨rfl, m_law19_RefineSteps x.1 x.2.1 x.2.2.1 hx.1 hx.2.1 hx.2.2.1 hp⟩
theorem law19_RefineOrder_l (l : Den (.arr 3 s_api_Outcome)) : ∀ i, i ≤ 3 → (∀ j, j < i → validO (vget (dz s_api_Outcome) 3 l j) = true ∧ kOK (vget (dz s_api_Outcome) 3 l j)) → Runs E_R9 (law19_RefineOrder_L0 l l (i : Nat)) (fun x h => x = vb true ∧ h = []) :=
  up_ind (fun hp => .tree E_R9_ok (law19_RefineOrder_L0_t _ _ _) (by
    have h0 := hp 0 (by omega)
    have h1 := hp 1 (by omega)
    have h2 := hp 2 (by omega)
    have e : outR l.1 l.1 = true := outR_refl h0.2 h0.1
    have r0 : (0 : Int) ≤ 0 ∧ (0 : Int) < ((3 : Nat) : Int) := by decide
    have r1 : (0 : Int) ≤ 1 ∧ (1 : Int) < ((3 : Nat) : Int) := by decide
    have r2 : (0 : Int) ≤ 2 ∧ (2 : Int) < ((3 : Nat) : Int) := by decide
    have n3 : ¬ ((3 : Nat) : Int) < 3 := by decide
    simp only [wp_iff, chk_iff, know_iff, any_iff, rt_iff, hd_iff, true_imp_iff, true_and, and_true, and_self, lt01,  awakeR, e, r0, r1, r2, n3, decide_false, Bool.false_eq_true, false_imp_iff, true_imp_iff, true_and, Bool.true_eq_false, and_true]
    refine ⟨fun _ => trivial, fun a => ⟨fun _ => trivial, fun b => ?_⟩⟩
    have a : outR l.1 l.2.1 = true := by simpa using a
    have b : outR l.2.1 l.2.2.1 = true := by simpa using b
    have := outR_trans h1.2 h2.2 a b
    exact congrArg (fun b => vb b) this))
    fun i hi ih hp => .tree E_R9_ok (law19_RefineOrder_L0_t _ _ _) (by
      have h3 : (0 : Int) ≤ i ∧ (i : Int) < ((3 : Nat) : Int) := by omega
      have h4 : (i : Int) < 3 := by omega
      simp only [wp_iff, chk_iff, know_iff, any_iff, rt_iff, hd_iff, true_imp_iff, true_and, and_true, and_self, lt01,  h3, h4, Int.toNat_natCast, wrapS hi (show (3 : Nat) < 9223372036854775807 by decide), awakeR, decide_true, Bool.true_eq_false, false_imp_iff, and_true, true_imp_iff, true_and]
      have step : validO (vget (dz s_api_Outcome) 3 l i) = true → kOK (vget (dz s_api_Outcome) 3 l i) → Runs E_R9 (law19_RefineOrder_L0 l l ((i + 1 : Nat) : Int)) (fun x h => x = vb true ∧ h = []) := fun a b => ih fun j hj => if h : j < i then hp j h else by
        obtain rfl : j = i := by omega
        exact ⟨a, b⟩
      exact ⟨fun _ => trivial, fun _ => ⟨fun _ => trivial, fun hv => ⟨fun _ => ⟨fun _ => trivial, fun h2 => step (by simpa using hv) (.inr (by simpa using h2))⟩, fun h1 => step (by simpa using hv) (.inl (by simpa using h1))⟩⟩⟩)
def k_law19_RefineOrder : Con := con [.d (.arr 3 s_api_Outcome)] .bool (fun x => True) fun x => yesO3 x.1
theorem m_law19_RefineOrder (l : Den (.arr 3 s_api_Outcome)) (h_l : okD (.arr 3 s_api_Outcome) l) (hp : True) : Runs E_R9 (start E_R9 f_law19_RefineOrder [(.tv (.arr 3 s_api_Outcome) l)]) (fun r_ h_ => r_ = (vb (yesO3 l)) ∧ h_ = []) := .tree E_R9_ok (law19_RefineOrder_t l) (by
  unfold yesO3
  simp only [wp_iff, chk_iff, know_iff, any_iff, rt_iff, hd_iff, true_imp_iff, true_and, and_true, and_self, lt01]
  exact law19_RefineOrder_l l 0 (by omega) (fun j hj => absurd hj (by omega)))
theorem c_law19_RefineOrder : SpecOK E_R9 f_law19_RefineOrder k_law19_RefineOrder.spec := spec_of fun x hx hp => ⟨rfl, m_law19_RefineOrder x.1 hx.1 hp⟩
def L_R9 : List (FuncId × FSpec) := [(f_law19_RefineOutcomes, k_law19_RefineOutcomes.spec), (f_law19_RefineValues, k_law19_RefineValues.spec), (f_law19_RefineSteps, k_law19_RefineSteps.spec), (f_law19_RefineOrder, k_law19_RefineOrder.spec)] ++ L_R8
theorem L_R9_ok : ∀ x ∈ L_R9, SpecOK (ctx []) x.1 x.2 := by
  unfold L_R9
  simp only [List.cons_append, List.nil_append, List.forall_mem_cons]
  exact ⟨c_law19_RefineOutcomes, c_law19_RefineValues, c_law19_RefineSteps, c_law19_RefineOrder, L_R8_ok⟩
end Burn.M19

/- What the functions that the law reaches compute, one contract each. No conditions beyond those written. -/
import Derived.Test.YtdbjmhlgbdeihaaDoorEngineC
import Derived.Test.YtdbjmhlgbdeihaaDoorProg
import Derived.KernelRfl
import Derived.Test.YtdbjmhlgbdeihaaDoorPlainA
namespace Burn.M27N
open Go Go.BE Go.Proofs
set_option maxRecDepth 100000
abbrev s_runtime_boundsError : Sh := (.pair I (.pair I (.pair .bool (.pair (.int .u8) .unit))))
abbrev s_runtime_errorAddressString : Sh := (.pair .str (.pair (.int .u64) .unit))
abbrev s_api_Instr : Sh := (.pair I (.pair I (.pair I (.pair (.sl 8 I) (.pair I (.pair I (.pair I (.pair .bool .unit))))))))
abbrev s_api_Edge : Sh := (.pair I (.pair (.sl 8 I) .unit))
abbrev s_api_Terminator : Sh := (.pair I (.pair (.sl 8 I) (.pair (.sl 8 I) (.pair (.sl 32 s_api_Edge) (.pair I .unit)))))
abbrev s_api_Block : Sh := (.pair (.sl 8 I) (.pair (.sl 80 s_api_Instr) (.pair s_api_Terminator .unit)))
abbrev s_api_Func : Sh := (.pair .str (.pair (.sl 8 I) (.pair I (.pair (.sl 8 I) (.pair (.sl 136 s_api_Block) .unit)))))
abbrev s_alias_Base : Sh := (.pair I (.pair I (.pair I (.pair .bool .unit))))
abbrev s_api_Pos : Sh := (.pair I (.pair I .unit))
abbrev s_alias_solver : Sh := (.pair s_api_Func (.pair (.sl 24 (.sl 16 s_api_Pos)) (.pair (.sl 32 s_alias_Base) .unit)))
abbrev s_alias_escapes : Sh := (.pair s_api_Func (.pair (.sl 32 s_alias_Base) (.pair (.sl 1 .bool) .unit)))
def tyN : Nat := 154
def tyTr : Tr TI := (.node none (.node (some ⟨.other, 1, 8, [.nilFunc], none⟩) (.node (some ⟨.int .i64, 1, 8, [.int .i64 0], some I⟩) (.node (some ⟨.struct [⟨0, 1, false⟩, ⟨1, 1, false⟩, ⟨2, 1, false⟩, ⟨3, 1, false⟩], 4, 24, [.int .i64 0, .int .i64 0, .bool false, .int .u8 0], some s_runtime_boundsError⟩) (.node (some ⟨.ptr 139, 1, 8, [.pointer none], none⟩) (.node (some ⟨.other, 1, 8, [.nilFunc], none⟩) (.node (some ⟨.slice 34, 1, 24, [.slice none 0 0], some (.sl 32 s_alias_Base)⟩) (.node (some ⟨.other, 1, 8, [.nilFunc], none⟩) .leaf .leaf) .leaf) (.node (some ⟨.other, 1, 8, [.nilFunc], none⟩) .leaf .leaf)) (.node (some ⟨.other, 1, 8, [.nilFunc], none⟩) (.node (some ⟨.struct [⟨0, 1, false⟩, ⟨1, 1, false⟩, ⟨2, 1, false⟩, ⟨3, 1, false⟩, ⟨4, 1, false⟩], 5, 88, [.int .i64 0, .slice none 0 0, .slice none 0 0, .slice none 0 0, .int .i64 0], some s_api_Terminator⟩) (.node (some ⟨.other, 1, 8, [.nilFunc], none⟩) .leaf .leaf) .leaf) (.node (some ⟨.other, 1, 8, [.nilFunc], none⟩) .leaf .leaf))) (.node (some ⟨.int .i64, 1, 8, [.int .i64 0], some I⟩) (.node (some ⟨.other, 1, 8, [.nilFunc], none⟩) (.node (some ⟨.other, 1, 8, [.nilFunc], none⟩) (.node (some ⟨.slice 133, 1, 24, [.slice none 0 0], some (.sl 8 (.ptr I))⟩) .leaf .leaf) .leaf) (.node (some ⟨.ptr 105, 1, 8, [.pointer none], some (.ptr s_alias_escapes)⟩) .leaf .leaf)) (.node (some ⟨.other, 1, 8, [.nilFunc], none⟩) (.node (some ⟨.struct [⟨0, 1, false⟩, ⟨1, 1, false⟩], 2, 32, [.int .i64 0, .slice none 0 0], some s_api_Edge⟩) (.node (some ⟨.struct [⟨0, 1, false⟩, ⟨1, 1, false⟩, ⟨2, 1, false⟩, ⟨3, 1, false⟩, ⟨4, 1, false⟩, ⟨5, 1, false⟩, ⟨6, 1, false⟩, ⟨7, 1, false⟩, ⟨8, 1, false⟩, ⟨9, 1, false⟩, ⟨10, 1, false⟩], 11, 48, [.int .u64 0, .int .u64 0, .int .u32 0, .int .u8 0, .int .u8 0, .int .u8 0, .int .u8 0, .nilFunc, .pointer none, .int .i32 0, .int .i32 0], none⟩) .leaf .leaf) .leaf) (.node (some ⟨.other, 1, 8, [.nilFunc], none⟩) .leaf .leaf)))) (.node (some ⟨.str, 1, 16, [.string ⟨#[]⟩], some .str⟩) (.node (some ⟨.struct [⟨0, 1, false⟩], 1, 8, [.pointer none], none⟩) (.node (some ⟨.other, 1, 8, [.nilFunc], none⟩) (.node (some ⟨.other, 1, 8, [.nilFunc], none⟩) (.node (some ⟨.other, 1, 8, [.nilFunc], none⟩) .leaf .leaf) .leaf) (.node (some ⟨.other, 1, 8, [.nilFunc], none⟩) .leaf .leaf)) (.node (some ⟨.other, 1, 8, [.nilFunc], none⟩) (.node (some ⟨.ptr 85, 1, 8, [.pointer none], some (.ptr s_api_Instr)⟩) (.node (some ⟨.other, 1, 8, [.nilFunc], none⟩) .leaf .leaf) .leaf) (.node (some ⟨.other, 1, 8, [.nilFunc], none⟩) .leaf .leaf))) (.node (some ⟨.struct [⟨0, 1, false⟩, ⟨1, 1, false⟩, ⟨2, 1, false⟩, ⟨3, 1, false⟩, ⟨4, 1, false⟩], 5, 96, [.string ⟨#[]⟩, .slice none 0 0, .int .i64 0, .slice none 0 0, .slice none 0 0], some s_api_Func⟩) (.node (some ⟨.other, 1, 8, [.nilFunc], none⟩) (.node (some ⟨.ptr 82, 1, 8, [.pointer none], some (.ptr s_api_Block)⟩) (.node (some ⟨.struct [⟨0, 1, false⟩, ⟨1, 1, false⟩, ⟨2, 1, false⟩, ⟨3, 1, false⟩], 4, 40, [.pointer none, .pointer none, .pointer none, .string ⟨#[]⟩], none⟩) .leaf .leaf) .leaf) (.node (some ⟨.other, 1, 8, [.nilFunc], none⟩) .leaf .leaf)) (.node none (.node (some ⟨.other, 1, 8, [.nilFunc], none⟩) .leaf .leaf) (.node (some ⟨.other, 1, 8, [.nilFunc], none⟩) .leaf .leaf))))) (.node (some ⟨.int .u8, 1, 1, [.int .u8 0], some (.int .u8)⟩) (.node (some ⟨.str, 1, 16, [.string ⟨#[]⟩], some .str⟩) (.node (some ⟨.ptr 152, 1, 8, [.pointer none], none⟩) (.node (some ⟨.other, 1, 8, [.nilFunc], none⟩) (.node (some ⟨.ptr 69, 1, 8, [.pointer none], some (.ptr s_alias_solver)⟩) (.node (some ⟨.other, 1, 8, [.nilFunc], none⟩) .leaf .leaf) .leaf) (.node (some ⟨.other, 1, 8, [.nilFunc], none⟩) .leaf .leaf)) (.node (some ⟨.other, 1, 8, [.nilFunc], none⟩) (.node (some ⟨.struct [⟨0, 1, false⟩, ⟨1, 1, false⟩, ⟨2, 5, true⟩], 7, 136, [.slice none 0 0, .slice none 0 0, .int .i64 0, .slice none 0 0, .slice none 0 0, .slice none 0 0, .int .i64 0], some s_api_Block⟩) (.node (some ⟨.int .u8, 1, 1, [.int .u8 0], some (.int .u8)⟩) .leaf .leaf) .leaf) (.node (some ⟨.other, 1, 8, [.nilFunc], none⟩) .leaf .leaf))) (.node (some ⟨.slice 82, 1, 24, [.slice none 0 0], some (.sl 136 s_api_Block)⟩) (.node (some ⟨.int .i8, 1, 1, [.int .i8 0], some (.int .i8)⟩) (.node (some ⟨.other, 1, 8, [.nilFunc], none⟩) (.node (some ⟨.other, 1, 8, [.nilFunc], none⟩) .leaf .leaf) .leaf) (.node (some ⟨.struct [⟨0, 5, true⟩, ⟨5, 1, false⟩, ⟨6, 1, false⟩], 7, 144, [.string ⟨#[]⟩, .slice none 0 0, .int .i64 0, .slice none 0 0, .slice none 0 0, .slice none 0 0, .slice none 0 0], some s_alias_escapes⟩) .leaf .leaf)) (.node none (.node (some ⟨.arr 4 88, 16, 128, [.int .i64 0, .int .i64 0, .int .i64 0, .int .i64 0, .int .i64 0, .int .i64 0, .int .i64 0, .int .i64 0, .int .i64 0, .int .i64 0, .int .i64 0, .int .i64 0, .int .i64 0, .int .i64 0, .int .i64 0, .int .i64 0], some (.arr 4 (.arr 4 I))⟩) (.node (some ⟨.other, 1, 8, [.pointer none], none⟩) .leaf .leaf) .leaf) (.node (some ⟨.other, 1, 8, [.nilFunc], none⟩) .leaf .leaf)))) (.node (some ⟨.struct [⟨0, 1, false⟩, ⟨1, 1, false⟩], 2, 24, [.string ⟨#[]⟩, .int .u64 0], some s_runtime_errorAddressString⟩) (.node (some ⟨.int .i32, 1, 4, [.int .i32 0], some (.int .i32)⟩) (.node (some ⟨.struct [⟨0, 1, false⟩, ⟨1, 1, false⟩], 2, 16, [.int .i64 0, .int .i64 0], some s_api_Pos⟩) (.node (some ⟨.struct [⟨0, 5, true⟩, ⟨5, 1, false⟩, ⟨6, 1, false⟩], 7, 144, [.string ⟨#[]⟩, .slice none 0 0, .int .i64 0, .slice none 0 0, .slice none 0 0, .slice none 0 0, .slice none 0 0], some s_alias_solver⟩) (.node (some ⟨.ptr 2, 1, 8, [.pointer none], some (.ptr I)⟩) .leaf .leaf) .leaf) (.node (some ⟨.other, 1, 8, [.nilFunc], none⟩) .leaf .leaf)) (.node (some ⟨.other, 1, 8, [.nilFunc], none⟩) (.node (some ⟨.struct [⟨0, 1, false⟩, ⟨1, 1, false⟩, ⟨2, 1, false⟩, ⟨3, 1, false⟩, ⟨4, 1, false⟩, ⟨5, 1, false⟩, ⟨6, 1, false⟩, ⟨7, 1, false⟩], 8, 80, [.int .i64 0, .int .i64 0, .int .i64 0, .slice none 0 0, .int .i64 0, .int .i64 0, .int .i64 0, .bool false], some s_api_Instr⟩) (.node (some ⟨.int .i32, 1, 4, [.int .i32 0], some (.int .i32)⟩) .leaf .leaf) .leaf) (.node none .leaf .leaf))) (.node (some ⟨.struct [⟨0, 1, false⟩, ⟨1, 1, false⟩, ⟨2, 1, false⟩, ⟨3, 1, false⟩], 4, 32, [.int .i64 0, .int .i64 0, .int .i64 0, .bool false], some s_alias_Base⟩) (.node (some ⟨.slice 29, 1, 24, [.slice none 0 0], some (.sl 32 s_alias_Base)⟩) (.node (some ⟨.slice 2, 1, 24, [.slice none 0 0], some (.sl 8 I)⟩) (.node (some ⟨.struct [⟨0, 0, true⟩], 0, 0, [], none⟩) .leaf .leaf) .leaf) (.node none .leaf .leaf)) (.node none (.node (some ⟨.other, 1, 8, [.nilFunc], none⟩) .leaf .leaf) (.node (some ⟨.other, 1, 8, [.nilFunc], none⟩) .leaf .leaf)))))) (.node (some ⟨.int .i64, 1, 8, [.int .i64 0], some I⟩) (.node (some ⟨.bool, 1, 1, [.bool false], some .bool⟩) (.node (some ⟨.struct [⟨0, 1, false⟩, ⟨1, 1, false⟩, ⟨2, 1, false⟩, ⟨3, 1, false⟩], 4, 24, [.int .i64 0, .int .i64 0, .bool false, .int .u8 0], some s_runtime_boundsError⟩) (.node (some ⟨.ptr 142, 1, 8, [.pointer none], none⟩) (.node (some ⟨.other, 1, 8, [.nilFunc], none⟩) (.node (some ⟨.other, 1, 8, [.nilFunc], none⟩) (.node (some ⟨.other, 1, 8, [.nilFunc], none⟩) .leaf .leaf) .leaf) (.node (some ⟨.other, 1, 8, [.nilFunc], none⟩) .leaf .leaf)) (.node (some ⟨.other, 1, 8, [.nilFunc], none⟩) (.node (some ⟨.struct [⟨0, 1, false⟩, ⟨1, 1, false⟩, ⟨2, 1, false⟩, ⟨3, 1, false⟩, ⟨4, 1, false⟩], 5, 88, [.int .i64 0, .slice none 0 0, .slice none 0 0, .slice none 0 0, .int .i64 0], some s_api_Terminator⟩) (.node (some ⟨.int .u32, 1, 4, [.int .u32 0], some (.int .u32)⟩) .leaf .leaf) .leaf) (.node (some ⟨.other, 1, 8, [.nilFunc], none⟩) .leaf .leaf))) (.node (some ⟨.slice 23, 1, 24, [.slice none 0 0], some (.sl 8 I)⟩) (.node (some ⟨.other, 1, 8, [.nilFunc], none⟩) (.node (some ⟨.other, 1, 8, [.nilFunc], none⟩) (.node (some ⟨.arr 5 3, 5, 40, [.int .i64 0, .int .i64 0, .int .i64 0, .int .i64 0, .int .i64 0], some (.arr 5 I)⟩) .leaf .leaf) .leaf) (.node (some ⟨.struct [⟨0, 5, true⟩, ⟨5, 1, false⟩, ⟨6, 1, false⟩], 7, 144, [.string ⟨#[]⟩, .slice none 0 0, .int .i64 0, .slice none 0 0, .slice none 0 0, .slice none 0 0, .slice none 0 0], some s_alias_escapes⟩) .leaf .leaf)) (.node (some ⟨.other, 1, 8, [.nilFunc], none⟩) (.node (some ⟨.arr 4 3, 4, 32, [.int .i64 0, .int .i64 0, .int .i64 0, .int .i64 0], some (.arr 4 I)⟩) (.node (some ⟨.struct [⟨0, 1, false⟩, ⟨1, 1, false⟩, ⟨2, 1, false⟩, ⟨3, 1, false⟩, ⟨4, 1, false⟩, ⟨5, 1, false⟩, ⟨6, 1, false⟩, ⟨7, 1, false⟩, ⟨8, 1, false⟩, ⟨9, 1, false⟩, ⟨10, 1, false⟩], 11, 48, [.int .u64 0, .int .u64 0, .int .u32 0, .int .u8 0, .int .u8 0, .int .u8 0, .int .u8 0, .nilFunc, .pointer none, .int .i32 0, .int .i32 0], none⟩) .leaf .leaf) .leaf) (.node (some ⟨.other, 1, 8, [.nilFunc], none⟩) .leaf .leaf)))) (.node (some ⟨.int .u64, 1, 8, [.int .u64 0], some (.int .u64)⟩) (.node (some ⟨.other, 1, 16, [.nilIface], none⟩) (.node (some ⟨.other, 1, 8, [.nilFunc], none⟩) (.node (some ⟨.struct [⟨0, 5, true⟩, ⟨5, 1, false⟩, ⟨6, 1, false⟩], 7, 144, [.string ⟨#[]⟩, .slice none 0 0, .int .i64 0, .slice none 0 0, .slice none 0 0, .slice none 0 0, .slice none 0 0], some s_alias_solver⟩) (.node (some ⟨.other, 1, 8, [.nilFunc], none⟩) .leaf .leaf) .leaf) (.node (some ⟨.other, 1, 8, [.nilFunc], none⟩) .leaf .leaf)) (.node (some ⟨.other, 1, 8, [.nilFunc], none⟩) (.node (some ⟨.struct [⟨0, 1, false⟩, ⟨1, 1, false⟩, ⟨2, 1, false⟩, ⟨3, 1, false⟩, ⟨4, 1, false⟩, ⟨5, 1, false⟩, ⟨6, 1, false⟩, ⟨7, 1, false⟩], 8, 80, [.int .i64 0, .int .i64 0, .int .i64 0, .slice none 0 0, .int .i64 0, .int .i64 0, .int .i64 0, .bool false], some s_api_Instr⟩) (.node (some ⟨.ptr 5, 1, 8, [.pointer none], some (.ptr (.int .u8))⟩) .leaf .leaf) .leaf) (.node (some ⟨.other, 1, 8, [.nilFunc], none⟩) .leaf .leaf))) (.node (some ⟨.struct [⟨0, 1, false⟩, ⟨1, 1, false⟩, ⟨2, 1, false⟩, ⟨3, 1, false⟩], 4, 32, [.int .i64 0, .int .i64 0, .int .i64 0, .bool false], some s_alias_Base⟩) (.node (some ⟨.slice 4, 1, 24, [.slice none 0 0], some (.sl 1 .bool)⟩) (.node (some ⟨.slice 85, 1, 24, [.slice none 0 0], some (.sl 80 s_api_Instr)⟩) (.node (some ⟨.arr 0 16, 0, 0, [], none⟩) .leaf .leaf) .leaf) (.node (some ⟨.other, 1, 8, [.nilFunc], none⟩) .leaf .leaf)) (.node (some ⟨.other, 1, 8, [.nilFunc], none⟩) (.node (some ⟨.other, 1, 8, [.nilFunc], none⟩) .leaf .leaf) (.node (some ⟨.other, 1, 8, [.nilFunc], none⟩) .leaf .leaf))))) (.node (some ⟨.int .u8, 1, 1, [.int .u8 0], some (.int .u8)⟩) (.node (some ⟨.str, 1, 16, [.string ⟨#[]⟩], some .str⟩) (.node (some ⟨.struct [⟨0, 1, false⟩], 1, 8, [.pointer none], none⟩) (.node (some ⟨.struct [⟨0, 1, false⟩, ⟨1, 1, false⟩, ⟨2, 1, false⟩, ⟨3, 1, false⟩], 4, 32, [.int .i64 0, .int .i64 0, .int .i64 0, .bool false], some s_alias_Base⟩) (.node (some ⟨.slice 102, 1, 24, [.slice none 0 0], some (.sl 24 (.sl 16 s_api_Pos))⟩) (.node (some ⟨.other, 1, 8, [.nilFunc], none⟩) .leaf .leaf) .leaf) (.node (some ⟨.other, 1, 8, [.nilFunc], none⟩) .leaf .leaf)) (.node (some ⟨.other, 1, 8, [.nilFunc], none⟩) (.node (some ⟨.struct [⟨0, 1, false⟩, ⟨1, 1, false⟩, ⟨2, 5, true⟩], 7, 136, [.slice none 0 0, .slice none 0 0, .int .i64 0, .slice none 0 0, .slice none 0 0, .slice none 0 0, .int .i64 0], some s_api_Block⟩) (.node (some ⟨.int .u8, 1, 1, [.int .u8 0], some (.int .u8)⟩) .leaf .leaf) .leaf) (.node (some ⟨.other, 1, 8, [.nilFunc], none⟩) .leaf .leaf))) (.node (some ⟨.struct [⟨0, 1, false⟩, ⟨1, 1, false⟩, ⟨2, 1, false⟩, ⟨3, 1, false⟩, ⟨4, 1, false⟩], 5, 96, [.string ⟨#[]⟩, .slice none 0 0, .int .i64 0, .slice none 0 0, .slice none 0 0], some s_api_Func⟩) (.node (some ⟨.int .u64, 1, 8, [.int .u64 0], some (.int .u64)⟩) (.node (some ⟨.other, 1, 8, [.nilFunc], none⟩) (.node (some ⟨.struct [⟨0, 1, false⟩, ⟨1, 1, false⟩, ⟨2, 1, false⟩, ⟨3, 1, false⟩], 4, 40, [.pointer none, .pointer none, .pointer none, .string ⟨#[]⟩], none⟩) .leaf .leaf) .leaf) (.node (some ⟨.other, 1, 8, [.nilFunc], none⟩) .leaf .leaf)) (.node (some ⟨.other, 1, 8, [.nilFunc], none⟩) (.node (some ⟨.other, 1, 8, [.nilFunc], none⟩) .leaf .leaf) (.node (some ⟨.other, 1, 8, [.nilFunc], none⟩) .leaf .leaf)))) (.node (some ⟨.struct [⟨0, 1, false⟩, ⟨1, 1, false⟩], 2, 24, [.string ⟨#[]⟩, .int .u64 0], some s_runtime_errorAddressString⟩) (.node (some ⟨.slice 3, 1, 24, [.slice none 0 0], some (.sl 8 I)⟩) (.node (some ⟨.struct [⟨0, 1, false⟩, ⟨1, 1, false⟩], 2, 16, [.int .i64 0, .int .i64 0], some s_api_Pos⟩) (.node (some ⟨.other, 1, 8, [.nilFunc], none⟩) (.node (some ⟨.other, 1, 8, [.nilFunc], none⟩) .leaf .leaf) .leaf) (.node (some ⟨.slice 38, 1, 24, [.slice none 0 0], some (.sl 16 s_api_Pos)⟩) .leaf .leaf)) (.node (some ⟨.other, 1, 8, [.nilFunc], none⟩) (.node (some ⟨.struct [⟨0, 1, false⟩, ⟨1, 1, false⟩], 2, 32, [.int .i64 0, .slice none 0 0], some s_api_Edge⟩) (.node (some ⟨.int .i32, 1, 4, [.int .i32 0], some (.int .i32)⟩) .leaf .leaf) .leaf) (.node (some ⟨.other, 1, 8, [.nilFunc], none⟩) .leaf .leaf))) (.node (some ⟨.other, 1, 8, [.nilFunc], none⟩) (.node (some ⟨.other, 1, 8, [.nilFunc], none⟩) (.node (some ⟨.slice 87, 1, 24, [.slice none 0 0], some (.sl 32 s_api_Edge)⟩) (.node (some ⟨.struct [⟨0, 0, true⟩], 0, 0, [], none⟩) .leaf .leaf) .leaf) (.node (some ⟨.other, 1, 8, [.nilFunc], none⟩) .leaf .leaf)) (.node (some ⟨.other, 1, 8, [.nilFunc], none⟩) (.node (some ⟨.other, 1, 8, [.nilFunc], none⟩) .leaf .leaf) (.node (some ⟨.other, 1, 8, [.nilFunc], none⟩) .leaf .leaf)))))))
def gl : Nat → Option AV
  | 0 => some (.rtp s_alias_Base ((0 : Int), (0 : Int), (0 : Int), false, ()))
  | 1 => some (.rtp (.arr 5 I) ((0 : Int), (1 : Int), (8 : Int), (32 : Int), (64 : Int), ()))
  | _ => none
def fnL : List Nat := [6, 7, 8, 9, 12, 14, 15, 16, 17, 18, 19, 20, 21, 24, 25, 26, 28, 29, 30, 31, 32, 33, 34, 35, 36, 37, 38, 40, 43, 44, 45, 46, 48, 49, 50, 51, 52, 53, 54, 55, 56, 60, 62, 63, 64, 65, 66, 67, 68, 71, 72, 73, 74, 75, 76, 77, 78, 79, 80, 81, 82, 83, 84, 85]
abbrev f_law27_AliasRename : FuncId := 6
abbrev f_law27_large : FuncId := 7
abbrev f_law27_works : FuncId := 8
abbrev f_alias_Relate : FuncId := 9
abbrev f_alias_Query : FuncId := 12
abbrev f_alias_Bases : FuncId := 14
abbrev f_r20_Permute : FuncId := 15
abbrev f_r14_Size : FuncId := 16
abbrev f_alias_overlap : FuncId := 19
abbrev f_alias_kinds : FuncId := 20
abbrev f_alias_local : FuncId := 21
abbrev f_alias_access : FuncId := 24
abbrev f_opcode_Access : FuncId := 25
abbrev f_r27_accessed : FuncId := 26
abbrev f_cfg_Defs : FuncId := 28
abbrev f_alias_Bases_cl1 : FuncId := 29
abbrev f_alias_solver_round : FuncId := 30
abbrev f_alias_solver_pointer : FuncId := 31
abbrev f_alias_own : FuncId := 32
abbrev f_r20_clone : FuncId := 33
abbrev f_r20_permutation : FuncId := 34
abbrev f_r20_renamed : FuncId := 35
abbrev f_alias_index : FuncId := 36
abbrev f_alias_allocas : FuncId := 37
abbrev f_alias_Escapes : FuncId := 38
abbrev f_r27_allocated : FuncId := 40
abbrev f_alias_arg : FuncId := 43
abbrev f_r20_In : FuncId := 44
abbrev f_r27_pointer : FuncId := 45
abbrev f_r12_Access : FuncId := 46
abbrev f_r27_own : FuncId := 48
abbrev f_cfg_collect : FuncId := 49
abbrev f_cfg_Writes : FuncId := 50
abbrev f_alias_solver_next : FuncId := 51
abbrev f_r20_cloneBlock : FuncId := 52
abbrev f_alias_escapes_instr : FuncId := 53
abbrev f_alias_escapes_edge : FuncId := 55
abbrev f_r27_instr : FuncId := 56
abbrev f_r27_points : FuncId := 60
abbrev f_r27_operand : FuncId := 62
abbrev f_r01_Add : FuncId := 63
abbrev f_r27_meet : FuncId := 64
abbrev f_cfg_inside : FuncId := 65
abbrev f_cfg_own : FuncId := 66
abbrev f_alias_solver_instr : FuncId := 67
abbrev f_alias_solver_param : FuncId := 68
abbrev f_r01_Wrap : FuncId := 71
abbrev f_r01_Bits : FuncId := 72
abbrev f_alias_solver_operand : FuncId := 75
abbrev f_alias_solver_moved : FuncId := 76
abbrev f_alias_join : FuncId := 77
abbrev f_r01_Unsigned : FuncId := 78
abbrev f_alias_solver_def : FuncId := 79
abbrev f_alias_meet : FuncId := 81
abbrev f_intn_Wrap : FuncId := 84
abbrev f_intn_Bits : FuncId := 85
def siteTr : Tr (List (Nat × Nat)) := (.node none (.node none (.node none (.node (some [(1, 1)]) (.node (some [(2, 1)]) .leaf (.node none (.node (some [(6, 2)]) .leaf .leaf) .leaf)) (.node none .leaf (.node (some [(3, 1)]) .leaf .leaf))) (.node none (.node none (.node none (.node (some [(5, 1), (6, 2), (7, 2)]) .leaf .leaf) .leaf) (.node (some [(4, 2), (5, 2)]) .leaf .leaf)) (.node none (.node (some [(2, 1)]) (.node (some [(6, 1), (8, 2)]) .leaf .leaf) .leaf) .leaf))) (.node none (.node (some [(5, 1), (6, 2), (7, 2)]) (.node none (.node (some [(1, 1), (29, 11), (30, 11)]) (.node (some [(2, 1), (3, 1)]) .leaf .leaf) .leaf) (.node (some [(2, 1), (8, 2), (14, 11)]) (.node (some [(4, 1), (5, 1), (6, 2)]) .leaf .leaf) .leaf)) .leaf) (.node none (.node (some [(3, 1), (4, 1), (5, 1)]) (.node (some [(1, 1)]) .leaf .leaf) (.node (some [(3, 1)]) .leaf .leaf)) (.node none (.node (some [(2, 1)]) (.node (some [(4, 2), (5, 2), (7, 2)]) .leaf .leaf) .leaf) .leaf)))) (.node none (.node none (.node (some [(1, 2)]) (.node (some [(1, 1)]) (.node (some [(2, 2)]) (.node (some [(4, 1), (5, 1), (6, 2)]) .leaf .leaf) .leaf) (.node (some [(2, 2)]) (.node (some [(10, 3)]) .leaf .leaf) .leaf)) (.node (some [(2, 1), (3, 1)]) (.node (some [(3, 1)]) .leaf .leaf) (.node (some [(3, 1), (8, 2)]) .leaf .leaf))) (.node (some [(3, 1), (4, 1), (5, 1)]) (.node (some [(5, 2)]) (.node none (.node (some [(6, 2)]) .leaf .leaf) .leaf) (.node (some [(1, 1)]) .leaf .leaf)) (.node (some [(1, 1)]) (.node (some [(2, 1), (3, 1)]) (.node (some [(4, 2), (6, 2)]) .leaf .leaf) .leaf) (.node (some [(4, 1)]) .leaf .leaf)))) (.node (some [(2, 1), (11, 2)]) (.node none (.node (some [(1, 1)]) .leaf (.node (some [(2, 1), (3, 1)]) .leaf .leaf)) (.node (some [(2, 1), (3, 1)]) .leaf .leaf)) (.node (some [(1, 1)]) (.node none (.node (some [(1, 1), (22, 1)]) .leaf .leaf) .leaf) (.node none .leaf (.node (some [(5, 1), (7, 1), (10, 2)]) .leaf .leaf))))))
noncomputable def ctx (l : List (FuncId × FSpec)) : Ctx := { P := Tryd.prog, ty := tyOf tyN tyTr, gl := gl, env := envOf l, fns := fnsOf fnL, site := siteOf siteTr }
theorem ty_ok : TyOK Tryd.prog (tyOf tyN tyTr) := chkTy_ok (by kernel_rfl)
theorem fns_ok (l : List (FuncId × FSpec)) : FnsOK (ctx l) := chkFns_ok (by kernel_rfl)
theorem ctx_ok {l : List (FuncId × FSpec)} (h : ∀ x ∈ l, SpecOK (ctx []) x.1 x.2) : EOK (ctx l) := ⟨ty_ok, envOK_of rfl h, fns_ok l, by kernel_rfl⟩
theorem E0_ok : EOK (ctx []) := ctx_ok (by simp)
end Burn.M27N
namespace Burn.M27N
open Go Go.BE Go.Proofs
set_option maxRecDepth 100000
set_option linter.unusedVariables false
set_option linter.unusedSimpArgs false
open Burn.Cfg
noncomputable abbrev E_C1 : Ctx := ctx []
theorem E_C1_ok : EOK E_C1 := E0_ok
def cuts_C1 : CutL := []
def rets_C1 : FuncId → List (Option Fx)
  | 66 => [some (.own 8 I)]
  | _ => []
def H_C1 : Hints := { cut := cutOf cuts_C1, ret := rets_C1 }
theorem cfg_own_t (l : List (Den I)) : run E_C1 H_C1 f_cfg_own 3000 (start E_C1 f_cfg_own [(.tv (.sl 8 I) l)]) = (.chk (((0 : Nat) + (ln I l)) * 8 ≤ roomB) (.chk (((ln I (ap I ([] : List (Den I)) l)) : Int) = ((ln I (ap I ([] : List (Den I)) l)) : Int)) (.chk (((ln I (ap I ([] : List (Den I)) l)) : Int) = ((ln I (ap I ([] : List (Den I)) l)) : Int)) (rt (.osl 0 0 [] none) [(0, ⟨(.arr 0 8 I (ap I ([] : List (Den I)) l)), 0, [], false, none⟩)])))) := by kernel_rfl
theorem cfg_inside_t (f : Den s_api_Func) (at_ : Den s_api_Pos) : run E_C1 H_C1 f_cfg_inside 3000 (start E_C1 f_cfg_inside [(.tv s_api_Func f), (.tv s_api_Pos at_)]) = (cond (decide ((z at_.1) ≥ (0 : Int))) (cond (decide ((z at_.1) < ((ln s_api_Block f.2.2.2.2.1) : Int))) (cond (decide ((z at_.2.1) ≥ (-1 : Int))) (.chk (0 ≤ (z at_.1) ∧ (z at_.1) < (ln s_api_Block f.2.2.2.2.1)) (rt (vb (decide ((z at_.2.1) ≤ ((ln s_api_Instr (((gd s_api_Block f.2.2.2.2.1 (((z at_.1)).toNat)).2).1)) : Int)))) [])) (rt (vb false) [])) (rt (vb false) [])) (rt (vb false) [])) := by kernel_rfl
theorem r20_In_t (f : Den s_api_Func) (at_ : Den s_api_Pos) : run E_C1 H_C1 f_r20_In 3000 (start E_C1 f_r20_In [(.tv s_api_Func f), (.tv s_api_Pos at_)]) = (cond (decide ((z at_.1) ≥ (0 : Int))) (cond (decide ((z at_.1) < ((ln s_api_Block f.2.2.2.2.1) : Int))) (cond (decide ((z at_.2.1) ≥ (-1 : Int))) (.chk (0 ≤ (z at_.1) ∧ (z at_.1) < (ln s_api_Block f.2.2.2.2.1)) (rt (vb (decide ((z at_.2.1) ≤ ((ln s_api_Instr (((gd s_api_Block f.2.2.2.2.1 (((z at_.1)).toNat)).2).1)) : Int)))) [])) (rt (vb false) [])) (rt (vb false) [])) (rt (vb false) [])) := by kernel_rfl
def eP (x y : Den s_api_Pos) : Bool := z x.1 == z y.1 && (z x.2.1 == z y.2.1 && true)
abbrev Fn := Den s_api_Func
abbrev Blk := Den s_api_Block
abbrev blocks (f : Fn) : List (Den s_api_Block) := f.2.2.2.2.1
abbrev bIns (b : Blk) : List (Den s_api_Instr) := b.2.1
abbrev bPar (b : Blk) : List (Den I) := b.1
abbrev tArgs (b : Blk) : List (Den I) := b.2.2.1.2.1
abbrev tSuc (b : Blk) : List (Den s_api_Edge) := b.2.2.1.2.2.2.1
abbrev iDst (i : Den s_api_Instr) : Int := i.2.2.1
abbrev blk (f : Fn) (n : Int) : Blk := gd s_api_Block (blocks f) n.toNat
def idL (l : List (Den I)) : Den (.sl 8 I) := l

def k_cfg_own : Con := conO 99 [.d (.sl 8 I)] (.sl 8 I) (fun x => True) fun x => idL x.1
theorem m_cfg_own (l : List (Den I)) (h_l : okD (.sl 8 I) l) (hp : True) : Runs E_C1 (start E_C1 f_cfg_own [(.tv (.sl 8 I) l)]) (fun r_ h_ => r_ = (ownRes 99 (.sl 8 I) (idL l)).1 ∧ h_ = (ownRes 99 (.sl 8 I) (idL l)).2) := .tree E_C1_ok (cfg_own_t l) (by
  simp only [wp_iff, chk_iff, know_iff, any_iff, rt_iff, hd_iff, true_imp_iff, true_and, and_true, and_self, lt01]
  have := h_l.1.1
  rw [Nat.zero_add]
  exact ⟨this, fun _ => ⟨rfl, rfl⟩⟩)
theorem c_cfg_own : SpecOK E_C1 f_cfg_own k_cfg_own.spec := spec_of fun x hx hp => ⟨rfl, m_cfg_own x.1 hx.1 hp⟩
def insideF (f : Fn) (p : Den s_api_Pos) : Bool := decide (z p.1 ≥ 0) && (decide (z p.1 < (ln s_api_Block (blocks f) : Int)) && (decide (z p.2.1 ≥ -1) && decide (z p.2.1 ≤ (ln s_api_Instr (bIns (blk f (z p.1))) : Int))))

def k_cfg_inside : Con := con [.d s_api_Func, .d s_api_Pos] .bool (fun x => True) fun x => insideF x.1 x.2.1
theorem m_cfg_inside (f : Den s_api_Func) (at_ : Den s_api_Pos) (h_f : okD s_api_Func f) (h_at_ : okD s_api_Pos at_) (hp : True) : Runs E_C1 (start E_C1 f_cfg_inside [(.tv s_api_Func f), (.tv s_api_Pos at_)]) (fun r_ h_ => r_ = (vb (insideF f at_)) ∧ h_ = []) := .tree E_C1_ok (cfg_inside_t f at_) (by
  unfold insideF
  simp only [wp_iff, chk_iff, know_iff, any_iff, rt_iff, hd_iff, true_imp_iff, true_and, and_true, and_self, lt01]
  refine ⟨fun h0 => ⟨fun h1 => ⟨fun h2 => ?_, fun h2 => ?_⟩, fun h1 => ?_⟩, fun h0 => ?_⟩
  · have a := of_decide_eq_true h0
    have b := of_decide_eq_true h1
    rw [h0, h1, h2]
    exact ⟨⟨a, b⟩, fun _ => rfl⟩
  · rw [h0, h1, h2]; rfl
  · rw [h0, h1]; rfl
  · rw [h0]; rfl)
theorem c_cfg_inside : SpecOK E_C1 f_cfg_inside k_cfg_inside.spec := spec_of fun x hx hp => ⟨rfl, m_cfg_inside x.1 x.2.1 hx.1 hx.2.1 hp⟩

def k_r20_In : Con := con [.d s_api_Func, .d s_api_Pos] .bool (fun x => True) fun x => insideF x.1 x.2.1
theorem m_r20_In (f : Den s_api_Func) (at_ : Den s_api_Pos) (h_f : okD s_api_Func f) (h_at_ : okD s_api_Pos at_) (hp : True) : Runs E_C1 (start E_C1 f_r20_In [(.tv s_api_Func f), (.tv s_api_Pos at_)]) (fun r_ h_ => r_ = (vb (insideF f at_)) ∧ h_ = []) := .tree E_C1_ok (r20_In_t f at_) (by
  unfold insideF
  simp only [wp_iff, chk_iff, know_iff, any_iff, rt_iff, hd_iff, true_imp_iff, true_and, and_true, and_self, lt01]
  refine ⟨fun h0 => ⟨fun h1 => ⟨fun h2 => ?_, fun h2 => ?_⟩, fun h1 => ?_⟩, fun h0 => ?_⟩
  · have a := of_decide_eq_true h0
    have b := of_decide_eq_true h1
    rw [h0, h1, h2]
    exact ⟨⟨a, b⟩, fun _ => rfl⟩
  · rw [h0, h1, h2]; rfl
  · rw [h0, h1]; rfl
  · rw [h0]; rfl)
theorem c_r20_In : SpecOK E_C1 f_r20_In k_r20_In.spec := spec_of fun x hx hp => ⟨rfl, m_r20_In x.1 x.2.1 hx.1 hx.2.1 hp⟩
def L_C1 : List (FuncId × FSpec) := [(f_cfg_own, k_cfg_own.spec), (f_cfg_inside, k_cfg_inside.spec), (f_r20_In, k_r20_In.spec)] ++ []
theorem L_C1_ok : ∀ x ∈ L_C1, SpecOK (ctx []) x.1 x.2 := by
  unfold L_C1
  simp only [List.cons_append, List.nil_append, List.forall_mem_cons]
  exact ⟨c_cfg_own, c_cfg_inside, c_r20_In, by simp⟩
end Burn.M27N
namespace Burn.M27N
open Go Go.BE Go.Proofs
set_option maxRecDepth 100000
set_option linter.unusedVariables false
set_option linter.unusedSimpArgs false
open Burn.Cfg
def permR (perm : List (Den I)) (r : Int) : Int := if r < 0 ∨ r ≥ (ln I perm : Int) then r else z (gd I perm r.toNat)
def permRc (r : Int) (perm : List (Den I)) : Int := permR perm r
def permD (perm : List (Den I)) (r : Den I) : Den I := permR perm r
def idD (r : Den I) : Den I := r
theorem map_idD : ∀ l : List (Den I), List.map idD l = l
  | [] => rfl
  | a :: l => congrArg (List.cons a) (map_idD l)
theorem permD_out {k : List (Den I)} {x : Den I} (h : z x < 0 ∨ z x ≥ (ln I k : Int)) : permD k x = x := if_pos h
theorem permD_in {k : List (Den I)} {x : Den I} (h : ¬ (z x < 0 ∨ z x ≥ (ln I k : Int))) : permD k x = gd I k (z x).toNat := if_neg h
def permL (l perm : List (Den I)) : Den (.sl 8 I) := List.map (permD perm) l
def L_C2 : List (FuncId × FSpec) := [] ++ L_C1
theorem L_C2_ok : ∀ x ∈ L_C2, SpecOK (ctx []) x.1 x.2 := L_C1_ok
end Burn.M27N
namespace Burn.M27N
open Go Go.BE Go.Proofs
set_option maxRecDepth 100000
set_option linter.unusedVariables false
set_option linter.unusedSimpArgs false
open Burn.Cfg
def hd1 (e : Den s_api_Edge) : Den I := e.1
def okB (l : List (Den s_api_Block)) : Prop := room 136 (ln s_api_Block l) ∧ ∀ i, i < ln s_api_Block l → okD s_api_Block (gd s_api_Block l i)
theorem okB_of {f : Fn} (h : okD s_api_Func f) : okB (blocks f) := by
  obtain ⟨_, _, _, _, h1, _⟩ := h
  exact ⟨h1.1, fun i hi => ok_gd h1 hi⟩
theorem okB_suc {l : List (Den s_api_Block)} (h : okB l) {i : Nat} (hi : i < ln s_api_Block l) : okD (.sl 32 s_api_Edge) (tSuc (gd s_api_Block l i)) := (h.2 i hi).2.2.1.2.2.2.1
def L_C3 : List (FuncId × FSpec) := [] ++ L_C2
theorem L_C3_ok : ∀ x ∈ L_C3, SpecOK (ctx []) x.1 x.2 := L_C2_ok
end Burn.M27N
namespace Burn.M27N
open Go Go.BE Go.Proofs
set_option maxRecDepth 100000
set_option linter.unusedVariables false
set_option linter.unusedSimpArgs false
open Burn.Cfg
def idF (f : Fn) : Den s_api_Func := f
def ret1 (f : Fn) (x : AV) (h : Heap) : Prop := x = (ownRes 1 s_api_Func (idF f)).1 ∧ h = (ownRes 1 s_api_Func (idF f)).2
def L_C4 : List (FuncId × FSpec) := [] ++ L_C3
theorem L_C4_ok : ∀ x ∈ L_C4, SpecOK (ctx []) x.1 x.2 := L_C3_ok
end Burn.M27N
namespace Burn.M27N
open Go Go.BE Go.Proofs
set_option maxRecDepth 100000
set_option linter.unusedVariables false
set_option linter.unusedSimpArgs false
open Burn.Cfg
noncomputable abbrev E_C5 : Ctx := ctx L_C4
theorem E_C5_ok : EOK E_C5 := ctx_ok L_C4_ok
def cuts_C5 : CutL := [([], 52, 0, [1, 2, 3, 16, 17, 18], [(.c 3 1, .own 80 s_api_Instr)], []),
  ([], 52, 2, [2, 3, 52, 53, 54], [(.c 3 5, .own 32 s_api_Edge)], [])]
def rets_C5 : FuncId → List (Option Fx)
  | _ => []
def H_C5 : Hints := { cut := cutOf cuts_C5, ret := rets_C5 }
noncomputable def r20_cloneBlock_L0 (b : Den s_api_Block) (t16 : List (Den s_api_Instr)) (t17 : Int) (t18 : Int) (t2_2 : Int) (t2_6 : Int) (out_2 : Int) (out_3 : List (Den I)) (out_4 : List (Den I)) (out_5 : List (Den s_api_Edge)) (out_6 : Int) (out_0 : List (Den I)) (out_1 : List (Den s_api_Instr)) : Cfg := hcfg E_C5 f_r20_cloneBlock 0 [(1, (.rtp s_api_Block b)), (2, (.ref 0 0)), (3, (.ref 1 0)), (16, (.tv (.sl 80 s_api_Instr) t16)), (17, (vi t17)), (18, (vi t18))] [(0, ⟨(.cells [(.val (.slice none 0 0)), (.val (.slice none 0 0)), (vi t2_2), (.val (.slice none 0 0)), (.val (.slice none 0 0)), (.val (.slice none 0 0)), (vi t2_6)]), 0, [], false, none⟩), (1, ⟨(.cells [(.osl 2 2 [] none), (.osl 3 3 [] none), (vi out_2), (.tv (.sl 8 I) out_3), (.tv (.sl 8 I) out_4), (.tv (.sl 32 s_api_Edge) out_5), (vi out_6)]), 1, [], false, none⟩), (2, ⟨(.arr 0 8 I out_0), 2, [], false, none⟩), (3, ⟨(.arr 0 80 s_api_Instr out_1), 3, [], false, none⟩)] 4
noncomputable def r20_cloneBlock_L2 (t52 : List (Den s_api_Edge)) (t53 : Int) (t54 : Int) (t2_2 : Int) (t2_6 : Int) (out_2 : Int) (out_6 : Int) (out_0 : List (Den I)) (out_1 : List (Den s_api_Instr)) (out_3 : List (Den I)) (out_4 : List (Den I)) (out_5 : List (Den s_api_Edge)) : Cfg := hcfg E_C5 f_r20_cloneBlock 2 [(2, (.ref 0 0)), (3, (.ref 1 0)), (52, (.tv (.sl 32 s_api_Edge) t52)), (53, (vi t53)), (54, (vi t54))] [(0, ⟨(.cells [(.val (.slice none 0 0)), (.val (.slice none 0 0)), (vi t2_2), (.val (.slice none 0 0)), (.val (.slice none 0 0)), (.val (.slice none 0 0)), (vi t2_6)]), 0, [], false, none⟩), (1, ⟨(.cells [(.osl 2 2 [] none), (.osl 3 3 [] none), (vi out_2), (.osl 4 4 [] none), (.osl 5 5 [] none), (.osl 6 6 [] none), (vi out_6)]), 1, [], false, none⟩), (2, ⟨(.arr 0 8 I out_0), 2, [], false, none⟩), (3, ⟨(.arr 0 80 s_api_Instr out_1), 3, [], false, none⟩), (4, ⟨(.arr 0 8 I out_3), 4, [], false, none⟩), (5, ⟨(.arr 0 8 I out_4), 5, [], false, none⟩), (6, ⟨(.arr 0 32 s_api_Edge out_5), 6, [], false, none⟩)] 7
theorem r20_cloneBlock_t (b : Den s_api_Block) : run E_C5 H_C5 f_r20_cloneBlock 3000 (start E_C5 f_r20_cloneBlock [(.tv s_api_Block b)]) = (.chk (((0 : Nat) + (ln I b.1)) * 8 ≤ roomB) (hd (r20_cloneBlock_L0 b b.2.1 ((ln s_api_Instr b.2.1) : Int) (0 : Int) (0 : Int) (0 : Int) (z b.2.2.1.1) b.2.2.1.2.1 b.2.2.1.2.2.1 b.2.2.1.2.2.2.1 (z b.2.2.1.2.2.2.2.1) (ap I ([] : List (Den I)) b.1) ([] : List (Den s_api_Instr))))) := by kernel_rfl
theorem r20_cloneBlock_L0_t (b : Den s_api_Block) (t16 : List (Den s_api_Instr)) (t17 : Int) (t18 : Int) (t2_2 : Int) (t2_6 : Int) (out_2 : Int) (out_3 : List (Den I)) (out_4 : List (Den I)) (out_5 : List (Den s_api_Edge)) (out_6 : Int) (out_0 : List (Den I)) (out_1 : List (Den s_api_Instr)) : run E_C5 H_C5 f_r20_cloneBlock 3000 (r20_cloneBlock_L0 b t16 t17 t18 t2_2 t2_6 out_2 out_3 out_4 out_5 out_6 out_0 out_1) = (cond (decide (t18 < t17)) (.chk (0 ≤ t18 ∧ t18 < (ln s_api_Instr t16)) (.chk (((0 : Nat) + (ln I (((((gd s_api_Instr t16 ((t18).toNat)).2).2).2).1))) * 8 ≤ roomB) (.chk (((ln s_api_Instr out_1) + (1 : Nat)) * 80 ≤ roomB) (hd (r20_cloneBlock_L0 b t16 t17 (IntKind.wrap .i64 (t18 + (1 : Int))) t2_2 t2_6 out_2 out_3 out_4 out_5 out_6 out_0 (ap s_api_Instr out_1 ([((gd s_api_Instr t16 ((t18).toNat)).1, ((gd s_api_Instr t16 ((t18).toNat)).2).1, (((gd s_api_Instr t16 ((t18).toNat)).2).2).1, (ap I ([] : List (Den I)) (((((gd s_api_Instr t16 ((t18).toNat)).2).2).2).1)), ((((gd s_api_Instr t16 ((t18).toNat)).2).2).2).2)] : List (Den s_api_Instr)))))))) (.chk (((0 : Nat) + (ln I b.2.2.1.2.1)) * 8 ≤ roomB) (.chk (((0 : Nat) + (ln I b.2.2.1.2.2.1)) * 8 ≤ roomB) (hd (r20_cloneBlock_L2 b.2.2.1.2.2.2.1 ((ln s_api_Edge b.2.2.1.2.2.2.1) : Int) (0 : Int) t2_2 t2_6 out_2 out_6 out_0 out_1 (ap I ([] : List (Den I)) b.2.2.1.2.1) (ap I ([] : List (Den I)) b.2.2.1.2.2.1) ([] : List (Den s_api_Edge))))))) := by kernel_rfl
theorem r20_cloneBlock_L2_t (t52 : List (Den s_api_Edge)) (t53 : Int) (t54 : Int) (t2_2 : Int) (t2_6 : Int) (out_2 : Int) (out_6 : Int) (out_0 : List (Den I)) (out_1 : List (Den s_api_Instr)) (out_3 : List (Den I)) (out_4 : List (Den I)) (out_5 : List (Den s_api_Edge)) : run E_C5 H_C5 f_r20_cloneBlock 3000 (r20_cloneBlock_L2 t52 t53 t54 t2_2 t2_6 out_2 out_6 out_0 out_1 out_3 out_4 out_5) = (cond (decide (t54 < t53)) (.chk (0 ≤ t54 ∧ t54 < (ln s_api_Edge t52)) (.chk (((0 : Nat) + (ln I (((gd s_api_Edge t52 ((t54).toNat)).2).1))) * 8 ≤ roomB) (.chk (((ln s_api_Edge out_5) + (1 : Nat)) * 32 ≤ roomB) (hd (r20_cloneBlock_L2 t52 t53 (IntKind.wrap .i64 (t54 + (1 : Int))) t2_2 t2_6 out_2 out_6 out_0 out_1 out_3 out_4 (ap s_api_Edge out_5 ([((gd s_api_Edge t52 ((t54).toNat)).1, (ap I ([] : List (Den I)) (((gd s_api_Edge t52 ((t54).toNat)).2).1)), ())] : List (Den s_api_Edge)))))))) (rt (.agg [(.osl 0 0 [] none), (.osl 1 1 [] none), (vi out_2), (.osl 2 2 [] none), (.osl 3 3 [] none), (.osl 4 4 [] none), (vi out_6)]) [(0, ⟨(.arr 0 8 I out_0), 0, [], false, none⟩), (1, ⟨(.arr 0 80 s_api_Instr out_1), 1, [], false, none⟩), (2, ⟨(.arr 0 8 I out_3), 2, [], false, none⟩), (3, ⟨(.arr 0 8 I out_4), 3, [], false, none⟩), (4, ⟨(.arr 0 32 s_api_Edge out_5), 4, [], false, none⟩)])) := by kernel_rfl
def idB (b : Blk) : Den s_api_Block := b
def retB (b : Blk) (x : AV) (h : Heap) : Prop := x = (ownRes 0 s_api_Block (idB b)).1 ∧ h = (ownRes 0 s_api_Block (idB b)).2
theorem room8 {l : List (Den I)} (h : okD (.sl 8 I) l) : (0 + ln I l) * 8 ≤ roomB := by
  rw [Nat.zero_add]
  exact h.1.1
theorem r20_cloneBlock_l (b : Blk) (hb : okD s_api_Block b) : ∀ i, i ≤ ln s_api_Instr (bIns b) → Runs E_C5 (r20_cloneBlock_L0 b (bIns b) (ln s_api_Instr (bIns b) : Nat) i 0 0 (z b.2.2.1.1) (tArgs b) b.2.2.1.2.2.1 (tSuc b) (z b.2.2.1.2.2.2.2.1) (bPar b) ((bIns b).take i)) (retB b) := by
  have k4 : ∀ k, k ≤ ln s_api_Edge (tSuc b) → Runs E_C5 (r20_cloneBlock_L2 (tSuc b) (ln s_api_Edge (tSuc b) : Nat) k 0 0 (z b.2.2.1.1) (z b.2.2.1.2.2.2.2.1) (bPar b) (bIns b) (tArgs b) b.2.2.1.2.2.1 ((tSuc b).take k)) (retB b) :=
    up_ind (.tree E_C5_ok (r20_cloneBlock_L2_t _ _ _ _ _ _ _ _ _ _ _ _) (by
      rw [take_ln]
      simp only [wp_iff, chk_iff, know_iff, any_iff, rt_iff, hd_iff, true_imp_iff, true_and, and_true, and_self, lt01, Int.ofNat_lt, Int.ofNat_le, Int.natCast_nonneg, Int.toNat_natCast, decide_true, decide_false, Bool.true_eq_false, Bool.false_eq_true, false_imp_iff, Nat.lt_irrefl, imp_self, implies_true,  retB]
      exact ⟨rfl, rfl⟩))
      fun k hk ihk => .tree E_C5_ok (r20_cloneBlock_L2_t _ _ _ _ _ _ _ _ _ _ _ _) (by
        have hr := hb.2.2.1.2.2.2.1
        have hi := room8 (ok_gd hr hk).2.1
        rw [take_gd hk] at ihk
        simp only [wp_iff, chk_iff, know_iff, any_iff, rt_iff, hd_iff, true_imp_iff, true_and, and_true, and_self, lt01, Int.ofNat_lt, Int.ofNat_le, Int.natCast_nonneg, Int.toNat_natCast, decide_true, decide_false, Bool.true_eq_false, Bool.false_eq_true, false_imp_iff, Nat.lt_irrefl, imp_self, implies_true,  hk, ln_take (Nat.le_of_lt hk), wrapS hk (room_lt hr.1), nil_ap]
        exact ⟨hi, fun _ => ⟨room_part hr.1 hk (by decide), fun _ => ihk⟩⟩)
  refine up_ind (.tree E_C5_ok (r20_cloneBlock_L0_t _ _ _ _ _ _ _ _ _ _ _ _ _) (by
      rw [take_ln]
      simp only [wp_iff, chk_iff, know_iff, any_iff, rt_iff, hd_iff, true_imp_iff, true_and, and_true, and_self, lt01, Int.ofNat_lt, Int.ofNat_le, Int.natCast_nonneg, Int.toNat_natCast, decide_true, decide_false, Bool.true_eq_false, Bool.false_eq_true, false_imp_iff, Nat.lt_irrefl, imp_self, implies_true,  nil_ap]
      exact ⟨room8 hb.2.2.1.2.1, fun _ => ⟨room8 hb.2.2.1.2.2.1, fun _ => k4 0 (Nat.zero_le _)⟩⟩))
      fun k hk ihk => .tree E_C5_ok (r20_cloneBlock_L0_t _ _ _ _ _ _ _ _ _ _ _ _ _) (by
        have hr := hb.2.1
        have hi := room8 (ok_gd hr hk).2.2.2.1
        rw [take_gd hk] at ihk
        simp only [wp_iff, chk_iff, know_iff, any_iff, rt_iff, hd_iff, true_imp_iff, true_and, and_true, and_self, lt01, Int.ofNat_lt, Int.ofNat_le, Int.natCast_nonneg, Int.toNat_natCast, decide_true, decide_false, Bool.true_eq_false, Bool.false_eq_true, false_imp_iff, Nat.lt_irrefl, imp_self, implies_true,  hk, ln_take (Nat.le_of_lt hk), wrapS hk (room_lt hr.1), nil_ap]
        exact ⟨hi, fun _ => ⟨room_part hr.1 hk (by decide), fun _ => ihk⟩⟩)
def k_r20_cloneBlock : Con := conO 0 [.d s_api_Block] s_api_Block (fun x => True) fun x => idB x.1
theorem m_r20_cloneBlock (b : Den s_api_Block) (h_b : okD s_api_Block b) (hp : True) : Runs E_C5 (start E_C5 f_r20_cloneBlock [(.tv s_api_Block b)]) (fun r_ h_ => r_ = (ownRes 0 s_api_Block (idB b)).1 ∧ h_ = (ownRes 0 s_api_Block (idB b)).2) := .tree E_C5_ok (r20_cloneBlock_t b) (by
  simp only [wp_iff, chk_iff, know_iff, any_iff, rt_iff, hd_iff, true_imp_iff, true_and, and_true, and_self, lt01]
  exact ⟨room8 h_b.1, fun _ => r20_cloneBlock_l b h_b 0 (Nat.zero_le _)⟩)
theorem c_r20_cloneBlock : SpecOK E_C5 f_r20_cloneBlock k_r20_cloneBlock.spec := spec_of fun x hx hp => ⟨rfl, m_r20_cloneBlock x.1 hx.1 hp⟩
def L_C5 : List (FuncId × FSpec) := [(f_r20_cloneBlock, k_r20_cloneBlock.spec)] ++ L_C4
theorem L_C5_ok : ∀ x ∈ L_C5, SpecOK (ctx []) x.1 x.2 := by
  unfold L_C5
  simp only [List.cons_append, List.nil_append, List.forall_mem_cons]
  exact ⟨c_r20_cloneBlock, L_C4_ok⟩
end Burn.M27N
namespace Burn.M27N
open Go Go.BE Go.Proofs
set_option maxRecDepth 100000
set_option linter.unusedVariables false
set_option linter.unusedSimpArgs false
open Burn.Cfg
noncomputable abbrev E_C6 : Ctx := ctx L_C5
theorem E_C6_ok : EOK E_C6 := ctx_ok L_C5_ok
def cuts_C6 : CutL := [([], 33, 0, [2, 3, 19, 20, 21], [(.c 3 4, .own 136 s_api_Block 1)], [])]
def rets_C6 : FuncId → List (Option Fx)
  | _ => []
def H_C6 : Hints := { cut := cutOf cuts_C6, ret := rets_C6 }
noncomputable def r20_clone_L0 (t19 : List (Den s_api_Block)) (t20 : Int) (t21 : Int) (t2_0 : ByteArray) (t2_2 : Int) (out_0 : ByteArray) (out_2 : Int) (out_1 : List (Den I)) (out_3 : List (Den I)) (out_4 : List (Den s_api_Block)) : Cfg := hcfg E_C6 f_r20_clone 0 [(2, (.ref 0 0)), (3, (.ref 1 0)), (19, (.tv (.sl 136 s_api_Block) t19)), (20, (vi t20)), (21, (vi t21))] [(0, ⟨(.cells [(vs t2_0), (.val (.slice none 0 0)), (vi t2_2), (.val (.slice none 0 0)), (.val (.slice none 0 0))]), 0, [], false, none⟩), (1, ⟨(.cells [(vs out_0), (.osl 2 2 [] none), (vi out_2), (.osl 3 3 [] none), (.osl 4 4 [] none)]), 1, [], false, none⟩), (2, ⟨(.arr 0 8 I out_1), 2, [], false, none⟩), (3, ⟨(.arr 0 8 I out_3), 3, [], false, none⟩), (4, ⟨(.arr 1 136 s_api_Block out_4), 4, [], false, none⟩)] 5
theorem r20_clone_t (f : Den s_api_Func) : run E_C6 H_C6 f_r20_clone 3000 (start E_C6 f_r20_clone [(.tv s_api_Func f)]) = (.chk (((0 : Nat) + (ln I f.2.1)) * 8 ≤ roomB) (.chk (((0 : Nat) + (ln I f.2.2.2.1)) * 8 ≤ roomB) (hd (r20_clone_L0 f.2.2.2.2.1 ((ln s_api_Block f.2.2.2.2.1) : Int) (0 : Int) ByteArray.empty (0 : Int) (tOf f.1) (z f.2.2.1) (ap I ([] : List (Den I)) f.2.1) (ap I ([] : List (Den I)) f.2.2.2.1) ([] : List (Den s_api_Block)))))) := by kernel_rfl
theorem r20_clone_L0_t (t19 : List (Den s_api_Block)) (t20 : Int) (t21 : Int) (t2_0 : ByteArray) (t2_2 : Int) (out_0 : ByteArray) (out_2 : Int) (out_1 : List (Den I)) (out_3 : List (Den I)) (out_4 : List (Den s_api_Block)) : run E_C6 H_C6 f_r20_clone 3000 (r20_clone_L0 t19 t20 t21 t2_0 t2_2 out_0 out_2 out_1 out_3 out_4) = (cond (decide (t21 < t20)) (.chk (0 ≤ t21 ∧ t21 < (ln s_api_Block t19)) (.chk (True) (.chk (((ln s_api_Block out_4) + (1 : Nat)) * 136 ≤ roomB) (.know (okAVs [(.osl 0 0 [] none), (.osl 1 1 [] none), (vi (z (((((idB (gd s_api_Block t19 ((t21).toNat))).2).2).1).1))), (.osl 2 2 [] none), (.osl 3 3 [] none), (.osl 4 4 [] none), (vi (z (((((((((idB (gd s_api_Block t19 ((t21).toNat))).2).2).1).2).2).2).2).1)))]) (hd (r20_clone_L0 t19 t20 (IntKind.wrap .i64 (t21 + (1 : Int))) t2_0 t2_2 out_0 out_2 out_1 out_3 (ap s_api_Block out_4 ([(idB (gd s_api_Block t19 ((t21).toNat)))] : List (Den s_api_Block))))))))) (rt (.agg [(vs out_0), (.osl 0 0 [] none), (vi out_2), (.osl 1 1 [] none), (.osl 2 2 [] none)]) [(0, ⟨(.arr 0 8 I out_1), 0, [], false, none⟩), (1, ⟨(.arr 0 8 I out_3), 1, [], false, none⟩), (2, ⟨(.arr 1 136 s_api_Block out_4), 2, [], false, none⟩)])) := by kernel_rfl
theorem r20_clone_l (f : Fn) (l : List (Den s_api_Block)) (hf : blocks f = l) (ho : okB l) : ∀ i, i ≤ ln s_api_Block l → ∀ a b, Runs E_C6 (r20_clone_L0 l (ln s_api_Block l : Nat) i a b (tOf f.1) (z f.2.2.1) f.2.1 f.2.2.2.1 (l.take i)) (ret1 f) :=
  up_ind (fun a b => .tree E_C6_ok (r20_clone_L0_t _ _ _ _ _ _ _ _ _ _) (by
    rw [take_ln]
    simp only [wp_iff, chk_iff, know_iff, any_iff, rt_iff, hd_iff, true_imp_iff, true_and, and_true, and_self, lt01, Int.ofNat_lt, Int.ofNat_le, Int.natCast_nonneg, Int.toNat_natCast, decide_true, decide_false, Bool.true_eq_false, Bool.false_eq_true, false_imp_iff, Nat.lt_irrefl, imp_self, implies_true,  ret1]
    rw [← hf]
    exact ⟨rfl, rfl⟩))
    fun i hi ih a b => .tree E_C6_ok (r20_clone_L0_t _ _ _ _ _ _ _ _ _ _) (by
      have := ih a b
      rw [take_gd hi] at this
      simp only [wp_iff, chk_iff, know_iff, any_iff, rt_iff, hd_iff, true_imp_iff, true_and, and_true, and_self, lt01, Int.ofNat_lt, Int.ofNat_le, Int.natCast_nonneg, Int.toNat_natCast, decide_true, decide_false, Bool.true_eq_false, Bool.false_eq_true, false_imp_iff, Nat.lt_irrefl, imp_self, implies_true,  hi, ln_take (Nat.le_of_lt hi), wrapS hi (room_lt ho.1), idB]
      exact ⟨room_part ho.1 hi (by decide), fun _ _ => this⟩)
def k_r20_clone : Con := conO 1 [.d s_api_Func] s_api_Func (fun x => True) fun x => idF x.1
theorem m_r20_clone (f : Den s_api_Func) (h_f : okD s_api_Func f) (hp : True) : Runs E_C6 (start E_C6 f_r20_clone [(.tv s_api_Func f)]) (fun r_ h_ => r_ = (ownRes 1 s_api_Func (idF f)).1 ∧ h_ = (ownRes 1 s_api_Func (idF f)).2) := .tree E_C6_ok (r20_clone_t f) (by
  simp only [wp_iff, chk_iff, know_iff, any_iff, rt_iff, hd_iff, true_imp_iff, true_and, and_true, and_self, lt01]
  exact ⟨room8 h_f.2.1, fun _ => ⟨room8 h_f.2.2.2.1, fun _ => r20_clone_l f _ rfl (okB_of h_f) 0 (Nat.zero_le _) _ _⟩⟩)
theorem c_r20_clone : SpecOK E_C6 f_r20_clone k_r20_clone.spec := spec_of fun x hx hp => ⟨rfl, m_r20_clone x.1 hx.1 hp⟩
def L_C6 : List (FuncId × FSpec) := [(f_r20_clone, k_r20_clone.spec)] ++ L_C5
theorem L_C6_ok : ∀ x ∈ L_C6, SpecOK (ctx []) x.1 x.2 := by
  unfold L_C6
  simp only [List.cons_append, List.nil_append, List.forall_mem_cons]
  exact ⟨c_r20_clone, L_C5_ok⟩
end Burn.M27N
namespace Burn.M27N
open Go Go.BE Go.Proofs
set_option maxRecDepth 100000
set_option linter.unusedVariables false
set_option linter.unusedSimpArgs false
open Burn.Cfg
noncomputable abbrev E_C7 : Ctx := ctx L_C6
theorem E_C7_ok : EOK E_C7 := ctx_ok L_C6_ok
def cuts_C7 : CutL := []
def rets_C7 : FuncId → List (Option Fx)
  | 50 => [some (.dat (.sl 8 I))]
  | _ => []
def H_C7 : Hints := { cut := cutOf cuts_C7, ret := rets_C7 }
theorem cfg_Writes_t (f : Den s_api_Func) (at_ : Den s_api_Pos) : run E_C7 H_C7 f_cfg_Writes 3000 (start E_C7 f_cfg_Writes [(.tv s_api_Func f), (.tv s_api_Pos at_)]) = (.chk (True) (.know True (cond (!(insideF f at_)) (rt (.tv (.sl 8 I) ([] : List (Den I))) []) (.chk (0 ≤ (z at_.1) ∧ (z at_.1) < (ln s_api_Block f.2.2.2.2.1)) (cond ((z at_.2.1) == (-1 : Int)) (cond ((z at_.1) == (0 : Int)) (.chk (True) (.chk (((ln I (idL f.2.1)) + (ln I ((gd s_api_Block f.2.2.2.2.1 (((z at_.1)).toNat)).1))) * 8 ≤ roomB) (.know True (rt (.tv (.sl 8 I) (ap I (idL f.2.1) ((gd s_api_Block f.2.2.2.2.1 (((z at_.1)).toNat)).1))) [])))) (cond ((z at_.2.1) == (-1 : Int)) (.chk (True) (.know True (rt (.tv (.sl 8 I) (idL (gd s_api_Block f.2.2.2.2.1 (((z at_.1)).toNat)).1)) []))) (cond (decide ((z at_.2.1) < ((ln s_api_Instr (((gd s_api_Block f.2.2.2.2.1 (((z at_.1)).toNat)).2).1)) : Int))) (.chk (0 ≤ (z at_.2.1) ∧ (z at_.2.1) < (ln s_api_Instr (((gd s_api_Block f.2.2.2.2.1 (((z at_.1)).toNat)).2).1))) (cond (decide ((z ((((gd s_api_Instr (((gd s_api_Block f.2.2.2.2.1 (((z at_.1)).toNat)).2).1) (((z at_.2.1)).toNat)).2).2).1)) ≥ (0 : Int))) (.chk (0 ≤ (z at_.2.1) ∧ (z at_.2.1) < (ln s_api_Instr (((gd s_api_Block f.2.2.2.2.1 (((z at_.1)).toNat)).2).1))) (rt (.tv (.sl 8 I) ([(((gd s_api_Instr (((gd s_api_Block f.2.2.2.2.1 (((z at_.1)).toNat)).2).1) (((z at_.2.1)).toNat)).2).2).1] : List (Den I))) [])) (rt (.tv (.sl 8 I) ([] : List (Den I))) []))) (rt (.tv (.sl 8 I) ([] : List (Den I))) [])))) (cond ((z at_.2.1) == (-1 : Int)) (.chk (True) (.know True (rt (.tv (.sl 8 I) (idL (gd s_api_Block f.2.2.2.2.1 (((z at_.1)).toNat)).1)) []))) (cond (decide ((z at_.2.1) < ((ln s_api_Instr (((gd s_api_Block f.2.2.2.2.1 (((z at_.1)).toNat)).2).1)) : Int))) (.chk (0 ≤ (z at_.2.1) ∧ (z at_.2.1) < (ln s_api_Instr (((gd s_api_Block f.2.2.2.2.1 (((z at_.1)).toNat)).2).1))) (cond (decide ((z ((((gd s_api_Instr (((gd s_api_Block f.2.2.2.2.1 (((z at_.1)).toNat)).2).1) (((z at_.2.1)).toNat)).2).2).1)) ≥ (0 : Int))) (.chk (0 ≤ (z at_.2.1) ∧ (z at_.2.1) < (ln s_api_Instr (((gd s_api_Block f.2.2.2.2.1 (((z at_.1)).toNat)).2).1))) (rt (.tv (.sl 8 I) ([(((gd s_api_Instr (((gd s_api_Block f.2.2.2.2.1 (((z at_.1)).toNat)).2).1) (((z at_.2.1)).toNat)).2).2).1] : List (Den I))) [])) (rt (.tv (.sl 8 I) ([] : List (Den I))) []))) (rt (.tv (.sl 8 I) ([] : List (Den I))) [])))))))) := by kernel_rfl
def smallF (f : Fn) : Prop := szD s_api_Func f ≤ 1048576
theorem sz_I : ∀ (l : List (Den I)), szD (.sl 8 I) l = ln I l
  | [] => rfl
  | a :: l => by
    have := sz_I l
    show 0 + 1 + szD (.sl 8 I) l = l.length + 1
    rw [this]
    unfold ln
    omega
theorem sz_cons {b : Nat} {S : Sh} {x : Den S} {l : List (Den S)} : szD (.sl b S) (x :: l) = szD S x + 1 + szD (.sl b S) l := rfl
theorem sz_mem {b : Nat} {S : Sh} : ∀ {l : List (Den S)} {i : Nat}, i < ln S l → szD S (gd S l i) + 1 ≤ szD (.sl b S) l
  | [], i, h => absurd h (Nat.not_lt_zero i)
  | x :: l, 0, h => by
    rw [sz_cons]
    show szD S x + 1 ≤ _
    omega
  | x :: l, i + 1, h => by
    have h1 : i < ln S l := Nat.lt_of_succ_lt_succ h
    have := sz_mem (b := b) h1
    rw [sz_cons]
    show szD S (gd S l i) + 1 ≤ _
    omega
theorem sz_func (f : Fn) : szD s_api_Func f = szD .str f.1 + (szD (.sl 8 I) f.2.1 + (0 + (szD (.sl 8 I) f.2.2.2.1 + (szD (.sl 136 s_api_Block) f.2.2.2.2.1 + 0)))) := rfl
theorem sz_blk (b : Blk) : szD s_api_Block b = szD (.sl 8 I) b.1 + (szD (.sl 80 s_api_Instr) b.2.1 + ((0 + (szD (.sl 8 I) b.2.2.1.2.1 + (szD (.sl 8 I) b.2.2.1.2.2.1 + (szD (.sl 32 s_api_Edge) b.2.2.1.2.2.2.1 + (0 + 0))))) + 0)) := rfl
def writesF (f : Fn) (p : Den s_api_Pos) : Den (.sl 8 I) := cond (!insideF f p) [] (cond (decide (z p.2.1 < 0)) (cond (z p.1 == 0) (ap I f.2.1 (bPar (blk f (z p.1)))) (bPar (blk f (z p.1)))) (cond (decide (z p.2.1 < (ln s_api_Instr (bIns (blk f (z p.1))) : Int))) (cond (decide (iDst (gd s_api_Instr (bIns (blk f (z p.1))) (z p.2.1).toNat) ≥ 0)) [iDst (gd s_api_Instr (bIns (blk f (z p.1))) (z p.2.1).toNat)] []) []))
theorem inside_b {f : Fn} {p : Den s_api_Pos} (h : insideF f p = true) : (0 ≤ z p.1 ∧ z p.1 < (ln s_api_Block (blocks f) : Int)) ∧ (-1 ≤ z p.2.1 ∧ z p.2.1 ≤ (ln s_api_Instr (bIns (blk f (z p.1))) : Int)) := by
  unfold insideF at h
  simp only [Bool.and_eq_true, decide_eq_true_eq] at h
  exact ⟨⟨h.1, h.2.1⟩, h.2.2.1, h.2.2.2⟩
theorem small_b {f : Fn} (hp : smallF f) {n : Int} (h : 0 ≤ n ∧ n < (ln s_api_Block (blocks f) : Int)) : szD s_api_Block (blk f n) + ln I f.2.1 ≤ 1048576 := by
  have h1 := sz_mem (b := 136) (l := blocks f) (i := n.toNat) (by omega)
  have h2 := sz_func f
  have h3 := sz_I f.2.1
  unfold smallF at hp
  unfold blk
  have e : blocks f = f.2.2.2.2.1 := rfl
  rw [e] at h1 ⊢
  omega
theorem roomS {n : Nat} (h : n ≤ 4194304) : n * 8 ≤ roomB := by
  unfold roomB
  omega

def k_cfg_Writes : Con := con [.d s_api_Func, .d s_api_Pos] (.sl 8 I) (fun x => smallF x.1) fun x => writesF x.1 x.2.1
theorem m_cfg_Writes (f : Den s_api_Func) (at_ : Den s_api_Pos) (h_f : okD s_api_Func f) (h_at_ : okD s_api_Pos at_) (hp : smallF f) : Runs E_C7 (start E_C7 f_cfg_Writes [(.tv s_api_Func f), (.tv s_api_Pos at_)]) (fun r_ h_ => r_ = (.tv (.sl 8 I) (writesF f at_)) ∧ h_ = []) := .tree E_C7_ok (cfg_Writes_t f at_) (by
  unfold writesF
  simp only [wp_iff, chk_iff, know_iff, any_iff, rt_iff, hd_iff, true_imp_iff, true_and, and_true, and_self, lt01]
  refine ⟨fun h => ?_, fun h => ?_⟩
  · rw [h]; rfl
  have hi : insideF f at_ = true := by simpa using h
  have b := inside_b hi
  have sb := small_b hp b.1
  have hbn : (z at_.1).toNat < ln s_api_Block (blocks f) := by omega
  have hob := (okB_of h_f).2 _ hbn
  have hb := sz_blk (blk f (z at_.1))
  have h1 := sz_I (blk f (z at_.1)).1
  have hroom : (ln I f.2.1 + ln I (blk f (z at_.1)).1) * 8 ≤ roomB := roomS (by omega)
  rw [h]
  refine ⟨b.1, fun _ => ⟨fun h2 => ?_, fun h2 => ?_⟩⟩
  · have e2 : z at_.2.1 = -1 := by simpa using h2
    have d2 : decide (z at_.2.1 < 0) = true := by rw [e2]; rfl
    rw [d2]
    refine ⟨fun h3 => ?_, fun h3 => ?_⟩
    · rw [h3]
      exact ⟨hroom, fun _ => rfl⟩
    · rw [h3]
      refine ⟨fun _ => rfl, fun h4 => absurd (h2.symm.trans h4) (by decide)⟩
  · have d2 : decide (z at_.2.1 < 0) = false := by
      have e2 : z at_.2.1 ≠ -1 := by simpa using h2
      have := b.2.1
      simp only [decide_eq_false_iff_not]
      omega
    rw [d2]
    have a2 := of_decide_eq_false d2
    refine ⟨fun h4 => absurd (h2.symm.trans h4) (by decide), fun _ => ⟨fun h3 => ?_, fun h3 => ?_⟩⟩
    · rw [h3]
      have a3 := of_decide_eq_true h3
      have f1 : 0 ≤ z at_.2.1 ∧ z at_.2.1 < (ln s_api_Instr (gd s_api_Block f.2.2.2.2.1 (z at_.1).toNat).2.1 : Int) := ⟨by omega, a3⟩
      refine ⟨f1, fun _ => ⟨fun h4 => ⟨f1, fun _ => ?_⟩, fun h4 => ?_⟩⟩
      · rw [show decide (iDst (gd s_api_Instr (bIns (blk f (z at_.1))) (z at_.2.1).toNat) ≥ 0) = true from h4]
        rfl
      · rw [show decide (iDst (gd s_api_Instr (bIns (blk f (z at_.1))) (z at_.2.1).toNat) ≥ 0) = false from h4]
        rfl
    · rw [h3]
      rfl)
theorem c_cfg_Writes : SpecOK E_C7 f_cfg_Writes k_cfg_Writes.spec := spec_of fun x hx hp => ⟨rfl, m_cfg_Writes x.1 x.2.1 hx.1 hx.2.1 hp⟩
def L_C7 : List (FuncId × FSpec) := [(f_cfg_Writes, k_cfg_Writes.spec)] ++ L_C6
theorem L_C7_ok : ∀ x ∈ L_C7, SpecOK (ctx []) x.1 x.2 := by
  unfold L_C7
  simp only [List.cons_append, List.nil_append, List.forall_mem_cons]
  exact ⟨c_cfg_Writes, L_C6_ok⟩
end Burn.M27N
namespace Burn.M27N
open Go Go.BE Go.Proofs
set_option maxRecDepth 100000
set_option linter.unusedVariables false
set_option linter.unusedSimpArgs false
open Burn.Cfg
noncomputable abbrev E_C8 : Ctx := ctx L_C7
theorem E_C8_ok : EOK E_C8 := ctx_ok L_C7_ok
def cuts_C8 : CutL := [([], 49, 0, [1, 2, 5, 17, 18], [], []),
  ([], 49, 2, [1, 2, 5, 6, 7, 17, 18], [], []),
  ([], 49, 4, [1, 2, 5, 6, 7, 8, 17, 18, 38, 39, 40], [], [])]
def rets_C8 : FuncId → List (Option Fx)
  | 49 => [some (.dat (.sl 24 (.sl 16 s_api_Pos)))]
  | _ => []
def H_C8 : Hints := { cut := cutOf cuts_C8, ret := rets_C8 }
noncomputable def colW_L0 (f : Den s_api_Func) (t17 : Int) (t18 : Int) (out : List (Den (.sl 16 s_api_Pos))) : Cfg := hcfg E_C8 f_cfg_collect 0 [(1, (.fn f_cfg_Writes [])), (2, (.rtp s_api_Func f)), (5, (.osl 0 0 [] none)), (17, (vi t17)), (18, (vi t18))] [(0, ⟨(.arr 1 24 (.sl 16 s_api_Pos) out), 0, [], false, none⟩)] 1
noncomputable def colW_L2 (f : Den s_api_Func) (b : Int) (i : Int) (t17 : Int) (t18 : Int) (out : List (Den (.sl 16 s_api_Pos))) : Cfg := hcfg E_C8 f_cfg_collect 2 [(1, (.fn f_cfg_Writes [])), (2, (.rtp s_api_Func f)), (5, (.osl 0 0 [] none)), (6, (vi b)), (7, (vi i)), (17, (vi t17)), (18, (vi t18))] [(0, ⟨(.arr 1 24 (.sl 16 s_api_Pos) out), 0, [], false, none⟩)] 1
noncomputable def colW_L4 (f : Den s_api_Func) (b : Int) (i : Int) (t17 : Int) (t18 : Int) (t38 : List (Den I)) (t39 : Int) (t40 : Int) (out : List (Den (.sl 16 s_api_Pos))) (p : Den s_api_Pos) : Cfg := hcfg E_C8 f_cfg_collect 4 [(1, (.fn f_cfg_Writes [])), (2, (.rtp s_api_Func f)), (5, (.osl 0 0 [] none)), (6, (vi b)), (7, (vi i)), (8, (.tref 1 1 [] (0 : Nat) [])), (17, (vi t17)), (18, (vi t18)), (38, (.tv (.sl 8 I) t38)), (39, (vi t39)), (40, (vi t40))] [(0, ⟨(.arr 1 24 (.sl 16 s_api_Pos) out), 0, [], false, none⟩), (1, ⟨(.arr 0 16 s_api_Pos ([p] : List (Den s_api_Pos))), 1, [], false, none⟩)] 2
theorem colW_t (f : Den s_api_Func) : run E_C8 H_C8 f_cfg_collect 3000 (start E_C8 f_cfg_collect [(.tv s_api_Func f), (.fn f_cfg_Writes [])]) = (.chk (((ln I f.2.2.2.1) : Int) = ((ln I f.2.2.2.1) : Int)) (.chk (0 ≤ ((ln I f.2.2.2.1) : Int)) (.chk ((ln I f.2.2.2.1) * 24 ≤ roomB) (hd (colW_L0 f ((ln s_api_Block f.2.2.2.2.1) : Int) (0 : Int) (List.replicate (ln I f.2.2.2.1) (dz (.sl 16 s_api_Pos)))))))) := by kernel_rfl
theorem colW_L0_t (f : Den s_api_Func) (t17 : Int) (t18 : Int) (out : List (Den (.sl 16 s_api_Pos))) : run E_C8 H_C8 f_cfg_collect 3000 (colW_L0 f t17 t18 out) = (cond (decide (t18 < t17)) (hd (colW_L2 f t18 (-1 : Int) t17 t18 out)) (rt (.tv (.sl 24 (.sl 16 s_api_Pos)) out) [])) := by kernel_rfl
theorem colW_L2_t (f : Den s_api_Func) (b : Int) (i : Int) (t17 : Int) (t18 : Int) (out : List (Den (.sl 16 s_api_Pos))) : run E_C8 H_C8 f_cfg_collect 3000 (colW_L2 f b i t17 t18 out) = (.chk (0 ≤ b ∧ b < (ln s_api_Block f.2.2.2.2.1)) (cond (decide (i ≤ ((ln s_api_Instr (((gd s_api_Block f.2.2.2.2.1 ((b).toNat)).2).1)) : Int))) (.chk ((0 : Nat) < (1 : Nat)) (.chk ((0 : Nat) < (1 : Nat)) (.chk (smallF f) (.know (okD (.sl 8 I) (writesF f (b, i, ()))) (hd (colW_L4 f b i t17 t18 (writesF f (b, i, ())) ((ln I (writesF f (b, i, ()))) : Int) (0 : Int) out (b, i, ()))))))) (hd (colW_L0 f t17 (IntKind.wrap .i64 (t18 + (1 : Int))) out)))) := by kernel_rfl
theorem colW_L4_t (f : Den s_api_Func) (b : Int) (i : Int) (t17 : Int) (t18 : Int) (t38 : List (Den I)) (t39 : Int) (t40 : Int) (out : List (Den (.sl 16 s_api_Pos))) (p : Den s_api_Pos) : run E_C8 H_C8 f_cfg_collect 3000 (colW_L4 f b i t17 t18 t38 t39 t40 out p) = (cond (decide (t40 < t39)) (.chk (0 ≤ t40 ∧ t40 < (ln I t38)) (cond (decide ((z (gd I t38 ((t40).toNat))) < (0 : Int))) (hd (colW_L4 f b i t17 t18 t38 t39 (IntKind.wrap .i64 (t40 + (1 : Int))) out p)) (cond (decide ((z (gd I t38 ((t40).toNat))) ≥ ((ln (.sl 16 s_api_Pos) out) : Int))) (hd (colW_L4 f b i t17 t18 t38 t39 (IntKind.wrap .i64 (t40 + (1 : Int))) out p)) (.chk (0 ≤ (z (gd I t38 ((t40).toNat))) ∧ (z (gd I t38 ((t40).toNat))) < (ln (.sl 16 s_api_Pos) out)) (.chk (((z (gd I t38 ((t40).toNat)))).toNat < (ln (.sl 16 s_api_Pos) out)) (.chk (((z (gd I t38 ((t40).toNat)))).toNat < (ln (.sl 16 s_api_Pos) out)) (cond (decide (((ln s_api_Pos (gd (.sl 16 s_api_Pos) out (((z (gd I t38 ((t40).toNat)))).toNat))) : Int) > (0 : Int))) (.chk (0 ≤ (z (gd I t38 ((t40).toNat))) ∧ (z (gd I t38 ((t40).toNat))) < (ln (.sl 16 s_api_Pos) out)) (.chk (((z (gd I t38 ((t40).toNat)))).toNat < (ln (.sl 16 s_api_Pos) out)) (.chk (0 ≤ (z (gd I t38 ((t40).toNat))) ∧ (z (gd I t38 ((t40).toNat))) < (ln (.sl 16 s_api_Pos) out)) (.chk (((z (gd I t38 ((t40).toNat)))).toNat < (ln (.sl 16 s_api_Pos) out)) (.chk (((z (gd I t38 ((t40).toNat)))).toNat < (ln (.sl 16 s_api_Pos) out)) (.chk (((z (gd I t38 ((t40).toNat)))).toNat < (ln (.sl 16 s_api_Pos) out)) (.chk (0 ≤ (IntKind.wrap .i64 (((ln s_api_Pos (gd (.sl 16 s_api_Pos) out (((z (gd I t38 ((t40).toNat)))).toNat))) : Int) - (1 : Int))) ∧ (IntKind.wrap .i64 (((ln s_api_Pos (gd (.sl 16 s_api_Pos) out (((z (gd I t38 ((t40).toNat)))).toNat))) : Int) - (1 : Int))) < (ln s_api_Pos (gd (.sl 16 s_api_Pos) out (((z (gd I t38 ((t40).toNat)))).toNat)))) (.chk (((z (gd I t38 ((t40).toNat)))).toNat < (ln (.sl 16 s_api_Pos) out)) (.chk (((IntKind.wrap .i64 (((ln s_api_Pos (gd (.sl 16 s_api_Pos) out (((z (gd I t38 ((t40).toNat)))).toNat))) : Int) - (1 : Int)))).toNat < (ln s_api_Pos (gd (.sl 16 s_api_Pos) out (((z (gd I t38 ((t40).toNat)))).toNat)))) (.chk ((0 : Nat) < (1 : Nat)) (cond (((z ((gd s_api_Pos (gd (.sl 16 s_api_Pos) out (((z (gd I t38 ((t40).toNat)))).toNat)) (((IntKind.wrap .i64 (((ln s_api_Pos (gd (.sl 16 s_api_Pos) out (((z (gd I t38 ((t40).toNat)))).toNat))) : Int) - (1 : Int)))).toNat)).1)) == (z p.1)) && (((z (((gd s_api_Pos (gd (.sl 16 s_api_Pos) out (((z (gd I t38 ((t40).toNat)))).toNat)) (((IntKind.wrap .i64 (((ln s_api_Pos (gd (.sl 16 s_api_Pos) out (((z (gd I t38 ((t40).toNat)))).toNat))) : Int) - (1 : Int)))).toNat)).2).1)) == (z p.2.1)) && true)) (hd (colW_L4 f b i t17 t18 t38 t39 (IntKind.wrap .i64 (t40 + (1 : Int))) out p)) (.chk (0 ≤ (z (gd I t38 ((t40).toNat))) ∧ (z (gd I t38 ((t40).toNat))) < (ln (.sl 16 s_api_Pos) out)) (.chk (((z (gd I t38 ((t40).toNat)))).toNat < (ln (.sl 16 s_api_Pos) out)) (.chk ((0 : Nat) < (1 : Nat)) (.chk (((z (gd I t38 ((t40).toNat)))).toNat < (ln (.sl 16 s_api_Pos) out)) (.chk (((ln s_api_Pos (gd (.sl 16 s_api_Pos) out (((z (gd I t38 ((t40).toNat)))).toNat))) + (1 : Nat)) * 16 ≤ roomB) (.chk (0 ≤ (z (gd I t38 ((t40).toNat))) ∧ (z (gd I t38 ((t40).toNat))) < (ln (.sl 16 s_api_Pos) (st (.sl 16 s_api_Pos) out (((z (gd I t38 ((t40).toNat)))).toNat) (ap s_api_Pos (gd (.sl 16 s_api_Pos) out (((z (gd I t38 ((t40).toNat)))).toNat)) ([p] : List (Den s_api_Pos)))))) (.chk (((z (gd I t38 ((t40).toNat)))).toNat = ((z (gd I t38 ((t40).toNat)))).toNat) (.chk (((z (gd I t38 ((t40).toNat)))).toNat = ((z (gd I t38 ((t40).toNat)))).toNat) (hd (colW_L4 f b i t17 t18 t38 t39 (IntKind.wrap .i64 (t40 + (1 : Int))) (st (.sl 16 s_api_Pos) out (((z (gd I t38 ((t40).toNat)))).toNat) (ap s_api_Pos (gd (.sl 16 s_api_Pos) out (((z (gd I t38 ((t40).toNat)))).toNat)) ([p] : List (Den s_api_Pos)))) p))))))))))))))))))))) (.chk (0 ≤ (z (gd I t38 ((t40).toNat))) ∧ (z (gd I t38 ((t40).toNat))) < (ln (.sl 16 s_api_Pos) out)) (.chk (((z (gd I t38 ((t40).toNat)))).toNat < (ln (.sl 16 s_api_Pos) out)) (.chk ((0 : Nat) < (1 : Nat)) (.chk (((z (gd I t38 ((t40).toNat)))).toNat < (ln (.sl 16 s_api_Pos) out)) (.chk (((ln s_api_Pos (gd (.sl 16 s_api_Pos) out (((z (gd I t38 ((t40).toNat)))).toNat))) + (1 : Nat)) * 16 ≤ roomB) (.chk (0 ≤ (z (gd I t38 ((t40).toNat))) ∧ (z (gd I t38 ((t40).toNat))) < (ln (.sl 16 s_api_Pos) (st (.sl 16 s_api_Pos) out (((z (gd I t38 ((t40).toNat)))).toNat) (ap s_api_Pos (gd (.sl 16 s_api_Pos) out (((z (gd I t38 ((t40).toNat)))).toNat)) ([p] : List (Den s_api_Pos)))))) (.chk (((z (gd I t38 ((t40).toNat)))).toNat = ((z (gd I t38 ((t40).toNat)))).toNat) (.chk (((z (gd I t38 ((t40).toNat)))).toNat = ((z (gd I t38 ((t40).toNat)))).toNat) (hd (colW_L4 f b i t17 t18 t38 t39 (IntKind.wrap .i64 (t40 + (1 : Int))) (st (.sl 16 s_api_Pos) out (((z (gd I t38 ((t40).toNat)))).toNat) (ap s_api_Pos (gd (.sl 16 s_api_Pos) out (((z (gd I t38 ((t40).toNat)))).toNat)) ([p] : List (Den s_api_Pos)))) p))))))))))))))))) (hd (colW_L2 f b (IntKind.wrap .i64 (i + (1 : Int))) t17 t18 out))) := by kernel_rfl
def lastIs (l : List (Den s_api_Pos)) (p : Den s_api_Pos) : Bool := decide ((ln s_api_Pos l : Int) > 0) && eP (gd s_api_Pos l (ln s_api_Pos l - 1)) p
def step1 (p : Den s_api_Pos) (out : List (Den (.sl 16 s_api_Pos))) (r : Int) : List (Den (.sl 16 s_api_Pos)) := if r < 0 ∨ r ≥ (ln (.sl 16 s_api_Pos) out : Int) then out else if lastIs (gd (.sl 16 s_api_Pos) out r.toNat) p then out else st (.sl 16 s_api_Pos) out r.toNat (ap s_api_Pos (gd (.sl 16 s_api_Pos) out r.toNat) [p])
def stepL (p : Den s_api_Pos) : List (Den I) → List (Den (.sl 16 s_api_Pos)) → List (Den (.sl 16 s_api_Pos))
  | [], out => out
  | r :: rs, out => stepL p rs (step1 p out (z r))
def posA (b : Nat) (k : Nat) : Den s_api_Pos := ((b : Int), (k : Int) - 1, ())
def colB (R : Fn → Den s_api_Pos → Den (.sl 8 I)) (f : Fn) (b : Nat) : Nat → Nat → List (Den (.sl 16 s_api_Pos)) → List (Den (.sl 16 s_api_Pos))
  | 0, _, out => out
  | n + 1, k, out => colB R f b n (k + 1) (stepL (posA b k) (R f (posA b k)) out)
def colF (R : Fn → Den s_api_Pos → Den (.sl 8 I)) (f : Fn) : Nat → Nat → List (Den (.sl 16 s_api_Pos)) → List (Den (.sl 16 s_api_Pos))
  | 0, _, out => out
  | n + 1, b, out => colF R f n (b + 1) (colB R f b (ln s_api_Instr (bIns (gd s_api_Block (blocks f) b)) + 2) 0 out)
def collectF (R : Fn → Den s_api_Pos → Den (.sl 8 I)) (f : Fn) : Den (.sl 24 (.sl 16 s_api_Pos)) := colF R f (ln s_api_Block (blocks f)) 0 (List.replicate (ln I f.2.2.2.1) [])
def bnd (out : List (Den (.sl 16 s_api_Pos))) (c : Nat) : Prop := ∀ r, ln s_api_Pos (gd (.sl 16 s_api_Pos) out r) ≤ c
theorem gd_st_any {S : Sh} {l : List (Den S)} {i j : Nat} {x : Den S} : gd S (st S l i x) j = if i = j ∧ i < ln S l then x else gd S l j := by
  by_cases hij : i = j
  · subst hij
    by_cases hi : i < ln S l
    · rw [gd_st hi, if_pos ⟨rfl, hi⟩]
    · rw [if_neg (fun h => hi h.2)]
      unfold st
      rw [List.set_eq_of_length_le (Nat.le_of_not_lt hi)]
  · rw [if_neg (fun h => hij h.1)]
    unfold gd st
    rw [List.getD_eq_getElem?_getD, List.getD_eq_getElem?_getD, List.getElem?_set_ne hij]
theorem step1_bnd {p : Den s_api_Pos} {out : List (Den (.sl 16 s_api_Pos))} {r : Int} {c : Nat} (h : bnd out c) : bnd (step1 p out r) (c + 1) := by
  unfold step1
  split
  · exact fun r => Nat.le_succ_of_le (h r)
  · split
    · exact fun r => Nat.le_succ_of_le (h r)
    · intro j
      rw [gd_st_any]
      split
      · rw [ln_ap1]
        exact Nat.succ_le_succ (h _)
      · exact Nat.le_succ_of_le (h j)
theorem stepL_bnd {p : Den s_api_Pos} : ∀ {rs : List (Den I)} {out : List (Den (.sl 16 s_api_Pos))} {c : Nat}, bnd out c → bnd (stepL p rs out) (c + ln I rs)
  | [], _, _, h => h
  | r :: rs, out, c, h => by
    have := stepL_bnd (p := p) (rs := rs) (step1_bnd (p := p) (r := z r) h)
    rw [show c + ln I (r :: rs) = c + 1 + ln I rs by show c + (rs.length + 1) = c + 1 + rs.length; omega]
    exact this
theorem colB_bnd {R : Fn → Den s_api_Pos → Den (.sl 8 I)} {f : Fn} (hR : ∀ p, ln I (R f p) ≤ 1048576) {b : Nat} : ∀ {n k : Nat} {out : List (Den (.sl 16 s_api_Pos))} {c : Nat}, bnd out c → bnd (colB R f b n k out) (c + n * 1048576)
  | 0, _, _, c, h => by rw [Nat.zero_mul]; exact h
  | n + 1, k, out, c, h => by
    have h1 := stepL_bnd (p := posA b k) (rs := R f (posA b k)) h
    have h2 := colB_bnd hR (b := b) (n := n) (k := k + 1) h1
    have h3 := hR (posA b k)
    refine fun r => Nat.le_trans (h2 r) ?_
    rw [Nat.succ_mul]
    omega
theorem roomM {n : Nat} (h : n ≤ 4398046511104) : (n + 1) * 16 ≤ roomB := by
  unfold roomB
  omega
theorem writesF_len {f : Fn} (hp : smallF f) (p : Den s_api_Pos) : ln I (writesF f p) ≤ 1048576 := by
  unfold writesF
  cases hi : insideF f p with
  | false => exact Nat.zero_le _
  | true =>
    have b := inside_b hi
    have sb := small_b hp b.1
    have hb := sz_blk (blk f (z p.1))
    have h1 := sz_I (blk f (z p.1)).1
    simp only [Bool.not_true, cond_false]
    cases decide (z p.2.1 < 0) with
    | true =>
      cases z p.1 == 0 with
      | true =>
        show ln I (ap I f.2.1 (blk f (z p.1)).1) ≤ _
        rw [ln_ap]
        omega
      | false =>
        show ln I (blk f (z p.1)).1 ≤ _
        omega
    | false =>
      cases decide (z p.2.1 < (ln s_api_Instr (bIns (blk f (z p.1))) : Int)) with
      | true =>
        cases decide (iDst (gd s_api_Instr (bIns (blk f (z p.1))) (z p.2.1).toNat) ≥ 0) with
        | true => show 1 ≤ 1048576; omega
        | false => exact Nat.zero_le _
      | false => exact Nat.zero_le _
theorem sz_ln {b : Nat} {S : Sh} : ∀ {l : List (Den S)}, ln S l ≤ szD (.sl b S) l
  | [] => Nat.le_refl _
  | x :: l => by
    have := sz_ln (b := b) (l := l)
    rw [sz_cons]
    show l.length + 1 ≤ _
    unfold ln at this
    omega
theorem arithN {c N X Z : Nat} (h1 : N ≤ 2 * (X + 1)) (h2 : c + 2 * (X + 1 + Z) * 1048576 ≤ 4398046511104) : c + N * 1048576 + 2 * Z * 1048576 ≤ 4398046511104 := by omega
theorem gd_rep {n r : Nat} : gd (.sl 16 s_api_Pos) (List.replicate n (dz (.sl 16 s_api_Pos))) r = [] := by
  unfold gd
  rw [List.getD_eq_getElem?_getD, List.getElem?_replicate]
  split <;> rfl
def defsF (f : Fn) : Den (.sl 24 (.sl 16 s_api_Pos)) := collectF writesF f
theorem colW_l4 {Q : AV → Heap → Prop} (f : Fn) (b i n m : Int) (rs : List (Den I)) (hrs : ln I rs ≤ 1048576) (p : Den s_api_Pos) : ∀ k, k ≤ ln I rs → ∀ (out : List (Den (.sl 16 s_api_Pos))) (c : Nat), bnd out c → c + (ln I rs - k) ≤ 4398046511104 → Runs E_C8 (colW_L2 f b (IntKind.wrap .i64 (i + 1)) n m (stepL p (rs.drop k) out)) Q → Runs E_C8 (colW_L4 f b i n m rs (ln I rs : Nat) k out p) Q :=
  up_ind (fun out c _ _ hn => .tree E_C8_ok (colW_L4_t _ _ _ _ _ _ _ _ _ _) (by
    rw [drop_ln] at hn
    simp only [wp_iff, chk_iff, know_iff, any_iff, rt_iff, hd_iff, true_imp_iff, true_and, and_true, and_self, lt01, Int.ofNat_lt, Int.ofNat_le, Int.natCast_nonneg, Int.toNat_natCast, decide_true, decide_false, Bool.true_eq_false, Bool.false_eq_true, false_imp_iff, Nat.lt_irrefl, imp_self, implies_true,  stepL] at hn ⊢
    exact hn))
    fun k hk ih out c hb hc hn => .tree E_C8_ok (colW_L4_t _ _ _ _ _ _ _ _ _ _) (by
      rw [drop_gd hk, stepL] at hn
      have ih := ih (step1 p out (z (gd I rs k))) (c + 1) (step1_bnd hb) (by omega) hn
      clear hn
      simp only [wp_iff, chk_iff, know_iff, any_iff, rt_iff, hd_iff, true_imp_iff, true_and, and_true, and_self, lt01, Int.ofNat_lt, Int.ofNat_le, Int.natCast_nonneg, Int.toNat_natCast, decide_true, decide_false, Bool.true_eq_false, Bool.false_eq_true, false_imp_iff, Nat.lt_irrefl, imp_self, implies_true,  hk, wrapS hk (show ln I rs < 9223372036854775807 by omega)]
      unfold step1 at ih
      refine ⟨fun h1 => ?_, fun h1 => ⟨fun h2 => ?_, fun h2 => ?_⟩⟩
      · rw [if_pos (.inl (of_decide_eq_true h1))] at ih
        exact ih
      · rw [if_pos (.inr (of_decide_eq_true h2))] at ih
        exact ih
      · have a1 := of_decide_eq_false h1
        have a2 := of_decide_eq_false h2
        rw [if_neg (by omega)] at ih
        have f1 : 0 ≤ z (gd I rs k) ∧ z (gd I rs k) < (ln (.sl 16 s_api_Pos) out : Int) := ⟨by omega, by omega⟩
        have f2 : (z (gd I rs k)).toNat < ln (.sl 16 s_api_Pos) out := by omega
        have hG := hb (z (gd I rs k)).toNat
        have f3 : (ln s_api_Pos (gd (.sl 16 s_api_Pos) out (z (gd I rs k)).toNat) + 1) * 16 ≤ roomB := roomM (by omega)
        simp only [f1, f2, f3, ln_st, true_imp_iff, true_and, and_self, lt01]
        refine ⟨fun h3 => ?_, fun h3 => ?_⟩
        · have a3 : 0 < ln s_api_Pos (gd (.sl 16 s_api_Pos) out (z (gd I rs k)).toNat) := by
            have := of_decide_eq_true h3
            omega
          have hw : IntKind.wrap .i64 ((ln s_api_Pos (gd (.sl 16 s_api_Pos) out (z (gd I rs k)).toNat) : Int) - 1) = ((ln s_api_Pos (gd (.sl 16 s_api_Pos) out (z (gd I rs k)).toNat) - 1 : Nat) : Int) := by
            rw [wrap64 _ (by omega) (by omega)]
            omega
          have f4 : (0 : Int) ≤ ((ln s_api_Pos (gd (.sl 16 s_api_Pos) out (z (gd I rs k)).toNat) - 1 : Nat) : Int) ∧ ((ln s_api_Pos (gd (.sl 16 s_api_Pos) out (z (gd I rs k)).toNat) - 1 : Nat) : Int) < (ln s_api_Pos (gd (.sl 16 s_api_Pos) out (z (gd I rs k)).toNat) : Int) := ⟨by omega, by omega⟩
          have f5 : ln s_api_Pos (gd (.sl 16 s_api_Pos) out (z (gd I rs k)).toNat) - 1 < ln s_api_Pos (gd (.sl 16 s_api_Pos) out (z (gd I rs k)).toNat) := by omega
          simp only [hw, f4, f5, Int.toNat_natCast, true_imp_iff, true_and, and_self, lt01]
          have hl : lastIs (gd (.sl 16 s_api_Pos) out (z (gd I rs k)).toNat) p = eP (gd s_api_Pos (gd (.sl 16 s_api_Pos) out (z (gd I rs k)).toNat) (ln s_api_Pos (gd (.sl 16 s_api_Pos) out (z (gd I rs k)).toNat) - 1)) p := by
            unfold lastIs
            rw [h3, Bool.true_and]
          rw [hl] at ih
          refine ⟨fun h4 => ?_, fun h4 => ?_⟩
          · have h4' : eP (gd s_api_Pos (gd (.sl 16 s_api_Pos) out (z (gd I rs k)).toNat) (ln s_api_Pos (gd (.sl 16 s_api_Pos) out (z (gd I rs k)).toNat) - 1)) p = true := h4
            rw [if_pos h4'] at ih
            exact ih
          · have h4' : eP (gd s_api_Pos (gd (.sl 16 s_api_Pos) out (z (gd I rs k)).toNat) (ln s_api_Pos (gd (.sl 16 s_api_Pos) out (z (gd I rs k)).toNat) - 1)) p = false := h4
            rw [if_neg (by rw [h4']; decide)] at ih
            exact ih
        · rw [if_neg (by unfold lastIs; rw [h3]; simp)] at ih
          exact ih)
theorem colW_l2 {Q : AV → Heap → Prop} (f : Fn) (hp : smallF f) (b : Nat) (hbl : b < ln s_api_Block (blocks f)) (N : Nat) (hN : N = ln s_api_Instr (bIns (gd s_api_Block (blocks f) b)) + 2) (hN2 : N ≤ 2097154) (n : Int) : ∀ k, k ≤ N → ∀ (out : List (Den (.sl 16 s_api_Pos))) (c : Nat), bnd out c → c + (N - k) * 1048576 ≤ 4398046511104 → Runs E_C8 (colW_L0 f n (IntKind.wrap .i64 ((b : Int) + 1)) (colB writesF f b (N - k) k out)) Q → Runs E_C8 (colW_L2 f b ((k : Int) - 1) n b out) Q :=
  up_ind (fun out c _ _ hn => .tree E_C8_ok (colW_L2_t _ _ _ _ _ _) (by
    have h1 : ¬ ((N : Int) - 1 ≤ (ln s_api_Instr (gd s_api_Block f.2.2.2.2.1 b).2.1 : Int)) := by
      have e : ln s_api_Instr (gd s_api_Block f.2.2.2.2.1 b).2.1 = ln s_api_Instr (bIns (gd s_api_Block (blocks f) b)) := rfl
      rw [e]
      omega
    have f1 : b < ln s_api_Block f.2.2.2.2.1 := hbl
    rw [Nat.sub_self] at hn
    simp only [wp_iff, chk_iff, know_iff, any_iff, rt_iff, hd_iff, true_imp_iff, true_and, and_true, and_self, lt01, Int.ofNat_lt, Int.ofNat_le, Int.natCast_nonneg, Int.toNat_natCast, decide_true, decide_false, Bool.true_eq_false, Bool.false_eq_true, false_imp_iff, Nat.lt_irrefl, imp_self, implies_true,  h1, f1]
    exact hn))
    fun k hk ih out c hb hc hn => .tree E_C8_ok (colW_L2_t _ _ _ _ _ _) (by
      have hRl := writesF_len hp (posA b k)
      have h1 : (k : Int) - 1 ≤ (ln s_api_Instr (gd s_api_Block f.2.2.2.2.1 b).2.1 : Int) := by
        have e : ln s_api_Instr (gd s_api_Block f.2.2.2.2.1 b).2.1 = ln s_api_Instr (bIns (gd s_api_Block (blocks f) b)) := rfl
        rw [e]
        omega
      have f1 : b < ln s_api_Block f.2.2.2.2.1 := hbl
      have hk2 : N - k = (N - (k + 1)) + 1 := by omega
      rw [hk2, colB] at hn
      rw [hk2, Nat.succ_mul] at hc
      have ih := ih (stepL (posA b k) (writesF f (posA b k)) out) (c + ln I (writesF f (posA b k))) (stepL_bnd hb) (by omega) hn
      have hw : IntKind.wrap .i64 ((k : Int) - 1 + 1) = ((k + 1 : Nat) : Int) - 1 := by
        rw [wrap64 _ (by omega) (by omega)]
        omega
      have l4 := colW_l4 (Q := Q) f b ((k : Int) - 1) n b (writesF f (posA b k)) hRl (posA b k) 0 (Nat.zero_le _) out c hb (by omega) (by rw [hw]; exact ih)
      simp only [wp_iff, chk_iff, know_iff, any_iff, rt_iff, hd_iff, true_imp_iff, true_and, and_true, and_self, lt01, Int.ofNat_lt, Int.ofNat_le, Int.natCast_nonneg, Int.toNat_natCast, decide_true, decide_false, Bool.true_eq_false, Bool.false_eq_true, false_imp_iff, Nat.lt_irrefl, imp_self, implies_true,  h1, f1]
      exact ⟨hp, fun _ _ => l4⟩)
theorem colW_l0 (f : Fn) (hp : smallF f) (l : List (Den s_api_Block)) (hl : blocks f = l) (hr : room 136 (ln s_api_Block l)) (Y : Den (.sl 24 (.sl 16 s_api_Pos))) : ∀ b, b ≤ ln s_api_Block l → ∀ (out : List (Den (.sl 16 s_api_Pos))) (c : Nat), bnd out c → c + 2 * szD (.sl 136 s_api_Block) (l.drop b) * 1048576 ≤ 4398046511104 → colF writesF f (ln s_api_Block l - b) b out = Y → Runs E_C8 (colW_L0 f (ln s_api_Block l : Nat) b out) (fun x h => x = .tv (.sl 24 (.sl 16 s_api_Pos)) Y ∧ h = []) :=
  up_ind (fun out c _ _ hY => .tree E_C8_ok (colW_L0_t _ _ _ _) (by
    rw [Nat.sub_self, colF] at hY
    simp only [wp_iff, chk_iff, know_iff, any_iff, rt_iff, hd_iff, true_imp_iff, true_and, and_true, and_self, lt01, Int.ofNat_lt, Int.ofNat_le, Int.natCast_nonneg, Int.toNat_natCast, decide_true, decide_false, Bool.true_eq_false, Bool.false_eq_true, false_imp_iff, Nat.lt_irrefl, imp_self, implies_true,  hY]))
    fun b hb ih out c hc hM hY => .tree E_C8_ok (colW_L0_t _ _ _ _) (by
      have hbl : b < ln s_api_Block (blocks f) := by rw [hl]; exact hb
      have e : ln s_api_Block l - b = (ln s_api_Block l - (b + 1)) + 1 := by omega
      rw [e, colF, hl] at hY
      rw [drop_gd hb, sz_cons] at hM
      have hsz := sz_blk (gd s_api_Block l b)
      have h80 : ln s_api_Instr (gd s_api_Block l b).2.1 ≤ szD (.sl 80 s_api_Instr) (gd s_api_Block l b).2.1 := sz_ln
      have hsm := small_b hp (n := (b : Int)) (by omega)
      have hblk : blk f (b : Int) = gd s_api_Block l b := by unfold blk; rw [hl]; rfl
      rw [hblk] at hsm
      generalize hN : ln s_api_Instr (bIns (gd s_api_Block l b)) + 2 = N at hY
      have hN' : ln s_api_Instr (gd s_api_Block l b).2.1 + 2 = N := hN
      have hcB := colB_bnd (R := writesF) (writesF_len hp) (b := b) (n := N) (k := 0) hc
      have hN1 : N = ln s_api_Instr (bIns (gd s_api_Block (blocks f) b)) + 2 := by rw [hl]; exact hN.symm
      have hN2 : N ≤ 2097154 := by omega
      have hN0 : N ≤ 2 * (szD s_api_Block (gd s_api_Block l b) + 1) := by omega
      have hA := arithN hN0 hM
      have hN3 : c + (N - 0) * 1048576 ≤ 4398046511104 := Nat.le_trans (Nat.le_add_right _ _) hA
      have hrun := ih _ _ hcB hA hY
      rw [← wrapS hb (room_lt hr)] at hrun
      have := colW_l2 (Q := fun x h => x = .tv (.sl 24 (.sl 16 s_api_Pos)) Y ∧ h = []) f hp b hbl N hN1 hN2 (ln s_api_Block l : Nat) 0 (Nat.zero_le _) out c hc hN3 hrun
      simp only [wp_iff, chk_iff, know_iff, any_iff, rt_iff, hd_iff, true_imp_iff, true_and, and_true, and_self, lt01, Int.ofNat_lt, Int.ofNat_le, Int.natCast_nonneg, Int.toNat_natCast, decide_true, decide_false, Bool.true_eq_false, Bool.false_eq_true, false_imp_iff, Nat.lt_irrefl, imp_self, implies_true,  hb]
      exact this)
def k_colW : Con := con [.d s_api_Func, .fn f_cfg_Writes []] (.sl 24 (.sl 16 s_api_Pos)) (fun x => smallF x.1) fun x => defsF x.1
theorem m_colW (f : Den s_api_Func) (h_f : okD s_api_Func f) (hp : smallF f) : Runs E_C8 (start E_C8 f_cfg_collect [(.tv s_api_Func f), (.fn f_cfg_Writes [])]) (fun r_ h_ => r_ = (.tv (.sl 24 (.sl 16 s_api_Pos)) (defsF f)) ∧ h_ = []) := .tree E_C8_ok (colW_t f) (by
  simp only [wp_iff, chk_iff, know_iff, any_iff, rt_iff, hd_iff, true_imp_iff, true_and, and_true, and_self, lt01]
  have ho := okB_of h_f
  have h2 := sz_func f
  have h3 := hp
  unfold smallF at h3
  refine ⟨by omega, fun _ => ⟨?_, fun _ => ?_⟩⟩
  · have : ln I f.2.2.2.1 ≤ 1048576 := by
      have := sz_I f.2.2.2.1
      omega
    unfold roomB
    omega
  · exact colW_l0 f hp (blocks f) rfl ho.1 (defsF f) 0 (Nat.zero_le _) _ 0 (fun r => by rw [gd_rep]; exact Nat.le_refl _) (by
      show 0 + 2 * szD (.sl 136 s_api_Block) f.2.2.2.2.1 * 1048576 ≤ _
      omega) rfl)
theorem c_colW : SpecOK E_C8 f_cfg_collect k_colW.spec := spec_of fun x hx hp => ⟨rfl, m_colW x.1 hx.1 hp⟩
def L_C8 : List (FuncId × FSpec) := [(f_cfg_collect, k_colW.spec)] ++ L_C7
theorem L_C8_ok : ∀ x ∈ L_C8, SpecOK (ctx []) x.1 x.2 := by
  unfold L_C8
  simp only [List.cons_append, List.nil_append, List.forall_mem_cons]
  exact ⟨c_colW, L_C7_ok⟩
end Burn.M27N
namespace Burn.M27N
open Go Go.BE Go.Proofs
set_option maxRecDepth 100000
set_option linter.unusedVariables false
set_option linter.unusedSimpArgs false
open Burn.Cfg
noncomputable abbrev E_C9 : Ctx := ctx L_C8
theorem E_C9_ok : EOK E_C9 := ctx_ok L_C8_ok
def cuts_C9 : CutL := []
def rets_C9 : FuncId → List (Option Fx)
  | 28 => [some (.dat (.sl 24 (.sl 16 s_api_Pos)))]
  | _ => []
def H_C9 : Hints := { cut := cutOf cuts_C9, ret := rets_C9 }
theorem cfg_Defs_t (f : Den s_api_Func) : run E_C9 H_C9 f_cfg_Defs 3000 (start E_C9 f_cfg_Defs [(.tv s_api_Func f)]) = (.chk (smallF f) (.know (okD (.sl 24 (.sl 16 s_api_Pos)) (defsF f)) (rt (.tv (.sl 24 (.sl 16 s_api_Pos)) (defsF f)) []))) := by kernel_rfl

def k_cfg_Defs : Con := con [.d s_api_Func] (.sl 24 (.sl 16 s_api_Pos)) (fun x => smallF x.1) fun x => defsF x.1
theorem m_cfg_Defs (f : Den s_api_Func) (h_f : okD s_api_Func f) (hp : smallF f) : Runs E_C9 (start E_C9 f_cfg_Defs [(.tv s_api_Func f)]) (fun r_ h_ => r_ = (.tv (.sl 24 (.sl 16 s_api_Pos)) (defsF f)) ∧ h_ = []) := .tree E_C9_ok (cfg_Defs_t f) (by
  simp only [wp_iff, chk_iff, know_iff, any_iff, rt_iff, hd_iff, true_imp_iff, true_and, and_true, and_self, lt01]
  exact ⟨hp, fun _ _ => trivial⟩)
theorem c_cfg_Defs : SpecOK E_C9 f_cfg_Defs k_cfg_Defs.spec := spec_of fun x hx hp => ⟨rfl, m_cfg_Defs x.1 hx.1 hp⟩
def L_C9 : List (FuncId × FSpec) := [(f_cfg_Defs, k_cfg_Defs.spec)] ++ L_C8
theorem L_C9_ok : ∀ x ∈ L_C9, SpecOK (ctx []) x.1 x.2 := by
  unfold L_C9
  simp only [List.cons_append, List.nil_append, List.forall_mem_cons]
  exact ⟨c_cfg_Defs, L_C8_ok⟩
end Burn.M27N
namespace Burn.M27N
open Go Go.BE Go.Proofs
set_option maxRecDepth 100000
set_option linter.unusedVariables false
set_option linter.unusedSimpArgs false
open Burn.Cfg
def L_C12 : List (FuncId × FSpec) := [] ++ L_C9
theorem L_C12_ok : ∀ x ∈ L_C12, SpecOK (ctx []) x.1 x.2 := L_C9_ok
end Burn.M27N
namespace Burn.M27N
open Go Go.BE Go.Proofs
set_option maxRecDepth 100000
set_option linter.unusedVariables false
set_option linter.unusedSimpArgs false
open Burn.Cfg
def L_C13 : List (FuncId × FSpec) := [] ++ L_C12
theorem L_C13_ok : ∀ x ∈ L_C13, SpecOK (ctx []) x.1 x.2 := L_C12_ok
end Burn.M27N
namespace Burn.M27N
open Go Go.BE Go.Proofs
set_option maxRecDepth 100000
set_option linter.unusedVariables false
set_option linter.unusedSimpArgs false
open Burn.Cfg
def mapIn (k : List (Den I)) (i : Den s_api_Instr) : Den s_api_Instr := (i.1, i.2.1, permRc i.2.2.1 k, permL i.2.2.2.1 k, i.2.2.2.2)
def mapEd (k : List (Den I)) (e : Den s_api_Edge) : Den s_api_Edge := (e.1, permL e.2.1 k, ())
def mapBl (k : List (Den I)) (b : Blk) : Den s_api_Block := (permL b.1 k, List.map (mapIn k) (bIns b), (b.2.2.1.1, permL (tArgs b) k, b.2.2.1.2.2.1, List.map (mapEd k) (tSuc b), b.2.2.1.2.2.2.2.1, ()), ())
def L_C17 : List (FuncId × FSpec) := [] ++ L_C13
theorem L_C17_ok : ∀ x ∈ L_C17, SpecOK (ctx []) x.1 x.2 := L_C13_ok
end Burn.M27N
namespace Burn.M27N
open Go Go.BE Go.Proofs
set_option maxRecDepth 100000
set_option linter.unusedVariables false
set_option linter.unusedSimpArgs false
open Burn.Cfg
noncomputable abbrev E_C18 : Ctx := ctx L_C17
theorem E_C18_ok : EOK E_C18 := ctx_ok L_C17_ok
def cuts_C18 : CutL := [([], 34, 0, [1, 5, 14, 15, 16], [], [])]
def rets_C18 : FuncId → List (Option Fx)
  | _ => []
def H_C18 : Hints := { cut := cutOf cuts_C18, ret := rets_C18 }
noncomputable def r20_permutation_L0 (n : Int) (t14 : List (Den I)) (t15 : Int) (t16 : Int) (seen : List (Den .bool)) : Cfg := hcfg E_C18 f_r20_permutation 0 [(1, (vi n)), (5, (.osl 0 0 [] none)), (14, (.tv (.sl 8 I) t14)), (15, (vi t15)), (16, (vi t16))] [(0, ⟨(.arr 0 1 .bool seen), 0, [], false, none⟩)] 1
theorem r20_permutation_t (perm : List (Den I)) (n : Int) : run E_C18 H_C18 f_r20_permutation 3000 (start E_C18 f_r20_permutation [(.tv (.sl 8 I) perm), (vi n)]) = (cond (((ln I perm) : Int) != n) (rt (vb false) []) (.chk (n = n) (.chk (0 ≤ n) (.chk ((n).toNat * 1 ≤ roomB) (hd (r20_permutation_L0 n perm ((ln I perm) : Int) (0 : Int) (List.replicate ((n).toNat) (dz .bool)))))))) := by kernel_rfl
theorem r20_permutation_L0_t (n : Int) (t14 : List (Den I)) (t15 : Int) (t16 : Int) (seen : List (Den .bool)) : run E_C18 H_C18 f_r20_permutation 3000 (r20_permutation_L0 n t14 t15 t16 seen) = (cond (decide (t16 < t15)) (.chk (0 ≤ t16 ∧ t16 < (ln I t14)) (cond (decide ((z (gd I t14 ((t16).toNat))) < (0 : Int))) (rt (vb false) []) (cond (decide ((z (gd I t14 ((t16).toNat))) ≥ n)) (rt (vb false) []) (.chk (0 ≤ (z (gd I t14 ((t16).toNat))) ∧ (z (gd I t14 ((t16).toNat))) < (ln .bool seen)) (.chk (((z (gd I t14 ((t16).toNat)))).toNat < (ln .bool seen)) (cond (bOf (gd .bool seen (((z (gd I t14 ((t16).toNat)))).toNat))) (rt (vb false) []) (.chk (0 ≤ (z (gd I t14 ((t16).toNat))) ∧ (z (gd I t14 ((t16).toNat))) < (ln .bool seen)) (.chk (((z (gd I t14 ((t16).toNat)))).toNat < (ln .bool seen)) (hd (r20_permutation_L0 n t14 t15 (IntKind.wrap .i64 (t16 + (1 : Int))) (st .bool seen (((z (gd I t14 ((t16).toNat)))).toNat) true))))))))))) (rt (vb true) [])) := by kernel_rfl
def permGo (n : Int) : List (Den I) → List (Den .bool) → Bool
  | [], _ => true
  | r :: l, m => if z r < 0 ∨ z r ≥ n then false else if bOf (gd .bool m (z r).toNat) = true then false else permGo n l (st .bool m (z r).toNat true)
def permB (p : List (Den I)) (n : Int) : Bool := (ln I p : Int) == n && permGo n p (List.replicate n.toNat (dz .bool))
theorem r20_permutation_l (l : List (Den I)) (n : Int) (hr : ln I l < 9223372036854775807) : ∀ i, i ≤ ln I l → ∀ m : List (Den .bool), (ln .bool m : Int) = n → Runs E_C18 (r20_permutation_L0 n l (ln I l : Nat) i m) (fun x h => x = vb (permGo n (l.drop i) m) ∧ h = []) :=
  up_ind (fun m _ => .tree E_C18_ok (r20_permutation_L0_t _ _ _ _ _) (by
    rw [drop_ln]
    simp only [wp_iff, chk_iff, know_iff, any_iff, rt_iff, hd_iff, true_imp_iff, true_and, and_true, and_self, lt01, Int.ofNat_lt, Int.ofNat_le, Int.natCast_nonneg, Int.toNat_natCast, decide_true, decide_false, Bool.true_eq_false, Bool.false_eq_true, false_imp_iff, Nat.lt_irrefl, imp_self, implies_true,  permGo]))
    fun i hi ih m hm => .tree E_C18_ok (r20_permutation_L0_t _ _ _ _ _) (by
      rw [drop_gd hi, permGo]
      simp only [wp_iff, chk_iff, know_iff, any_iff, rt_iff, hd_iff, true_imp_iff, true_and, and_true, and_self, lt01, Int.ofNat_lt, Int.ofNat_le, Int.natCast_nonneg, Int.toNat_natCast, decide_true, decide_false, Bool.true_eq_false, Bool.false_eq_true, false_imp_iff, Nat.lt_irrefl, imp_self, implies_true,  hi, wrapS hi hr]
      refine ⟨fun h1 => ?_, fun h1 => ⟨fun h2 => ?_, fun h2 => ?_⟩⟩
      · rw [if_pos (.inl (of_decide_eq_true h1))]
      · rw [if_pos (.inr (of_decide_eq_true h2))]
      · have a1 := of_decide_eq_false h1
        have a2 := of_decide_eq_false h2
        have f1 : 0 ≤ z (gd I l i) ∧ z (gd I l i) < (ln .bool m : Int) := ⟨by omega, by omega⟩
        have f2 : (z (gd I l i)).toNat < ln .bool m := by omega
        rw [if_neg (by omega)]
        simp only [f1, f2, true_imp_iff, true_and, and_self]
        refine ⟨fun h3 => ?_, fun h3 => ?_⟩
        · rw [if_pos h3]
        · rw [if_neg (by rw [h3]; decide)]
          exact ih _ (by rw [ln_st]; exact hm))
def k_r20_permutation : Con := con [.d (.sl 8 I), .d I] .bool (fun x => True) fun x => permB x.1 x.2.1
theorem m_r20_permutation (perm : List (Den I)) (n : Int) (h_perm : okD (.sl 8 I) perm) (h_n : okD I n) (hp : True) : Runs E_C18 (start E_C18 f_r20_permutation [(.tv (.sl 8 I) perm), (vi n)]) (fun r_ h_ => r_ = (vb (permB perm n)) ∧ h_ = []) := .tree E_C18_ok (r20_permutation_t perm n) (by
  unfold permB
  simp only [wp_iff, chk_iff, know_iff, any_iff, rt_iff, hd_iff, true_imp_iff, true_and, and_true, and_self, lt01]
  have hr := h_perm.1
  refine ⟨fun h => ?_, fun h => ?_⟩
  · rw [show ((ln I perm : Int) == n) = false by simpa using h]
    rfl
  · have e : (ln I perm : Int) = n := by simpa using h
    rw [show ((ln I perm : Int) == n) = true by simpa using e, Bool.true_and]
    have h1 : n.toNat = ln I perm := by omega
    refine ⟨by omega, fun _ => ⟨?_, fun _ => ?_⟩⟩
    · rw [h1]
      exact room_part hr (Nat.le_refl _) (by decide)
    · exact r20_permutation_l perm n (room_lt hr) 0 (Nat.zero_le _) _ (by
        show ((List.replicate n.toNat (dz .bool)).length : Int) = n
        rw [List.length_replicate]
        omega))
theorem c_r20_permutation : SpecOK E_C18 f_r20_permutation k_r20_permutation.spec := spec_of fun x hx hp => ⟨rfl, m_r20_permutation x.1 x.2.1 hx.1 hx.2.1 hp⟩
def L_C18 : List (FuncId × FSpec) := [(f_r20_permutation, k_r20_permutation.spec)] ++ L_C17
theorem L_C18_ok : ∀ x ∈ L_C18, SpecOK (ctx []) x.1 x.2 := by
  unfold L_C18
  simp only [List.cons_append, List.nil_append, List.forall_mem_cons]
  exact ⟨c_r20_permutation, L_C17_ok⟩
end Burn.M27N
namespace Burn.M27N
open Go Go.BE Go.Proofs
set_option maxRecDepth 100000
set_option linter.unusedVariables false
set_option linter.unusedSimpArgs false
open Burn.Cfg
def regsGo : List (Den I) → List (Den I) → List (Den I) → List (Den I)
  | p :: ps, t :: ts, acc => regsGo ps ts (st I acc (z p).toNat t)
  | _, _, acc => acc
def permuteF (f : Fn) (perm : List (Den I)) : Den s_api_Func := if permB perm (ln I f.2.2.2.1 : Int) = true then (f.1, permL f.2.1 perm, f.2.2.1, regsGo perm f.2.2.2.1 f.2.2.2.1, List.map (mapBl perm) (blocks f), ()) else f
theorem permGo_range {n : Int} : ∀ {l : List (Den I)} {m : List (Den .bool)}, permGo n l m = true → ∀ i, i < ln I l → 0 ≤ z (gd I l i) ∧ z (gd I l i) < n
  | [], _, _, i, hi => absurd hi (Nat.not_lt_zero i)
  | r :: l, m, h, i, hi => by
    rw [permGo] at h
    split at h
    · cases h
    · rename_i h1
      split at h
      · cases h
      · cases i with
        | zero =>
          show 0 ≤ z r ∧ z r < n
          exact ⟨by omega, by omega⟩
        | succ i => exact permGo_range h i (Nat.lt_of_succ_lt_succ hi)
theorem permB_range {p : List (Den I)} {n : Int} (h : permB p n = true) : (ln I p : Int) = n ∧ ∀ i, i < ln I p → 0 ≤ z (gd I p i) ∧ z (gd I p i) < n := by
  unfold permB at h
  simp only [Bool.and_eq_true, beq_iff_eq] at h
  exact ⟨h.1, permGo_range h.2⟩
def L_C19 : List (FuncId × FSpec) := [] ++ L_C18
theorem L_C19_ok : ∀ x ∈ L_C19, SpecOK (ctx []) x.1 x.2 := L_C18_ok
end Burn.M27N
namespace Burn.M27N
open Go Go.BE Go.Proofs
set_option maxRecDepth 100000
set_option linter.unusedVariables false
set_option linter.unusedSimpArgs false
open Burn.Cfg
def site_C20 : FuncId → Nat → Nat
  | 52, 30 => 11
  | 52, 31 => 11
  | 52, 68 => 11
  | 52, 69 => 11
  | f, t => siteOf siteTr f t
noncomputable abbrev E_C20 : Ctx := { ctx L_C19 with site := site_C20 }
theorem E_C20_ok : EOK E_C20 := have h : EOK (ctx L_C19) := ctx_ok L_C19_ok; ⟨h.ty, h.env, h.fns, h.mixed⟩
def cuts_C20 : CutL := [([], 52, 0, [1, 2, 3, 16, 17, 18], [(.c 3 1, .own 80 s_api_Instr 1)], []),
  ([], 52, 2, [2, 3, 52, 53, 54], [(.c 3 5, .own 32 s_api_Edge 1)], [])]
def rets_C20 : FuncId → List (Option Fx)
  | _ => []
def H_C20 : Hints := { cut := cutOf cuts_C20, ret := rets_C20 }
noncomputable def cbO_L0 (b : Den s_api_Block) (t16 : List (Den s_api_Instr)) (t17 : Int) (t18 : Int) (t2_2 : Int) (t2_6 : Int) (out_2 : Int) (out_3 : List (Den I)) (out_4 : List (Den I)) (out_5 : List (Den s_api_Edge)) (out_6 : Int) (out_0 : List (Den I)) (out_1 : List (Den s_api_Instr)) : Cfg := hcfg E_C20 f_r20_cloneBlock 0 [(1, (.rtp s_api_Block b)), (2, (.ref 0 0)), (3, (.ref 1 0)), (16, (.tv (.sl 80 s_api_Instr) t16)), (17, (vi t17)), (18, (vi t18))] [(0, ⟨(.cells [(.val (.slice none 0 0)), (.val (.slice none 0 0)), (vi t2_2), (.val (.slice none 0 0)), (.val (.slice none 0 0)), (.val (.slice none 0 0)), (vi t2_6)]), 0, [], false, none⟩), (1, ⟨(.cells [(.osl 2 2 [] none), (.osl 3 3 [] none), (vi out_2), (.tv (.sl 8 I) out_3), (.tv (.sl 8 I) out_4), (.tv (.sl 32 s_api_Edge) out_5), (vi out_6)]), 1, [], false, none⟩), (2, ⟨(.arr 0 8 I out_0), 2, [], false, none⟩), (3, ⟨(.arr 1 80 s_api_Instr out_1), 3, [], false, none⟩)] 4
noncomputable def cbO_L2 (t52 : List (Den s_api_Edge)) (t53 : Int) (t54 : Int) (t2_2 : Int) (t2_6 : Int) (out_2 : Int) (out_6 : Int) (out_0 : List (Den I)) (out_1 : List (Den s_api_Instr)) (out_3 : List (Den I)) (out_4 : List (Den I)) (out_5 : List (Den s_api_Edge)) : Cfg := hcfg E_C20 f_r20_cloneBlock 2 [(2, (.ref 0 0)), (3, (.ref 1 0)), (52, (.tv (.sl 32 s_api_Edge) t52)), (53, (vi t53)), (54, (vi t54))] [(0, ⟨(.cells [(.val (.slice none 0 0)), (.val (.slice none 0 0)), (vi t2_2), (.val (.slice none 0 0)), (.val (.slice none 0 0)), (.val (.slice none 0 0)), (vi t2_6)]), 0, [], false, none⟩), (1, ⟨(.cells [(.osl 2 2 [] none), (.osl 3 3 [] none), (vi out_2), (.osl 4 4 [] none), (.osl 5 5 [] none), (.osl 6 6 [] none), (vi out_6)]), 1, [], false, none⟩), (2, ⟨(.arr 0 8 I out_0), 2, [], false, none⟩), (3, ⟨(.arr 1 80 s_api_Instr out_1), 3, [], false, none⟩), (4, ⟨(.arr 0 8 I out_3), 4, [], false, none⟩), (5, ⟨(.arr 0 8 I out_4), 5, [], false, none⟩), (6, ⟨(.arr 1 32 s_api_Edge out_5), 6, [], false, none⟩)] 7
theorem cbO_t (b : Den s_api_Block) : run E_C20 H_C20 f_r20_cloneBlock 3000 (start E_C20 f_r20_cloneBlock [(.tv s_api_Block b)]) = (.chk (((0 : Nat) + (ln I b.1)) * 8 ≤ roomB) (hd (cbO_L0 b b.2.1 ((ln s_api_Instr b.2.1) : Int) (0 : Int) (0 : Int) (0 : Int) (z b.2.2.1.1) b.2.2.1.2.1 b.2.2.1.2.2.1 b.2.2.1.2.2.2.1 (z b.2.2.1.2.2.2.2.1) (ap I ([] : List (Den I)) b.1) ([] : List (Den s_api_Instr))))) := by kernel_rfl
theorem cbO_L0_t (b : Den s_api_Block) (t16 : List (Den s_api_Instr)) (t17 : Int) (t18 : Int) (t2_2 : Int) (t2_6 : Int) (out_2 : Int) (out_3 : List (Den I)) (out_4 : List (Den I)) (out_5 : List (Den s_api_Edge)) (out_6 : Int) (out_0 : List (Den I)) (out_1 : List (Den s_api_Instr)) : run E_C20 H_C20 f_r20_cloneBlock 3000 (cbO_L0 b t16 t17 t18 t2_2 t2_6 out_2 out_3 out_4 out_5 out_6 out_0 out_1) = (cond (decide (t18 < t17)) (.chk (0 ≤ t18 ∧ t18 < (ln s_api_Instr t16)) (.chk (((0 : Nat) + (ln I (((((gd s_api_Instr t16 ((t18).toNat)).2).2).2).1))) * 8 ≤ roomB) (.chk (((ln s_api_Instr out_1) + (1 : Nat)) * 80 ≤ roomB) (hd (cbO_L0 b t16 t17 (IntKind.wrap .i64 (t18 + (1 : Int))) t2_2 t2_6 out_2 out_3 out_4 out_5 out_6 out_0 (ap s_api_Instr out_1 ([((gd s_api_Instr t16 ((t18).toNat)).1, ((gd s_api_Instr t16 ((t18).toNat)).2).1, (((gd s_api_Instr t16 ((t18).toNat)).2).2).1, (ap I ([] : List (Den I)) (((((gd s_api_Instr t16 ((t18).toNat)).2).2).2).1)), ((((gd s_api_Instr t16 ((t18).toNat)).2).2).2).2)] : List (Den s_api_Instr)))))))) (.chk (((0 : Nat) + (ln I b.2.2.1.2.1)) * 8 ≤ roomB) (.chk (((0 : Nat) + (ln I b.2.2.1.2.2.1)) * 8 ≤ roomB) (hd (cbO_L2 b.2.2.1.2.2.2.1 ((ln s_api_Edge b.2.2.1.2.2.2.1) : Int) (0 : Int) t2_2 t2_6 out_2 out_6 out_0 out_1 (ap I ([] : List (Den I)) b.2.2.1.2.1) (ap I ([] : List (Den I)) b.2.2.1.2.2.1) ([] : List (Den s_api_Edge))))))) := by kernel_rfl
theorem cbO_L2_t (t52 : List (Den s_api_Edge)) (t53 : Int) (t54 : Int) (t2_2 : Int) (t2_6 : Int) (out_2 : Int) (out_6 : Int) (out_0 : List (Den I)) (out_1 : List (Den s_api_Instr)) (out_3 : List (Den I)) (out_4 : List (Den I)) (out_5 : List (Den s_api_Edge)) : run E_C20 H_C20 f_r20_cloneBlock 3000 (cbO_L2 t52 t53 t54 t2_2 t2_6 out_2 out_6 out_0 out_1 out_3 out_4 out_5) = (cond (decide (t54 < t53)) (.chk (0 ≤ t54 ∧ t54 < (ln s_api_Edge t52)) (.chk (((0 : Nat) + (ln I (((gd s_api_Edge t52 ((t54).toNat)).2).1))) * 8 ≤ roomB) (.chk (((ln s_api_Edge out_5) + (1 : Nat)) * 32 ≤ roomB) (hd (cbO_L2 t52 t53 (IntKind.wrap .i64 (t54 + (1 : Int))) t2_2 t2_6 out_2 out_6 out_0 out_1 out_3 out_4 (ap s_api_Edge out_5 ([((gd s_api_Edge t52 ((t54).toNat)).1, (ap I ([] : List (Den I)) (((gd s_api_Edge t52 ((t54).toNat)).2).1)), ())] : List (Den s_api_Edge)))))))) (rt (.agg [(.osl 0 0 [] none), (.osl 1 1 [] none), (vi out_2), (.osl 2 2 [] none), (.osl 3 3 [] none), (.osl 4 4 [] none), (vi out_6)]) [(0, ⟨(.arr 0 8 I out_0), 0, [], false, none⟩), (1, ⟨(.arr 1 80 s_api_Instr out_1), 1, [], false, none⟩), (2, ⟨(.arr 0 8 I out_3), 2, [], false, none⟩), (3, ⟨(.arr 0 8 I out_4), 3, [], false, none⟩), (4, ⟨(.arr 1 32 s_api_Edge out_5), 4, [], false, none⟩)])) := by kernel_rfl
def retBO (b : Blk) (x : AV) (h : Heap) : Prop := x = (ownRes 99 s_api_Block (idB b)).1 ∧ h = (ownRes 99 s_api_Block (idB b)).2
theorem cbO_l (b : Blk) (hb : okD s_api_Block b) : ∀ i, i ≤ ln s_api_Instr (bIns b) → Runs E_C20 (cbO_L0 b (bIns b) (ln s_api_Instr (bIns b) : Nat) i 0 0 (z b.2.2.1.1) (tArgs b) b.2.2.1.2.2.1 (tSuc b) (z b.2.2.1.2.2.2.2.1) (bPar b) ((bIns b).take i)) (retBO b) := by
  have k4 : ∀ k, k ≤ ln s_api_Edge (tSuc b) → Runs E_C20 (cbO_L2 (tSuc b) (ln s_api_Edge (tSuc b) : Nat) k 0 0 (z b.2.2.1.1) (z b.2.2.1.2.2.2.2.1) (bPar b) (bIns b) (tArgs b) b.2.2.1.2.2.1 ((tSuc b).take k)) (retBO b) :=
    up_ind (.tree E_C20_ok (cbO_L2_t _ _ _ _ _ _ _ _ _ _ _ _) (by
      rw [take_ln]
      simp only [wp_iff, chk_iff, know_iff, any_iff, rt_iff, hd_iff, true_imp_iff, true_and, and_true, and_self, lt01, Int.ofNat_lt, Int.ofNat_le, Int.natCast_nonneg, Int.toNat_natCast, decide_true, decide_false, Bool.true_eq_false, Bool.false_eq_true, false_imp_iff, Nat.lt_irrefl, imp_self, implies_true,  retBO]
      exact ⟨rfl, rfl⟩))
      fun k hk ihk => .tree E_C20_ok (cbO_L2_t _ _ _ _ _ _ _ _ _ _ _ _) (by
        have hr := hb.2.2.1.2.2.2.1
        have hi := room8 (ok_gd hr hk).2.1
        rw [take_gd hk] at ihk
        simp only [wp_iff, chk_iff, know_iff, any_iff, rt_iff, hd_iff, true_imp_iff, true_and, and_true, and_self, lt01, Int.ofNat_lt, Int.ofNat_le, Int.natCast_nonneg, Int.toNat_natCast, decide_true, decide_false, Bool.true_eq_false, Bool.false_eq_true, false_imp_iff, Nat.lt_irrefl, imp_self, implies_true,  hk, ln_take (Nat.le_of_lt hk), wrapS hk (room_lt hr.1), nil_ap]
        exact ⟨hi, fun _ => ⟨room_part hr.1 hk (by decide), fun _ => ihk⟩⟩)
  refine up_ind (.tree E_C20_ok (cbO_L0_t _ _ _ _ _ _ _ _ _ _ _ _ _) (by
      rw [take_ln]
      simp only [wp_iff, chk_iff, know_iff, any_iff, rt_iff, hd_iff, true_imp_iff, true_and, and_true, and_self, lt01, Int.ofNat_lt, Int.ofNat_le, Int.natCast_nonneg, Int.toNat_natCast, decide_true, decide_false, Bool.true_eq_false, Bool.false_eq_true, false_imp_iff, Nat.lt_irrefl, imp_self, implies_true,  nil_ap]
      exact ⟨room8 hb.2.2.1.2.1, fun _ => ⟨room8 hb.2.2.1.2.2.1, fun _ => k4 0 (Nat.zero_le _)⟩⟩))
      fun k hk ihk => .tree E_C20_ok (cbO_L0_t _ _ _ _ _ _ _ _ _ _ _ _ _) (by
        have hr := hb.2.1
        have hi := room8 (ok_gd hr hk).2.2.2.1
        rw [take_gd hk] at ihk
        simp only [wp_iff, chk_iff, know_iff, any_iff, rt_iff, hd_iff, true_imp_iff, true_and, and_true, and_self, lt01, Int.ofNat_lt, Int.ofNat_le, Int.natCast_nonneg, Int.toNat_natCast, decide_true, decide_false, Bool.true_eq_false, Bool.false_eq_true, false_imp_iff, Nat.lt_irrefl, imp_self, implies_true,  hk, ln_take (Nat.le_of_lt hk), wrapS hk (room_lt hr.1), nil_ap]
        exact ⟨hi, fun _ => ⟨room_part hr.1 hk (by decide), fun _ => ihk⟩⟩)
def k_cbO : Con := conO 99 [.d s_api_Block] s_api_Block (fun x => True) fun x => idB x.1
theorem m_cbO (b : Den s_api_Block) (h_b : okD s_api_Block b) (hp : True) : Runs E_C20 (start E_C20 f_r20_cloneBlock [(.tv s_api_Block b)]) (fun r_ h_ => r_ = (ownRes 99 s_api_Block (idB b)).1 ∧ h_ = (ownRes 99 s_api_Block (idB b)).2) := .tree E_C20_ok (cbO_t b) (by
  simp only [wp_iff, chk_iff, know_iff, any_iff, rt_iff, hd_iff, true_imp_iff, true_and, and_true, and_self, lt01]
  exact ⟨room8 h_b.1, fun _ => cbO_l b h_b 0 (Nat.zero_le _)⟩)
theorem c_cbO : SpecOK E_C20 f_r20_cloneBlock k_cbO.spec := spec_of fun x hx hp => ⟨rfl, m_cbO x.1 hx.1 hp⟩
def L_C20 : List (FuncId × FSpec) := [(f_r20_cloneBlock, k_cbO.spec)] ++ L_C19
theorem L_C20_ok : ∀ x ∈ L_C20, SpecOK (ctx []) x.1 x.2 := by
  unfold L_C20
  simp only [List.cons_append, List.nil_append, List.forall_mem_cons]
  exact ⟨c_cbO, L_C19_ok⟩
end Burn.M27N
namespace Burn.M27N
open Go Go.BE Go.Proofs
set_option maxRecDepth 100000
set_option linter.unusedVariables false
set_option linter.unusedSimpArgs false
open Burn.Cfg
def site_C21 : FuncId → Nat → Nat
  | 33, 29 => 12
  | 33, 30 => 12
  | f, t => siteOf siteTr f t
noncomputable abbrev E_C21 : Ctx := { ctx L_C20 with site := site_C21 }
theorem E_C21_ok : EOK E_C21 := have h : EOK (ctx L_C20) := ctx_ok L_C20_ok; ⟨h.ty, h.env, h.fns, h.mixed⟩
def cuts_C21 : CutL := [([], 33, 0, [2, 3, 19, 20, 21], [(.c 3 4, .own 136 s_api_Block 2)], [])]
def rets_C21 : FuncId → List (Option Fx)
  | _ => []
def H_C21 : Hints := { cut := cutOf cuts_C21, ret := rets_C21 }
noncomputable def clO_L0 (t19 : List (Den s_api_Block)) (t20 : Int) (t21 : Int) (t2_0 : ByteArray) (t2_2 : Int) (out_0 : ByteArray) (out_2 : Int) (out_1 : List (Den I)) (out_3 : List (Den I)) (out_4 : List (Den s_api_Block)) : Cfg := hcfg E_C21 f_r20_clone 0 [(2, (.ref 0 0)), (3, (.ref 1 0)), (19, (.tv (.sl 136 s_api_Block) t19)), (20, (vi t20)), (21, (vi t21))] [(0, ⟨(.cells [(vs t2_0), (.val (.slice none 0 0)), (vi t2_2), (.val (.slice none 0 0)), (.val (.slice none 0 0))]), 0, [], false, none⟩), (1, ⟨(.cells [(vs out_0), (.osl 2 2 [] none), (vi out_2), (.osl 3 3 [] none), (.osl 4 4 [] none)]), 1, [], false, none⟩), (2, ⟨(.arr 0 8 I out_1), 2, [], false, none⟩), (3, ⟨(.arr 0 8 I out_3), 3, [], false, none⟩), (4, ⟨(.arr 2 136 s_api_Block out_4), 4, [], false, none⟩)] 5
theorem clO_t (f : Den s_api_Func) : run E_C21 H_C21 f_r20_clone 3000 (start E_C21 f_r20_clone [(.tv s_api_Func f)]) = (.chk (((0 : Nat) + (ln I f.2.1)) * 8 ≤ roomB) (.chk (((0 : Nat) + (ln I f.2.2.2.1)) * 8 ≤ roomB) (hd (clO_L0 f.2.2.2.2.1 ((ln s_api_Block f.2.2.2.2.1) : Int) (0 : Int) ByteArray.empty (0 : Int) (tOf f.1) (z f.2.2.1) (ap I ([] : List (Den I)) f.2.1) (ap I ([] : List (Den I)) f.2.2.2.1) ([] : List (Den s_api_Block)))))) := by kernel_rfl
theorem clO_L0_t (t19 : List (Den s_api_Block)) (t20 : Int) (t21 : Int) (t2_0 : ByteArray) (t2_2 : Int) (out_0 : ByteArray) (out_2 : Int) (out_1 : List (Den I)) (out_3 : List (Den I)) (out_4 : List (Den s_api_Block)) : run E_C21 H_C21 f_r20_clone 3000 (clO_L0 t19 t20 t21 t2_0 t2_2 out_0 out_2 out_1 out_3 out_4) = (cond (decide (t21 < t20)) (.chk (0 ≤ t21 ∧ t21 < (ln s_api_Block t19)) (.chk (True) (.chk (((ln s_api_Block out_4) + (1 : Nat)) * 136 ≤ roomB) (.know (okAVs [(.osl 0 0 [] none), (.osl 1 1 [] none), (vi (z (((((idB (gd s_api_Block t19 ((t21).toNat))).2).2).1).1))), (.osl 2 2 [] none), (.osl 3 3 [] none), (.osl 4 4 [] none), (vi (z (((((((((idB (gd s_api_Block t19 ((t21).toNat))).2).2).1).2).2).2).2).1)))]) (hd (clO_L0 t19 t20 (IntKind.wrap .i64 (t21 + (1 : Int))) t2_0 t2_2 out_0 out_2 out_1 out_3 (ap s_api_Block out_4 ([(idB (gd s_api_Block t19 ((t21).toNat)))] : List (Den s_api_Block))))))))) (rt (.agg [(vs out_0), (.osl 0 0 [] none), (vi out_2), (.osl 1 1 [] none), (.osl 2 2 [] none)]) [(0, ⟨(.arr 0 8 I out_1), 0, [], false, none⟩), (1, ⟨(.arr 0 8 I out_3), 1, [], false, none⟩), (2, ⟨(.arr 2 136 s_api_Block out_4), 2, [], false, none⟩)])) := by kernel_rfl
def ret99 (f : Fn) (x : AV) (h : Heap) : Prop := x = (ownRes 99 s_api_Func (idF f)).1 ∧ h = (ownRes 99 s_api_Func (idF f)).2
theorem clO_l (f : Fn) (l : List (Den s_api_Block)) (hf : blocks f = l) (ho : okB l) : ∀ i, i ≤ ln s_api_Block l → ∀ a b, Runs E_C21 (clO_L0 l (ln s_api_Block l : Nat) i a b (tOf f.1) (z f.2.2.1) f.2.1 f.2.2.2.1 (l.take i)) (ret99 f) :=
  up_ind (fun a b => .tree E_C21_ok (clO_L0_t _ _ _ _ _ _ _ _ _ _) (by
    rw [take_ln]
    simp only [wp_iff, chk_iff, know_iff, any_iff, rt_iff, hd_iff, true_imp_iff, true_and, and_true, and_self, lt01, Int.ofNat_lt, Int.ofNat_le, Int.natCast_nonneg, Int.toNat_natCast, decide_true, decide_false, Bool.true_eq_false, Bool.false_eq_true, false_imp_iff, Nat.lt_irrefl, imp_self, implies_true,  ret99]
    rw [← hf]
    exact ⟨rfl, rfl⟩))
    fun i hi ih a b => .tree E_C21_ok (clO_L0_t _ _ _ _ _ _ _ _ _ _) (by
      have := ih a b
      rw [take_gd hi] at this
      simp only [wp_iff, chk_iff, know_iff, any_iff, rt_iff, hd_iff, true_imp_iff, true_and, and_true, and_self, lt01, Int.ofNat_lt, Int.ofNat_le, Int.natCast_nonneg, Int.toNat_natCast, decide_true, decide_false, Bool.true_eq_false, Bool.false_eq_true, false_imp_iff, Nat.lt_irrefl, imp_self, implies_true,  hi, ln_take (Nat.le_of_lt hi), wrapS hi (room_lt ho.1), idB]
      exact ⟨room_part ho.1 hi (by decide), fun _ _ => this⟩)
def k_clO : Con := conO 99 [.d s_api_Func] s_api_Func (fun x => True) fun x => idF x.1
theorem m_clO (f : Den s_api_Func) (h_f : okD s_api_Func f) (hp : True) : Runs E_C21 (start E_C21 f_r20_clone [(.tv s_api_Func f)]) (fun r_ h_ => r_ = (ownRes 99 s_api_Func (idF f)).1 ∧ h_ = (ownRes 99 s_api_Func (idF f)).2) := .tree E_C21_ok (clO_t f) (by
  simp only [wp_iff, chk_iff, know_iff, any_iff, rt_iff, hd_iff, true_imp_iff, true_and, and_true, and_self, lt01]
  exact ⟨room8 h_f.2.1, fun _ => ⟨room8 h_f.2.2.2.1, fun _ => clO_l f _ rfl (okB_of h_f) 0 (Nat.zero_le _) _ _⟩⟩)
theorem c_clO : SpecOK E_C21 f_r20_clone k_clO.spec := spec_of fun x hx hp => ⟨rfl, m_clO x.1 hx.1 hp⟩
def L_C21 : List (FuncId × FSpec) := [(f_r20_clone, k_clO.spec)] ++ L_C20
theorem L_C21_ok : ∀ x ∈ L_C21, SpecOK (ctx []) x.1 x.2 := by
  unfold L_C21
  simp only [List.cons_append, List.nil_append, List.forall_mem_cons]
  exact ⟨c_clO, L_C20_ok⟩
end Burn.M27N
namespace Burn.M27N
open Go Go.BE Go.Proofs
set_option maxRecDepth 100000
set_option linter.unusedVariables false
set_option linter.unusedSimpArgs false
open Burn.Cfg
noncomputable abbrev E_C22 : Ctx := ctx L_C21
theorem E_C22_ok : EOK E_C22 := ctx_ok L_C21_ok
def cuts_C22 : CutL := [([], 15, 0, [1, 4, 5, 23, 24, 25], [], []),
  ([], 15, 2, [1, 4, 5, 45, 46], [], []),
  ([], 15, 4, [1, 4, 5, 9, 45, 46, 63, 64], [], []),
  ([], 15, 6, [1, 4, 5, 9, 45, 46, 116, 117], [], []),
  ([(15, 2499)], 35, 0, [0, 1, 6, 7, 8], [], [[1, 4, 5]]),
  ([(15, 3397)], 35, 0, [0, 1, 6, 7, 8], [], [[1, 4, 5, 9, 45, 46]]),
  ([(15, 4677)], 35, 0, [0, 1, 6, 7, 8], [], [[1, 4, 5, 9, 11, 45, 46, 63, 64]]),
  ([(15, 6662)], 35, 0, [0, 1, 6, 7, 8], [], [[1, 4, 5, 9, 45, 46]]),
  ([(15, 7690)], 35, 0, [0, 1, 6, 7, 8], [], [[1, 4, 5, 9, 45, 46, 116, 117]])]
def rets_C22 : FuncId → List (Option Fx)
  | 15 => [some (.dat s_api_Func)]
  | _ => []
def H_C22 : Hints := { cut := cutOf cuts_C22, ret := rets_C22 }
noncomputable def r20_Permute_L0 (perm : List (Den I)) (t23 : List (Den I)) (t24 : Int) (t25 : Int) (t4_0 : ByteArray) (t4_2 : Int) (out_0 : ByteArray) (out_2 : Int) (out_1 : List (Den I)) (out_3 : List (Den I)) (out_4 : List (Den s_api_Block)) : Cfg := hcfg E_C22 f_r20_Permute 0 [(1, (.tv (.sl 8 I) perm)), (4, (.ref 0 0)), (5, (.ref 1 0)), (23, (.tv (.sl 8 I) t23)), (24, (vi t24)), (25, (vi t25))] [(0, ⟨(.cells [(vs t4_0), (.val (.slice none 0 0)), (vi t4_2), (.val (.slice none 0 0)), (.val (.slice none 0 0))]), 0, [], false, none⟩), (1, ⟨(.cells [(vs out_0), (.osl 2 2 [] none), (vi out_2), (.osl 3 3 [] none), (.osl 4 4 [] none)]), 1, [], false, none⟩), (2, ⟨(.arr 0 8 I out_1), 2, [], false, none⟩), (3, ⟨(.arr 0 8 I out_3), 3, [], false, none⟩), (4, ⟨(.arr 2 136 s_api_Block out_4), 4, [], false, none⟩)] 5
noncomputable def r20_Permute_renamed_L0 (perm : List (Den I)) (t7 : Int) (t8 : Int) (perm1 : List (Den I)) (l : List (Den I)) (t4_0 : ByteArray) (t4_2 : Int) (out_0 : ByteArray) (out_2 : Int) (out_3 : List (Den I)) (out_4 : List (Den s_api_Block)) : Cfg := hcfgx E_C22 f_r20_renamed 0 [(0, (.osl 0 0 [] none)), (1, (.tv (.sl 8 I) perm)), (6, (.osl 0 0 [] none)), (7, (vi t7)), (8, (vi t8))] [(0, ⟨(.arr 0 8 I l), 0, [], false, none⟩), (1, ⟨(.cells [(vs t4_0), (.val (.slice none 0 0)), (vi t4_2), (.val (.slice none 0 0)), (.val (.slice none 0 0))]), 1, [], false, none⟩), (2, ⟨(.cells [(vs out_0), (.osl 0 0 [] none), (vi out_2), (.osl 3 3 [] none), (.osl 4 4 [] none)]), 2, [], false, none⟩), (3, ⟨(.arr 0 8 I out_3), 3, [], false, none⟩), (4, ⟨(.arr 2 136 s_api_Block out_4), 4, [], false, none⟩)] 5 [cfr E_C22 f_r20_Permute 4 [(1, (.tv (.sl 8 I) perm1)), (4, (.ref 1 0)), (5, (.ref 2 0))]]
noncomputable def r20_Permute_L2 (perm : List (Den I)) (t45 : Int) (t46 : Int) (t4_0 : ByteArray) (t4_2 : Int) (out_0 : ByteArray) (out_2 : Int) (out_1 : List (Den I)) (out_3 : List (Den I)) (out_4 : List (Den s_api_Block)) : Cfg := hcfg E_C22 f_r20_Permute 2 [(1, (.tv (.sl 8 I) perm)), (4, (.ref 0 0)), (5, (.ref 1 0)), (45, (vi t45)), (46, (vi t46))] [(0, ⟨(.cells [(vs t4_0), (.val (.slice none 0 0)), (vi t4_2), (.val (.slice none 0 0)), (.val (.slice none 0 0))]), 0, [], false, none⟩), (1, ⟨(.cells [(vs out_0), (.osl 2 2 [] none), (vi out_2), (.osl 3 3 [] none), (.osl 4 4 [] none)]), 1, [], false, none⟩), (2, ⟨(.arr 0 8 I out_1), 2, [], false, none⟩), (3, ⟨(.arr 0 8 I out_3), 3, [], false, none⟩), (4, ⟨(.arr 2 136 s_api_Block out_4), 4, [], false, none⟩)] 5
noncomputable def r20_Permute_renamed_L0_1 (l_k : Nat) (perm : List (Den I)) (t6_k : Nat) (t7 : Int) (t8 : Int) (perm1 : List (Den I)) (b_i : Nat) (t45 : Int) (t46 : Int) (l : List (Den s_api_Block)) (t4_0 : ByteArray) (t4_2 : Int) (out_0 : ByteArray) (out_2 : Int) (out_1 : List (Den I)) (out_3 : List (Den I)) : Cfg := hcfgx E_C22 f_r20_renamed 0 [(0, (.osl 0 0 [(l_k, [.l])] none)), (1, (.tv (.sl 8 I) perm)), (6, (.osl 0 0 [(t6_k, [.l])] none)), (7, (vi t7)), (8, (vi t8))] [(0, ⟨(.arr 2 136 s_api_Block l), 0, [], false, none⟩), (1, ⟨(.cells [(vs t4_0), (.val (.slice none 0 0)), (vi t4_2), (.val (.slice none 0 0)), (.val (.slice none 0 0))]), 1, [], false, none⟩), (2, ⟨(.cells [(vs out_0), (.osl 3 3 [] none), (vi out_2), (.osl 4 4 [] none), (.osl 0 0 [] none)]), 2, [], false, none⟩), (3, ⟨(.arr 0 8 I out_1), 3, [], false, none⟩), (4, ⟨(.arr 0 8 I out_3), 4, [], false, none⟩)] 5 [cfr E_C22 f_r20_Permute 6 [(1, (.tv (.sl 8 I) perm1)), (4, (.ref 1 0)), (5, (.ref 2 0)), (9, (.tref 0 0 [] b_i [])), (45, (vi t45)), (46, (vi t46))]]
noncomputable def r20_Permute_L4 (perm : List (Den I)) (b_i : Nat) (t45 : Int) (t46 : Int) (t63 : Int) (t64 : Int) (t4_0 : ByteArray) (t4_2 : Int) (out_0 : ByteArray) (out_2 : Int) (out_4 : List (Den s_api_Block)) (out_1 : List (Den I)) (out_3 : List (Den I)) : Cfg := hcfg E_C22 f_r20_Permute 4 [(1, (.tv (.sl 8 I) perm)), (4, (.ref 0 0)), (5, (.ref 1 0)), (9, (.tref 2 2 [] b_i [])), (45, (vi t45)), (46, (vi t46)), (63, (vi t63)), (64, (vi t64))] [(0, ⟨(.cells [(vs t4_0), (.val (.slice none 0 0)), (vi t4_2), (.val (.slice none 0 0)), (.val (.slice none 0 0))]), 0, [], false, none⟩), (1, ⟨(.cells [(vs out_0), (.osl 3 3 [] none), (vi out_2), (.osl 4 4 [] none), (.osl 2 2 [] none)]), 1, [], false, none⟩), (2, ⟨(.arr 2 136 s_api_Block out_4), 2, [], false, none⟩), (3, ⟨(.arr 0 8 I out_1), 3, [], false, none⟩), (4, ⟨(.arr 0 8 I out_3), 4, [], false, none⟩)] 5
noncomputable def r20_Permute_renamed_L0_2 (l_k : Nat) (l_k1 : Nat) (perm : List (Den I)) (t6_k : Nat) (t6_k1 : Nat) (t7 : Int) (t8 : Int) (perm1 : List (Den I)) (b_i : Nat) (in_k : Nat) (in_i : Nat) (t45 : Int) (t46 : Int) (t63 : Int) (t64 : Int) (l : List (Den s_api_Block)) (t4_0 : ByteArray) (t4_2 : Int) (out_0 : ByteArray) (out_2 : Int) (out_1 : List (Den I)) (out_3 : List (Den I)) : Cfg := hcfgx E_C22 f_r20_renamed 0 [(0, (.osl 0 0 [(l_k, [.r, .l]), (l_k1, [.r, .r, .r, .l])] none)), (1, (.tv (.sl 8 I) perm)), (6, (.osl 0 0 [(t6_k, [.r, .l]), (t6_k1, [.r, .r, .r, .l])] none)), (7, (vi t7)), (8, (vi t8))] [(0, ⟨(.arr 2 136 s_api_Block l), 0, [], false, none⟩), (1, ⟨(.cells [(vs t4_0), (.val (.slice none 0 0)), (vi t4_2), (.val (.slice none 0 0)), (.val (.slice none 0 0))]), 1, [], false, none⟩), (2, ⟨(.cells [(vs out_0), (.osl 3 3 [] none), (vi out_2), (.osl 4 4 [] none), (.osl 0 0 [] none)]), 2, [], false, none⟩), (3, ⟨(.arr 0 8 I out_1), 3, [], false, none⟩), (4, ⟨(.arr 0 8 I out_3), 4, [], false, none⟩)] 5 [cfr E_C22 f_r20_Permute 8 [(1, (.tv (.sl 8 I) perm1)), (4, (.ref 1 0)), (5, (.ref 2 0)), (9, (.tref 0 0 [] b_i [])), (11, (.tref 0 0 [(in_k, [.r, .l])] in_i [])), (45, (vi t45)), (46, (vi t46)), (63, (vi t63)), (64, (vi t64))]]
noncomputable def r20_Permute_renamed_L0_3 (l_k : Nat) (perm : List (Den I)) (t6_k : Nat) (t7 : Int) (t8 : Int) (perm1 : List (Den I)) (b_i : Nat) (t45 : Int) (t46 : Int) (l : List (Den s_api_Block)) (t4_0 : ByteArray) (t4_2 : Int) (out_0 : ByteArray) (out_2 : Int) (out_1 : List (Den I)) (out_3 : List (Den I)) : Cfg := hcfgx E_C22 f_r20_renamed 0 [(0, (.osl 0 0 [(l_k, [.r, .r, .l, .r, .l])] none)), (1, (.tv (.sl 8 I) perm)), (6, (.osl 0 0 [(t6_k, [.r, .r, .l, .r, .l])] none)), (7, (vi t7)), (8, (vi t8))] [(0, ⟨(.arr 2 136 s_api_Block l), 0, [], false, none⟩), (1, ⟨(.cells [(vs t4_0), (.val (.slice none 0 0)), (vi t4_2), (.val (.slice none 0 0)), (.val (.slice none 0 0))]), 1, [], false, none⟩), (2, ⟨(.cells [(vs out_0), (.osl 3 3 [] none), (vi out_2), (.osl 4 4 [] none), (.osl 0 0 [] none)]), 2, [], false, none⟩), (3, ⟨(.arr 0 8 I out_1), 3, [], false, none⟩), (4, ⟨(.arr 0 8 I out_3), 4, [], false, none⟩)] 5 [cfr E_C22 f_r20_Permute 10 [(1, (.tv (.sl 8 I) perm1)), (4, (.ref 1 0)), (5, (.ref 2 0)), (9, (.tref 0 0 [] b_i [])), (45, (vi t45)), (46, (vi t46))]]
noncomputable def r20_Permute_L6 (perm : List (Den I)) (b_i : Nat) (t45 : Int) (t46 : Int) (t116 : Int) (t117 : Int) (t4_0 : ByteArray) (t4_2 : Int) (out_0 : ByteArray) (out_2 : Int) (out_4 : List (Den s_api_Block)) (out_1 : List (Den I)) (out_3 : List (Den I)) : Cfg := hcfg E_C22 f_r20_Permute 6 [(1, (.tv (.sl 8 I) perm)), (4, (.ref 0 0)), (5, (.ref 1 0)), (9, (.tref 2 2 [] b_i [])), (45, (vi t45)), (46, (vi t46)), (116, (vi t116)), (117, (vi t117))] [(0, ⟨(.cells [(vs t4_0), (.val (.slice none 0 0)), (vi t4_2), (.val (.slice none 0 0)), (.val (.slice none 0 0))]), 0, [], false, none⟩), (1, ⟨(.cells [(vs out_0), (.osl 3 3 [] none), (vi out_2), (.osl 4 4 [] none), (.osl 2 2 [] none)]), 1, [], false, none⟩), (2, ⟨(.arr 2 136 s_api_Block out_4), 2, [], false, none⟩), (3, ⟨(.arr 0 8 I out_1), 3, [], false, none⟩), (4, ⟨(.arr 0 8 I out_3), 4, [], false, none⟩)] 5
noncomputable def r20_Permute_renamed_L0_4 (l_k : Nat) (l_k1 : Nat) (perm : List (Den I)) (t6_k : Nat) (t6_k1 : Nat) (t7 : Int) (t8 : Int) (perm1 : List (Den I)) (b_i : Nat) (t45 : Int) (t46 : Int) (t116 : Int) (t117 : Int) (l : List (Den s_api_Block)) (t4_0 : ByteArray) (t4_2 : Int) (out_0 : ByteArray) (out_2 : Int) (out_1 : List (Den I)) (out_3 : List (Den I)) : Cfg := hcfgx E_C22 f_r20_renamed 0 [(0, (.osl 0 0 [(l_k, [.r, .r, .l, .r, .r, .r, .l]), (l_k1, [.r, .l])] none)), (1, (.tv (.sl 8 I) perm)), (6, (.osl 0 0 [(t6_k, [.r, .r, .l, .r, .r, .r, .l]), (t6_k1, [.r, .l])] none)), (7, (vi t7)), (8, (vi t8))] [(0, ⟨(.arr 2 136 s_api_Block l), 0, [], false, none⟩), (1, ⟨(.cells [(vs t4_0), (.val (.slice none 0 0)), (vi t4_2), (.val (.slice none 0 0)), (.val (.slice none 0 0))]), 1, [], false, none⟩), (2, ⟨(.cells [(vs out_0), (.osl 3 3 [] none), (vi out_2), (.osl 4 4 [] none), (.osl 0 0 [] none)]), 2, [], false, none⟩), (3, ⟨(.arr 0 8 I out_1), 3, [], false, none⟩), (4, ⟨(.arr 0 8 I out_3), 4, [], false, none⟩)] 5 [cfr E_C22 f_r20_Permute 12 [(1, (.tv (.sl 8 I) perm1)), (4, (.ref 1 0)), (5, (.ref 2 0)), (9, (.tref 0 0 [] b_i [])), (45, (vi t45)), (46, (vi t46)), (116, (vi t116)), (117, (vi t117))]]
theorem r20_Permute_t (f : Den s_api_Func) (perm : List (Den I)) : run E_C22 H_C22 f_r20_Permute 3000 (start E_C22 f_r20_Permute [(.tv s_api_Func f), (.tv (.sl 8 I) perm)]) = (.chk (True) (.know (okAVs [(vs (tOf ((idF f).1))), (.osl 0 0 [] none), (vi (z ((((idF f).2).2).1))), (.osl 1 1 [] none), (.osl 2 2 [] none)]) (.chk (True) (.know True (cond (!(permB perm ((ln I f.2.2.2.1) : Int))) (rt (.tv s_api_Func (idF f)) []) (hd (r20_Permute_L0 perm f.2.2.2.1 ((ln I f.2.2.2.1) : Int) (0 : Int) ByteArray.empty (0 : Int) (tOf ((idF f).1)) (z ((((idF f).2).2).1)) (((idF f).2).1) (((((idF f).2).2).2).1) ((((((idF f).2).2).2).2).1)))))))) := by kernel_rfl
theorem r20_Permute_L0_t (perm : List (Den I)) (t23 : List (Den I)) (t24 : Int) (t25 : Int) (t4_0 : ByteArray) (t4_2 : Int) (out_0 : ByteArray) (out_2 : Int) (out_1 : List (Den I)) (out_3 : List (Den I)) (out_4 : List (Den s_api_Block)) : run E_C22 H_C22 f_r20_Permute 3000 (r20_Permute_L0 perm t23 t24 t25 t4_0 t4_2 out_0 out_2 out_1 out_3 out_4) = (cond (decide (t25 < t24)) (.chk (0 ≤ t25 ∧ t25 < (ln I t23)) (.chk (0 ≤ t25 ∧ t25 < (ln I perm)) (.chk (0 ≤ (z (gd I perm ((t25).toNat))) ∧ (z (gd I perm ((t25).toNat))) < (ln I out_3)) (.chk (((z (gd I perm ((t25).toNat)))).toNat < (ln I out_3)) (hd (r20_Permute_L0 perm t23 t24 (IntKind.wrap .i64 (t25 + (1 : Int))) t4_0 t4_2 out_0 out_2 out_1 (st I out_3 (((z (gd I perm ((t25).toNat)))).toNat) (gd I t23 ((t25).toNat))) out_4)))))) (hd (r20_Permute_renamed_L0 perm ((ln I out_1) : Int) (0 : Int) perm out_1 t4_0 t4_2 out_0 out_2 out_3 out_4))) := by kernel_rfl
theorem r20_Permute_renamed_L0_t (perm : List (Den I)) (t7 : Int) (t8 : Int) (perm1 : List (Den I)) (l : List (Den I)) (t4_0 : ByteArray) (t4_2 : Int) (out_0 : ByteArray) (out_2 : Int) (out_3 : List (Den I)) (out_4 : List (Den s_api_Block)) : run E_C22 H_C22 f_r20_Permute 3000 (r20_Permute_renamed_L0 perm t7 t8 perm1 l t4_0 t4_2 out_0 out_2 out_3 out_4) = (cond (decide (t8 < t7)) (.chk (0 ≤ t8 ∧ t8 < (ln I l)) (.chk ((t8).toNat < (ln I l)) (cond (decide ((z (gd I l ((t8).toNat))) ≥ (0 : Int))) (cond (decide ((z (gd I l ((t8).toNat))) < ((ln I perm) : Int))) (.chk (0 ≤ (z (gd I l ((t8).toNat))) ∧ (z (gd I l ((t8).toNat))) < (ln I perm)) (.chk (0 ≤ t8 ∧ t8 < (ln I l)) (.chk ((t8).toNat < (ln I l)) (hd (r20_Permute_renamed_L0 perm t7 (IntKind.wrap .i64 (t8 + (1 : Int))) perm1 (st I l ((t8).toNat) (gd I perm (((z (gd I l ((t8).toNat)))).toNat))) t4_0 t4_2 out_0 out_2 out_3 out_4))))) (hd (r20_Permute_renamed_L0 perm t7 (IntKind.wrap .i64 (t8 + (1 : Int))) perm1 l t4_0 t4_2 out_0 out_2 out_3 out_4))) (hd (r20_Permute_renamed_L0 perm t7 (IntKind.wrap .i64 (t8 + (1 : Int))) perm1 l t4_0 t4_2 out_0 out_2 out_3 out_4))))) (hd (r20_Permute_L2 perm1 ((ln s_api_Block out_4) : Int) (0 : Int) t4_0 t4_2 out_0 out_2 l out_3 out_4))) := by kernel_rfl
theorem r20_Permute_L2_t (perm : List (Den I)) (t45 : Int) (t46 : Int) (t4_0 : ByteArray) (t4_2 : Int) (out_0 : ByteArray) (out_2 : Int) (out_1 : List (Den I)) (out_3 : List (Den I)) (out_4 : List (Den s_api_Block)) : run E_C22 H_C22 f_r20_Permute 3000 (r20_Permute_L2 perm t45 t46 t4_0 t4_2 out_0 out_2 out_1 out_3 out_4) = (cond (decide (t46 < t45)) (.chk (0 ≤ t46 ∧ t46 < (ln s_api_Block out_4)) (.chk ((t46).toNat < (ln s_api_Block out_4)) (.chk ((t46).toNat < (ln s_api_Block out_4)) (hd (r20_Permute_renamed_L0_1 ((t46).toNat) perm ((t46).toNat) ((ln I ((gd s_api_Block out_4 ((t46).toNat)).1)) : Int) (0 : Int) perm ((t46).toNat) t45 t46 out_4 t4_0 t4_2 out_0 out_2 out_1 out_3))))) (rt (.tv s_api_Func (out_0, out_1, out_2, out_3, out_4, ())) [])) := by kernel_rfl
theorem r20_Permute_renamed_L0_1_t (l_k : Nat) (perm : List (Den I)) (t6_k : Nat) (t7 : Int) (t8 : Int) (perm1 : List (Den I)) (b_i : Nat) (t45 : Int) (t46 : Int) (l : List (Den s_api_Block)) (t4_0 : ByteArray) (t4_2 : Int) (out_0 : ByteArray) (out_2 : Int) (out_1 : List (Den I)) (out_3 : List (Den I)) : run E_C22 H_C22 f_r20_Permute 3000 (r20_Permute_renamed_L0_1 l_k perm t6_k t7 t8 perm1 b_i t45 t46 l t4_0 t4_2 out_0 out_2 out_1 out_3) = (cond (decide (t8 < t7)) (.chk (t6_k < (ln s_api_Block l)) (.chk (0 ≤ t8 ∧ t8 < (ln I ((gd s_api_Block l t6_k).1))) (.chk (t6_k < (ln s_api_Block l)) (.chk ((t8).toNat < (ln I ((gd s_api_Block l t6_k).1))) (cond (decide ((z (gd I ((gd s_api_Block l t6_k).1) ((t8).toNat))) ≥ (0 : Int))) (cond (decide ((z (gd I ((gd s_api_Block l t6_k).1) ((t8).toNat))) < ((ln I perm) : Int))) (.chk (0 ≤ (z (gd I ((gd s_api_Block l t6_k).1) ((t8).toNat))) ∧ (z (gd I ((gd s_api_Block l t6_k).1) ((t8).toNat))) < (ln I perm)) (.chk (l_k < (ln s_api_Block l)) (.chk (0 ≤ t8 ∧ t8 < (ln I ((gd s_api_Block l l_k).1))) (.chk (l_k < (ln s_api_Block l)) (.chk ((t8).toNat < (ln I ((gd s_api_Block l l_k).1))) (hd (r20_Permute_renamed_L0_1 l_k perm t6_k t7 (IntKind.wrap .i64 (t8 + (1 : Int))) perm1 b_i t45 t46 (st s_api_Block l l_k ((st I ((gd s_api_Block l l_k).1) ((t8).toNat) (gd I perm (((z (gd I ((gd s_api_Block l t6_k).1) ((t8).toNat)))).toNat))), (gd s_api_Block l l_k).2)) t4_0 t4_2 out_0 out_2 out_1 out_3))))))) (hd (r20_Permute_renamed_L0_1 l_k perm t6_k t7 (IntKind.wrap .i64 (t8 + (1 : Int))) perm1 b_i t45 t46 l t4_0 t4_2 out_0 out_2 out_1 out_3))) (hd (r20_Permute_renamed_L0_1 l_k perm t6_k t7 (IntKind.wrap .i64 (t8 + (1 : Int))) perm1 b_i t45 t46 l t4_0 t4_2 out_0 out_2 out_1 out_3))))))) (.chk (b_i < (ln s_api_Block l)) (.chk (b_i < (ln s_api_Block l)) (hd (r20_Permute_L4 perm1 b_i t45 t46 ((ln s_api_Instr (((gd s_api_Block l b_i).2).1)) : Int) (0 : Int) t4_0 t4_2 out_0 out_2 l out_1 out_3))))) := by kernel_rfl
theorem r20_Permute_L4_t (perm : List (Den I)) (b_i : Nat) (t45 : Int) (t46 : Int) (t63 : Int) (t64 : Int) (t4_0 : ByteArray) (t4_2 : Int) (out_0 : ByteArray) (out_2 : Int) (out_4 : List (Den s_api_Block)) (out_1 : List (Den I)) (out_3 : List (Den I)) : run E_C22 H_C22 f_r20_Permute 3000 (r20_Permute_L4 perm b_i t45 t46 t63 t64 t4_0 t4_2 out_0 out_2 out_4 out_1 out_3) = (cond (decide (t64 < t63)) (.chk (b_i < (ln s_api_Block out_4)) (.chk (b_i < (ln s_api_Block out_4)) (.chk (0 ≤ t64 ∧ t64 < (ln s_api_Instr (((gd s_api_Block out_4 b_i).2).1))) (.chk (b_i < (ln s_api_Block out_4)) (.chk (b_i < (ln s_api_Block out_4)) (.chk ((t64).toNat < (ln s_api_Instr (((gd s_api_Block out_4 b_i).2).1))) (.chk (b_i < (ln s_api_Block out_4)) (.chk ((t64).toNat < (ln s_api_Instr (((gd s_api_Block out_4 b_i).2).1))) (hd (r20_Permute_renamed_L0_2 b_i ((t64).toNat) perm b_i ((t64).toNat) ((ln I (((((gd s_api_Instr (((gd s_api_Block out_4 b_i).2).1) ((t64).toNat)).2).2).2).1)) : Int) (0 : Int) perm b_i b_i ((t64).toNat) t45 t46 t63 t64 out_4 t4_0 t4_2 out_0 out_2 out_1 out_3)))))))))) (.chk (b_i < (ln s_api_Block out_4)) (.chk (b_i < (ln s_api_Block out_4)) (hd (r20_Permute_renamed_L0_3 b_i perm b_i ((ln I ((((((gd s_api_Block out_4 b_i).2).2).1).2).1)) : Int) (0 : Int) perm b_i t45 t46 out_4 t4_0 t4_2 out_0 out_2 out_1 out_3))))) := by kernel_rfl
theorem r20_Permute_renamed_L0_2_t (l_k : Nat) (l_k1 : Nat) (perm : List (Den I)) (t6_k : Nat) (t6_k1 : Nat) (t7 : Int) (t8 : Int) (perm1 : List (Den I)) (b_i : Nat) (in_k : Nat) (in_i : Nat) (t45 : Int) (t46 : Int) (t63 : Int) (t64 : Int) (l : List (Den s_api_Block)) (t4_0 : ByteArray) (t4_2 : Int) (out_0 : ByteArray) (out_2 : Int) (out_1 : List (Den I)) (out_3 : List (Den I)) : run E_C22 H_C22 f_r20_Permute 3000 (r20_Permute_renamed_L0_2 l_k l_k1 perm t6_k t6_k1 t7 t8 perm1 b_i in_k in_i t45 t46 t63 t64 l t4_0 t4_2 out_0 out_2 out_1 out_3) = (cond (decide (t8 < t7)) (.chk (t6_k < (ln s_api_Block l)) (.chk (t6_k1 < (ln s_api_Instr (((gd s_api_Block l t6_k).2).1))) (.chk (0 ≤ t8 ∧ t8 < (ln I (((((gd s_api_Instr (((gd s_api_Block l t6_k).2).1) t6_k1).2).2).2).1))) (.chk (t6_k < (ln s_api_Block l)) (.chk (t6_k1 < (ln s_api_Instr (((gd s_api_Block l t6_k).2).1))) (.chk ((t8).toNat < (ln I (((((gd s_api_Instr (((gd s_api_Block l t6_k).2).1) t6_k1).2).2).2).1))) (cond (decide ((z (gd I (((((gd s_api_Instr (((gd s_api_Block l t6_k).2).1) t6_k1).2).2).2).1) ((t8).toNat))) ≥ (0 : Int))) (cond (decide ((z (gd I (((((gd s_api_Instr (((gd s_api_Block l t6_k).2).1) t6_k1).2).2).2).1) ((t8).toNat))) < ((ln I perm) : Int))) (.chk (0 ≤ (z (gd I (((((gd s_api_Instr (((gd s_api_Block l t6_k).2).1) t6_k1).2).2).2).1) ((t8).toNat))) ∧ (z (gd I (((((gd s_api_Instr (((gd s_api_Block l t6_k).2).1) t6_k1).2).2).2).1) ((t8).toNat))) < (ln I perm)) (.chk (l_k < (ln s_api_Block l)) (.chk (l_k1 < (ln s_api_Instr (((gd s_api_Block l l_k).2).1))) (.chk (0 ≤ t8 ∧ t8 < (ln I (((((gd s_api_Instr (((gd s_api_Block l l_k).2).1) l_k1).2).2).2).1))) (.chk (l_k < (ln s_api_Block l)) (.chk (l_k1 < (ln s_api_Instr (((gd s_api_Block l l_k).2).1))) (.chk ((t8).toNat < (ln I (((((gd s_api_Instr (((gd s_api_Block l l_k).2).1) l_k1).2).2).2).1))) (hd (r20_Permute_renamed_L0_2 l_k l_k1 perm t6_k t6_k1 t7 (IntKind.wrap .i64 (t8 + (1 : Int))) perm1 b_i in_k in_i t45 t46 t63 t64 (st s_api_Block l l_k ((gd s_api_Block l l_k).1, (st s_api_Instr (((gd s_api_Block l l_k).2).1) l_k1 ((gd s_api_Instr (((gd s_api_Block l l_k).2).1) l_k1).1, ((gd s_api_Instr (((gd s_api_Block l l_k).2).1) l_k1).2).1, (((gd s_api_Instr (((gd s_api_Block l l_k).2).1) l_k1).2).2).1, (st I (((((gd s_api_Instr (((gd s_api_Block l l_k).2).1) l_k1).2).2).2).1) ((t8).toNat) (gd I perm (((z (gd I (((((gd s_api_Instr (((gd s_api_Block l t6_k).2).1) t6_k1).2).2).2).1) ((t8).toNat)))).toNat))), ((((gd s_api_Instr (((gd s_api_Block l l_k).2).1) l_k1).2).2).2).2)), ((gd s_api_Block l l_k).2).2)) t4_0 t4_2 out_0 out_2 out_1 out_3))))))))) (hd (r20_Permute_renamed_L0_2 l_k l_k1 perm t6_k t6_k1 t7 (IntKind.wrap .i64 (t8 + (1 : Int))) perm1 b_i in_k in_i t45 t46 t63 t64 l t4_0 t4_2 out_0 out_2 out_1 out_3))) (hd (r20_Permute_renamed_L0_2 l_k l_k1 perm t6_k t6_k1 t7 (IntKind.wrap .i64 (t8 + (1 : Int))) perm1 b_i in_k in_i t45 t46 t63 t64 l t4_0 t4_2 out_0 out_2 out_1 out_3))))))))) (.chk (in_k < (ln s_api_Block l)) (.chk (in_k < (ln s_api_Block l)) (.chk (in_i < (ln s_api_Instr (((gd s_api_Block l in_k).2).1))) (cond (decide ((z ((((gd s_api_Instr (((gd s_api_Block l in_k).2).1) in_i).2).2).1)) ≥ (0 : Int))) (.chk (in_k < (ln s_api_Block l)) (.chk (in_k < (ln s_api_Block l)) (.chk (in_i < (ln s_api_Instr (((gd s_api_Block l in_k).2).1))) (cond (decide ((z ((((gd s_api_Instr (((gd s_api_Block l in_k).2).1) in_i).2).2).1)) < ((ln I perm1) : Int))) (.chk (in_k < (ln s_api_Block l)) (.chk (in_k < (ln s_api_Block l)) (.chk (in_i < (ln s_api_Instr (((gd s_api_Block l in_k).2).1))) (.chk (0 ≤ (z ((((gd s_api_Instr (((gd s_api_Block l in_k).2).1) in_i).2).2).1)) ∧ (z ((((gd s_api_Instr (((gd s_api_Block l in_k).2).1) in_i).2).2).1)) < (ln I perm1)) (.chk (in_k < (ln s_api_Block l)) (.chk (in_k < (ln s_api_Block l)) (.chk (in_i < (ln s_api_Instr (((gd s_api_Block l in_k).2).1))) (hd (r20_Permute_L4 perm1 b_i t45 t46 t63 (IntKind.wrap .i64 (t64 + (1 : Int))) t4_0 t4_2 out_0 out_2 (st s_api_Block l in_k ((gd s_api_Block l in_k).1, (st s_api_Instr (((gd s_api_Block l in_k).2).1) in_i ((gd s_api_Instr (((gd s_api_Block l in_k).2).1) in_i).1, ((gd s_api_Instr (((gd s_api_Block l in_k).2).1) in_i).2).1, (gd I perm1 (((z ((((gd s_api_Instr (((gd s_api_Block l in_k).2).1) in_i).2).2).1))).toNat)), (((gd s_api_Instr (((gd s_api_Block l in_k).2).1) in_i).2).2).2)), ((gd s_api_Block l in_k).2).2)) out_1 out_3))))))))) (hd (r20_Permute_L4 perm1 b_i t45 t46 t63 (IntKind.wrap .i64 (t64 + (1 : Int))) t4_0 t4_2 out_0 out_2 l out_1 out_3)))))) (hd (r20_Permute_L4 perm1 b_i t45 t46 t63 (IntKind.wrap .i64 (t64 + (1 : Int))) t4_0 t4_2 out_0 out_2 l out_1 out_3))))))) := by kernel_rfl
theorem r20_Permute_renamed_L0_3_t (l_k : Nat) (perm : List (Den I)) (t6_k : Nat) (t7 : Int) (t8 : Int) (perm1 : List (Den I)) (b_i : Nat) (t45 : Int) (t46 : Int) (l : List (Den s_api_Block)) (t4_0 : ByteArray) (t4_2 : Int) (out_0 : ByteArray) (out_2 : Int) (out_1 : List (Den I)) (out_3 : List (Den I)) : run E_C22 H_C22 f_r20_Permute 3000 (r20_Permute_renamed_L0_3 l_k perm t6_k t7 t8 perm1 b_i t45 t46 l t4_0 t4_2 out_0 out_2 out_1 out_3) = (cond (decide (t8 < t7)) (.chk (t6_k < (ln s_api_Block l)) (.chk (0 ≤ t8 ∧ t8 < (ln I ((((((gd s_api_Block l t6_k).2).2).1).2).1))) (.chk (t6_k < (ln s_api_Block l)) (.chk ((t8).toNat < (ln I ((((((gd s_api_Block l t6_k).2).2).1).2).1))) (cond (decide ((z (gd I ((((((gd s_api_Block l t6_k).2).2).1).2).1) ((t8).toNat))) ≥ (0 : Int))) (cond (decide ((z (gd I ((((((gd s_api_Block l t6_k).2).2).1).2).1) ((t8).toNat))) < ((ln I perm) : Int))) (.chk (0 ≤ (z (gd I ((((((gd s_api_Block l t6_k).2).2).1).2).1) ((t8).toNat))) ∧ (z (gd I ((((((gd s_api_Block l t6_k).2).2).1).2).1) ((t8).toNat))) < (ln I perm)) (.chk (l_k < (ln s_api_Block l)) (.chk (0 ≤ t8 ∧ t8 < (ln I ((((((gd s_api_Block l l_k).2).2).1).2).1))) (.chk (l_k < (ln s_api_Block l)) (.chk ((t8).toNat < (ln I ((((((gd s_api_Block l l_k).2).2).1).2).1))) (hd (r20_Permute_renamed_L0_3 l_k perm t6_k t7 (IntKind.wrap .i64 (t8 + (1 : Int))) perm1 b_i t45 t46 (st s_api_Block l l_k ((gd s_api_Block l l_k).1, ((gd s_api_Block l l_k).2).1, (((((gd s_api_Block l l_k).2).2).1).1, (st I ((((((gd s_api_Block l l_k).2).2).1).2).1) ((t8).toNat) (gd I perm (((z (gd I ((((((gd s_api_Block l t6_k).2).2).1).2).1) ((t8).toNat)))).toNat))), (((((gd s_api_Block l l_k).2).2).1).2).2), (((gd s_api_Block l l_k).2).2).2)) t4_0 t4_2 out_0 out_2 out_1 out_3))))))) (hd (r20_Permute_renamed_L0_3 l_k perm t6_k t7 (IntKind.wrap .i64 (t8 + (1 : Int))) perm1 b_i t45 t46 l t4_0 t4_2 out_0 out_2 out_1 out_3))) (hd (r20_Permute_renamed_L0_3 l_k perm t6_k t7 (IntKind.wrap .i64 (t8 + (1 : Int))) perm1 b_i t45 t46 l t4_0 t4_2 out_0 out_2 out_1 out_3))))))) (.chk (b_i < (ln s_api_Block l)) (.chk (b_i < (ln s_api_Block l)) (hd (r20_Permute_L6 perm1 b_i t45 t46 ((ln s_api_Edge ((((((((gd s_api_Block l b_i).2).2).1).2).2).2).1)) : Int) (0 : Int) t4_0 t4_2 out_0 out_2 l out_1 out_3))))) := by kernel_rfl
theorem r20_Permute_L6_t (perm : List (Den I)) (b_i : Nat) (t45 : Int) (t46 : Int) (t116 : Int) (t117 : Int) (t4_0 : ByteArray) (t4_2 : Int) (out_0 : ByteArray) (out_2 : Int) (out_4 : List (Den s_api_Block)) (out_1 : List (Den I)) (out_3 : List (Den I)) : run E_C22 H_C22 f_r20_Permute 3000 (r20_Permute_L6 perm b_i t45 t46 t116 t117 t4_0 t4_2 out_0 out_2 out_4 out_1 out_3) = (cond (decide (t117 < t116)) (.chk (b_i < (ln s_api_Block out_4)) (.chk (b_i < (ln s_api_Block out_4)) (.chk (0 ≤ t117 ∧ t117 < (ln s_api_Edge ((((((((gd s_api_Block out_4 b_i).2).2).1).2).2).2).1))) (.chk (b_i < (ln s_api_Block out_4)) (.chk (b_i < (ln s_api_Block out_4)) (.chk ((t117).toNat < (ln s_api_Edge ((((((((gd s_api_Block out_4 b_i).2).2).1).2).2).2).1))) (.chk (b_i < (ln s_api_Block out_4)) (.chk ((t117).toNat < (ln s_api_Edge ((((((((gd s_api_Block out_4 b_i).2).2).1).2).2).2).1))) (hd (r20_Permute_renamed_L0_4 b_i ((t117).toNat) perm b_i ((t117).toNat) ((ln I (((gd s_api_Edge ((((((((gd s_api_Block out_4 b_i).2).2).1).2).2).2).1) ((t117).toNat)).2).1)) : Int) (0 : Int) perm b_i t45 t46 t116 t117 out_4 t4_0 t4_2 out_0 out_2 out_1 out_3)))))))))) (hd (r20_Permute_L2 perm t45 (IntKind.wrap .i64 (t46 + (1 : Int))) t4_0 t4_2 out_0 out_2 out_1 out_3 out_4))) := by kernel_rfl
theorem r20_Permute_renamed_L0_4_t (l_k : Nat) (l_k1 : Nat) (perm : List (Den I)) (t6_k : Nat) (t6_k1 : Nat) (t7 : Int) (t8 : Int) (perm1 : List (Den I)) (b_i : Nat) (t45 : Int) (t46 : Int) (t116 : Int) (t117 : Int) (l : List (Den s_api_Block)) (t4_0 : ByteArray) (t4_2 : Int) (out_0 : ByteArray) (out_2 : Int) (out_1 : List (Den I)) (out_3 : List (Den I)) : run E_C22 H_C22 f_r20_Permute 3000 (r20_Permute_renamed_L0_4 l_k l_k1 perm t6_k t6_k1 t7 t8 perm1 b_i t45 t46 t116 t117 l t4_0 t4_2 out_0 out_2 out_1 out_3) = (cond (decide (t8 < t7)) (.chk (t6_k < (ln s_api_Block l)) (.chk (t6_k1 < (ln s_api_Edge ((((((((gd s_api_Block l t6_k).2).2).1).2).2).2).1))) (.chk (0 ≤ t8 ∧ t8 < (ln I (((gd s_api_Edge ((((((((gd s_api_Block l t6_k).2).2).1).2).2).2).1) t6_k1).2).1))) (.chk (t6_k < (ln s_api_Block l)) (.chk (t6_k1 < (ln s_api_Edge ((((((((gd s_api_Block l t6_k).2).2).1).2).2).2).1))) (.chk ((t8).toNat < (ln I (((gd s_api_Edge ((((((((gd s_api_Block l t6_k).2).2).1).2).2).2).1) t6_k1).2).1))) (cond (decide ((z (gd I (((gd s_api_Edge ((((((((gd s_api_Block l t6_k).2).2).1).2).2).2).1) t6_k1).2).1) ((t8).toNat))) ≥ (0 : Int))) (cond (decide ((z (gd I (((gd s_api_Edge ((((((((gd s_api_Block l t6_k).2).2).1).2).2).2).1) t6_k1).2).1) ((t8).toNat))) < ((ln I perm) : Int))) (.chk (0 ≤ (z (gd I (((gd s_api_Edge ((((((((gd s_api_Block l t6_k).2).2).1).2).2).2).1) t6_k1).2).1) ((t8).toNat))) ∧ (z (gd I (((gd s_api_Edge ((((((((gd s_api_Block l t6_k).2).2).1).2).2).2).1) t6_k1).2).1) ((t8).toNat))) < (ln I perm)) (.chk (l_k < (ln s_api_Block l)) (.chk (l_k1 < (ln s_api_Edge ((((((((gd s_api_Block l l_k).2).2).1).2).2).2).1))) (.chk (0 ≤ t8 ∧ t8 < (ln I (((gd s_api_Edge ((((((((gd s_api_Block l l_k).2).2).1).2).2).2).1) l_k1).2).1))) (.chk (l_k < (ln s_api_Block l)) (.chk (l_k1 < (ln s_api_Edge ((((((((gd s_api_Block l l_k).2).2).1).2).2).2).1))) (.chk ((t8).toNat < (ln I (((gd s_api_Edge ((((((((gd s_api_Block l l_k).2).2).1).2).2).2).1) l_k1).2).1))) (hd (r20_Permute_renamed_L0_4 l_k l_k1 perm t6_k t6_k1 t7 (IntKind.wrap .i64 (t8 + (1 : Int))) perm1 b_i t45 t46 t116 t117 (st s_api_Block l l_k ((gd s_api_Block l l_k).1, ((gd s_api_Block l l_k).2).1, (((((gd s_api_Block l l_k).2).2).1).1, (((((gd s_api_Block l l_k).2).2).1).2).1, ((((((gd s_api_Block l l_k).2).2).1).2).2).1, (st s_api_Edge ((((((((gd s_api_Block l l_k).2).2).1).2).2).2).1) l_k1 ((gd s_api_Edge ((((((((gd s_api_Block l l_k).2).2).1).2).2).2).1) l_k1).1, (st I (((gd s_api_Edge ((((((((gd s_api_Block l l_k).2).2).1).2).2).2).1) l_k1).2).1) ((t8).toNat) (gd I perm (((z (gd I (((gd s_api_Edge ((((((((gd s_api_Block l t6_k).2).2).1).2).2).2).1) t6_k1).2).1) ((t8).toNat)))).toNat))), ((gd s_api_Edge ((((((((gd s_api_Block l l_k).2).2).1).2).2).2).1) l_k1).2).2)), (((((((gd s_api_Block l l_k).2).2).1).2).2).2).2), (((gd s_api_Block l l_k).2).2).2)) t4_0 t4_2 out_0 out_2 out_1 out_3))))))))) (hd (r20_Permute_renamed_L0_4 l_k l_k1 perm t6_k t6_k1 t7 (IntKind.wrap .i64 (t8 + (1 : Int))) perm1 b_i t45 t46 t116 t117 l t4_0 t4_2 out_0 out_2 out_1 out_3))) (hd (r20_Permute_renamed_L0_4 l_k l_k1 perm t6_k t6_k1 t7 (IntKind.wrap .i64 (t8 + (1 : Int))) perm1 b_i t45 t46 t116 t117 l t4_0 t4_2 out_0 out_2 out_1 out_3))))))))) (hd (r20_Permute_L6 perm1 b_i t45 t46 t116 (IntKind.wrap .i64 (t117 + (1 : Int))) t4_0 t4_2 out_0 out_2 l out_1 out_3))) := by kernel_rfl
theorem ren_loop {E : Ctx} {Q : AV → Heap → Prop} (K L : List (Den I)) (S : List (Den I) → Int → Cfg) (hend : Runs E (S (permL L K) (ln I L : Nat)) Q)
    (hstep : ∀ (l : List (Den I)) (i : Nat), i < ln I L → ln I l = ln I L → Runs E (S (st I l i (permD K (gd I l i))) ((i + 1 : Nat) : Int)) Q → Runs E (S l (i : Nat)) Q) : Runs E (S L 0) Q := by
  have key : ∀ i, i ≤ ln I L → Runs E (S (mapTo (S := I) (T := I) (permD K) idD L i) (i : Nat)) Q :=
    up_ind (by rw [mapTo_n]; exact hend) fun i hi ih => hstep _ i hi mapTo_len (by
      rw [mapTo_gd (S := I) (T := I) (f := permD K) (g := idD) hi]
      show Runs E (S (st I _ i (permD K (gd I L i))) _) Q
      rw [mapTo_st (S := I) (T := I) (f := permD K) (g := idD) hi]
      exact ih)
  have := key 0 (Nat.zero_le _)
  rw [mapTo_0, map_idD] at this
  exact this
theorem ren_fin {K l : List (Den I)} {i : Nat} {C : Prop} {P : List (Den I) → Prop} (hC : (0 ≤ z (gd I l i) ∧ z (gd I l i) < (ln I K : Int)) → C) (h : P (st I l i (permD K (gd I l i)))) :
    (decide (z (gd I l i) ≥ 0) = true → (decide (z (gd I l i) < (ln I K : Int)) = true → C ∧ (C → P (st I l i (gd I K (z (gd I l i)).toNat)))) ∧ (decide (z (gd I l i) < (ln I K : Int)) = false → P l)) ∧ (decide (z (gd I l i) ≥ 0) = false → P l) := by
  refine ⟨fun h1 => ⟨fun h2 => ⟨hC ⟨of_decide_eq_true h1, of_decide_eq_true h2⟩, fun _ => ?_⟩, fun h2 => ?_⟩, fun h1 => ?_⟩
  · have a := of_decide_eq_true h1
    have b := of_decide_eq_true h2
    rw [permD_in (by omega)] at h
    exact h
  · have b := of_decide_eq_false h2
    rw [permD_out (Or.inr (by omega)), st_gd] at h
    exact h
  · have b := of_decide_eq_false h1
    rw [permD_out (Or.inl (by omega)), st_gd] at h
    exact h
theorem rc_in {K : List (Den I)} {r : Int} (h : 0 ≤ r ∧ r < (ln I K : Int)) : permRc r K = z (gd I K r.toNat) := permD_in (k := K) (x := r) (by show ¬ (r < 0 ∨ r ≥ _); omega)
theorem rc_out {K : List (Den I)} {r : Int} (h : r < 0 ∨ r ≥ (ln I K : Int)) : permRc r K = r := permD_out h
def idBk (b : Blk) : Blk := b
def idIn (b : Den s_api_Instr) : Den s_api_Instr := b
def idEd (b : Den s_api_Edge) : Den s_api_Edge := b
theorem map_idBk (l : List Blk) : List.map idBk l = l := List.map_id l
theorem map_idIn (l : List (Den s_api_Instr)) : List.map idIn l = l := List.map_id l
theorem map_idEd (l : List (Den s_api_Edge)) : List.map idEd l = l := List.map_id l
section
variable {K : List (Den I)} {a n0 : ByteArray} {b n2 : Int} {g1 g3 : List (Den I)} {Q : AV → Heap → Prop} {M : List Blk} {B : Blk} {i : Nat} {N J : Int}
theorem p1 (hi : i < ln s_api_Block M) (hB : ln I B.1 < 9223372036854775807) (h : Runs E_C22 (r20_Permute_L4 K i N J (ln s_api_Instr (bIns B) : Nat) 0 a b n0 n2 (st s_api_Block M i (permL B.1 K, B.2)) g1 g3) Q) :
    Runs E_C22 (r20_Permute_renamed_L0_1 i K i (ln I B.1 : Nat) 0 K i N J (st s_api_Block M i B) a b n0 n2 g1 g3) Q :=
  ren_loop K B.1 (fun x t => r20_Permute_renamed_L0_1 i K i (ln I B.1 : Nat) t K i N J (st s_api_Block M i (x, B.2)) a b n0 n2 g1 g3)
    (.tree E_C22_ok (r20_Permute_renamed_L0_1_t _ _ _ _ _ _ _ _ _ _ _ _ _ _ _ _) (by
      simp only [wp_iff, chk_iff, know_iff, any_iff, rt_iff, hd_iff, true_imp_iff, true_and, and_true, and_self, lt01, Int.ofNat_lt, Int.ofNat_le, Int.natCast_nonneg, Int.toNat_natCast, decide_true, decide_false, Bool.true_eq_false, Bool.false_eq_true, false_imp_iff, Nat.lt_irrefl, imp_self, implies_true,  gd_st hi, ln_st, hi]
      exact h))
    fun l j hj hl ih => .tree E_C22_ok (r20_Permute_renamed_L0_1_t _ _ _ _ _ _ _ _ _ _ _ _ _ _ _ _) (by
      have hj' : j < ln I l := by omega
      simp only [wp_iff, chk_iff, know_iff, any_iff, rt_iff, hd_iff, true_imp_iff, true_and, and_true, and_self, lt01, Int.ofNat_lt, Int.ofNat_le, Int.natCast_nonneg, Int.toNat_natCast, decide_true, decide_false, Bool.true_eq_false, Bool.false_eq_true, false_imp_iff, Nat.lt_irrefl, imp_self, implies_true,  gd_st hi, ln_st, hi, hj, hj', st_st, wrapS hj hB]
      exact ren_fin (P := fun y => Runs E_C22 (r20_Permute_renamed_L0_1 i K i (ln I B.1 : Nat) ((j + 1 : Nat) : Int) K i N J (st s_api_Block M i (y, B.2)) a b n0 n2 g1 g3) Q) id ih)
theorem p2 {y : List (Den s_api_Instr)} {X : Den s_api_Instr} {k : Nat} {N' J' : Int} (hi : i < ln s_api_Block M) (hk : k < ln s_api_Instr y) (hX : ln I X.2.2.2.1 < 9223372036854775807)
    (h : Runs E_C22 (r20_Permute_L4 K i N J N' (IntKind.wrap .i64 (J' + 1)) a b n0 n2 (st s_api_Block M i (B.1, st s_api_Instr y k (mapIn K X), B.2.2)) g1 g3) Q) :
    Runs E_C22 (r20_Permute_renamed_L0_2 i k K i k (ln I X.2.2.2.1 : Nat) 0 K i i k N J N' J' (st s_api_Block M i (B.1, st s_api_Instr y k X, B.2.2)) a b n0 n2 g1 g3) Q :=
  ren_loop K X.2.2.2.1 (fun x t => r20_Permute_renamed_L0_2 i k K i k (ln I X.2.2.2.1 : Nat) t K i i k N J N' J' (st s_api_Block M i (B.1, st s_api_Instr y k (X.1, X.2.1, X.2.2.1, x, X.2.2.2.2), B.2.2)) a b n0 n2 g1 g3)
    (.tree E_C22_ok (r20_Permute_renamed_L0_2_t _ _ _ _ _ _ _ _ _ _ _ _ _ _ _ _ _ _ _ _ _ _) (by
      simp only [wp_iff, chk_iff, know_iff, any_iff, rt_iff, hd_iff, true_imp_iff, true_and, and_true, and_self, lt01, Int.ofNat_lt, Int.ofNat_le, Int.natCast_nonneg, Int.toNat_natCast, decide_true, decide_false, Bool.true_eq_false, Bool.false_eq_true, false_imp_iff, Nat.lt_irrefl, imp_self, implies_true,  gd_st hi, gd_st hk, ln_st, hi, hk, st_st]
      unfold mapIn at h
      refine ⟨fun h1 => ⟨fun h2 => ?_, fun h2 => ?_⟩, fun h1 => ?_⟩
      · have e1 := of_decide_eq_true h1
        have e2 := of_decide_eq_true h2
        rw [rc_in (K := K) (r := z X.2.2.1) (by constructor <;> omega)] at h
        exact ⟨⟨e1, e2⟩, fun _ => h⟩
      · have e2 := of_decide_eq_false h2
        rw [rc_out (K := K) (r := z X.2.2.1) (Or.inr (by omega))] at h
        exact h
      · have e1 := of_decide_eq_false h1
        rw [rc_out (K := K) (r := z X.2.2.1) (Or.inl (by omega))] at h
        exact h))
    fun l j hj hl ih => .tree E_C22_ok (r20_Permute_renamed_L0_2_t _ _ _ _ _ _ _ _ _ _ _ _ _ _ _ _ _ _ _ _ _ _) (by
      have hj' : j < ln I l := by omega
      simp only [wp_iff, chk_iff, know_iff, any_iff, rt_iff, hd_iff, true_imp_iff, true_and, and_true, and_self, lt01, Int.ofNat_lt, Int.ofNat_le, Int.natCast_nonneg, Int.toNat_natCast, decide_true, decide_false, Bool.true_eq_false, Bool.false_eq_true, false_imp_iff, Nat.lt_irrefl, imp_self, implies_true,  gd_st hi, gd_st hk, ln_st, hi, hk, hj, hj', st_st, wrapS hj hX]
      exact ren_fin (P := fun u => Runs E_C22 (r20_Permute_renamed_L0_2 i k K i k (ln I X.2.2.2.1 : Nat) ((j + 1 : Nat) : Int) K i i k N J N' J' (st s_api_Block M i (B.1, st s_api_Instr y k (X.1, X.2.1, X.2.2.1, u, X.2.2.2.2), B.2.2)) a b n0 n2 g1 g3) Q) id ih)
theorem p3 (hi : i < ln s_api_Block M) (hB : ln I (tArgs B) < 9223372036854775807) (h : Runs E_C22 (r20_Permute_L6 K i N J (ln s_api_Edge (tSuc B) : Nat) 0 a b n0 n2 (st s_api_Block M i (B.1, B.2.1, (B.2.2.1.1, permL (tArgs B) K, B.2.2.1.2.2), B.2.2.2)) g1 g3) Q) :
    Runs E_C22 (r20_Permute_renamed_L0_3 i K i (ln I (tArgs B) : Nat) 0 K i N J (st s_api_Block M i B) a b n0 n2 g1 g3) Q :=
  ren_loop K (tArgs B) (fun x t => r20_Permute_renamed_L0_3 i K i (ln I (tArgs B) : Nat) t K i N J (st s_api_Block M i (B.1, B.2.1, (B.2.2.1.1, x, B.2.2.1.2.2), B.2.2.2)) a b n0 n2 g1 g3)
    (.tree E_C22_ok (r20_Permute_renamed_L0_3_t _ _ _ _ _ _ _ _ _ _ _ _ _ _ _ _) (by
      simp only [wp_iff, chk_iff, know_iff, any_iff, rt_iff, hd_iff, true_imp_iff, true_and, and_true, and_self, lt01, Int.ofNat_lt, Int.ofNat_le, Int.natCast_nonneg, Int.toNat_natCast, decide_true, decide_false, Bool.true_eq_false, Bool.false_eq_true, false_imp_iff, Nat.lt_irrefl, imp_self, implies_true,  gd_st hi, ln_st, hi]
      exact h))
    fun l j hj hl ih => .tree E_C22_ok (r20_Permute_renamed_L0_3_t _ _ _ _ _ _ _ _ _ _ _ _ _ _ _ _) (by
      have hj' : j < ln I l := by omega
      simp only [wp_iff, chk_iff, know_iff, any_iff, rt_iff, hd_iff, true_imp_iff, true_and, and_true, and_self, lt01, Int.ofNat_lt, Int.ofNat_le, Int.natCast_nonneg, Int.toNat_natCast, decide_true, decide_false, Bool.true_eq_false, Bool.false_eq_true, false_imp_iff, Nat.lt_irrefl, imp_self, implies_true,  gd_st hi, ln_st, hi, hj, hj', st_st, wrapS hj hB]
      exact ren_fin (P := fun y => Runs E_C22 (r20_Permute_renamed_L0_3 i K i (ln I (tArgs B) : Nat) ((j + 1 : Nat) : Int) K i N J (st s_api_Block M i (B.1, B.2.1, (B.2.2.1.1, y, B.2.2.1.2.2), B.2.2.2)) a b n0 n2 g1 g3) Q) id ih)
theorem p4 {y : List (Den s_api_Edge)} {X : Den s_api_Edge} {k : Nat} {N' J' : Int} {t0 t4 : Int} {t1 : List (Den I)} {t2 : List (Den (.int .i64))} {u : Den .unit} (hi : i < ln s_api_Block M) (hk : k < ln s_api_Edge y) (hX : ln I X.2.1 < 9223372036854775807)
    (h : Runs E_C22 (r20_Permute_L6 K i N J N' (IntKind.wrap .i64 (J' + 1)) a b n0 n2 (st s_api_Block M i (B.1, B.2.1, (t0, t1, t2, st s_api_Edge y k (mapEd K X), t4, u), B.2.2.2)) g1 g3) Q) :
    Runs E_C22 (r20_Permute_renamed_L0_4 i k K i k (ln I X.2.1 : Nat) 0 K i N J N' J' (st s_api_Block M i (B.1, B.2.1, (t0, t1, t2, st s_api_Edge y k X, t4, u), B.2.2.2)) a b n0 n2 g1 g3) Q :=
  ren_loop K X.2.1 (fun x t => r20_Permute_renamed_L0_4 i k K i k (ln I X.2.1 : Nat) t K i N J N' J' (st s_api_Block M i (B.1, B.2.1, (t0, t1, t2, st s_api_Edge y k (X.1, x, X.2.2), t4, u), B.2.2.2)) a b n0 n2 g1 g3)
    (.tree E_C22_ok (r20_Permute_renamed_L0_4_t _ _ _ _ _ _ _ _ _ _ _ _ _ _ _ _ _ _ _ _) (by
      simp only [wp_iff, chk_iff, know_iff, any_iff, rt_iff, hd_iff, true_imp_iff, true_and, and_true, and_self, lt01, Int.ofNat_lt, Int.ofNat_le, Int.natCast_nonneg, Int.toNat_natCast, decide_true, decide_false, Bool.true_eq_false, Bool.false_eq_true, false_imp_iff, Nat.lt_irrefl, imp_self, implies_true,  gd_st hi, gd_st hk, ln_st, hi, hk, st_st]
      exact h))
    fun l j hj hl ih => .tree E_C22_ok (r20_Permute_renamed_L0_4_t _ _ _ _ _ _ _ _ _ _ _ _ _ _ _ _ _ _ _ _) (by
      have hj' : j < ln I l := by omega
      simp only [wp_iff, chk_iff, know_iff, any_iff, rt_iff, hd_iff, true_imp_iff, true_and, and_true, and_self, lt01, Int.ofNat_lt, Int.ofNat_le, Int.natCast_nonneg, Int.toNat_natCast, decide_true, decide_false, Bool.true_eq_false, Bool.false_eq_true, false_imp_iff, Nat.lt_irrefl, imp_self, implies_true,  gd_st hi, gd_st hk, ln_st, hi, hk, hj, hj', st_st, wrapS hj hX]
      exact ren_fin (P := fun w => Runs E_C22 (r20_Permute_renamed_L0_4 i k K i k (ln I X.2.1 : Nat) ((j + 1 : Nat) : Int) K i N J N' J' (st s_api_Block M i (B.1, B.2.1, (t0, t1, t2, st s_api_Edge y k (X.1, w, X.2.2), t4, u), B.2.2.2)) a b n0 n2 g1 g3) Q) id ih)
theorem q4 {P : List (Den I)} (hi : i < ln s_api_Block M) (hB : ln s_api_Instr (bIns B) < 9223372036854775807) (hA : ∀ k, k < ln s_api_Instr (bIns B) → ln I (gd s_api_Instr (bIns B) k).2.2.2.1 < 9223372036854775807)
    (h : Runs E_C22 (r20_Permute_renamed_L0_3 i K i (ln I (tArgs B) : Nat) 0 K i N J (st s_api_Block M i (P, List.map (mapIn K) (bIns B), B.2.2)) a b n0 n2 g1 g3) Q) :
    ∀ k, k ≤ ln s_api_Instr (bIns B) → Runs E_C22 (r20_Permute_L4 K i N J (ln s_api_Instr (bIns B) : Nat) k a b n0 n2 (st s_api_Block M i (P, mapTo (S := s_api_Instr) (T := s_api_Instr) (mapIn K) idIn (bIns B) k, B.2.2)) g1 g3) Q :=
  up_ind (.tree E_C22_ok (r20_Permute_L4_t _ _ _ _ _ _ _ _ _ _ _ _ _) (by
    rw [mapTo_n]
    simp only [wp_iff, chk_iff, know_iff, any_iff, rt_iff, hd_iff, true_imp_iff, true_and, and_true, and_self, lt01, Int.ofNat_lt, Int.ofNat_le, Int.natCast_nonneg, Int.toNat_natCast, decide_true, decide_false, Bool.true_eq_false, Bool.false_eq_true, false_imp_iff, Nat.lt_irrefl, imp_self, implies_true,  gd_st hi, ln_st, hi, ln_map (S := s_api_Instr) (T := s_api_Instr)]
    exact h))
    fun k hk ihk => .tree E_C22_ok (r20_Permute_L4_t _ _ _ _ _ _ _ _ _ _ _ _ _) (by
      have hg : gd s_api_Instr (mapTo (S := s_api_Instr) (T := s_api_Instr) (mapIn K) idIn (bIns B) k) k = gd s_api_Instr (bIns B) k := mapTo_gd hk
      have e : st s_api_Instr (mapTo (S := s_api_Instr) (T := s_api_Instr) (mapIn K) idIn (bIns B) k) k (gd s_api_Instr (bIns B) k) = mapTo (S := s_api_Instr) (T := s_api_Instr) (mapIn K) idIn (bIns B) k := by
        have := st_gd (l := mapTo (S := s_api_Instr) (T := s_api_Instr) (mapIn K) idIn (bIns B) k) (i := k)
        rw [hg] at this
        exact this
      have := p2 (K := K) (a := a) (b := b) (n0 := n0) (n2 := n2) (g1 := g1) (g3 := g3) (Q := Q) (N := N) (J := J) (B := (P, mapTo (S := s_api_Instr) (T := s_api_Instr) (mapIn K) idIn (bIns B) k, B.2.2)) (y := mapTo (S := s_api_Instr) (T := s_api_Instr) (mapIn K) idIn (bIns B) k) (X := gd s_api_Instr (bIns B) k) (N' := (ln s_api_Instr (bIns B) : Nat)) (J' := (k : Nat)) hi (by rw [mapTo_len]; exact hk) (hA k hk) (by
        rw [wrapS hk hB, mapTo_st (S := s_api_Instr) (T := s_api_Instr) (f := mapIn K) (g := idIn) hk]
        exact ihk)
      rw [e] at this
      simp only [wp_iff, chk_iff, know_iff, any_iff, rt_iff, hd_iff, true_imp_iff, true_and, and_true, and_self, lt01, Int.ofNat_lt, Int.ofNat_le, Int.natCast_nonneg, Int.toNat_natCast, decide_true, decide_false, Bool.true_eq_false, Bool.false_eq_true, false_imp_iff, Nat.lt_irrefl, imp_self, implies_true,  gd_st hi, ln_st, hi, mapTo_len, hg, hk]
      exact this)
theorem q6 {P : List (Den I)} {Y : List (Den s_api_Instr)} {t0 t4 : Int} {t1 : List (Den I)} {t2 : List (Den (.int .i64))} {u v : Den .unit} {sc : List (Den s_api_Edge)} (hi : i < ln s_api_Block M) (hB : ln s_api_Edge sc < 9223372036854775807) (hA : ∀ k, k < ln s_api_Edge sc → ln I (gd s_api_Edge sc k).2.1 < 9223372036854775807)
    (h : Runs E_C22 (r20_Permute_L2 K N (IntKind.wrap .i64 (J + 1)) a b n0 n2 g1 g3 (st s_api_Block M i (P, Y, (t0, t1, t2, List.map (mapEd K) sc, t4, u), v))) Q) :
    ∀ k, k ≤ ln s_api_Edge sc → Runs E_C22 (r20_Permute_L6 K i N J (ln s_api_Edge sc : Nat) k a b n0 n2 (st s_api_Block M i (P, Y, (t0, t1, t2, mapTo (S := s_api_Edge) (T := s_api_Edge) (mapEd K) idEd sc k, t4, u), v)) g1 g3) Q :=
  up_ind (.tree E_C22_ok (r20_Permute_L6_t _ _ _ _ _ _ _ _ _ _ _ _ _) (by
    rw [mapTo_n]
    simp only [wp_iff, chk_iff, know_iff, any_iff, rt_iff, hd_iff, true_imp_iff, true_and, and_true, and_self, lt01, Int.ofNat_lt, Int.ofNat_le, Int.natCast_nonneg, Int.toNat_natCast, decide_true, decide_false, Bool.true_eq_false, Bool.false_eq_true, false_imp_iff, Nat.lt_irrefl, imp_self, implies_true,  gd_st hi, ln_st, hi]
    exact h))
    fun k hk ihk => .tree E_C22_ok (r20_Permute_L6_t _ _ _ _ _ _ _ _ _ _ _ _ _) (by
      have hg : gd s_api_Edge (mapTo (S := s_api_Edge) (T := s_api_Edge) (mapEd K) idEd sc k) k = gd s_api_Edge sc k := mapTo_gd hk
      have e : st s_api_Edge (mapTo (S := s_api_Edge) (T := s_api_Edge) (mapEd K) idEd sc k) k (gd s_api_Edge sc k) = mapTo (S := s_api_Edge) (T := s_api_Edge) (mapEd K) idEd sc k := by
        have := st_gd (l := mapTo (S := s_api_Edge) (T := s_api_Edge) (mapEd K) idEd sc k) (i := k)
        rw [hg] at this
        exact this
      have := p4 (K := K) (a := a) (b := b) (n0 := n0) (n2 := n2) (g1 := g1) (g3 := g3) (Q := Q) (N := N) (J := J) (t0 := t0) (t1 := t1) (t2 := t2) (t4 := t4) (u := u) (B := (P, Y, (t0, t1, t2, mapTo (S := s_api_Edge) (T := s_api_Edge) (mapEd K) idEd sc k, t4, u), v)) (y := mapTo (S := s_api_Edge) (T := s_api_Edge) (mapEd K) idEd sc k) (X := gd s_api_Edge sc k) (N' := (ln s_api_Edge sc : Nat)) (J' := (k : Nat)) hi (by rw [mapTo_len]; exact hk) (hA k hk) (by
        rw [wrapS hk hB, mapTo_st (S := s_api_Edge) (T := s_api_Edge) (f := mapEd K) (g := idEd) hk]
        exact ihk)
      rw [e] at this
      simp only [wp_iff, chk_iff, know_iff, any_iff, rt_iff, hd_iff, true_imp_iff, true_and, and_true, and_self, lt01, Int.ofNat_lt, Int.ofNat_le, Int.natCast_nonneg, Int.toNat_natCast, decide_true, decide_false, Bool.true_eq_false, Bool.false_eq_true, false_imp_iff, Nat.lt_irrefl, imp_self, implies_true,  gd_st hi, ln_st, hi, mapTo_len, hg, hk]
      exact this)
end
theorem q2 {K : List (Den I)} {n0 : ByteArray} {n2 : Int} {g1 g3 : List (Den I)} (l : List Blk) (ho : okB l) : ∀ i, i ≤ ln s_api_Block l → ∀ a b, Runs E_C22 (r20_Permute_L2 K (ln s_api_Block l : Nat) i a b n0 n2 g1 g3 (mapTo (S := s_api_Block) (T := s_api_Block) (mapBl K) idBk l i)) (fun x h => x = .tv s_api_Func (n0, g1, n2, g3, List.map (mapBl K) l, ()) ∧ h = []) :=
  up_ind (fun a b => .tree E_C22_ok (r20_Permute_L2_t _ _ _ _ _ _ _ _ _ _) (by
    rw [mapTo_n]
    simp only [wp_iff, chk_iff, know_iff, any_iff, rt_iff, hd_iff, true_imp_iff, true_and, and_true, and_self, lt01, Int.ofNat_lt, Int.ofNat_le, Int.natCast_nonneg, Int.toNat_natCast, decide_true, decide_false, Bool.true_eq_false, Bool.false_eq_true, false_imp_iff, Nat.lt_irrefl, imp_self, implies_true,  true_and]))
    fun i hi ih a b => .tree E_C22_ok (r20_Permute_L2_t _ _ _ _ _ _ _ _ _ _) (by
      have hg : gd s_api_Block (mapTo (S := s_api_Block) (T := s_api_Block) (mapBl K) idBk l i) i = gd s_api_Block l i := mapTo_gd hi
      have hi' : i < ln s_api_Block (mapTo (S := s_api_Block) (T := s_api_Block) (mapBl K) idBk l i) := by rw [mapTo_len]; exact hi
      have hb := ho.2 i hi
      have s6 := q6 (K := K) (a := a) (b := b) (n0 := n0) (n2 := n2) (g1 := g1) (g3 := g3) (M := mapTo (S := s_api_Block) (T := s_api_Block) (mapBl K) idBk l i) (i := i) (N := (ln s_api_Block l : Nat)) (J := (i : Nat)) (P := permL (gd s_api_Block l i).1 K) (Y := List.map (mapIn K) (bIns (gd s_api_Block l i))) (t0 := (gd s_api_Block l i).2.2.1.1) (t1 := permL (tArgs (gd s_api_Block l i)) K) (t2 := (gd s_api_Block l i).2.2.1.2.2.1) (t4 := (gd s_api_Block l i).2.2.1.2.2.2.2.1) (u := ()) (v := ()) (sc := tSuc (gd s_api_Block l i)) hi' (room_lt hb.2.2.1.2.2.2.1.1) (fun k hk => room_lt (ok_gd hb.2.2.1.2.2.2.1 hk).2.1.1) (by
        rw [wrapS hi (room_lt ho.1)]
        have := ih a b
        rw [← mapTo_st (S := s_api_Block) (T := s_api_Block) (f := mapBl K) (g := idBk) hi] at this
        exact this) 0 (Nat.zero_le _)
      rw [mapTo_0, map_idEd] at s6
      have s3 := p3 (K := K) (a := a) (b := b) (n0 := n0) (n2 := n2) (g1 := g1) (g3 := g3) (M := mapTo (S := s_api_Block) (T := s_api_Block) (mapBl K) idBk l i) (i := i) (N := (ln s_api_Block l : Nat)) (J := (i : Nat)) (B := (permL (gd s_api_Block l i).1 K, List.map (mapIn K) (bIns (gd s_api_Block l i)), (gd s_api_Block l i).2.2)) hi' (room_lt hb.2.2.1.2.1.1) s6
      have s4 := q4 (K := K) (a := a) (b := b) (n0 := n0) (n2 := n2) (g1 := g1) (g3 := g3) (M := mapTo (S := s_api_Block) (T := s_api_Block) (mapBl K) idBk l i) (i := i) (N := (ln s_api_Block l : Nat)) (J := (i : Nat)) (B := gd s_api_Block l i) hi' (room_lt hb.2.1.1) (fun k hk => room_lt (ok_gd hb.2.1 hk).2.2.2.1.1) s3 0 (Nat.zero_le _)
      rw [mapTo_0, map_idIn] at s4
      have s1 := p1 (K := K) (a := a) (b := b) (n0 := n0) (n2 := n2) (g1 := g1) (g3 := g3) (M := mapTo (S := s_api_Block) (T := s_api_Block) (mapBl K) idBk l i) (i := i) (N := (ln s_api_Block l : Nat)) (J := (i : Nat)) (B := gd s_api_Block l i) hi' (room_lt hb.1.1) s4
      have e := st_gd (l := mapTo (S := s_api_Block) (T := s_api_Block) (mapBl K) idBk l i) (i := i)
      rw [hg] at e
      rw [e] at s1
      simp only [wp_iff, chk_iff, know_iff, any_iff, rt_iff, hd_iff, true_imp_iff, true_and, and_true, and_self, lt01, Int.ofNat_lt, Int.ofNat_le, Int.natCast_nonneg, Int.toNat_natCast, decide_true, decide_false, Bool.true_eq_false, Bool.false_eq_true, false_imp_iff, Nat.lt_irrefl, imp_self, implies_true,  hi, mapTo_len, hg]
      exact s1)
theorem q0 {K : List (Den I)} {n0 : ByteArray} {n2 : Int} {g3 : List (Den I)} (L : List (Den I)) (hL : ln I L < 9223372036854775807) (l : List Blk) (ho : okB l) (a : ByteArray) (b : Int) : Runs E_C22 (r20_Permute_renamed_L0 K (ln I L : Nat) 0 K L a b n0 n2 g3 l) (fun x h => x = .tv s_api_Func (n0, permL L K, n2, g3, List.map (mapBl K) l, ()) ∧ h = []) :=
  ren_loop K L (fun x t => r20_Permute_renamed_L0 K (ln I L : Nat) t K x a b n0 n2 g3 l)
    (.tree E_C22_ok (r20_Permute_renamed_L0_t _ _ _ _ _ _ _ _ _ _ _) (by
      have := q2 (K := K) (n0 := n0) (n2 := n2) (g1 := permL L K) (g3 := g3) l ho 0 (Nat.zero_le _) a b
      rw [mapTo_0, map_idBk] at this
      simp only [wp_iff, chk_iff, know_iff, any_iff, rt_iff, hd_iff, true_imp_iff, true_and, and_true, and_self, lt01, Int.ofNat_lt, Int.ofNat_le, Int.natCast_nonneg, Int.toNat_natCast, decide_true, decide_false, Bool.true_eq_false, Bool.false_eq_true, false_imp_iff, Nat.lt_irrefl, imp_self, implies_true,  true_and]
      exact this))
    fun x j hj hl ih => .tree E_C22_ok (r20_Permute_renamed_L0_t _ _ _ _ _ _ _ _ _ _ _) (by
      have hj' : j < ln I x := by omega
      simp only [wp_iff, chk_iff, know_iff, any_iff, rt_iff, hd_iff, true_imp_iff, true_and, and_true, and_self, lt01, Int.ofNat_lt, Int.ofNat_le, Int.natCast_nonneg, Int.toNat_natCast, decide_true, decide_false, Bool.true_eq_false, Bool.false_eq_true, false_imp_iff, Nat.lt_irrefl, imp_self, implies_true,  hj, hj', wrapS hj hL]
      exact ren_fin (P := fun w => Runs E_C22 (r20_Permute_renamed_L0 K (ln I L : Nat) ((j + 1 : Nat) : Int) K w a b n0 n2 g3 l) _) id ih)
theorem qr (perm : List (Den I)) (l : List (Den I)) (hr : ln I l < 9223372036854775807) (hp : permB perm (ln I l : Int) = true) (n0 : ByteArray) (n2 : Int) (g1 : List (Den I)) (hg1 : ln I g1 < 9223372036854775807) (g4 : List (Den s_api_Block)) (h4 : okB g4) : ∀ i, i ≤ ln I l → ∀ (a : ByteArray) (b : Int) (acc : List (Den I)), ln I acc = ln I l → Runs E_C22 (r20_Permute_L0 perm l (ln I l : Nat) i a b n0 n2 g1 acc g4) (fun x h => x = .tv s_api_Func (n0, permL g1 perm, n2, regsGo (perm.drop i) (l.drop i) acc, List.map (mapBl perm) g4, ()) ∧ h = []) :=
  up_ind (fun a b acc _ => .tree E_C22_ok (r20_Permute_L0_t _ _ _ _ _ _ _ _ _ _ _) (by
    have hl := (permB_range hp).1
    have e : perm.drop (ln I l) = [] := List.drop_eq_nil_of_le (by show ln I perm ≤ _; omega)
    rw [drop_ln, e]
    simp only [wp_iff, chk_iff, know_iff, any_iff, rt_iff, hd_iff, true_imp_iff, true_and, and_true, and_self, lt01, Int.ofNat_lt, Int.ofNat_le, Int.natCast_nonneg, Int.toNat_natCast, decide_true, decide_false, Bool.true_eq_false, Bool.false_eq_true, false_imp_iff, Nat.lt_irrefl, imp_self, implies_true,  regsGo]
    exact q0 g1 hg1 g4 h4 a b))
    fun i hi ih a b acc ha => .tree E_C22_ok (r20_Permute_L0_t _ _ _ _ _ _ _ _ _ _ _) (by
      obtain ⟨hl, hrg⟩ := permB_range hp
      have hip : i < ln I perm := by omega
      have f1 := hrg i hip
      have f2 : 0 ≤ z (gd I perm i) ∧ z (gd I perm i) < (ln I acc : Int) := by rw [ha]; exact f1
      have f3 : (z (gd I perm i)).toNat < ln I acc := by omega
      have := ih a b (st I acc (z (gd I perm i)).toNat (gd I l i)) (by rw [ln_st]; exact ha)
      rw [drop_gd (l := perm) (i := i) hip, drop_gd (l := l) (i := i) hi, regsGo]
      simp only [wp_iff, chk_iff, know_iff, any_iff, rt_iff, hd_iff, true_imp_iff, true_and, and_true, and_self, lt01, Int.ofNat_lt, Int.ofNat_le, Int.natCast_nonneg, Int.toNat_natCast, decide_true, decide_false, Bool.true_eq_false, Bool.false_eq_true, false_imp_iff, Nat.lt_irrefl, imp_self, implies_true,  hi, hip, f2, f3, wrapS hi hr]
      exact this)
def k_r20_Permute : Con := con [.d s_api_Func, .d (.sl 8 I)] s_api_Func (fun x => True) fun x => permuteF x.1 x.2.1
theorem m_r20_Permute (f : Den s_api_Func) (perm : List (Den I)) (h_f : okD s_api_Func f) (h_perm : okD (.sl 8 I) perm) (hp : True) : Runs E_C22 (start E_C22 f_r20_Permute [(.tv s_api_Func f), (.tv (.sl 8 I) perm)]) (fun r_ h_ => r_ = (.tv s_api_Func (permuteF f perm)) ∧ h_ = []) := .tree E_C22_ok (r20_Permute_t f perm) (by
  unfold permuteF
  simp only [wp_iff, chk_iff, know_iff, any_iff, rt_iff, hd_iff, true_imp_iff, true_and, and_true, and_self, lt01]
  intro _
  refine ⟨fun h => ?_, fun h => ?_⟩
  · rw [if_neg (by simpa using h)]
    rfl
  · have hp' : permB perm (ln I f.2.2.2.1 : Int) = true := by simpa using h
    rw [if_pos hp']
    exact qr perm f.2.2.2.1 (room_lt h_f.2.2.2.1.1) hp' f.1 f.2.2.1 f.2.1 (room_lt h_f.2.1.1) _ (okB_of h_f) 0 (Nat.zero_le _) _ _ f.2.2.2.1 rfl)
theorem c_r20_Permute : SpecOK E_C22 f_r20_Permute k_r20_Permute.spec := spec_of fun x hx hp => ⟨rfl, m_r20_Permute x.1 x.2.1 hx.1 hx.2.1 hp⟩
def L_C22 : List (FuncId × FSpec) := [(f_r20_Permute, k_r20_Permute.spec)] ++ L_C21
theorem L_C22_ok : ∀ x ∈ L_C22, SpecOK (ctx []) x.1 x.2 := by
  unfold L_C22
  simp only [List.cons_append, List.nil_append, List.forall_mem_cons]
  exact ⟨c_r20_Permute, L_C21_ok⟩
end Burn.M27N
namespace Burn.M27N
open Go Go.BE Go.Proofs
set_option maxRecDepth 100000
set_option linter.unusedVariables false
set_option linter.unusedSimpArgs false
open Burn.Intn Burn.Ref
noncomputable abbrev E_A1 : Ctx := ctx L_C22
theorem E_A1_ok : EOK E_A1 := ctx_ok L_C22_ok
def cuts_A1 : CutL := []
def rets_A1 : FuncId → List (Option Fx)
  | _ => []
def H_A1 : Hints := { cut := cutOf cuts_A1, ret := rets_A1 }
theorem r01_Bits_t (t : Int) : run E_A1 H_A1 f_r01_Bits 3000 (start E_A1 f_r01_Bits [(vi t)]) = (cond (t == (1 : Int)) (rt (vi (1 : Int)) []) (cond (t == (2 : Int)) (rt (vi (8 : Int)) []) (cond (t == (3 : Int)) (rt (vi (32 : Int)) []) (cond (t == (4 : Int)) (rt (vi (64 : Int)) []) (rt (vi (0 : Int)) []))))) := by kernel_rfl
theorem intn_Bits_t (t : Int) : run E_A1 H_A1 f_intn_Bits 3000 (start E_A1 f_intn_Bits [(vi t)]) = (cond (decide (t < (0 : Int))) (rt (vi (0 : Int)) []) (cond (decide (t ≥ (5 : Int))) (rt (vi (0 : Int)) []) (.chk (0 ≤ t ∧ t < (5 : Nat)) (rt (vi (z (vget (dz I) 5 (((0 : Int), (1 : Int), (8 : Int), (32 : Int), (64 : Int), ())) ((t).toNat)))) [])))) := by kernel_rfl

def k_r01_Bits : Con := con [.d I] I (fun x => True) fun x => bitsZ x.1
theorem m_r01_Bits (t : Int) (h_t : okD I t) (hp : True) : Runs E_A1 (start E_A1 f_r01_Bits [(vi t)]) (fun r_ h_ => r_ = (vi (bitsZ t)) ∧ h_ = []) := .tree E_A1_ok (r01_Bits_t t) (by
  simp only [wp_iff, chk_iff, know_iff, any_iff, rt_iff, hd_iff, true_imp_iff, true_and, and_true, and_self, lt01,  bitsZ]
  grind)
theorem c_r01_Bits : SpecOK E_A1 f_r01_Bits k_r01_Bits.spec := spec_of fun x hx hp => ⟨rfl, m_r01_Bits x.1 hx.1 hp⟩

def k_intn_Bits : Con := con [.d I] I (fun x => True) fun x => bitsZ x.1
theorem m_intn_Bits (t : Int) (h_t : okD I t) (hp : True) : Runs E_A1 (start E_A1 f_intn_Bits [(vi t)]) (fun r_ h_ => r_ = (vi (bitsZ t)) ∧ h_ = []) := .tree E_A1_ok (intn_Bits_t t) (by
  simp only [wp_iff, chk_iff, know_iff, any_iff, rt_iff, hd_iff, true_imp_iff, true_and, and_true, and_self, lt01,  bitsZ, z]
  refine ⟨by grind, fun h1 => ⟨by grind, fun h2 => ⟨by grind, fun h3 => ?_⟩⟩⟩
  have : t = 0 ∨ t = 1 ∨ t = 2 ∨ t = 3 ∨ t = 4 := by omega
  rcases this with rfl | rfl | rfl | rfl | rfl <;> rfl)
theorem c_intn_Bits : SpecOK E_A1 f_intn_Bits k_intn_Bits.spec := spec_of fun x hx hp => ⟨rfl, m_intn_Bits x.1 hx.1 hp⟩
def L_A1 : List (FuncId × FSpec) := [(f_r01_Bits, k_r01_Bits.spec), (f_intn_Bits, k_intn_Bits.spec)] ++ L_C22
theorem L_A1_ok : ∀ x ∈ L_A1, SpecOK (ctx []) x.1 x.2 := by
  unfold L_A1
  simp only [List.cons_append, List.nil_append, List.forall_mem_cons]
  exact ⟨c_r01_Bits, c_intn_Bits, L_C22_ok⟩
end Burn.M27N
namespace Burn.M27N
open Go Go.BE Go.Proofs
set_option maxRecDepth 100000
set_option linter.unusedVariables false
set_option linter.unusedSimpArgs false
open Burn.Intn Burn.Ref
noncomputable abbrev E_A2 : Ctx := ctx L_A1
theorem E_A2_ok : EOK E_A2 := ctx_ok L_A1_ok
def cuts_A2 : CutL := []
def rets_A2 : FuncId → List (Option Fx)
  | _ => []
def H_A2 : Hints := { cut := cutOf cuts_A2, ret := rets_A2 }
theorem intn_Wrap_t (t : Int) (n : Int) : run E_A2 H_A2 f_intn_Wrap 3000 (start E_A2 f_intn_Wrap [(vi t), (vi n)]) = (.chk (True) (.know (okD (.int .i64) (bitsZ t)) (cond ((bitsZ t) == (0 : Int)) (rt (vi (0 : Int)) []) (cond ((bitsZ t) == (1 : Int)) (rt (vi (IntKind.wrap .i64 (bvand .i64 n (1 : Int)))) []) (.chk (0 ≤ (IntKind.wrap .i64 ((64 : Int) - (bitsZ t)))) (.chk (0 ≤ (IntKind.wrap .i64 ((64 : Int) - (bitsZ t)))) (rt (vi (Int.fdiv (IntKind.wrap .i64 (n * 2 ^ min ((IntKind.wrap .i64 ((64 : Int) - (bitsZ t)))).toNat (IntKind.bits .i64))) (2 ^ min ((IntKind.wrap .i64 ((64 : Int) - (bitsZ t)))).toNat (IntKind.bits .i64)))) []))))))) := by kernel_rfl
theorem r01_Unsigned_t (t : Int) (n : Int) : run E_A2 H_A2 f_r01_Unsigned 3000 (start E_A2 f_r01_Unsigned [(vi t), (vi n)]) = (.chk (True) (.know (okD (.int .i64) (bitsZ t)) (cond ((bitsZ t) == (1 : Int)) (.chk ((2 : Int) ≠ 0) (rt (aint .u64 (Int.tmod (IntKind.wrap .u64 n) (2 : Int))) [])) (cond ((bitsZ t) == (8 : Int)) (.chk ((256 : Int) ≠ 0) (rt (aint .u64 (Int.tmod (IntKind.wrap .u64 n) (256 : Int))) [])) (cond ((bitsZ t) == (32 : Int)) (.chk ((4294967296 : Int) ≠ 0) (rt (aint .u64 (Int.tmod (IntKind.wrap .u64 n) (4294967296 : Int))) [])) (cond ((bitsZ t) == (64 : Int)) (rt (aint .u64 (IntKind.wrap .u64 n)) []) (rt (aint .u64 (0 : Int)) []))))))) := by kernel_rfl
theorem b1 : bitsZ 1 = 1 := rfl
theorem b2 : bitsZ 2 = 8 := rfl
theorem b3 : bitsZ 3 = 32 := rfl
theorem b4 : bitsZ 4 = 64 := rfl
theorem u1 (n : Int) : unsZ 1 n = n % 2 := rfl
theorem u2 (n : Int) : unsZ 2 n = n % 256 := rfl
theorem u3 (n : Int) : unsZ 3 n = n % 4294967296 := rfl
theorem u4 (n : Int) : unsZ 4 n = n % 18446744073709551616 := rfl
theorem tmod_pos (n m : Int) (hm : 0 < m) : (n % 18446744073709551616).tmod m = n % 18446744073709551616 % m := by
  rw [Int.tmod_eq_emod_of_nonneg (Int.emod_nonneg _ (by decide))]

def k_intn_Wrap : Con := con [.d I, .d I] I (fun x => True) fun x => wrapZ x.1 x.2.1
theorem m_intn_Wrap (t : Int) (n : Int) (h_t : okD I t) (h_n : okD I n) (hp : True) : Runs E_A2 (start E_A2 f_intn_Wrap [(vi t), (vi n)]) (fun r_ h_ => r_ = (vi (wrapZ t n)) ∧ h_ = []) := .tree E_A2_ok (intn_Wrap_t t n) (by
  simp only [wp_iff, chk_iff, know_iff, any_iff, rt_iff, hd_iff, true_imp_iff, true_and, and_true, and_self, lt01,  z]
  rcases tcases t with rfl | rfl | rfl | rfl | h
  · have := and1 n
    rw [← wrap1] at this
    exact fun _ => ⟨fun h => absurd h (by decide), fun _ => ⟨fun _ => by rw [this], fun h => absurd h (by decide)⟩⟩
  · have := sh n 56 (.inl rfl)
    simp [b2, w64] at this ⊢
    exact fun _ => this
  · have := sh n 32 (.inr (.inl rfl))
    simp [b3, w64] at this ⊢
    exact fun _ => this
  · have := sh n 0 (.inr (.inr rfl))
    simp [b4, w64] at this ⊢
    exact fun _ => this
  · simp [other h, wrap_other h])
theorem c_intn_Wrap : SpecOK E_A2 f_intn_Wrap k_intn_Wrap.spec := spec_of fun x hx hp => ⟨rfl, m_intn_Wrap x.1 x.2.1 hx.1 hx.2.1 hp⟩

def k_r01_Unsigned : Con := con [.d I, .d I] (.int .u64) (fun x => True) fun x => unsZ x.1 x.2.1
theorem m_r01_Unsigned (t : Int) (n : Int) (h_t : okD I t) (h_n : okD I n) (hp : True) : Runs E_A2 (start E_A2 f_r01_Unsigned [(vi t), (vi n)]) (fun r_ h_ => r_ = (aint .u64 (unsZ t n)) ∧ h_ = []) := .tree E_A2_ok (r01_Unsigned_t t n) (by
  simp only [wp_iff, chk_iff, know_iff, any_iff, rt_iff, hd_iff, true_imp_iff, true_and, and_true, and_self, lt01,  z]
  rcases tcases t with rfl | rfl | rfl | rfl | h
  · simp [b1, u1, u64, tmod_pos]
  · simp [b2, u2, u64, tmod_pos]
  · simp [b3, u3, u64, tmod_pos]
  · simp [b4, u4, u64]
  · simp [other h, uns_other h])
theorem c_r01_Unsigned : SpecOK E_A2 f_r01_Unsigned k_r01_Unsigned.spec := spec_of fun x hx hp => ⟨rfl, m_r01_Unsigned x.1 x.2.1 hx.1 hx.2.1 hp⟩
def L_A2 : List (FuncId × FSpec) := [(f_intn_Wrap, k_intn_Wrap.spec), (f_r01_Unsigned, k_r01_Unsigned.spec)] ++ L_A1
theorem L_A2_ok : ∀ x ∈ L_A2, SpecOK (ctx []) x.1 x.2 := by
  unfold L_A2
  simp only [List.cons_append, List.nil_append, List.forall_mem_cons]
  exact ⟨c_intn_Wrap, c_r01_Unsigned, L_A1_ok⟩
end Burn.M27N
namespace Burn.M27N
open Go Go.BE Go.Proofs
set_option maxRecDepth 100000
set_option linter.unusedVariables false
set_option linter.unusedSimpArgs false
open Burn.Intn Burn.Ref
noncomputable abbrev E_A3 : Ctx := ctx L_A2
theorem E_A3_ok : EOK E_A3 := ctx_ok L_A2_ok
def cuts_A3 : CutL := []
def rets_A3 : FuncId → List (Option Fx)
  | 32 => [some (.dat s_alias_Base)]
  | 48 => [some (.dat s_alias_Base)]
  | 64 => [some (.dat s_alias_Base)]
  | 81 => [some (.dat s_alias_Base)]
  | _ => []
def H_A3 : Hints := { cut := cutOf cuts_A3, ret := rets_A3 }
theorem r01_Wrap_t (t : Int) (n : Int) : run E_A3 H_A3 f_r01_Wrap 3000 (start E_A3 f_r01_Wrap [(vi t), (vi n)]) = (.chk (True) (.know (okD (.int .u64) (unsZ t n)) (.chk (True) (.know (okD (.int .i64) (bitsZ t)) (cond ((bitsZ t) == (8 : Int)) (cond (decide ((unsZ t n) ≥ (128 : Int))) (rt (vi (IntKind.wrap .i64 ((IntKind.wrap .i64 (unsZ t n)) - (256 : Int)))) []) (rt (vi (IntKind.wrap .i64 (unsZ t n))) [])) (cond ((bitsZ t) == (32 : Int)) (cond (decide ((unsZ t n) ≥ (2147483648 : Int))) (rt (vi (IntKind.wrap .i64 ((IntKind.wrap .i64 (unsZ t n)) - (4294967296 : Int)))) []) (rt (vi (IntKind.wrap .i64 (unsZ t n))) [])) (rt (vi (IntKind.wrap .i64 (unsZ t n))) []))))))) := by kernel_rfl
theorem alias_arg_t (in_ : Den s_api_Instr) (i : Int) : run E_A3 H_A3 f_alias_arg 3000 (start E_A3 f_alias_arg [(.tv s_api_Instr in_), (vi i)]) = (cond (decide (i ≥ ((ln I in_.2.2.2.1) : Int))) (rt (vi (-1 : Int)) []) (.chk (0 ≤ i ∧ i < (ln I in_.2.2.2.1)) (rt (vi (z (gd I in_.2.2.2.1 ((i).toNat)))) []))) := by kernel_rfl
theorem alias_own_t (r : Int) : run E_A3 H_A3 f_alias_own 3000 (start E_A3 f_alias_own [(vi r)]) = (.chk ((0 : Nat) < (1 : Nat)) (.chk ((0 : Nat) < (1 : Nat)) (rt (.tv s_alias_Base ((3 : Int), r, (0 : Int), true, ())) []))) := by kernel_rfl
theorem alias_meet_t (r : Int) (a : Den s_alias_Base) (b : Den s_alias_Base) : run E_A3 H_A3 f_alias_meet 3000 (start E_A3 f_alias_meet [(vi r), (.tv s_alias_Base a), (.tv s_alias_Base b)]) = (cond ((z a.1) != (z b.1)) (.chk ((0 : Nat) < (1 : Nat)) (.chk ((0 : Nat) < (1 : Nat)) (.chk ((0 : Nat) < (1 : Nat)) (.chk ((0 : Nat) < (1 : Nat)) (rt (.tv s_alias_Base ((3 : Int), r, (0 : Int), true, ())) []))))) (cond ((z a.2.1) != (z b.2.1)) (.chk ((0 : Nat) < (1 : Nat)) (.chk ((0 : Nat) < (1 : Nat)) (.chk ((0 : Nat) < (1 : Nat)) (.chk ((0 : Nat) < (1 : Nat)) (rt (.tv s_alias_Base ((3 : Int), r, (0 : Int), true, ())) []))))) (cond (bOf a.2.2.2.1) (cond (bOf b.2.2.2.1) (cond ((z a.2.2.1) == (z b.2.2.1)) (.chk ((0 : Nat) < (1 : Nat)) (.chk ((0 : Nat) < (1 : Nat)) (rt (.tv s_alias_Base a) []))) (.chk ((0 : Nat) < (1 : Nat)) (.chk ((0 : Nat) < (1 : Nat)) (rt (.tv s_alias_Base (a.1, a.2.1, (0 : Int), false, ())) [])))) (.chk ((0 : Nat) < (1 : Nat)) (.chk ((0 : Nat) < (1 : Nat)) (rt (.tv s_alias_Base (a.1, a.2.1, (0 : Int), false, ())) [])))) (.chk ((0 : Nat) < (1 : Nat)) (.chk ((0 : Nat) < (1 : Nat)) (rt (.tv s_alias_Base (a.1, a.2.1, (0 : Int), false, ())) [])))))) := by kernel_rfl
theorem alias_solver_pointer_t (s : Den s_alias_solver) (r : Int) : run E_A3 H_A3 f_alias_solver_pointer 3000 (start E_A3 f_alias_solver_pointer [(.rtp s_alias_solver s), (vi r)]) = (cond (decide (r ≥ (0 : Int))) (cond (decide (r < ((ln I s.1.2.2.2.1) : Int))) (.chk (0 ≤ r ∧ r < (ln I s.1.2.2.2.1)) (rt (vb ((z (gd I s.1.2.2.2.1 ((r).toNat))) == (5 : Int))) [])) (rt (vb false) [])) (rt (vb false) [])) := by kernel_rfl
theorem alias_overlap_t (a : Int) (b : Int) (cellsA : Int) (cellsB : Int) : run E_A3 H_A3 f_alias_overlap 3000 (start E_A3 f_alias_overlap [(vi a), (vi b), (vi cellsA), (vi cellsB)]) = (cond (decide ((IntKind.wrap .u64 ((IntKind.wrap .u64 b) - (IntKind.wrap .u64 a))) < (IntKind.wrap .u64 cellsA))) (rt (vb true) []) (rt (vb (decide ((IntKind.wrap .u64 ((IntKind.wrap .u64 a) - (IntKind.wrap .u64 b))) < (IntKind.wrap .u64 cellsB)))) [])) := by kernel_rfl
theorem alias_kinds_t (a : Int) (b : Int) : run E_A3 H_A3 f_alias_kinds 3000 (start E_A3 f_alias_kinds [(vi a), (vi b)]) = (.chk ((0 : Nat) < (1 : Nat)) (.chk (0 ≤ a ∧ a < (4 : Nat)) (.chk (0 ≤ b ∧ b < (4 : Nat)) (.chk ((0 : Nat) < (1 : Nat)) (.chk ((a).toNat < 4) (.chk ((b).toNat < 4) (rt (vi (z (vget (dz I) 4 (vget (dz (.arr 4 I)) 4 (((0 : Int), ((0 : Int), ((0 : Int), ((0 : Int), ())))), (((0 : Int), ((1 : Int), ((1 : Int), ((2 : Int), ())))), (((0 : Int), ((1 : Int), ((1 : Int), ((0 : Int), ())))), (((0 : Int), ((2 : Int), ((0 : Int), ((2 : Int), ())))), ())))) ((a).toNat)) ((b).toNat)))) []))))))) := by kernel_rfl
theorem opcode_Access_t (t : Int) : run E_A3 H_A3 f_opcode_Access 3000 (start E_A3 f_opcode_Access [(vi t)]) = (cond (t == (2 : Int)) (rt (.tup [(vi t), (vi (1 : Int))]) []) (cond (t == (3 : Int)) (rt (.tup [(vi t), (vi (1 : Int))]) []) (cond (t == (4 : Int)) (rt (.tup [(vi t), (vi (1 : Int))]) []) (cond (t == (5 : Int)) (rt (.tup [(vi t), (vi (1 : Int))]) []) (cond (t == (6 : Int)) (rt (.tup [(vi (3 : Int)), (vi (2 : Int))]) []) (cond (t == (7 : Int)) (rt (.tup [(vi (3 : Int)), (vi (4 : Int))]) []) (rt (.tup [(vi (0 : Int)), (vi (0 : Int))]) []))))))) := by kernel_rfl
theorem r12_Access_t (t : Int) : run E_A3 H_A3 f_r12_Access 3000 (start E_A3 f_r12_Access [(vi t)]) = (cond (t == (2 : Int)) (rt (.tup [(vi t), (vi (1 : Int))]) []) (cond (t == (3 : Int)) (rt (.tup [(vi t), (vi (1 : Int))]) []) (cond (t == (4 : Int)) (rt (.tup [(vi t), (vi (1 : Int))]) []) (cond (t == (5 : Int)) (rt (.tup [(vi t), (vi (1 : Int))]) []) (cond (t == (6 : Int)) (rt (.tup [(vi (3 : Int)), (vi (2 : Int))]) []) (cond (t == (7 : Int)) (rt (.tup [(vi (3 : Int)), (vi (4 : Int))]) []) (rt (.tup [(vi (0 : Int)), (vi (0 : Int))]) []))))))) := by kernel_rfl
theorem r27_own_t (r : Int) : run E_A3 H_A3 f_r27_own 3000 (start E_A3 f_r27_own [(vi r)]) = (.chk ((0 : Nat) < (1 : Nat)) (.chk ((0 : Nat) < (1 : Nat)) (rt (.tv s_alias_Base ((3 : Int), r, (0 : Int), true, ())) []))) := by kernel_rfl
theorem r27_meet_t (r : Int) (a : Den s_alias_Base) (b : Den s_alias_Base) : run E_A3 H_A3 f_r27_meet 3000 (start E_A3 f_r27_meet [(vi r), (.tv s_alias_Base a), (.tv s_alias_Base b)]) = (cond ((z a.1) == (0 : Int)) (.chk ((0 : Nat) < (1 : Nat)) (.chk ((0 : Nat) < (1 : Nat)) (rt (.tv s_alias_Base b) []))) (cond ((z b.1) == (0 : Int)) (.chk ((0 : Nat) < (1 : Nat)) (.chk ((0 : Nat) < (1 : Nat)) (rt (.tv s_alias_Base a) []))) (cond ((z a.1) != (z b.1)) (.chk ((0 : Nat) < (1 : Nat)) (.chk ((0 : Nat) < (1 : Nat)) (.chk ((0 : Nat) < (1 : Nat)) (.chk ((0 : Nat) < (1 : Nat)) (rt (.tv s_alias_Base ((3 : Int), r, (0 : Int), true, ())) []))))) (cond ((z a.2.1) != (z b.2.1)) (.chk ((0 : Nat) < (1 : Nat)) (.chk ((0 : Nat) < (1 : Nat)) (.chk ((0 : Nat) < (1 : Nat)) (.chk ((0 : Nat) < (1 : Nat)) (rt (.tv s_alias_Base ((3 : Int), r, (0 : Int), true, ())) []))))) (cond (bOf a.2.2.2.1) (cond (bOf b.2.2.2.1) (cond ((z a.2.2.1) == (z b.2.2.1)) (.chk ((0 : Nat) < (1 : Nat)) (.chk ((0 : Nat) < (1 : Nat)) (rt (.tv s_alias_Base a) []))) (.chk ((0 : Nat) < (1 : Nat)) (.chk ((0 : Nat) < (1 : Nat)) (rt (.tv s_alias_Base (a.1, a.2.1, (0 : Int), false, ())) [])))) (.chk ((0 : Nat) < (1 : Nat)) (.chk ((0 : Nat) < (1 : Nat)) (rt (.tv s_alias_Base (a.1, a.2.1, (0 : Int), false, ())) [])))) (.chk ((0 : Nat) < (1 : Nat)) (.chk ((0 : Nat) < (1 : Nat)) (rt (.tv s_alias_Base (a.1, a.2.1, (0 : Int), false, ())) [])))))))) := by kernel_rfl
theorem r27_pointer_t (f : Den s_api_Func) (x : Int) : run E_A3 H_A3 f_r27_pointer 3000 (start E_A3 f_r27_pointer [(.tv s_api_Func f), (vi x)]) = (cond (decide (x ≥ (0 : Int))) (cond (decide (x < ((ln I f.2.2.2.1) : Int))) (.chk (0 ≤ x ∧ x < (ln I f.2.2.2.1)) (rt (vb ((z (gd I f.2.2.2.1 ((x).toNat))) == (5 : Int))) [])) (rt (vb false) [])) (rt (vb false) [])) := by kernel_rfl

def k_r01_Wrap : Con := con [.d I, .d I] I (fun x => True) fun x => wrapZ x.1 x.2.1
theorem m_r01_Wrap (t : Int) (n : Int) (h_t : okD I t) (h_n : okD I n) (hp : True) : Runs E_A3 (start E_A3 f_r01_Wrap [(vi t), (vi n)]) (fun r_ h_ => r_ = (vi (wrapZ t n)) ∧ h_ = []) := .tree E_A3_ok (r01_Wrap_t t n) (by
  simp only [wp_iff, chk_iff, know_iff, any_iff, rt_iff, hd_iff, true_imp_iff, true_and, and_true, and_self, lt01,  z]
  rcases tcases t with rfl | rfl | rfl | rfl | h
  · simp only [b1, u1, w64, wrap1]
    simp
    omega
  · simp only [b2, u2, w64, wrap2]
    simp
    omega
  · simp only [b3, u3, w64, wrap3]
    simp
    omega
  · simp only [b4, u4, w64, wrap4]
    simp
  · simp [other h, wrap_other h, uns_other h, w64])
theorem c_r01_Wrap : SpecOK E_A3 f_r01_Wrap k_r01_Wrap.spec := spec_of fun x hx hp => ⟨rfl, m_r01_Wrap x.1 x.2.1 hx.1 hx.2.1 hp⟩
def argP (in_ : Den s_api_Instr) (i : Int) : Int := (cond (decide (i ≥ ((ln I in_.2.2.2.1) : Int))) (-1 : Int) (z (gd I in_.2.2.2.1 ((i).toNat))))

def k_alias_arg : Con := con [.d s_api_Instr, .d I] I (fun x => 0 ≤ z x.2.1) fun x => argP x.1 x.2.1
theorem m_alias_arg (in_ : Den s_api_Instr) (i : Int) (h_in_ : okD s_api_Instr in_) (h_i : okD I i) (hp : 0 ≤ z i) : Runs E_A3 (start E_A3 f_alias_arg [(.tv s_api_Instr in_), (vi i)]) (fun r_ h_ => r_ = (vi (argP in_ i)) ∧ h_ = []) := .tree E_A3_ok (alias_arg_t in_ i) (by
  have hp_ := hp
  try simp only [z] at hp_
  refine wp_cond (fun h1 => ?_) (fun h1 => ?_)
  · have h1_ := of_decide_eq_true h1
    exact ⟨by simp only [argP, h1, cond_true, cond_false], rfl⟩
  · have h1_ := of_decide_eq_false h1
    refine ⟨by first | omega | assumption | exact hp.1 | exact hp.2 | exact hp.2.1 | (simp_all; done) | (simp_all; omega), fun _ => ?_⟩
    exact ⟨by simp only [argP, h1, cond_true, cond_false], rfl⟩)
theorem c_alias_arg : SpecOK E_A3 f_alias_arg k_alias_arg.spec := spec_of fun x hx hp => ⟨rfl, m_alias_arg x.1 x.2.1 hx.1 hx.2.1 hp⟩
def ownP (r : Int) : Den s_alias_Base := ((3 : Int), r, (0 : Int), true, ())

def k_alias_own : Con := con [.d I] s_alias_Base (fun x => True) fun x => ownP x.1
theorem m_alias_own (r : Int) (h_r : okD I r) (hp : True) : Runs E_A3 (start E_A3 f_alias_own [(vi r)]) (fun r_ h_ => r_ = (.tv s_alias_Base (ownP r)) ∧ h_ = []) := .tree E_A3_ok (alias_own_t r) (by
  refine ⟨Nat.zero_lt_one, fun _ => ?_⟩
  refine ⟨Nat.zero_lt_one, fun _ => ?_⟩
  exact ⟨by simp only [ownP, cond_true, cond_false], rfl⟩)
theorem c_alias_own : SpecOK E_A3 f_alias_own k_alias_own.spec := spec_of fun x hx hp => ⟨rfl, m_alias_own x.1 hx.1 hp⟩
def meetP (r : Int) (a : Den s_alias_Base) (b : Den s_alias_Base) : Den s_alias_Base := (cond ((z a.1) != (z b.1)) ((3 : Int), r, (0 : Int), true, ()) (cond ((z a.2.1) != (z b.2.1)) ((3 : Int), r, (0 : Int), true, ()) (cond (bOf a.2.2.2.1) (cond (bOf b.2.2.2.1) (cond ((z a.2.2.1) == (z b.2.2.1)) a (a.1, a.2.1, (0 : Int), false, ())) (a.1, a.2.1, (0 : Int), false, ())) (a.1, a.2.1, (0 : Int), false, ()))))

def k_alias_meet : Con := con [.d I, .d s_alias_Base, .d s_alias_Base] s_alias_Base (fun x => True) fun x => meetP x.1 x.2.1 x.2.2.1
theorem m_alias_meet (r : Int) (a : Den s_alias_Base) (b : Den s_alias_Base) (h_r : okD I r) (h_a : okD s_alias_Base a) (h_b : okD s_alias_Base b) (hp : True) : Runs E_A3 (start E_A3 f_alias_meet [(vi r), (.tv s_alias_Base a), (.tv s_alias_Base b)]) (fun r_ h_ => r_ = (.tv s_alias_Base (meetP r a b)) ∧ h_ = []) := .tree E_A3_ok (alias_meet_t r a b) (by
  refine wp_cond (fun h1 => ?_) (fun h1 => ?_)
  · have h1_ := bne_t h1
    refine ⟨Nat.zero_lt_one, fun _ => ?_⟩
    refine ⟨Nat.zero_lt_one, fun _ => ?_⟩
    refine ⟨Nat.zero_lt_one, fun _ => ?_⟩
    refine ⟨Nat.zero_lt_one, fun _ => ?_⟩
    exact ⟨by simp only [meetP, h1, cond_true, cond_false], rfl⟩
  · have h1_ := bne_f h1
    refine wp_cond (fun h2 => ?_) (fun h2 => ?_)
    · have h2_ := bne_t h2
      refine ⟨Nat.zero_lt_one, fun _ => ?_⟩
      refine ⟨Nat.zero_lt_one, fun _ => ?_⟩
      refine ⟨Nat.zero_lt_one, fun _ => ?_⟩
      refine ⟨Nat.zero_lt_one, fun _ => ?_⟩
      exact ⟨by simp only [meetP, h1, h2, cond_true, cond_false], rfl⟩
    · have h2_ := bne_f h2
      refine wp_cond (fun h3 => ?_) (fun h3 => ?_)
      · refine wp_cond (fun h4 => ?_) (fun h4 => ?_)
        · refine wp_cond (fun h5 => ?_) (fun h5 => ?_)
          · have h5_ := beq_t h5
            refine ⟨Nat.zero_lt_one, fun _ => ?_⟩
            refine ⟨Nat.zero_lt_one, fun _ => ?_⟩
            exact ⟨by simp only [meetP, h1, h2, h3, h4, h5, cond_true, cond_false], rfl⟩
          · have h5_ := beq_f h5
            refine ⟨Nat.zero_lt_one, fun _ => ?_⟩
            refine ⟨Nat.zero_lt_one, fun _ => ?_⟩
            exact ⟨by simp only [meetP, h1, h2, h3, h4, h5, cond_true, cond_false], rfl⟩
        · refine ⟨Nat.zero_lt_one, fun _ => ?_⟩
          refine ⟨Nat.zero_lt_one, fun _ => ?_⟩
          exact ⟨by simp only [meetP, h1, h2, h3, h4, cond_true, cond_false], rfl⟩
      · refine ⟨Nat.zero_lt_one, fun _ => ?_⟩
        refine ⟨Nat.zero_lt_one, fun _ => ?_⟩
        exact ⟨by simp only [meetP, h1, h2, h3, cond_true, cond_false], rfl⟩)
theorem c_alias_meet : SpecOK E_A3 f_alias_meet k_alias_meet.spec := spec_of fun x hx hp => ⟨rfl, m_alias_meet x.1 x.2.1 x.2.2.1 hx.1 hx.2.1 hx.2.2.1 hp⟩
def ptrP (s : Den s_alias_solver) (r : Int) : Bool := (cond (decide (r ≥ (0 : Int))) (cond (decide (r < ((ln I s.1.2.2.2.1) : Int))) ((z (gd I s.1.2.2.2.1 ((r).toNat))) == (5 : Int)) false) false)

def k_alias_solver_pointer : Con := con [.cap s_alias_solver, .d I] .bool (fun x => True) fun x => ptrP x.1 x.2.1
theorem m_alias_solver_pointer (s : Den s_alias_solver) (r : Int) (h_s : okD s_alias_solver s) (h_r : okD I r) (hp : True) : Runs E_A3 (start E_A3 f_alias_solver_pointer [(.rtp s_alias_solver s), (vi r)]) (fun r_ h_ => r_ = (vb (ptrP s r)) ∧ h_ = []) := .tree E_A3_ok (alias_solver_pointer_t s r) (by
  refine wp_cond (fun h1 => ?_) (fun h1 => ?_)
  · have h1_ := of_decide_eq_true h1
    refine wp_cond (fun h2 => ?_) (fun h2 => ?_)
    · have h2_ := of_decide_eq_true h2
      refine ⟨by first | omega | assumption | exact hp.1 | exact hp.2 | exact hp.2.1 | (simp_all; done) | (simp_all; omega), fun _ => ?_⟩
      exact ⟨by simp only [ptrP, h1, h2, cond_true, cond_false], rfl⟩
    · have h2_ := of_decide_eq_false h2
      exact ⟨by simp only [ptrP, h1, h2, cond_true, cond_false], rfl⟩
  · have h1_ := of_decide_eq_false h1
    exact ⟨by simp only [ptrP, h1, cond_true, cond_false], rfl⟩)
theorem c_alias_solver_pointer : SpecOK E_A3 f_alias_solver_pointer k_alias_solver_pointer.spec := spec_of fun x hx hp => ⟨rfl, m_alias_solver_pointer x.1 x.2.1 hx.1 hx.2.1 hp⟩
def overP (a : Int) (b : Int) (cellsA : Int) (cellsB : Int) : Bool := (cond (decide ((IntKind.wrap .u64 ((IntKind.wrap .u64 b) - (IntKind.wrap .u64 a))) < (IntKind.wrap .u64 cellsA))) true (decide ((IntKind.wrap .u64 ((IntKind.wrap .u64 a) - (IntKind.wrap .u64 b))) < (IntKind.wrap .u64 cellsB))))

def k_alias_overlap : Con := con [.d I, .d I, .d I, .d I] .bool (fun x => True) fun x => overP x.1 x.2.1 x.2.2.1 x.2.2.2.1
theorem m_alias_overlap (a : Int) (b : Int) (cellsA : Int) (cellsB : Int) (h_a : okD I a) (h_b : okD I b) (h_cellsA : okD I cellsA) (h_cellsB : okD I cellsB) (hp : True) : Runs E_A3 (start E_A3 f_alias_overlap [(vi a), (vi b), (vi cellsA), (vi cellsB)]) (fun r_ h_ => r_ = (vb (overP a b cellsA cellsB)) ∧ h_ = []) := .tree E_A3_ok (alias_overlap_t a b cellsA cellsB) (by
  refine wp_cond (fun h1 => ?_) (fun h1 => ?_)
  · have h1_ := of_decide_eq_true h1
    exact ⟨by simp only [overP, h1, cond_true, cond_false], rfl⟩
  · have h1_ := of_decide_eq_false h1
    exact ⟨by simp only [overP, h1, cond_true, cond_false], rfl⟩)
theorem c_alias_overlap : SpecOK E_A3 f_alias_overlap k_alias_overlap.spec := spec_of fun x hx hp => ⟨rfl, m_alias_overlap x.1 x.2.1 x.2.2.1 x.2.2.2.1 hx.1 hx.2.1 hx.2.2.1 hx.2.2.2.1 hp⟩
def kindsP (a : Int) (b : Int) : Int := (z (vget (dz I) 4 (vget (dz (.arr 4 I)) 4 (((0 : Int), ((0 : Int), ((0 : Int), ((0 : Int), ())))), (((0 : Int), ((1 : Int), ((1 : Int), ((2 : Int), ())))), (((0 : Int), ((1 : Int), ((1 : Int), ((0 : Int), ())))), (((0 : Int), ((2 : Int), ((0 : Int), ((2 : Int), ())))), ())))) ((a).toNat)) ((b).toNat)))

def k_alias_kinds : Con := con [.d I, .d I] I (fun x => (1 ≤ z x.1 ∧ z x.1 ≤ 3) ∧ 1 ≤ z x.2.1 ∧ z x.2.1 ≤ 3) fun x => kindsP x.1 x.2.1
theorem m_alias_kinds (a : Int) (b : Int) (h_a : okD I a) (h_b : okD I b) (hp : (1 ≤ z a ∧ z a ≤ 3) ∧ 1 ≤ z b ∧ z b ≤ 3) : Runs E_A3 (start E_A3 f_alias_kinds [(vi a), (vi b)]) (fun r_ h_ => r_ = (vi (kindsP a b)) ∧ h_ = []) := .tree E_A3_ok (alias_kinds_t a b) (by
  have hp_ := hp
  try simp only [z] at hp_
  refine ⟨Nat.zero_lt_one, fun _ => ?_⟩
  refine ⟨by first | omega | assumption | exact hp.1 | exact hp.2 | exact hp.2.1 | (simp_all; done) | (simp_all; omega), fun _ => ?_⟩
  refine ⟨by first | omega | assumption | exact hp.1 | exact hp.2 | exact hp.2.1 | (simp_all; done) | (simp_all; omega), fun _ => ?_⟩
  refine ⟨Nat.zero_lt_one, fun _ => ?_⟩
  refine ⟨by first | omega | assumption | exact hp.1 | exact hp.2 | exact hp.2.1 | (simp_all; done) | (simp_all; omega), fun _ => ?_⟩
  refine ⟨by first | omega | assumption | exact hp.1 | exact hp.2 | exact hp.2.1 | (simp_all; done) | (simp_all; omega), fun _ => ?_⟩
  exact ⟨by simp only [kindsP, cond_true, cond_false], rfl⟩)
theorem c_alias_kinds : SpecOK E_A3 f_alias_kinds k_alias_kinds.spec := spec_of fun x hx hp => ⟨rfl, m_alias_kinds x.1 x.2.1 hx.1 hx.2.1 hp⟩
def accP (t : Int) : Den I × Den I := (cond (t == (2 : Int)) (t, (1 : Int)) (cond (t == (3 : Int)) (t, (1 : Int)) (cond (t == (4 : Int)) (t, (1 : Int)) (cond (t == (5 : Int)) (t, (1 : Int)) (cond (t == (6 : Int)) ((3 : Int), (2 : Int)) (cond (t == (7 : Int)) ((3 : Int), (4 : Int)) ((0 : Int), (0 : Int))))))))

def k_opcode_Access : Con := conT2 [.d I] I I (fun x => True) fun x => accP x.1
theorem m_opcode_Access (t : Int) (h_t : okD I t) (hp : True) : Runs E_A3 (start E_A3 f_opcode_Access [(vi t)]) (fun r_ h_ => r_ = (.tup [(vi (z ((accP t).1))), (vi (z ((accP t).2)))]) ∧ h_ = []) := .tree E_A3_ok (opcode_Access_t t) (by
  refine wp_cond (fun h1 => ?_) (fun h1 => ?_)
  · have h1_ := beq_t h1
    exact ⟨by simp only [accP, h1, cond_true, cond_false], rfl⟩
  · have h1_ := beq_f h1
    refine wp_cond (fun h2 => ?_) (fun h2 => ?_)
    · have h2_ := beq_t h2
      exact ⟨by simp only [accP, h1, h2, cond_true, cond_false], rfl⟩
    · have h2_ := beq_f h2
      refine wp_cond (fun h3 => ?_) (fun h3 => ?_)
      · have h3_ := beq_t h3
        exact ⟨by simp only [accP, h1, h2, h3, cond_true, cond_false], rfl⟩
      · have h3_ := beq_f h3
        refine wp_cond (fun h4 => ?_) (fun h4 => ?_)
        · have h4_ := beq_t h4
          exact ⟨by simp only [accP, h1, h2, h3, h4, cond_true, cond_false], rfl⟩
        · have h4_ := beq_f h4
          refine wp_cond (fun h5 => ?_) (fun h5 => ?_)
          · have h5_ := beq_t h5
            exact ⟨by simp only [accP, h1, h2, h3, h4, h5, cond_true, cond_false], rfl⟩
          · have h5_ := beq_f h5
            refine wp_cond (fun h6 => ?_) (fun h6 => ?_)
            · have h6_ := beq_t h6
              exact ⟨by simp only [accP, h1, h2, h3, h4, h5, h6, cond_true, cond_false], rfl⟩
            · have h6_ := beq_f h6
              exact ⟨by simp only [accP, h1, h2, h3, h4, h5, h6, cond_true, cond_false], rfl⟩)
theorem c_opcode_Access : SpecOK E_A3 f_opcode_Access k_opcode_Access.spec := spec_of fun x hx hp => ⟨rfl, m_opcode_Access x.1 hx.1 hp⟩
def accR (t : Int) : Den I × Den I := (cond (t == (2 : Int)) (t, (1 : Int)) (cond (t == (3 : Int)) (t, (1 : Int)) (cond (t == (4 : Int)) (t, (1 : Int)) (cond (t == (5 : Int)) (t, (1 : Int)) (cond (t == (6 : Int)) ((3 : Int), (2 : Int)) (cond (t == (7 : Int)) ((3 : Int), (4 : Int)) ((0 : Int), (0 : Int))))))))

def k_r12_Access : Con := conT2 [.d I] I I (fun x => True) fun x => accR x.1
theorem m_r12_Access (t : Int) (h_t : okD I t) (hp : True) : Runs E_A3 (start E_A3 f_r12_Access [(vi t)]) (fun r_ h_ => r_ = (.tup [(vi (z ((accR t).1))), (vi (z ((accR t).2)))]) ∧ h_ = []) := .tree E_A3_ok (r12_Access_t t) (by
  refine wp_cond (fun h1 => ?_) (fun h1 => ?_)
  · have h1_ := beq_t h1
    exact ⟨by simp only [accR, h1, cond_true, cond_false], rfl⟩
  · have h1_ := beq_f h1
    refine wp_cond (fun h2 => ?_) (fun h2 => ?_)
    · have h2_ := beq_t h2
      exact ⟨by simp only [accR, h1, h2, cond_true, cond_false], rfl⟩
    · have h2_ := beq_f h2
      refine wp_cond (fun h3 => ?_) (fun h3 => ?_)
      · have h3_ := beq_t h3
        exact ⟨by simp only [accR, h1, h2, h3, cond_true, cond_false], rfl⟩
      · have h3_ := beq_f h3
        refine wp_cond (fun h4 => ?_) (fun h4 => ?_)
        · have h4_ := beq_t h4
          exact ⟨by simp only [accR, h1, h2, h3, h4, cond_true, cond_false], rfl⟩
        · have h4_ := beq_f h4
          refine wp_cond (fun h5 => ?_) (fun h5 => ?_)
          · have h5_ := beq_t h5
            exact ⟨by simp only [accR, h1, h2, h3, h4, h5, cond_true, cond_false], rfl⟩
          · have h5_ := beq_f h5
            refine wp_cond (fun h6 => ?_) (fun h6 => ?_)
            · have h6_ := beq_t h6
              exact ⟨by simp only [accR, h1, h2, h3, h4, h5, h6, cond_true, cond_false], rfl⟩
            · have h6_ := beq_f h6
              exact ⟨by simp only [accR, h1, h2, h3, h4, h5, h6, cond_true, cond_false], rfl⟩)
theorem c_r12_Access : SpecOK E_A3 f_r12_Access k_r12_Access.spec := spec_of fun x hx hp => ⟨rfl, m_r12_Access x.1 hx.1 hp⟩
def ownR (r : Int) : Den s_alias_Base := ((3 : Int), r, (0 : Int), true, ())

def k_r27_own : Con := con [.d I] s_alias_Base (fun x => True) fun x => ownR x.1
theorem m_r27_own (r : Int) (h_r : okD I r) (hp : True) : Runs E_A3 (start E_A3 f_r27_own [(vi r)]) (fun r_ h_ => r_ = (.tv s_alias_Base (ownR r)) ∧ h_ = []) := .tree E_A3_ok (r27_own_t r) (by
  refine ⟨Nat.zero_lt_one, fun _ => ?_⟩
  refine ⟨Nat.zero_lt_one, fun _ => ?_⟩
  exact ⟨by simp only [ownR, cond_true, cond_false], rfl⟩)
theorem c_r27_own : SpecOK E_A3 f_r27_own k_r27_own.spec := spec_of fun x hx hp => ⟨rfl, m_r27_own x.1 hx.1 hp⟩
def meetR (r : Int) (a : Den s_alias_Base) (b : Den s_alias_Base) : Den s_alias_Base := (cond ((z a.1) == (0 : Int)) b (cond ((z b.1) == (0 : Int)) a (cond ((z a.1) != (z b.1)) ((3 : Int), r, (0 : Int), true, ()) (cond ((z a.2.1) != (z b.2.1)) ((3 : Int), r, (0 : Int), true, ()) (cond (bOf a.2.2.2.1) (cond (bOf b.2.2.2.1) (cond ((z a.2.2.1) == (z b.2.2.1)) a (a.1, a.2.1, (0 : Int), false, ())) (a.1, a.2.1, (0 : Int), false, ())) (a.1, a.2.1, (0 : Int), false, ()))))))

def k_r27_meet : Con := con [.d I, .d s_alias_Base, .d s_alias_Base] s_alias_Base (fun x => True) fun x => meetR x.1 x.2.1 x.2.2.1
theorem m_r27_meet (r : Int) (a : Den s_alias_Base) (b : Den s_alias_Base) (h_r : okD I r) (h_a : okD s_alias_Base a) (h_b : okD s_alias_Base b) (hp : True) : Runs E_A3 (start E_A3 f_r27_meet [(vi r), (.tv s_alias_Base a), (.tv s_alias_Base b)]) (fun r_ h_ => r_ = (.tv s_alias_Base (meetR r a b)) ∧ h_ = []) := .tree E_A3_ok (r27_meet_t r a b) (by
  refine wp_cond (fun h1 => ?_) (fun h1 => ?_)
  · have h1_ := beq_t h1
    refine ⟨Nat.zero_lt_one, fun _ => ?_⟩
    refine ⟨Nat.zero_lt_one, fun _ => ?_⟩
    exact ⟨by simp only [meetR, h1, cond_true, cond_false], rfl⟩
  · have h1_ := beq_f h1
    refine wp_cond (fun h2 => ?_) (fun h2 => ?_)
    · have h2_ := beq_t h2
      refine ⟨Nat.zero_lt_one, fun _ => ?_⟩
      refine ⟨Nat.zero_lt_one, fun _ => ?_⟩
      exact ⟨by simp only [meetR, h1, h2, cond_true, cond_false], rfl⟩
    · have h2_ := beq_f h2
      refine wp_cond (fun h3 => ?_) (fun h3 => ?_)
      · have h3_ := bne_t h3
        refine ⟨Nat.zero_lt_one, fun _ => ?_⟩
        refine ⟨Nat.zero_lt_one, fun _ => ?_⟩
        refine ⟨Nat.zero_lt_one, fun _ => ?_⟩
        refine ⟨Nat.zero_lt_one, fun _ => ?_⟩
        exact ⟨by simp only [meetR, h1, h2, h3, cond_true, cond_false], rfl⟩
      · have h3_ := bne_f h3
        refine wp_cond (fun h4 => ?_) (fun h4 => ?_)
        · have h4_ := bne_t h4
          refine ⟨Nat.zero_lt_one, fun _ => ?_⟩
          refine ⟨Nat.zero_lt_one, fun _ => ?_⟩
          refine ⟨Nat.zero_lt_one, fun _ => ?_⟩
          refine ⟨Nat.zero_lt_one, fun _ => ?_⟩
          exact ⟨by simp only [meetR, h1, h2, h3, h4, cond_true, cond_false], rfl⟩
        · have h4_ := bne_f h4
          refine wp_cond (fun h5 => ?_) (fun h5 => ?_)
          · refine wp_cond (fun h6 => ?_) (fun h6 => ?_)
            · refine wp_cond (fun h7 => ?_) (fun h7 => ?_)
              · have h7_ := beq_t h7
                refine ⟨Nat.zero_lt_one, fun _ => ?_⟩
                refine ⟨Nat.zero_lt_one, fun _ => ?_⟩
                exact ⟨by simp only [meetR, h1, h2, h3, h4, h5, h6, h7, cond_true, cond_false], rfl⟩
              · have h7_ := beq_f h7
                refine ⟨Nat.zero_lt_one, fun _ => ?_⟩
                refine ⟨Nat.zero_lt_one, fun _ => ?_⟩
                exact ⟨by simp only [meetR, h1, h2, h3, h4, h5, h6, h7, cond_true, cond_false], rfl⟩
            · refine ⟨Nat.zero_lt_one, fun _ => ?_⟩
              refine ⟨Nat.zero_lt_one, fun _ => ?_⟩
              exact ⟨by simp only [meetR, h1, h2, h3, h4, h5, h6, cond_true, cond_false], rfl⟩
          · refine ⟨Nat.zero_lt_one, fun _ => ?_⟩
            refine ⟨Nat.zero_lt_one, fun _ => ?_⟩
            exact ⟨by simp only [meetR, h1, h2, h3, h4, h5, cond_true, cond_false], rfl⟩)
theorem c_r27_meet : SpecOK E_A3 f_r27_meet k_r27_meet.spec := spec_of fun x hx hp => ⟨rfl, m_r27_meet x.1 x.2.1 x.2.2.1 hx.1 hx.2.1 hx.2.2.1 hp⟩
def ptrR (f : Den s_api_Func) (x : Int) : Bool := (cond (decide (x ≥ (0 : Int))) (cond (decide (x < ((ln I f.2.2.2.1) : Int))) ((z (gd I f.2.2.2.1 ((x).toNat))) == (5 : Int)) false) false)

def k_r27_pointer : Con := con [.d s_api_Func, .d I] .bool (fun x => True) fun x => ptrR x.1 x.2.1
theorem m_r27_pointer (f : Den s_api_Func) (x : Int) (h_f : okD s_api_Func f) (h_x : okD I x) (hp : True) : Runs E_A3 (start E_A3 f_r27_pointer [(.tv s_api_Func f), (vi x)]) (fun r_ h_ => r_ = (vb (ptrR f x)) ∧ h_ = []) := .tree E_A3_ok (r27_pointer_t f x) (by
  refine wp_cond (fun h1 => ?_) (fun h1 => ?_)
  · have h1_ := of_decide_eq_true h1
    refine wp_cond (fun h2 => ?_) (fun h2 => ?_)
    · have h2_ := of_decide_eq_true h2
      refine ⟨by first | omega | assumption | exact hp.1 | exact hp.2 | exact hp.2.1 | (simp_all; done) | (simp_all; omega), fun _ => ?_⟩
      exact ⟨by simp only [ptrR, h1, h2, cond_true, cond_false], rfl⟩
    · have h2_ := of_decide_eq_false h2
      exact ⟨by simp only [ptrR, h1, h2, cond_true, cond_false], rfl⟩
  · have h1_ := of_decide_eq_false h1
    exact ⟨by simp only [ptrR, h1, cond_true, cond_false], rfl⟩)
theorem c_r27_pointer : SpecOK E_A3 f_r27_pointer k_r27_pointer.spec := spec_of fun x hx hp => ⟨rfl, m_r27_pointer x.1 x.2.1 hx.1 hx.2.1 hp⟩
def L_A3 : List (FuncId × FSpec) := [(f_r01_Wrap, k_r01_Wrap.spec), (f_alias_arg, k_alias_arg.spec), (f_alias_own, k_alias_own.spec), (f_alias_meet, k_alias_meet.spec), (f_alias_solver_pointer, k_alias_solver_pointer.spec), (f_alias_overlap, k_alias_overlap.spec), (f_alias_kinds, k_alias_kinds.spec), (f_opcode_Access, k_opcode_Access.spec), (f_r12_Access, k_r12_Access.spec), (f_r27_own, k_r27_own.spec), (f_r27_meet, k_r27_meet.spec), (f_r27_pointer, k_r27_pointer.spec)] ++ L_A2
theorem L_A3_ok : ∀ x ∈ L_A3, SpecOK (ctx []) x.1 x.2 := by
  unfold L_A3
  simp only [List.cons_append, List.nil_append, List.forall_mem_cons]
  exact ⟨c_r01_Wrap, c_alias_arg, c_alias_own, c_alias_meet, c_alias_solver_pointer, c_alias_overlap, c_alias_kinds, c_opcode_Access, c_r12_Access, c_r27_own, c_r27_meet, c_r27_pointer, L_A2_ok⟩
end Burn.M27N

/- What the functions that the law reaches compute, one contract each. No conditions beyond those written. -/
import Derived.Test.YtdbjmhlgbdeihaaDoorEngineC
import Derived.Test.YtdbjmhlgbdeihaaDoorProg
import Derived.KernelRfl
import Derived.Test.YtdbjmhlgbdeihaaDoorPlainA
namespace Burn.M27Q
open Go Go.BE Go.Proofs
set_option maxRecDepth 100000
abbrev s_runtime_boundsError : Sh := (.pair I (.pair I (.pair .bool (.pair (.int .u8) .unit))))
abbrev s_runtime_errorAddressString : Sh := (.pair .str (.pair (.int .u64) .unit))
abbrev s_api_Instr : Sh := (.pair I (.pair I (.pair I (.pair (.sl 8 I) (.pair I (.pair I (.pair I (.pair .bool .unit))))))))
abbrev s_api_Edge : Sh := (.pair I (.pair (.sl 8 I) .unit))
abbrev s_api_Terminator : Sh := (.pair I (.pair (.sl 8 I) (.pair (.sl 8 I) (.pair (.sl 32 s_api_Edge) (.pair I .unit)))))
abbrev s_api_Block : Sh := (.pair (.sl 8 I) (.pair (.sl 80 s_api_Instr) (.pair s_api_Terminator .unit)))
abbrev s_api_Func : Sh := (.pair .str (.pair (.sl 8 I) (.pair I (.pair (.sl 8 I) (.pair (.sl 136 s_api_Block) .unit)))))
abbrev s_alias_Base : Sh := (.pair I (.pair I (.pair I (.pair .bool .unit))))
abbrev s_api_Pos : Sh := (.pair I (.pair I .unit))
abbrev s_alias_solver : Sh := (.pair s_api_Func (.pair (.sl 24 (.sl 16 s_api_Pos)) (.pair (.sl 32 s_alias_Base) .unit)))
abbrev s_alias_escapes : Sh := (.pair s_api_Func (.pair (.sl 32 s_alias_Base) (.pair (.sl 1 .bool) .unit)))
def tyN : Nat := 154
def tyTr : Tr TI := (.node none (.node (some ⟨.other, 1, 8, [.nilFunc], none⟩) (.node (some ⟨.int .i64, 1, 8, [.int .i64 0], some I⟩) (.node (some ⟨.struct [⟨0, 1, false⟩, ⟨1, 1, false⟩, ⟨2, 1, false⟩, ⟨3, 1, false⟩], 4, 24, [.int .i64 0, .int .i64 0, .bool false, .int .u8 0], some s_runtime_boundsError⟩) (.node (some ⟨.ptr 139, 1, 8, [.pointer none], none⟩) (.node (some ⟨.other, 1, 8, [.nilFunc], none⟩) (.node (some ⟨.slice 34, 1, 24, [.slice none 0 0], some (.sl 32 s_alias_Base)⟩) (.node (some ⟨.other, 1, 8, [.nilFunc], none⟩) .leaf .leaf) .leaf) (.node (some ⟨.other, 1, 8, [.nilFunc], none⟩) .leaf .leaf)) (.node (some ⟨.other, 1, 8, [.nilFunc], none⟩) (.node (some ⟨.struct [⟨0, 1, false⟩, ⟨1, 1, false⟩, ⟨2, 1, false⟩, ⟨3, 1, false⟩, ⟨4, 1, false⟩], 5, 88, [.int .i64 0, .slice none 0 0, .slice none 0 0, .slice none 0 0, .int .i64 0], some s_api_Terminator⟩) (.node (some ⟨.other, 1, 8, [.nilFunc], none⟩) .leaf .leaf) .leaf) (.node (some ⟨.other, 1, 8, [.nilFunc], none⟩) .leaf .leaf))) (.node (some ⟨.int .i64, 1, 8, [.int .i64 0], some I⟩) (.node (some ⟨.other, 1, 8, [.nilFunc], none⟩) (.node (some ⟨.other, 1, 8, [.nilFunc], none⟩) (.node (some ⟨.slice 133, 1, 24, [.slice none 0 0], some (.sl 8 (.ptr I))⟩) .leaf .leaf) .leaf) (.node (some ⟨.ptr 105, 1, 8, [.pointer none], some (.ptr s_alias_escapes)⟩) .leaf .leaf)) (.node (some ⟨.other, 1, 8, [.nilFunc], none⟩) (.node (some ⟨.struct [⟨0, 1, false⟩, ⟨1, 1, false⟩], 2, 32, [.int .i64 0, .slice none 0 0], some s_api_Edge⟩) (.node (some ⟨.struct [⟨0, 1, false⟩, ⟨1, 1, false⟩, ⟨2, 1, false⟩, ⟨3, 1, false⟩, ⟨4, 1, false⟩, ⟨5, 1, false⟩, ⟨6, 1, false⟩, ⟨7, 1, false⟩, ⟨8, 1, false⟩, ⟨9, 1, false⟩, ⟨10, 1, false⟩], 11, 48, [.int .u64 0, .int .u64 0, .int .u32 0, .int .u8 0, .int .u8 0, .int .u8 0, .int .u8 0, .nilFunc, .pointer none, .int .i32 0, .int .i32 0], none⟩) .leaf .leaf) .leaf) (.node (some ⟨.other, 1, 8, [.nilFunc], none⟩) .leaf .leaf)))) (.node (some ⟨.str, 1, 16, [.string ⟨#[]⟩], some .str⟩) (.node (some ⟨.struct [⟨0, 1, false⟩], 1, 8, [.pointer none], none⟩) (.node (some ⟨.other, 1, 8, [.nilFunc], none⟩) (.node (some ⟨.other, 1, 8, [.nilFunc], none⟩) (.node (some ⟨.other, 1, 8, [.nilFunc], none⟩) .leaf .leaf) .leaf) (.node (some ⟨.other, 1, 8, [.nilFunc], none⟩) .leaf .leaf)) (.node (some ⟨.other, 1, 8, [.nilFunc], none⟩) (.node (some ⟨.ptr 85, 1, 8, [.pointer none], some (.ptr s_api_Instr)⟩) (.node (some ⟨.other, 1, 8, [.nilFunc], none⟩) .leaf .leaf) .leaf) (.node (some ⟨.other, 1, 8, [.nilFunc], none⟩) .leaf .leaf))) (.node (some ⟨.struct [⟨0, 1, false⟩, ⟨1, 1, false⟩, ⟨2, 1, false⟩, ⟨3, 1, false⟩, ⟨4, 1, false⟩], 5, 96, [.string ⟨#[]⟩, .slice none 0 0, .int .i64 0, .slice none 0 0, .slice none 0 0], some s_api_Func⟩) (.node (some ⟨.other, 1, 8, [.nilFunc], none⟩) (.node (some ⟨.ptr 82, 1, 8, [.pointer none], some (.ptr s_api_Block)⟩) (.node (some ⟨.struct [⟨0, 1, false⟩, ⟨1, 1, false⟩, ⟨2, 1, false⟩, ⟨3, 1, false⟩], 4, 40, [.pointer none, .pointer none, .pointer none, .string ⟨#[]⟩], none⟩) .leaf .leaf) .leaf) (.node (some ⟨.other, 1, 8, [.nilFunc], none⟩) .leaf .leaf)) (.node none (.node (some ⟨.other, 1, 8, [.nilFunc], none⟩) .leaf .leaf) (.node (some ⟨.other, 1, 8, [.nilFunc], none⟩) .leaf .leaf))))) (.node (some ⟨.int .u8, 1, 1, [.int .u8 0], some (.int .u8)⟩) (.node (some ⟨.str, 1, 16, [.string ⟨#[]⟩], some .str⟩) (.node (some ⟨.ptr 152, 1, 8, [.pointer none], none⟩) (.node (some ⟨.other, 1, 8, [.nilFunc], none⟩) (.node (some ⟨.ptr 69, 1, 8, [.pointer none], some (.ptr s_alias_solver)⟩) (.node (some ⟨.other, 1, 8, [.nilFunc], none⟩) .leaf .leaf) .leaf) (.node (some ⟨.other, 1, 8, [.nilFunc], none⟩) .leaf .leaf)) (.node (some ⟨.other, 1, 8, [.nilFunc], none⟩) (.node (some ⟨.struct [⟨0, 1, false⟩, ⟨1, 1, false⟩, ⟨2, 5, true⟩], 7, 136, [.slice none 0 0, .slice none 0 0, .int .i64 0, .slice none 0 0, .slice none 0 0, .slice none 0 0, .int .i64 0], some s_api_Block⟩) (.node (some ⟨.int .u8, 1, 1, [.int .u8 0], some (.int .u8)⟩) .leaf .leaf) .leaf) (.node (some ⟨.other, 1, 8, [.nilFunc], none⟩) .leaf .leaf))) (.node (some ⟨.slice 82, 1, 24, [.slice none 0 0], some (.sl 136 s_api_Block)⟩) (.node (some ⟨.int .i8, 1, 1, [.int .i8 0], some (.int .i8)⟩) (.node (some ⟨.other, 1, 8, [.nilFunc], none⟩) (.node (some ⟨.other, 1, 8, [.nilFunc], none⟩) .leaf .leaf) .leaf) (.node (some ⟨.struct [⟨0, 5, true⟩, ⟨5, 1, false⟩, ⟨6, 1, false⟩], 7, 144, [.string ⟨#[]⟩, .slice none 0 0, .int .i64 0, .slice none 0 0, .slice none 0 0, .slice none 0 0, .slice none 0 0], some s_alias_escapes⟩) .leaf .leaf)) (.node none (.node (some ⟨.arr 4 88, 16, 128, [.int .i64 0, .int .i64 0, .int .i64 0, .int .i64 0, .int .i64 0, .int .i64 0, .int .i64 0, .int .i64 0, .int .i64 0, .int .i64 0, .int .i64 0, .int .i64 0, .int .i64 0, .int .i64 0, .int .i64 0, .int .i64 0], some (.arr 4 (.arr 4 I))⟩) (.node (some ⟨.other, 1, 8, [.pointer none], none⟩) .leaf .leaf) .leaf) (.node (some ⟨.other, 1, 8, [.nilFunc], none⟩) .leaf .leaf)))) (.node (some ⟨.struct [⟨0, 1, false⟩, ⟨1, 1, false⟩], 2, 24, [.string ⟨#[]⟩, .int .u64 0], some s_runtime_errorAddressString⟩) (.node (some ⟨.int .i32, 1, 4, [.int .i32 0], some (.int .i32)⟩) (.node (some ⟨.struct [⟨0, 1, false⟩, ⟨1, 1, false⟩], 2, 16, [.int .i64 0, .int .i64 0], some s_api_Pos⟩) (.node (some ⟨.struct [⟨0, 5, true⟩, ⟨5, 1, false⟩, ⟨6, 1, false⟩], 7, 144, [.string ⟨#[]⟩, .slice none 0 0, .int .i64 0, .slice none 0 0, .slice none 0 0, .slice none 0 0, .slice none 0 0], some s_alias_solver⟩) (.node (some ⟨.ptr 2, 1, 8, [.pointer none], some (.ptr I)⟩) .leaf .leaf) .leaf) (.node (some ⟨.other, 1, 8, [.nilFunc], none⟩) .leaf .leaf)) (.node (some ⟨.other, 1, 8, [.nilFunc], none⟩) (.node (some ⟨.struct [⟨0, 1, false⟩, ⟨1, 1, false⟩, ⟨2, 1, false⟩, ⟨3, 1, false⟩, ⟨4, 1, false⟩, ⟨5, 1, false⟩, ⟨6, 1, false⟩, ⟨7, 1, false⟩], 8, 80, [.int .i64 0, .int .i64 0, .int .i64 0, .slice none 0 0, .int .i64 0, .int .i64 0, .int .i64 0, .bool false], some s_api_Instr⟩) (.node (some ⟨.int .i32, 1, 4, [.int .i32 0], some (.int .i32)⟩) .leaf .leaf) .leaf) (.node none .leaf .leaf))) (.node (some ⟨.struct [⟨0, 1, false⟩, ⟨1, 1, false⟩, ⟨2, 1, false⟩, ⟨3, 1, false⟩], 4, 32, [.int .i64 0, .int .i64 0, .int .i64 0, .bool false], some s_alias_Base⟩) (.node (some ⟨.slice 29, 1, 24, [.slice none 0 0], some (.sl 32 s_alias_Base)⟩) (.node (some ⟨.slice 2, 1, 24, [.slice none 0 0], some (.sl 8 I)⟩) (.node (some ⟨.struct [⟨0, 0, true⟩], 0, 0, [], none⟩) .leaf .leaf) .leaf) (.node none .leaf .leaf)) (.node none (.node (some ⟨.other, 1, 8, [.nilFunc], none⟩) .leaf .leaf) (.node (some ⟨.other, 1, 8, [.nilFunc], none⟩) .leaf .leaf)))))) (.node (some ⟨.int .i64, 1, 8, [.int .i64 0], some I⟩) (.node (some ⟨.bool, 1, 1, [.bool false], some .bool⟩) (.node (some ⟨.struct [⟨0, 1, false⟩, ⟨1, 1, false⟩, ⟨2, 1, false⟩, ⟨3, 1, false⟩], 4, 24, [.int .i64 0, .int .i64 0, .bool false, .int .u8 0], some s_runtime_boundsError⟩) (.node (some ⟨.ptr 142, 1, 8, [.pointer none], none⟩) (.node (some ⟨.other, 1, 8, [.nilFunc], none⟩) (.node (some ⟨.other, 1, 8, [.nilFunc], none⟩) (.node (some ⟨.other, 1, 8, [.nilFunc], none⟩) .leaf .leaf) .leaf) (.node (some ⟨.other, 1, 8, [.nilFunc], none⟩) .leaf .leaf)) (.node (some ⟨.other, 1, 8, [.nilFunc], none⟩) (.node (some ⟨.struct [⟨0, 1, false⟩, ⟨1, 1, false⟩, ⟨2, 1, false⟩, ⟨3, 1, false⟩, ⟨4, 1, false⟩], 5, 88, [.int .i64 0, .slice none 0 0, .slice none 0 0, .slice none 0 0, .int .i64 0], some s_api_Terminator⟩) (.node (some ⟨.int .u32, 1, 4, [.int .u32 0], some (.int .u32)⟩) .leaf .leaf) .leaf) (.node (some ⟨.other, 1, 8, [.nilFunc], none⟩) .leaf .leaf))) (.node (some ⟨.slice 23, 1, 24, [.slice none 0 0], some (.sl 8 I)⟩) (.node (some ⟨.other, 1, 8, [.nilFunc], none⟩) (.node (some ⟨.other, 1, 8, [.nilFunc], none⟩) (.node (some ⟨.arr 5 3, 5, 40, [.int .i64 0, .int .i64 0, .int .i64 0, .int .i64 0, .int .i64 0], some (.arr 5 I)⟩) .leaf .leaf) .leaf) (.node (some ⟨.struct [⟨0, 5, true⟩, ⟨5, 1, false⟩, ⟨6, 1, false⟩], 7, 144, [.string ⟨#[]⟩, .slice none 0 0, .int .i64 0, .slice none 0 0, .slice none 0 0, .slice none 0 0, .slice none 0 0], some s_alias_escapes⟩) .leaf .leaf)) (.node (some ⟨.other, 1, 8, [.nilFunc], none⟩) (.node (some ⟨.arr 4 3, 4, 32, [.int .i64 0, .int .i64 0, .int .i64 0, .int .i64 0], some (.arr 4 I)⟩) (.node (some ⟨.struct [⟨0, 1, false⟩, ⟨1, 1, false⟩, ⟨2, 1, false⟩, ⟨3, 1, false⟩, ⟨4, 1, false⟩, ⟨5, 1, false⟩, ⟨6, 1, false⟩, ⟨7, 1, false⟩, ⟨8, 1, false⟩, ⟨9, 1, false⟩, ⟨10, 1, false⟩], 11, 48, [.int .u64 0, .int .u64 0, .int .u32 0, .int .u8 0, .int .u8 0, .int .u8 0, .int .u8 0, .nilFunc, .pointer none, .int .i32 0, .int .i32 0], none⟩) .leaf .leaf) .leaf) (.node (some ⟨.other, 1, 8, [.nilFunc], none⟩) .leaf .leaf)))) (.node (some ⟨.int .u64, 1, 8, [.int .u64 0], some (.int .u64)⟩) (.node (some ⟨.other, 1, 16, [.nilIface], none⟩) (.node (some ⟨.other, 1, 8, [.nilFunc], none⟩) (.node (some ⟨.struct [⟨0, 5, true⟩, ⟨5, 1, false⟩, ⟨6, 1, false⟩], 7, 144, [.string ⟨#[]⟩, .slice none 0 0, .int .i64 0, .slice none 0 0, .slice none 0 0, .slice none 0 0, .slice none 0 0], some s_alias_solver⟩) (.node (some ⟨.other, 1, 8, [.nilFunc], none⟩) .leaf .leaf) .leaf) (.node (some ⟨.other, 1, 8, [.nilFunc], none⟩) .leaf .leaf)) (.node (some ⟨.other, 1, 8, [.nilFunc], none⟩) (.node (some ⟨.struct [⟨0, 1, false⟩, ⟨1, 1, false⟩, ⟨2, 1, false⟩, ⟨3, 1, false⟩, ⟨4, 1, false⟩, ⟨5, 1, false⟩, ⟨6, 1, false⟩, ⟨7, 1, false⟩], 8, 80, [.int .i64 0, .int .i64 0, .int .i64 0, .slice none 0 0, .int .i64 0, .int .i64 0, .int .i64 0, .bool false], some s_api_Instr⟩) (.node (some ⟨.ptr 5, 1, 8, [.pointer none], some (.ptr (.int .u8))⟩) .leaf .leaf) .leaf) (.node (some ⟨.other, 1, 8, [.nilFunc], none⟩) .leaf .leaf))) (.node (some ⟨.struct [⟨0, 1, false⟩, ⟨1, 1, false⟩, ⟨2, 1, false⟩, ⟨3, 1, false⟩], 4, 32, [.int .i64 0, .int .i64 0, .int .i64 0, .bool false], some s_alias_Base⟩) (.node (some ⟨.slice 4, 1, 24, [.slice none 0 0], some (.sl 1 .bool)⟩) (.node (some ⟨.slice 85, 1, 24, [.slice none 0 0], some (.sl 80 s_api_Instr)⟩) (.node (some ⟨.arr 0 16, 0, 0, [], none⟩) .leaf .leaf) .leaf) (.node (some ⟨.other, 1, 8, [.nilFunc], none⟩) .leaf .leaf)) (.node (some ⟨.other, 1, 8, [.nilFunc], none⟩) (.node (some ⟨.other, 1, 8, [.nilFunc], none⟩) .leaf .leaf) (.node (some ⟨.other, 1, 8, [.nilFunc], none⟩) .leaf .leaf))))) (.node (some ⟨.int .u8, 1, 1, [.int .u8 0], some (.int .u8)⟩) (.node (some ⟨.str, 1, 16, [.string ⟨#[]⟩], some .str⟩) (.node (some ⟨.struct [⟨0, 1, false⟩], 1, 8, [.pointer none], none⟩) (.node (some ⟨.struct [⟨0, 1, false⟩, ⟨1, 1, false⟩, ⟨2, 1, false⟩, ⟨3, 1, false⟩], 4, 32, [.int .i64 0, .int .i64 0, .int .i64 0, .bool false], some s_alias_Base⟩) (.node (some ⟨.slice 102, 1, 24, [.slice none 0 0], some (.sl 24 (.sl 16 s_api_Pos))⟩) (.node (some ⟨.other, 1, 8, [.nilFunc], none⟩) .leaf .leaf) .leaf) (.node (some ⟨.other, 1, 8, [.nilFunc], none⟩) .leaf .leaf)) (.node (some ⟨.other, 1, 8, [.nilFunc], none⟩) (.node (some ⟨.struct [⟨0, 1, false⟩, ⟨1, 1, false⟩, ⟨2, 5, true⟩], 7, 136, [.slice none 0 0, .slice none 0 0, .int .i64 0, .slice none 0 0, .slice none 0 0, .slice none 0 0, .int .i64 0], some s_api_Block⟩) (.node (some ⟨.int .u8, 1, 1, [.int .u8 0], some (.int .u8)⟩) .leaf .leaf) .leaf) (.node (some ⟨.other, 1, 8, [.nilFunc], none⟩) .leaf .leaf))) (.node (some ⟨.struct [⟨0, 1, false⟩, ⟨1, 1, false⟩, ⟨2, 1, false⟩, ⟨3, 1, false⟩, ⟨4, 1, false⟩], 5, 96, [.string ⟨#[]⟩, .slice none 0 0, .int .i64 0, .slice none 0 0, .slice none 0 0], some s_api_Func⟩) (.node (some ⟨.int .u64, 1, 8, [.int .u64 0], some (.int .u64)⟩) (.node (some ⟨.other, 1, 8, [.nilFunc], none⟩) (.node (some ⟨.struct [⟨0, 1, false⟩, ⟨1, 1, false⟩, ⟨2, 1, false⟩, ⟨3, 1, false⟩], 4, 40, [.pointer none, .pointer none, .pointer none, .string ⟨#[]⟩], none⟩) .leaf .leaf) .leaf) (.node (some ⟨.other, 1, 8, [.nilFunc], none⟩) .leaf .leaf)) (.node (some ⟨.other, 1, 8, [.nilFunc], none⟩) (.node (some ⟨.other, 1, 8, [.nilFunc], none⟩) .leaf .leaf) (.node (some ⟨.other, 1, 8, [.nilFunc], none⟩) .leaf .leaf)))) (.node (some ⟨.struct [⟨0, 1, false⟩, ⟨1, 1, false⟩], 2, 24, [.string ⟨#[]⟩, .int .u64 0], some s_runtime_errorAddressString⟩) (.node (some ⟨.slice 3, 1, 24, [.slice none 0 0], some (.sl 8 I)⟩) (.node (some ⟨.struct [⟨0, 1, false⟩, ⟨1, 1, false⟩], 2, 16, [.int .i64 0, .int .i64 0], some s_api_Pos⟩) (.node (some ⟨.other, 1, 8, [.nilFunc], none⟩) (.node (some ⟨.other, 1, 8, [.nilFunc], none⟩) .leaf .leaf) .leaf) (.node (some ⟨.slice 38, 1, 24, [.slice none 0 0], some (.sl 16 s_api_Pos)⟩) .leaf .leaf)) (.node (some ⟨.other, 1, 8, [.nilFunc], none⟩) (.node (some ⟨.struct [⟨0, 1, false⟩, ⟨1, 1, false⟩], 2, 32, [.int .i64 0, .slice none 0 0], some s_api_Edge⟩) (.node (some ⟨.int .i32, 1, 4, [.int .i32 0], some (.int .i32)⟩) .leaf .leaf) .leaf) (.node (some ⟨.other, 1, 8, [.nilFunc], none⟩) .leaf .leaf))) (.node (some ⟨.other, 1, 8, [.nilFunc], none⟩) (.node (some ⟨.other, 1, 8, [.nilFunc], none⟩) (.node (some ⟨.slice 87, 1, 24, [.slice none 0 0], some (.sl 32 s_api_Edge)⟩) (.node (some ⟨.struct [⟨0, 0, true⟩], 0, 0, [], none⟩) .leaf .leaf) .leaf) (.node (some ⟨.other, 1, 8, [.nilFunc], none⟩) .leaf .leaf)) (.node (some ⟨.other, 1, 8, [.nilFunc], none⟩) (.node (some ⟨.other, 1, 8, [.nilFunc], none⟩) .leaf .leaf) (.node (some ⟨.other, 1, 8, [.nilFunc], none⟩) .leaf .leaf)))))))
def gl : Nat → Option AV
  | 0 => some (.rtp s_alias_Base ((0 : Int), (0 : Int), (0 : Int), false, ()))
  | 1 => some (.rtp (.arr 5 I) ((0 : Int), (1 : Int), (8 : Int), (32 : Int), (64 : Int), ()))
  | _ => none
def fnL : List Nat := [3, 4, 7, 8, 9, 10, 11, 12, 13, 14, 16, 17, 18, 19, 20, 21, 22, 23, 24, 25, 26, 27, 28, 29, 30, 31, 32, 36, 37, 38, 39, 40, 41, 42, 43, 44, 45, 46, 47, 48, 49, 50, 51, 53, 54, 55, 56, 57, 58, 59, 60, 61, 62, 63, 64, 65, 66, 67, 68, 69, 70, 71, 72, 73, 74, 75, 76, 77, 78, 79, 80, 81, 82, 83, 84, 85]
abbrev f_law27_AliasRelate : FuncId := 3
abbrev f_law27_AliasQuery : FuncId := 4
abbrev f_law27_large : FuncId := 7
abbrev f_law27_works : FuncId := 8
abbrev f_alias_Relate : FuncId := 9
abbrev f_r27_Relate : FuncId := 10
abbrev f_law27_ref : FuncId := 11
abbrev f_alias_Query : FuncId := 12
abbrev f_r27_Query : FuncId := 13
abbrev f_alias_Bases : FuncId := 14
abbrev f_r14_Size : FuncId := 16
abbrev f_alias_overlap : FuncId := 19
abbrev f_alias_kinds : FuncId := 20
abbrev f_alias_local : FuncId := 21
abbrev f_r27_apart : FuncId := 22
abbrev f_r27_confined : FuncId := 23
abbrev f_alias_access : FuncId := 24
abbrev f_opcode_Access : FuncId := 25
abbrev f_r27_accessed : FuncId := 26
abbrev f_r27_Bases : FuncId := 27
abbrev f_cfg_Defs : FuncId := 28
abbrev f_alias_Bases_cl1 : FuncId := 29
abbrev f_alias_solver_round : FuncId := 30
abbrev f_alias_solver_pointer : FuncId := 31
abbrev f_alias_own : FuncId := 32
abbrev f_alias_index : FuncId := 36
abbrev f_alias_allocas : FuncId := 37
abbrev f_alias_Escapes : FuncId := 38
abbrev f_r27_parameter : FuncId := 39
abbrev f_r27_allocated : FuncId := 40
abbrev f_r20_Defs : FuncId := 41
abbrev f_r27_escapes : FuncId := 42
abbrev f_alias_arg : FuncId := 43
abbrev f_r20_In : FuncId := 44
abbrev f_r27_pointer : FuncId := 45
abbrev f_r12_Access : FuncId := 46
abbrev f_r27_next : FuncId := 47
abbrev f_r27_own : FuncId := 48
abbrev f_cfg_collect : FuncId := 49
abbrev f_cfg_Writes : FuncId := 50
abbrev f_alias_solver_next : FuncId := 51
abbrev f_alias_escapes_instr : FuncId := 53
abbrev f_alias_escapes_edge : FuncId := 55
abbrev f_r27_instr : FuncId := 56
abbrev f_r20_collect : FuncId := 57
abbrev f_r27_leaves : FuncId := 58
abbrev f_r27_anyPoints : FuncId := 59
abbrev f_r27_points : FuncId := 60
abbrev f_r27_joined : FuncId := 61
abbrev f_r27_operand : FuncId := 62
abbrev f_r01_Add : FuncId := 63
abbrev f_r27_meet : FuncId := 64
abbrev f_cfg_inside : FuncId := 65
abbrev f_cfg_own : FuncId := 66
abbrev f_alias_solver_instr : FuncId := 67
abbrev f_alias_solver_param : FuncId := 68
abbrev f_r20_Reads : FuncId := 69
abbrev f_r20_Writes : FuncId := 70
abbrev f_r01_Wrap : FuncId := 71
abbrev f_r01_Bits : FuncId := 72
abbrev f_alias_solver_operand : FuncId := 75
abbrev f_alias_solver_moved : FuncId := 76
abbrev f_alias_join : FuncId := 77
abbrev f_r01_Unsigned : FuncId := 78
abbrev f_alias_solver_def : FuncId := 79
abbrev f_alias_meet : FuncId := 81
abbrev f_intn_Wrap : FuncId := 84
abbrev f_intn_Bits : FuncId := 85
def siteTr : Tr (List (Nat × Nat)) := (.node none (.node none (.node (some [(5, 2), (6, 2), (7, 2)]) (.node (some [(1, 1)]) (.node none .leaf (.node (some [(4, 1), (8, 2), (9, 2), (13, 2)]) (.node (some [(6, 2)]) .leaf .leaf) .leaf)) (.node (some [(3, 1), (4, 1), (5, 1)]) (.node (some [(2, 1)]) .leaf .leaf) (.node (some [(3, 1)]) .leaf .leaf))) (.node (some [(1, 1), (2, 2)]) (.node none (.node none (.node (some [(5, 1), (6, 2), (7, 2)]) .leaf .leaf) .leaf) (.node (some [(4, 2), (5, 2)]) .leaf .leaf)) (.node (some [(1, 1)]) (.node (some [(2, 1)]) (.node (some [(6, 1), (8, 2)]) .leaf .leaf) .leaf) (.node (some [(4, 1)]) .leaf .leaf)))) (.node none (.node (some [(5, 1), (6, 2), (7, 2)]) (.node none (.node none (.node (some [(2, 1), (3, 1)]) .leaf .leaf) .leaf) (.node (some [(2, 1), (8, 2), (14, 11)]) (.node (some [(4, 1), (5, 1), (6, 2)]) .leaf .leaf) .leaf)) (.node none (.node (some [(1, 1)]) .leaf .leaf) (.node (some [(2, 1), (9, 2), (17, 11)]) .leaf .leaf))) (.node (some [(3, 1), (4, 1), (5, 1)]) (.node (some [(3, 1), (4, 1), (5, 1)]) (.node (some [(1, 1)]) (.node (some [(2, 1), (3, 1)]) .leaf .leaf) .leaf) (.node (some [(3, 1)]) .leaf .leaf)) (.node none (.node (some [(2, 1)]) (.node (some [(4, 2), (5, 2), (7, 2)]) .leaf .leaf) .leaf) (.node (some [(4, 1), (7, 1), (8, 2), (9, 2)]) .leaf .leaf))))) (.node none (.node (some [(3, 2), (4, 2), (5, 2)]) (.node (some [(1, 2)]) (.node (some [(1, 1)]) (.node (some [(2, 2)]) (.node (some [(4, 1), (5, 1), (6, 2)]) .leaf .leaf) .leaf) (.node (some [(2, 2)]) (.node (some [(10, 3)]) .leaf .leaf) .leaf)) (.node (some [(2, 1), (3, 1)]) (.node (some [(3, 1)]) .leaf .leaf) (.node (some [(3, 1), (8, 2)]) .leaf .leaf))) (.node (some [(3, 1), (4, 1), (5, 1)]) (.node (some [(5, 2)]) (.node none (.node (some [(6, 2)]) .leaf .leaf) .leaf) .leaf) (.node (some [(1, 1)]) (.node (some [(2, 1), (3, 1)]) (.node (some [(4, 2), (6, 2)]) .leaf .leaf) .leaf) (.node (some [(4, 1)]) .leaf .leaf)))) (.node none (.node (some [(5, 1), (6, 1), (7, 1)]) (.node (some [(1, 1)]) .leaf (.node (some [(2, 1), (3, 1)]) .leaf .leaf)) (.node (some [(2, 1), (3, 1)]) (.node (some [(3, 1)]) .leaf .leaf) (.node (some [(4, 1), (6, 1)]) .leaf .leaf))) (.node (some [(1, 1)]) (.node (some [(4, 1), (5, 1)]) (.node (some [(1, 1), (22, 1)]) (.node (some [(2, 1), (3, 1)]) .leaf .leaf) .leaf) .leaf) (.node none .leaf (.node (some [(5, 1), (7, 1), (10, 2)]) .leaf .leaf))))))
noncomputable def ctx (l : List (FuncId × FSpec)) : Ctx := { P := Tryd.prog, ty := tyOf tyN tyTr, gl := gl, env := envOf l, fns := fnsOf fnL, site := siteOf siteTr }
theorem ty_ok : TyOK Tryd.prog (tyOf tyN tyTr) := chkTy_ok (by kernel_rfl)
theorem fns_ok (l : List (FuncId × FSpec)) : FnsOK (ctx l) := chkFns_ok (by kernel_rfl)
theorem ctx_ok {l : List (FuncId × FSpec)} (h : ∀ x ∈ l, SpecOK (ctx []) x.1 x.2) : EOK (ctx l) := ⟨ty_ok, envOK_of rfl h, fns_ok l, by kernel_rfl⟩
theorem E0_ok : EOK (ctx []) := ctx_ok (by simp)
end Burn.M27Q
namespace Burn.M27Q
open Go Go.BE Go.Proofs
set_option maxRecDepth 100000
set_option linter.unusedVariables false
set_option linter.unusedSimpArgs false
open Burn.Cfg
noncomputable abbrev E_C1 : Ctx := ctx []
theorem E_C1_ok : EOK E_C1 := E0_ok
def cuts_C1 : CutL := []
def rets_C1 : FuncId → List (Option Fx)
  | 66 => [some (.own 8 I)]
  | _ => []
def H_C1 : Hints := { cut := cutOf cuts_C1, ret := rets_C1 }
theorem cfg_own_t (l : List (Den I)) : run E_C1 H_C1 f_cfg_own 3000 (start E_C1 f_cfg_own [(.tv (.sl 8 I) l)]) = (.chk (((0 : Nat) + (ln I l)) * 8 ≤ roomB) (.chk (((ln I (ap I ([] : List (Den I)) l)) : Int) = ((ln I (ap I ([] : List (Den I)) l)) : Int)) (.chk (((ln I (ap I ([] : List (Den I)) l)) : Int) = ((ln I (ap I ([] : List (Den I)) l)) : Int)) (rt (.osl 0 0 [] none) [(0, ⟨(.arr 0 8 I (ap I ([] : List (Den I)) l)), 0, [], false, none⟩)])))) := by kernel_rfl
theorem cfg_inside_t (f : Den s_api_Func) (at_ : Den s_api_Pos) : run E_C1 H_C1 f_cfg_inside 3000 (start E_C1 f_cfg_inside [(.tv s_api_Func f), (.tv s_api_Pos at_)]) = (cond (decide ((z at_.1) ≥ (0 : Int))) (cond (decide ((z at_.1) < ((ln s_api_Block f.2.2.2.2.1) : Int))) (cond (decide ((z at_.2.1) ≥ (-1 : Int))) (.chk (0 ≤ (z at_.1) ∧ (z at_.1) < (ln s_api_Block f.2.2.2.2.1)) (rt (vb (decide ((z at_.2.1) ≤ ((ln s_api_Instr (((gd s_api_Block f.2.2.2.2.1 (((z at_.1)).toNat)).2).1)) : Int)))) [])) (rt (vb false) [])) (rt (vb false) [])) (rt (vb false) [])) := by kernel_rfl
theorem r20_In_t (f : Den s_api_Func) (at_ : Den s_api_Pos) : run E_C1 H_C1 f_r20_In 3000 (start E_C1 f_r20_In [(.tv s_api_Func f), (.tv s_api_Pos at_)]) = (cond (decide ((z at_.1) ≥ (0 : Int))) (cond (decide ((z at_.1) < ((ln s_api_Block f.2.2.2.2.1) : Int))) (cond (decide ((z at_.2.1) ≥ (-1 : Int))) (.chk (0 ≤ (z at_.1) ∧ (z at_.1) < (ln s_api_Block f.2.2.2.2.1)) (rt (vb (decide ((z at_.2.1) ≤ ((ln s_api_Instr (((gd s_api_Block f.2.2.2.2.1 (((z at_.1)).toNat)).2).1)) : Int)))) [])) (rt (vb false) [])) (rt (vb false) [])) (rt (vb false) [])) := by kernel_rfl
def eP (x y : Den s_api_Pos) : Bool := z x.1 == z y.1 && (z x.2.1 == z y.2.1 && true)
abbrev Fn := Den s_api_Func
abbrev Blk := Den s_api_Block
abbrev blocks (f : Fn) : List (Den s_api_Block) := f.2.2.2.2.1
abbrev bIns (b : Blk) : List (Den s_api_Instr) := b.2.1
abbrev bPar (b : Blk) : List (Den I) := b.1
abbrev tArgs (b : Blk) : List (Den I) := b.2.2.1.2.1
abbrev tSuc (b : Blk) : List (Den s_api_Edge) := b.2.2.1.2.2.2.1
abbrev iArgs (i : Den s_api_Instr) : List (Den I) := i.2.2.2.1
abbrev iDst (i : Den s_api_Instr) : Int := i.2.2.1
abbrev blk (f : Fn) (n : Int) : Blk := gd s_api_Block (blocks f) n.toNat
def idL (l : List (Den I)) : Den (.sl 8 I) := l

def k_cfg_own : Con := conO 99 [.d (.sl 8 I)] (.sl 8 I) (fun x => True) fun x => idL x.1
theorem m_cfg_own (l : List (Den I)) (h_l : okD (.sl 8 I) l) (hp : True) : Runs E_C1 (start E_C1 f_cfg_own [(.tv (.sl 8 I) l)]) (fun r_ h_ => r_ = (ownRes 99 (.sl 8 I) (idL l)).1 ∧ h_ = (ownRes 99 (.sl 8 I) (idL l)).2) := .tree E_C1_ok (cfg_own_t l) (by
  simp only [wp_iff, chk_iff, know_iff, any_iff, rt_iff, hd_iff, true_imp_iff, true_and, and_true, and_self, lt01]
  have := h_l.1.1
  rw [Nat.zero_add]
  exact ⟨this, fun _ => ⟨rfl, rfl⟩⟩)
theorem c_cfg_own : SpecOK E_C1 f_cfg_own k_cfg_own.spec := spec_of fun x hx hp => ⟨rfl, m_cfg_own x.1 hx.1 hp⟩
def insideF (f : Fn) (p : Den s_api_Pos) : Bool := decide (z p.1 ≥ 0) && (decide (z p.1 < (ln s_api_Block (blocks f) : Int)) && (decide (z p.2.1 ≥ -1) && decide (z p.2.1 ≤ (ln s_api_Instr (bIns (blk f (z p.1))) : Int))))

def k_cfg_inside : Con := con [.d s_api_Func, .d s_api_Pos] .bool (fun x => True) fun x => insideF x.1 x.2.1
theorem m_cfg_inside (f : Den s_api_Func) (at_ : Den s_api_Pos) (h_f : okD s_api_Func f) (h_at_ : okD s_api_Pos at_) (hp : True) : Runs E_C1 (start E_C1 f_cfg_inside [(.tv s_api_Func f), (.tv s_api_Pos at_)]) (fun r_ h_ => r_ = (vb (insideF f at_)) ∧ h_ = []) := .tree E_C1_ok (cfg_inside_t f at_) (by
  unfold insideF
  simp only [wp_iff, chk_iff, know_iff, any_iff, rt_iff, hd_iff, true_imp_iff, true_and, and_true, and_self, lt01]
  refine ⟨fun h0 => ⟨fun h1 => ⟨fun h2 => ?_, fun h2 => ?_⟩, fun h1 => ?_⟩, fun h0 => ?_⟩
  · have a := of_decide_eq_true h0
    have b := of_decide_eq_true h1
    rw [h0, h1, h2]
    exact ⟨⟨a, b⟩, fun _ => rfl⟩
  · rw [h0, h1, h2]; rfl
  · rw [h0, h1]; rfl
  · rw [h0]; rfl)
theorem c_cfg_inside : SpecOK E_C1 f_cfg_inside k_cfg_inside.spec := spec_of fun x hx hp => ⟨rfl, m_cfg_inside x.1 x.2.1 hx.1 hx.2.1 hp⟩

def k_r20_In : Con := con [.d s_api_Func, .d s_api_Pos] .bool (fun x => True) fun x => insideF x.1 x.2.1
theorem m_r20_In (f : Den s_api_Func) (at_ : Den s_api_Pos) (h_f : okD s_api_Func f) (h_at_ : okD s_api_Pos at_) (hp : True) : Runs E_C1 (start E_C1 f_r20_In [(.tv s_api_Func f), (.tv s_api_Pos at_)]) (fun r_ h_ => r_ = (vb (insideF f at_)) ∧ h_ = []) := .tree E_C1_ok (r20_In_t f at_) (by
  unfold insideF
  simp only [wp_iff, chk_iff, know_iff, any_iff, rt_iff, hd_iff, true_imp_iff, true_and, and_true, and_self, lt01]
  refine ⟨fun h0 => ⟨fun h1 => ⟨fun h2 => ?_, fun h2 => ?_⟩, fun h1 => ?_⟩, fun h0 => ?_⟩
  · have a := of_decide_eq_true h0
    have b := of_decide_eq_true h1
    rw [h0, h1, h2]
    exact ⟨⟨a, b⟩, fun _ => rfl⟩
  · rw [h0, h1, h2]; rfl
  · rw [h0, h1]; rfl
  · rw [h0]; rfl)
theorem c_r20_In : SpecOK E_C1 f_r20_In k_r20_In.spec := spec_of fun x hx hp => ⟨rfl, m_r20_In x.1 x.2.1 hx.1 hx.2.1 hp⟩
def L_C1 : List (FuncId × FSpec) := [(f_cfg_own, k_cfg_own.spec), (f_cfg_inside, k_cfg_inside.spec), (f_r20_In, k_r20_In.spec)] ++ []
theorem L_C1_ok : ∀ x ∈ L_C1, SpecOK (ctx []) x.1 x.2 := by
  unfold L_C1
  simp only [List.cons_append, List.nil_append, List.forall_mem_cons]
  exact ⟨c_cfg_own, c_cfg_inside, c_r20_In, by simp⟩
end Burn.M27Q
namespace Burn.M27Q
open Go Go.BE Go.Proofs
set_option maxRecDepth 100000
set_option linter.unusedVariables false
set_option linter.unusedSimpArgs false
open Burn.Cfg
def L_C2 : List (FuncId × FSpec) := [] ++ L_C1
theorem L_C2_ok : ∀ x ∈ L_C2, SpecOK (ctx []) x.1 x.2 := L_C1_ok
end Burn.M27Q
namespace Burn.M27Q
open Go Go.BE Go.Proofs
set_option maxRecDepth 100000
set_option linter.unusedVariables false
set_option linter.unusedSimpArgs false
open Burn.Cfg
def hd1 (e : Den s_api_Edge) : Den I := e.1
def okB (l : List (Den s_api_Block)) : Prop := room 136 (ln s_api_Block l) ∧ ∀ i, i < ln s_api_Block l → okD s_api_Block (gd s_api_Block l i)
theorem okB_of {f : Fn} (h : okD s_api_Func f) : okB (blocks f) := by
  obtain ⟨_, _, _, _, h1, _⟩ := h
  exact ⟨h1.1, fun i hi => ok_gd h1 hi⟩
theorem okB_suc {l : List (Den s_api_Block)} (h : okB l) {i : Nat} (hi : i < ln s_api_Block l) : okD (.sl 32 s_api_Edge) (tSuc (gd s_api_Block l i)) := (h.2 i hi).2.2.1.2.2.2.1
def L_C3 : List (FuncId × FSpec) := [] ++ L_C2
theorem L_C3_ok : ∀ x ∈ L_C3, SpecOK (ctx []) x.1 x.2 := L_C2_ok
end Burn.M27Q
namespace Burn.M27Q
open Go Go.BE Go.Proofs
set_option maxRecDepth 100000
set_option linter.unusedVariables false
set_option linter.unusedSimpArgs false
open Burn.Cfg
def L_C4 : List (FuncId × FSpec) := [] ++ L_C3
theorem L_C4_ok : ∀ x ∈ L_C4, SpecOK (ctx []) x.1 x.2 := L_C3_ok
end Burn.M27Q
namespace Burn.M27Q
open Go Go.BE Go.Proofs
set_option maxRecDepth 100000
set_option linter.unusedVariables false
set_option linter.unusedSimpArgs false
open Burn.Cfg
def L_C5 : List (FuncId × FSpec) := [] ++ L_C4
theorem L_C5_ok : ∀ x ∈ L_C5, SpecOK (ctx []) x.1 x.2 := L_C4_ok
end Burn.M27Q
namespace Burn.M27Q
open Go Go.BE Go.Proofs
set_option maxRecDepth 100000
set_option linter.unusedVariables false
set_option linter.unusedSimpArgs false
open Burn.Cfg
def L_C6 : List (FuncId × FSpec) := [] ++ L_C5
theorem L_C6_ok : ∀ x ∈ L_C6, SpecOK (ctx []) x.1 x.2 := L_C5_ok
end Burn.M27Q
namespace Burn.M27Q
open Go Go.BE Go.Proofs
set_option maxRecDepth 100000
set_option linter.unusedVariables false
set_option linter.unusedSimpArgs false
open Burn.Cfg
noncomputable abbrev E_C7 : Ctx := ctx L_C6
theorem E_C7_ok : EOK E_C7 := ctx_ok L_C6_ok
def cuts_C7 : CutL := [([], 69, 0, [5, 47, 48, 49], [], [])]
def rets_C7 : FuncId → List (Option Fx)
  | 50 => [some (.dat (.sl 8 I))]
  | 69 => [some (.dat (.sl 8 I))]
  | 70 => [some (.dat (.sl 8 I))]
  | _ => []
def H_C7 : Hints := { cut := cutOf cuts_C7, ret := rets_C7 }
noncomputable def r20_Reads_L0 (t47 : List (Den s_api_Edge)) (t48 : Int) (t49 : Int) (out : List (Den I)) : Cfg := hcfg E_C7 f_r20_Reads 0 [(5, (.osl 0 0 [] none)), (47, (.tv (.sl 32 s_api_Edge) t47)), (48, (vi t48)), (49, (vi t49))] [(0, ⟨(.arr 0 8 I out), 0, [], false, none⟩)] 1
theorem r20_Reads_t (f : Den s_api_Func) (at_ : Den s_api_Pos) : run E_C7 H_C7 f_r20_Reads 3000 (start E_C7 f_r20_Reads [(.tv s_api_Func f), (.tv s_api_Pos at_)]) = (.chk (True) (.know True (cond (!(insideF f at_)) (rt (.tv (.sl 8 I) ([] : List (Den I))) []) (cond (decide ((z at_.2.1) < (0 : Int))) (rt (.tv (.sl 8 I) ([] : List (Den I))) []) (.chk (0 ≤ (z at_.1) ∧ (z at_.1) < (ln s_api_Block f.2.2.2.2.1)) (cond (decide ((z at_.2.1) < ((ln s_api_Instr (((gd s_api_Block f.2.2.2.2.1 (((z at_.1)).toNat)).2).1)) : Int))) (.chk (0 ≤ (z at_.2.1) ∧ (z at_.2.1) < (ln s_api_Instr (((gd s_api_Block f.2.2.2.2.1 (((z at_.1)).toNat)).2).1))) (.chk ((ln I (((((gd s_api_Instr (((gd s_api_Block f.2.2.2.2.1 (((z at_.1)).toNat)).2).1) (((z at_.2.1)).toNat)).2).2).2).1)) * 8 ≤ roomB) (rt (.tv (.sl 8 I) (((((gd s_api_Instr (((gd s_api_Block f.2.2.2.2.1 (((z at_.1)).toNat)).2).1) (((z at_.2.1)).toNat)).2).2).2).1)) []))) (.chk ((ln I ((((((gd s_api_Block f.2.2.2.2.1 (((z at_.1)).toNat)).2).2).1).2).1)) * 8 ≤ roomB) (hd (r20_Reads_L0 ((((((((gd s_api_Block f.2.2.2.2.1 (((z at_.1)).toNat)).2).2).1).2).2).2).1) ((ln s_api_Edge ((((((((gd s_api_Block f.2.2.2.2.1 (((z at_.1)).toNat)).2).2).1).2).2).2).1)) : Int) (0 : Int) ((((((gd s_api_Block f.2.2.2.2.1 (((z at_.1)).toNat)).2).2).1).2).1)))))))))) := by kernel_rfl
theorem r20_Reads_L0_t (t47 : List (Den s_api_Edge)) (t48 : Int) (t49 : Int) (out : List (Den I)) : run E_C7 H_C7 f_r20_Reads 3000 (r20_Reads_L0 t47 t48 t49 out) = (cond (decide (t49 < t48)) (.chk (0 ≤ t49 ∧ t49 < (ln s_api_Edge t47)) (.chk (((ln I out) + (ln I (((gd s_api_Edge t47 ((t49).toNat)).2).1))) * 8 ≤ roomB) (hd (r20_Reads_L0 t47 t48 (IntKind.wrap .i64 (t49 + (1 : Int))) (ap I out (((gd s_api_Edge t47 ((t49).toNat)).2).1)))))) (rt (.tv (.sl 8 I) out) [])) := by kernel_rfl
theorem cfg_Writes_t (f : Den s_api_Func) (at_ : Den s_api_Pos) : run E_C7 H_C7 f_cfg_Writes 3000 (start E_C7 f_cfg_Writes [(.tv s_api_Func f), (.tv s_api_Pos at_)]) = (.chk (True) (.know True (cond (!(insideF f at_)) (rt (.tv (.sl 8 I) ([] : List (Den I))) []) (.chk (0 ≤ (z at_.1) ∧ (z at_.1) < (ln s_api_Block f.2.2.2.2.1)) (cond ((z at_.2.1) == (-1 : Int)) (cond ((z at_.1) == (0 : Int)) (.chk (True) (.chk (((ln I (idL f.2.1)) + (ln I ((gd s_api_Block f.2.2.2.2.1 (((z at_.1)).toNat)).1))) * 8 ≤ roomB) (.know True (rt (.tv (.sl 8 I) (ap I (idL f.2.1) ((gd s_api_Block f.2.2.2.2.1 (((z at_.1)).toNat)).1))) [])))) (cond ((z at_.2.1) == (-1 : Int)) (.chk (True) (.know True (rt (.tv (.sl 8 I) (idL (gd s_api_Block f.2.2.2.2.1 (((z at_.1)).toNat)).1)) []))) (cond (decide ((z at_.2.1) < ((ln s_api_Instr (((gd s_api_Block f.2.2.2.2.1 (((z at_.1)).toNat)).2).1)) : Int))) (.chk (0 ≤ (z at_.2.1) ∧ (z at_.2.1) < (ln s_api_Instr (((gd s_api_Block f.2.2.2.2.1 (((z at_.1)).toNat)).2).1))) (cond (decide ((z ((((gd s_api_Instr (((gd s_api_Block f.2.2.2.2.1 (((z at_.1)).toNat)).2).1) (((z at_.2.1)).toNat)).2).2).1)) ≥ (0 : Int))) (.chk (0 ≤ (z at_.2.1) ∧ (z at_.2.1) < (ln s_api_Instr (((gd s_api_Block f.2.2.2.2.1 (((z at_.1)).toNat)).2).1))) (rt (.tv (.sl 8 I) ([(((gd s_api_Instr (((gd s_api_Block f.2.2.2.2.1 (((z at_.1)).toNat)).2).1) (((z at_.2.1)).toNat)).2).2).1] : List (Den I))) [])) (rt (.tv (.sl 8 I) ([] : List (Den I))) []))) (rt (.tv (.sl 8 I) ([] : List (Den I))) [])))) (cond ((z at_.2.1) == (-1 : Int)) (.chk (True) (.know True (rt (.tv (.sl 8 I) (idL (gd s_api_Block f.2.2.2.2.1 (((z at_.1)).toNat)).1)) []))) (cond (decide ((z at_.2.1) < ((ln s_api_Instr (((gd s_api_Block f.2.2.2.2.1 (((z at_.1)).toNat)).2).1)) : Int))) (.chk (0 ≤ (z at_.2.1) ∧ (z at_.2.1) < (ln s_api_Instr (((gd s_api_Block f.2.2.2.2.1 (((z at_.1)).toNat)).2).1))) (cond (decide ((z ((((gd s_api_Instr (((gd s_api_Block f.2.2.2.2.1 (((z at_.1)).toNat)).2).1) (((z at_.2.1)).toNat)).2).2).1)) ≥ (0 : Int))) (.chk (0 ≤ (z at_.2.1) ∧ (z at_.2.1) < (ln s_api_Instr (((gd s_api_Block f.2.2.2.2.1 (((z at_.1)).toNat)).2).1))) (rt (.tv (.sl 8 I) ([(((gd s_api_Instr (((gd s_api_Block f.2.2.2.2.1 (((z at_.1)).toNat)).2).1) (((z at_.2.1)).toNat)).2).2).1] : List (Den I))) [])) (rt (.tv (.sl 8 I) ([] : List (Den I))) []))) (rt (.tv (.sl 8 I) ([] : List (Den I))) [])))))))) := by kernel_rfl
theorem r20_Writes_t (f : Den s_api_Func) (at_ : Den s_api_Pos) : run E_C7 H_C7 f_r20_Writes 3000 (start E_C7 f_r20_Writes [(.tv s_api_Func f), (.tv s_api_Pos at_)]) = (.chk (True) (.know True (cond (!(insideF f at_)) (rt (.tv (.sl 8 I) ([] : List (Den I))) []) (.chk (0 ≤ (z at_.1) ∧ (z at_.1) < (ln s_api_Block f.2.2.2.2.1)) (cond (decide ((z at_.2.1) < (0 : Int))) (cond ((z at_.1) == (0 : Int)) (.chk ((ln I f.2.1) * 8 ≤ roomB) (.chk (((ln I f.2.1) + (ln I ((gd s_api_Block f.2.2.2.2.1 (((z at_.1)).toNat)).1))) * 8 ≤ roomB) (rt (.tv (.sl 8 I) (ap I f.2.1 ((gd s_api_Block f.2.2.2.2.1 (((z at_.1)).toNat)).1))) []))) (.chk ((ln I ((gd s_api_Block f.2.2.2.2.1 (((z at_.1)).toNat)).1)) * 8 ≤ roomB) (rt (.tv (.sl 8 I) ((gd s_api_Block f.2.2.2.2.1 (((z at_.1)).toNat)).1)) []))) (cond (decide ((z at_.2.1) < ((ln s_api_Instr (((gd s_api_Block f.2.2.2.2.1 (((z at_.1)).toNat)).2).1)) : Int))) (.chk (0 ≤ (z at_.2.1) ∧ (z at_.2.1) < (ln s_api_Instr (((gd s_api_Block f.2.2.2.2.1 (((z at_.1)).toNat)).2).1))) (cond (decide ((z ((((gd s_api_Instr (((gd s_api_Block f.2.2.2.2.1 (((z at_.1)).toNat)).2).1) (((z at_.2.1)).toNat)).2).2).1)) ≥ (0 : Int))) (.chk (0 ≤ (z at_.2.1) ∧ (z at_.2.1) < (ln s_api_Instr (((gd s_api_Block f.2.2.2.2.1 (((z at_.1)).toNat)).2).1))) (.chk ((1 : Nat) * 8 ≤ roomB) (rt (.tv (.sl 8 I) ([(((gd s_api_Instr (((gd s_api_Block f.2.2.2.2.1 (((z at_.1)).toNat)).2).1) (((z at_.2.1)).toNat)).2).2).1] : List (Den I))) []))) (rt (.tv (.sl 8 I) ([] : List (Den I))) []))) (rt (.tv (.sl 8 I) ([] : List (Den I))) []))))))) := by kernel_rfl
def smallF (f : Fn) : Prop := szD s_api_Func f ≤ 1048576
def flatA : List (Den s_api_Edge) → List (Den I)
  | [] => []
  | e :: l => ap I e.2.1 (flatA l)
theorem sz_I : ∀ (l : List (Den I)), szD (.sl 8 I) l = ln I l
  | [] => rfl
  | a :: l => by
    have := sz_I l
    show 0 + 1 + szD (.sl 8 I) l = l.length + 1
    rw [this]
    unfold ln
    omega
theorem sz_cons {b : Nat} {S : Sh} {x : Den S} {l : List (Den S)} : szD (.sl b S) (x :: l) = szD S x + 1 + szD (.sl b S) l := rfl
theorem sz_mem {b : Nat} {S : Sh} : ∀ {l : List (Den S)} {i : Nat}, i < ln S l → szD S (gd S l i) + 1 ≤ szD (.sl b S) l
  | [], i, h => absurd h (Nat.not_lt_zero i)
  | x :: l, 0, h => by
    rw [sz_cons]
    show szD S x + 1 ≤ _
    omega
  | x :: l, i + 1, h => by
    have h1 : i < ln S l := Nat.lt_of_succ_lt_succ h
    have := sz_mem (b := b) h1
    rw [sz_cons]
    show szD S (gd S l i) + 1 ≤ _
    omega
theorem sz_flat : ∀ l : List (Den s_api_Edge), ln I (flatA l) ≤ szD (.sl 32 s_api_Edge) l
  | [] => Nat.le_refl _
  | e :: l => by
    have h := sz_flat l
    have h1 : szD s_api_Edge e = 0 + (szD (.sl 8 I) e.2.1 + 0) := rfl
    rw [sz_cons, flatA, ln_ap, h1, sz_I]
    omega
theorem sz_func (f : Fn) : szD s_api_Func f = szD .str f.1 + (szD (.sl 8 I) f.2.1 + (0 + (szD (.sl 8 I) f.2.2.2.1 + (szD (.sl 136 s_api_Block) f.2.2.2.2.1 + 0)))) := rfl
theorem sz_blk (b : Blk) : szD s_api_Block b = szD (.sl 8 I) b.1 + (szD (.sl 80 s_api_Instr) b.2.1 + ((0 + (szD (.sl 8 I) b.2.2.1.2.1 + (szD (.sl 8 I) b.2.2.1.2.2.1 + (szD (.sl 32 s_api_Edge) b.2.2.1.2.2.2.1 + (0 + 0))))) + 0)) := rfl
def readsF (f : Fn) (p : Den s_api_Pos) : Den (.sl 8 I) := cond (!insideF f p) [] (cond (decide (z p.2.1 < 0)) [] (cond (decide (z p.2.1 < (ln s_api_Instr (bIns (blk f (z p.1))) : Int))) (iArgs (gd s_api_Instr (bIns (blk f (z p.1))) (z p.2.1).toNat)) (ap I (tArgs (blk f (z p.1))) (flatA (tSuc (blk f (z p.1)))))))
def writesF (f : Fn) (p : Den s_api_Pos) : Den (.sl 8 I) := cond (!insideF f p) [] (cond (decide (z p.2.1 < 0)) (cond (z p.1 == 0) (ap I f.2.1 (bPar (blk f (z p.1)))) (bPar (blk f (z p.1)))) (cond (decide (z p.2.1 < (ln s_api_Instr (bIns (blk f (z p.1))) : Int))) (cond (decide (iDst (gd s_api_Instr (bIns (blk f (z p.1))) (z p.2.1).toNat) ≥ 0)) [iDst (gd s_api_Instr (bIns (blk f (z p.1))) (z p.2.1).toNat)] []) []))
theorem inside_b {f : Fn} {p : Den s_api_Pos} (h : insideF f p = true) : (0 ≤ z p.1 ∧ z p.1 < (ln s_api_Block (blocks f) : Int)) ∧ (-1 ≤ z p.2.1 ∧ z p.2.1 ≤ (ln s_api_Instr (bIns (blk f (z p.1))) : Int)) := by
  unfold insideF at h
  simp only [Bool.and_eq_true, decide_eq_true_eq] at h
  exact ⟨⟨h.1, h.2.1⟩, h.2.2.1, h.2.2.2⟩
theorem small_b {f : Fn} (hp : smallF f) {n : Int} (h : 0 ≤ n ∧ n < (ln s_api_Block (blocks f) : Int)) : szD s_api_Block (blk f n) + ln I f.2.1 ≤ 1048576 := by
  have h1 := sz_mem (b := 136) (l := blocks f) (i := n.toNat) (by omega)
  have h2 := sz_func f
  have h3 := sz_I f.2.1
  unfold smallF at hp
  unfold blk
  have e : blocks f = f.2.2.2.2.1 := rfl
  rw [e] at h1 ⊢
  omega
theorem roomS {n : Nat} (h : n ≤ 4194304) : n * 8 ≤ roomB := by
  unfold roomB
  omega
theorem r20_Reads_l (l : List (Den s_api_Edge)) (hr : room 32 (ln s_api_Edge l)) : ∀ i, i ≤ ln s_api_Edge l → ∀ o : List (Den I), ln I o + ln I (flatA (l.drop i)) ≤ 1048576 → Runs E_C7 (r20_Reads_L0 l (ln s_api_Edge l : Nat) i o) (fun x h => x = .tv (.sl 8 I) (ap I o (flatA (l.drop i))) ∧ h = []) :=
  up_ind (fun o ho => .tree E_C7_ok (r20_Reads_L0_t _ _ _ _) (by
    rw [drop_ln]
    simp only [wp_iff, chk_iff, know_iff, any_iff, rt_iff, hd_iff, true_imp_iff, true_and, and_true, and_self, lt01, Int.ofNat_lt, Int.ofNat_le, Int.natCast_nonneg, Int.toNat_natCast, decide_true, decide_false, Bool.true_eq_false, Bool.false_eq_true, false_imp_iff, Nat.lt_irrefl, imp_self, implies_true,  flatA]
    unfold ap
    rw [List.append_nil]))
    fun i hi ih o ho => .tree E_C7_ok (r20_Reads_L0_t _ _ _ _) (by
      rw [drop_gd hi, flatA, ln_ap] at ho
      simp only [wp_iff, chk_iff, know_iff, any_iff, rt_iff, hd_iff, true_imp_iff, true_and, and_true, and_self, lt01, Int.ofNat_lt, Int.ofNat_le, Int.natCast_nonneg, Int.toNat_natCast, decide_true, decide_false, Bool.true_eq_false, Bool.false_eq_true, false_imp_iff, Nat.lt_irrefl, imp_self, implies_true,  hi, wrapS hi (room_lt hr)]
      refine ⟨roomS (by omega), fun _ => ?_⟩
      have := ih (ap I o (gd s_api_Edge l i).2.1) (by rw [ln_ap]; omega)
      rw [drop_gd hi, flatA]
      unfold ap at this ⊢
      rw [← List.append_assoc]
      exact this)
def k_r20_Reads : Con := con [.d s_api_Func, .d s_api_Pos] (.sl 8 I) (fun x => smallF x.1) fun x => readsF x.1 x.2.1
theorem m_r20_Reads (f : Den s_api_Func) (at_ : Den s_api_Pos) (h_f : okD s_api_Func f) (h_at_ : okD s_api_Pos at_) (hp : smallF f) : Runs E_C7 (start E_C7 f_r20_Reads [(.tv s_api_Func f), (.tv s_api_Pos at_)]) (fun r_ h_ => r_ = (.tv (.sl 8 I) (readsF f at_)) ∧ h_ = []) := .tree E_C7_ok (r20_Reads_t f at_) (by
  unfold readsF
  simp only [wp_iff, chk_iff, know_iff, any_iff, rt_iff, hd_iff, true_imp_iff, true_and, and_true, and_self, lt01]
  refine ⟨fun h => ?_, fun h => ⟨fun h2 => ?_, fun h2 => ?_⟩⟩
  · rw [h]; rfl
  · rw [h, h2]; rfl
  · have hi : insideF f at_ = true := by simpa using h
    have b := inside_b hi
    have sb := small_b hp b.1
    have a2 := of_decide_eq_false h2
    have hbn : (z at_.1).toNat < ln s_api_Block (blocks f) := by omega
    have hob := (okB_of h_f).2 _ hbn
    rw [h, h2]
    refine ⟨b.1, fun _ => ⟨fun h3 => ?_, fun h3 => ?_⟩⟩
    · rw [h3]
      have a3 := of_decide_eq_true h3
      have a3' : z at_.2.1 < (ln s_api_Instr (blk f (z at_.1)).2.1 : Int) := a3
      have hx : (z at_.2.1).toNat < ln s_api_Instr (blk f (z at_.1)).2.1 := by omega
      exact ⟨⟨by omega, a3⟩, fun _ => ⟨(ok_gd hob.2.1 hx).2.2.2.1.1.1, fun _ => rfl⟩⟩
    · rw [h3]
      have hb := sz_blk (blk f (z at_.1))
      have hf := sz_flat (blk f (z at_.1)).2.2.1.2.2.2.1
      have ha := sz_I (blk f (z at_.1)).2.2.1.2.1
      exact ⟨hob.2.2.1.2.1.1.1, fun _ => r20_Reads_l _ (okB_suc (okB_of h_f) hbn).1 0 (Nat.zero_le _) _ (by
        show ln I (blk f (z at_.1)).2.2.1.2.1 + ln I (flatA (blk f (z at_.1)).2.2.1.2.2.2.1) ≤ _
        omega)⟩)
theorem c_r20_Reads : SpecOK E_C7 f_r20_Reads k_r20_Reads.spec := spec_of fun x hx hp => ⟨rfl, m_r20_Reads x.1 x.2.1 hx.1 hx.2.1 hp⟩

def k_cfg_Writes : Con := con [.d s_api_Func, .d s_api_Pos] (.sl 8 I) (fun x => smallF x.1) fun x => writesF x.1 x.2.1
theorem m_cfg_Writes (f : Den s_api_Func) (at_ : Den s_api_Pos) (h_f : okD s_api_Func f) (h_at_ : okD s_api_Pos at_) (hp : smallF f) : Runs E_C7 (start E_C7 f_cfg_Writes [(.tv s_api_Func f), (.tv s_api_Pos at_)]) (fun r_ h_ => r_ = (.tv (.sl 8 I) (writesF f at_)) ∧ h_ = []) := .tree E_C7_ok (cfg_Writes_t f at_) (by
  unfold writesF
  simp only [wp_iff, chk_iff, know_iff, any_iff, rt_iff, hd_iff, true_imp_iff, true_and, and_true, and_self, lt01]
  refine ⟨fun h => ?_, fun h => ?_⟩
  · rw [h]; rfl
  have hi : insideF f at_ = true := by simpa using h
  have b := inside_b hi
  have sb := small_b hp b.1
  have hbn : (z at_.1).toNat < ln s_api_Block (blocks f) := by omega
  have hob := (okB_of h_f).2 _ hbn
  have hb := sz_blk (blk f (z at_.1))
  have h1 := sz_I (blk f (z at_.1)).1
  have hroom : (ln I f.2.1 + ln I (blk f (z at_.1)).1) * 8 ≤ roomB := roomS (by omega)
  rw [h]
  refine ⟨b.1, fun _ => ⟨fun h2 => ?_, fun h2 => ?_⟩⟩
  · have e2 : z at_.2.1 = -1 := by simpa using h2
    have d2 : decide (z at_.2.1 < 0) = true := by rw [e2]; rfl
    rw [d2]
    refine ⟨fun h3 => ?_, fun h3 => ?_⟩
    · rw [h3]
      exact ⟨hroom, fun _ => rfl⟩
    · rw [h3]
      refine ⟨fun _ => rfl, fun h4 => absurd (h2.symm.trans h4) (by decide)⟩
  · have d2 : decide (z at_.2.1 < 0) = false := by
      have e2 : z at_.2.1 ≠ -1 := by simpa using h2
      have := b.2.1
      simp only [decide_eq_false_iff_not]
      omega
    rw [d2]
    have a2 := of_decide_eq_false d2
    refine ⟨fun h4 => absurd (h2.symm.trans h4) (by decide), fun _ => ⟨fun h3 => ?_, fun h3 => ?_⟩⟩
    · rw [h3]
      have a3 := of_decide_eq_true h3
      have f1 : 0 ≤ z at_.2.1 ∧ z at_.2.1 < (ln s_api_Instr (gd s_api_Block f.2.2.2.2.1 (z at_.1).toNat).2.1 : Int) := ⟨by omega, a3⟩
      refine ⟨f1, fun _ => ⟨fun h4 => ⟨f1, fun _ => ?_⟩, fun h4 => ?_⟩⟩
      · rw [show decide (iDst (gd s_api_Instr (bIns (blk f (z at_.1))) (z at_.2.1).toNat) ≥ 0) = true from h4]
        rfl
      · rw [show decide (iDst (gd s_api_Instr (bIns (blk f (z at_.1))) (z at_.2.1).toNat) ≥ 0) = false from h4]
        rfl
    · rw [h3]
      rfl)
theorem c_cfg_Writes : SpecOK E_C7 f_cfg_Writes k_cfg_Writes.spec := spec_of fun x hx hp => ⟨rfl, m_cfg_Writes x.1 x.2.1 hx.1 hx.2.1 hp⟩

def k_r20_Writes : Con := con [.d s_api_Func, .d s_api_Pos] (.sl 8 I) (fun x => smallF x.1) fun x => writesF x.1 x.2.1
theorem m_r20_Writes (f : Den s_api_Func) (at_ : Den s_api_Pos) (h_f : okD s_api_Func f) (h_at_ : okD s_api_Pos at_) (hp : smallF f) : Runs E_C7 (start E_C7 f_r20_Writes [(.tv s_api_Func f), (.tv s_api_Pos at_)]) (fun r_ h_ => r_ = (.tv (.sl 8 I) (writesF f at_)) ∧ h_ = []) := .tree E_C7_ok (r20_Writes_t f at_) (by
  unfold writesF
  simp only [wp_iff, chk_iff, know_iff, any_iff, rt_iff, hd_iff, true_imp_iff, true_and, and_true, and_self, lt01]
  refine ⟨fun h => ?_, fun h => ?_⟩
  · rw [h]; rfl
  have hi : insideF f at_ = true := by simpa using h
  have b := inside_b hi
  have sb := small_b hp b.1
  have hbn : (z at_.1).toNat < ln s_api_Block (blocks f) := by omega
  have hob := (okB_of h_f).2 _ hbn
  have hb := sz_blk (blk f (z at_.1))
  have h1 := sz_I (blk f (z at_.1)).1
  have hroom : (ln I f.2.1 + ln I (blk f (z at_.1)).1) * 8 ≤ roomB := roomS (by omega)
  rw [h]
  refine ⟨b.1, fun _ => ⟨fun h2 => ?_, fun h2 => ?_⟩⟩
  · rw [h2]
    refine ⟨fun h3 => ?_, fun h3 => ?_⟩
    · rw [h3]
      exact ⟨h_f.2.1.1.1, fun _ => ⟨hroom, fun _ => rfl⟩⟩
    · rw [h3]
      exact ⟨hob.1.1.1, fun _ => rfl⟩
  · rw [h2]
    have a2 := of_decide_eq_false h2
    refine ⟨fun h3 => ?_, fun h3 => ?_⟩
    · rw [h3]
      have a3 := of_decide_eq_true h3
      have f1 : 0 ≤ z at_.2.1 ∧ z at_.2.1 < (ln s_api_Instr (gd s_api_Block f.2.2.2.2.1 (z at_.1).toNat).2.1 : Int) := ⟨by omega, a3⟩
      refine ⟨f1, fun _ => ⟨fun h4 => ⟨f1, fun _ => ⟨by decide, fun _ => ?_⟩⟩, fun h4 => ?_⟩⟩
      · rw [show decide (iDst (gd s_api_Instr (bIns (blk f (z at_.1))) (z at_.2.1).toNat) ≥ 0) = true from h4]
        rfl
      · rw [show decide (iDst (gd s_api_Instr (bIns (blk f (z at_.1))) (z at_.2.1).toNat) ≥ 0) = false from h4]
        rfl
    · rw [h3]
      rfl)
theorem c_r20_Writes : SpecOK E_C7 f_r20_Writes k_r20_Writes.spec := spec_of fun x hx hp => ⟨rfl, m_r20_Writes x.1 x.2.1 hx.1 hx.2.1 hp⟩
def L_C7 : List (FuncId × FSpec) := [(f_r20_Reads, k_r20_Reads.spec), (f_cfg_Writes, k_cfg_Writes.spec), (f_r20_Writes, k_r20_Writes.spec)] ++ L_C6
theorem L_C7_ok : ∀ x ∈ L_C7, SpecOK (ctx []) x.1 x.2 := by
  unfold L_C7
  simp only [List.cons_append, List.nil_append, List.forall_mem_cons]
  exact ⟨c_r20_Reads, c_cfg_Writes, c_r20_Writes, L_C6_ok⟩
end Burn.M27Q
namespace Burn.M27Q
open Go Go.BE Go.Proofs
set_option maxRecDepth 100000
set_option linter.unusedVariables false
set_option linter.unusedSimpArgs false
open Burn.Cfg
noncomputable abbrev E_C8 : Ctx := ctx L_C7
theorem E_C8_ok : EOK E_C8 := ctx_ok L_C7_ok
def cuts_C8 : CutL := [([], 49, 0, [1, 2, 5, 17, 18], [], []),
  ([], 49, 2, [1, 2, 5, 6, 7, 17, 18], [], []),
  ([], 49, 4, [1, 2, 5, 6, 7, 8, 17, 18, 38, 39, 40], [], [])]
def rets_C8 : FuncId → List (Option Fx)
  | 49 => [some (.dat (.sl 24 (.sl 16 s_api_Pos)))]
  | _ => []
def H_C8 : Hints := { cut := cutOf cuts_C8, ret := rets_C8 }
noncomputable def colW_L0 (f : Den s_api_Func) (t17 : Int) (t18 : Int) (out : List (Den (.sl 16 s_api_Pos))) : Cfg := hcfg E_C8 f_cfg_collect 0 [(1, (.fn f_cfg_Writes [])), (2, (.rtp s_api_Func f)), (5, (.osl 0 0 [] none)), (17, (vi t17)), (18, (vi t18))] [(0, ⟨(.arr 1 24 (.sl 16 s_api_Pos) out), 0, [], false, none⟩)] 1
noncomputable def colW_L2 (f : Den s_api_Func) (b : Int) (i : Int) (t17 : Int) (t18 : Int) (out : List (Den (.sl 16 s_api_Pos))) : Cfg := hcfg E_C8 f_cfg_collect 2 [(1, (.fn f_cfg_Writes [])), (2, (.rtp s_api_Func f)), (5, (.osl 0 0 [] none)), (6, (vi b)), (7, (vi i)), (17, (vi t17)), (18, (vi t18))] [(0, ⟨(.arr 1 24 (.sl 16 s_api_Pos) out), 0, [], false, none⟩)] 1
noncomputable def colW_L4 (f : Den s_api_Func) (b : Int) (i : Int) (t17 : Int) (t18 : Int) (t38 : List (Den I)) (t39 : Int) (t40 : Int) (out : List (Den (.sl 16 s_api_Pos))) (p : Den s_api_Pos) : Cfg := hcfg E_C8 f_cfg_collect 4 [(1, (.fn f_cfg_Writes [])), (2, (.rtp s_api_Func f)), (5, (.osl 0 0 [] none)), (6, (vi b)), (7, (vi i)), (8, (.tref 1 1 [] (0 : Nat) [])), (17, (vi t17)), (18, (vi t18)), (38, (.tv (.sl 8 I) t38)), (39, (vi t39)), (40, (vi t40))] [(0, ⟨(.arr 1 24 (.sl 16 s_api_Pos) out), 0, [], false, none⟩), (1, ⟨(.arr 0 16 s_api_Pos ([p] : List (Den s_api_Pos))), 1, [], false, none⟩)] 2
theorem colW_t (f : Den s_api_Func) : run E_C8 H_C8 f_cfg_collect 3000 (start E_C8 f_cfg_collect [(.tv s_api_Func f), (.fn f_cfg_Writes [])]) = (.chk (((ln I f.2.2.2.1) : Int) = ((ln I f.2.2.2.1) : Int)) (.chk (0 ≤ ((ln I f.2.2.2.1) : Int)) (.chk ((ln I f.2.2.2.1) * 24 ≤ roomB) (hd (colW_L0 f ((ln s_api_Block f.2.2.2.2.1) : Int) (0 : Int) (List.replicate (ln I f.2.2.2.1) (dz (.sl 16 s_api_Pos)))))))) := by kernel_rfl
theorem colW_L0_t (f : Den s_api_Func) (t17 : Int) (t18 : Int) (out : List (Den (.sl 16 s_api_Pos))) : run E_C8 H_C8 f_cfg_collect 3000 (colW_L0 f t17 t18 out) = (cond (decide (t18 < t17)) (hd (colW_L2 f t18 (-1 : Int) t17 t18 out)) (rt (.tv (.sl 24 (.sl 16 s_api_Pos)) out) [])) := by kernel_rfl
theorem colW_L2_t (f : Den s_api_Func) (b : Int) (i : Int) (t17 : Int) (t18 : Int) (out : List (Den (.sl 16 s_api_Pos))) : run E_C8 H_C8 f_cfg_collect 3000 (colW_L2 f b i t17 t18 out) = (.chk (0 ≤ b ∧ b < (ln s_api_Block f.2.2.2.2.1)) (cond (decide (i ≤ ((ln s_api_Instr (((gd s_api_Block f.2.2.2.2.1 ((b).toNat)).2).1)) : Int))) (.chk ((0 : Nat) < (1 : Nat)) (.chk ((0 : Nat) < (1 : Nat)) (.chk (smallF f) (.know (okD (.sl 8 I) (writesF f (b, i, ()))) (hd (colW_L4 f b i t17 t18 (writesF f (b, i, ())) ((ln I (writesF f (b, i, ()))) : Int) (0 : Int) out (b, i, ()))))))) (hd (colW_L0 f t17 (IntKind.wrap .i64 (t18 + (1 : Int))) out)))) := by kernel_rfl
theorem colW_L4_t (f : Den s_api_Func) (b : Int) (i : Int) (t17 : Int) (t18 : Int) (t38 : List (Den I)) (t39 : Int) (t40 : Int) (out : List (Den (.sl 16 s_api_Pos))) (p : Den s_api_Pos) : run E_C8 H_C8 f_cfg_collect 3000 (colW_L4 f b i t17 t18 t38 t39 t40 out p) = (cond (decide (t40 < t39)) (.chk (0 ≤ t40 ∧ t40 < (ln I t38)) (cond (decide ((z (gd I t38 ((t40).toNat))) < (0 : Int))) (hd (colW_L4 f b i t17 t18 t38 t39 (IntKind.wrap .i64 (t40 + (1 : Int))) out p)) (cond (decide ((z (gd I t38 ((t40).toNat))) ≥ ((ln (.sl 16 s_api_Pos) out) : Int))) (hd (colW_L4 f b i t17 t18 t38 t39 (IntKind.wrap .i64 (t40 + (1 : Int))) out p)) (.chk (0 ≤ (z (gd I t38 ((t40).toNat))) ∧ (z (gd I t38 ((t40).toNat))) < (ln (.sl 16 s_api_Pos) out)) (.chk (((z (gd I t38 ((t40).toNat)))).toNat < (ln (.sl 16 s_api_Pos) out)) (.chk (((z (gd I t38 ((t40).toNat)))).toNat < (ln (.sl 16 s_api_Pos) out)) (cond (decide (((ln s_api_Pos (gd (.sl 16 s_api_Pos) out (((z (gd I t38 ((t40).toNat)))).toNat))) : Int) > (0 : Int))) (.chk (0 ≤ (z (gd I t38 ((t40).toNat))) ∧ (z (gd I t38 ((t40).toNat))) < (ln (.sl 16 s_api_Pos) out)) (.chk (((z (gd I t38 ((t40).toNat)))).toNat < (ln (.sl 16 s_api_Pos) out)) (.chk (0 ≤ (z (gd I t38 ((t40).toNat))) ∧ (z (gd I t38 ((t40).toNat))) < (ln (.sl 16 s_api_Pos) out)) (.chk (((z (gd I t38 ((t40).toNat)))).toNat < (ln (.sl 16 s_api_Pos) out)) (.chk (((z (gd I t38 ((t40).toNat)))).toNat < (ln (.sl 16 s_api_Pos) out)) (.chk (((z (gd I t38 ((t40).toNat)))).toNat < (ln (.sl 16 s_api_Pos) out)) (.chk (0 ≤ (IntKind.wrap .i64 (((ln s_api_Pos (gd (.sl 16 s_api_Pos) out (((z (gd I t38 ((t40).toNat)))).toNat))) : Int) - (1 : Int))) ∧ (IntKind.wrap .i64 (((ln s_api_Pos (gd (.sl 16 s_api_Pos) out (((z (gd I t38 ((t40).toNat)))).toNat))) : Int) - (1 : Int))) < (ln s_api_Pos (gd (.sl 16 s_api_Pos) out (((z (gd I t38 ((t40).toNat)))).toNat)))) (.chk (((z (gd I t38 ((t40).toNat)))).toNat < (ln (.sl 16 s_api_Pos) out)) (.chk (((IntKind.wrap .i64 (((ln s_api_Pos (gd (.sl 16 s_api_Pos) out (((z (gd I t38 ((t40).toNat)))).toNat))) : Int) - (1 : Int)))).toNat < (ln s_api_Pos (gd (.sl 16 s_api_Pos) out (((z (gd I t38 ((t40).toNat)))).toNat)))) (.chk ((0 : Nat) < (1 : Nat)) (cond (((z ((gd s_api_Pos (gd (.sl 16 s_api_Pos) out (((z (gd I t38 ((t40).toNat)))).toNat)) (((IntKind.wrap .i64 (((ln s_api_Pos (gd (.sl 16 s_api_Pos) out (((z (gd I t38 ((t40).toNat)))).toNat))) : Int) - (1 : Int)))).toNat)).1)) == (z p.1)) && (((z (((gd s_api_Pos (gd (.sl 16 s_api_Pos) out (((z (gd I t38 ((t40).toNat)))).toNat)) (((IntKind.wrap .i64 (((ln s_api_Pos (gd (.sl 16 s_api_Pos) out (((z (gd I t38 ((t40).toNat)))).toNat))) : Int) - (1 : Int)))).toNat)).2).1)) == (z p.2.1)) && true)) (hd (colW_L4 f b i t17 t18 t38 t39 (IntKind.wrap .i64 (t40 + (1 : Int))) out p)) (.chk (0 ≤ (z (gd I t38 ((t40).toNat))) ∧ (z (gd I t38 ((t40).toNat))) < (ln (.sl 16 s_api_Pos) out)) (.chk (((z (gd I t38 ((t40).toNat)))).toNat < (ln (.sl 16 s_api_Pos) out)) (.chk ((0 : Nat) < (1 : Nat)) (.chk (((z (gd I t38 ((t40).toNat)))).toNat < (ln (.sl 16 s_api_Pos) out)) (.chk (((ln s_api_Pos (gd (.sl 16 s_api_Pos) out (((z (gd I t38 ((t40).toNat)))).toNat))) + (1 : Nat)) * 16 ≤ roomB) (.chk (0 ≤ (z (gd I t38 ((t40).toNat))) ∧ (z (gd I t38 ((t40).toNat))) < (ln (.sl 16 s_api_Pos) (st (.sl 16 s_api_Pos) out (((z (gd I t38 ((t40).toNat)))).toNat) (ap s_api_Pos (gd (.sl 16 s_api_Pos) out (((z (gd I t38 ((t40).toNat)))).toNat)) ([p] : List (Den s_api_Pos)))))) (.chk (((z (gd I t38 ((t40).toNat)))).toNat = ((z (gd I t38 ((t40).toNat)))).toNat) (.chk (((z (gd I t38 ((t40).toNat)))).toNat = ((z (gd I t38 ((t40).toNat)))).toNat) (hd (colW_L4 f b i t17 t18 t38 t39 (IntKind.wrap .i64 (t40 + (1 : Int))) (st (.sl 16 s_api_Pos) out (((z (gd I t38 ((t40).toNat)))).toNat) (ap s_api_Pos (gd (.sl 16 s_api_Pos) out (((z (gd I t38 ((t40).toNat)))).toNat)) ([p] : List (Den s_api_Pos)))) p))))))))))))))))))))) (.chk (0 ≤ (z (gd I t38 ((t40).toNat))) ∧ (z (gd I t38 ((t40).toNat))) < (ln (.sl 16 s_api_Pos) out)) (.chk (((z (gd I t38 ((t40).toNat)))).toNat < (ln (.sl 16 s_api_Pos) out)) (.chk ((0 : Nat) < (1 : Nat)) (.chk (((z (gd I t38 ((t40).toNat)))).toNat < (ln (.sl 16 s_api_Pos) out)) (.chk (((ln s_api_Pos (gd (.sl 16 s_api_Pos) out (((z (gd I t38 ((t40).toNat)))).toNat))) + (1 : Nat)) * 16 ≤ roomB) (.chk (0 ≤ (z (gd I t38 ((t40).toNat))) ∧ (z (gd I t38 ((t40).toNat))) < (ln (.sl 16 s_api_Pos) (st (.sl 16 s_api_Pos) out (((z (gd I t38 ((t40).toNat)))).toNat) (ap s_api_Pos (gd (.sl 16 s_api_Pos) out (((z (gd I t38 ((t40).toNat)))).toNat)) ([p] : List (Den s_api_Pos)))))) (.chk (((z (gd I t38 ((t40).toNat)))).toNat = ((z (gd I t38 ((t40).toNat)))).toNat) (.chk (((z (gd I t38 ((t40).toNat)))).toNat = ((z (gd I t38 ((t40).toNat)))).toNat) (hd (colW_L4 f b i t17 t18 t38 t39 (IntKind.wrap .i64 (t40 + (1 : Int))) (st (.sl 16 s_api_Pos) out (((z (gd I t38 ((t40).toNat)))).toNat) (ap s_api_Pos (gd (.sl 16 s_api_Pos) out (((z (gd I t38 ((t40).toNat)))).toNat)) ([p] : List (Den s_api_Pos)))) p))))))))))))))))) (hd (colW_L2 f b (IntKind.wrap .i64 (i + (1 : Int))) t17 t18 out))) := by kernel_rfl
def lastIs (l : List (Den s_api_Pos)) (p : Den s_api_Pos) : Bool := decide ((ln s_api_Pos l : Int) > 0) && eP (gd s_api_Pos l (ln s_api_Pos l - 1)) p
def step1 (p : Den s_api_Pos) (out : List (Den (.sl 16 s_api_Pos))) (r : Int) : List (Den (.sl 16 s_api_Pos)) := if r < 0 ∨ r ≥ (ln (.sl 16 s_api_Pos) out : Int) then out else if lastIs (gd (.sl 16 s_api_Pos) out r.toNat) p then out else st (.sl 16 s_api_Pos) out r.toNat (ap s_api_Pos (gd (.sl 16 s_api_Pos) out r.toNat) [p])
def stepL (p : Den s_api_Pos) : List (Den I) → List (Den (.sl 16 s_api_Pos)) → List (Den (.sl 16 s_api_Pos))
  | [], out => out
  | r :: rs, out => stepL p rs (step1 p out (z r))
def posA (b : Nat) (k : Nat) : Den s_api_Pos := ((b : Int), (k : Int) - 1, ())
def colB (R : Fn → Den s_api_Pos → Den (.sl 8 I)) (f : Fn) (b : Nat) : Nat → Nat → List (Den (.sl 16 s_api_Pos)) → List (Den (.sl 16 s_api_Pos))
  | 0, _, out => out
  | n + 1, k, out => colB R f b n (k + 1) (stepL (posA b k) (R f (posA b k)) out)
def colF (R : Fn → Den s_api_Pos → Den (.sl 8 I)) (f : Fn) : Nat → Nat → List (Den (.sl 16 s_api_Pos)) → List (Den (.sl 16 s_api_Pos))
  | 0, _, out => out
  | n + 1, b, out => colF R f n (b + 1) (colB R f b (ln s_api_Instr (bIns (gd s_api_Block (blocks f) b)) + 2) 0 out)
def collectF (R : Fn → Den s_api_Pos → Den (.sl 8 I)) (f : Fn) : Den (.sl 24 (.sl 16 s_api_Pos)) := colF R f (ln s_api_Block (blocks f)) 0 (List.replicate (ln I f.2.2.2.1) [])
def bnd (out : List (Den (.sl 16 s_api_Pos))) (c : Nat) : Prop := ∀ r, ln s_api_Pos (gd (.sl 16 s_api_Pos) out r) ≤ c
theorem gd_st_any {S : Sh} {l : List (Den S)} {i j : Nat} {x : Den S} : gd S (st S l i x) j = if i = j ∧ i < ln S l then x else gd S l j := by
  by_cases hij : i = j
  · subst hij
    by_cases hi : i < ln S l
    · rw [gd_st hi, if_pos ⟨rfl, hi⟩]
    · rw [if_neg (fun h => hi h.2)]
      unfold st
      rw [List.set_eq_of_length_le (Nat.le_of_not_lt hi)]
  · rw [if_neg (fun h => hij h.1)]
    unfold gd st
    rw [List.getD_eq_getElem?_getD, List.getD_eq_getElem?_getD, List.getElem?_set_ne hij]
theorem step1_bnd {p : Den s_api_Pos} {out : List (Den (.sl 16 s_api_Pos))} {r : Int} {c : Nat} (h : bnd out c) : bnd (step1 p out r) (c + 1) := by
  unfold step1
  split
  · exact fun r => Nat.le_succ_of_le (h r)
  · split
    · exact fun r => Nat.le_succ_of_le (h r)
    · intro j
      rw [gd_st_any]
      split
      · rw [ln_ap1]
        exact Nat.succ_le_succ (h _)
      · exact Nat.le_succ_of_le (h j)
theorem step1_ln {p : Den s_api_Pos} {out : List (Den (.sl 16 s_api_Pos))} {r : Int} : ln (.sl 16 s_api_Pos) (step1 p out r) = ln (.sl 16 s_api_Pos) out := by
  unfold step1
  split
  · rfl
  · split
    · rfl
    · exact ln_st
theorem stepL_bnd {p : Den s_api_Pos} : ∀ {rs : List (Den I)} {out : List (Den (.sl 16 s_api_Pos))} {c : Nat}, bnd out c → bnd (stepL p rs out) (c + ln I rs)
  | [], _, _, h => h
  | r :: rs, out, c, h => by
    have := stepL_bnd (p := p) (rs := rs) (step1_bnd (p := p) (r := z r) h)
    rw [show c + ln I (r :: rs) = c + 1 + ln I rs by show c + (rs.length + 1) = c + 1 + rs.length; omega]
    exact this
theorem colB_bnd {R : Fn → Den s_api_Pos → Den (.sl 8 I)} {f : Fn} (hR : ∀ p, ln I (R f p) ≤ 1048576) {b : Nat} : ∀ {n k : Nat} {out : List (Den (.sl 16 s_api_Pos))} {c : Nat}, bnd out c → bnd (colB R f b n k out) (c + n * 1048576)
  | 0, _, _, c, h => by rw [Nat.zero_mul]; exact h
  | n + 1, k, out, c, h => by
    have h1 := stepL_bnd (p := posA b k) (rs := R f (posA b k)) h
    have h2 := colB_bnd hR (b := b) (n := n) (k := k + 1) h1
    have h3 := hR (posA b k)
    refine fun r => Nat.le_trans (h2 r) ?_
    rw [Nat.succ_mul]
    omega
theorem roomM {n : Nat} (h : n ≤ 4398046511104) : (n + 1) * 16 ≤ roomB := by
  unfold roomB
  omega
theorem readsF_len {f : Fn} (hp : smallF f) (p : Den s_api_Pos) : ln I (readsF f p) ≤ 1048576 := by
  unfold readsF
  cases hi : insideF f p with
  | false => exact Nat.zero_le _
  | true =>
    have b := inside_b hi
    have sb := small_b hp b.1
    have hb := sz_blk (blk f (z p.1))
    simp only [Bool.not_true, cond_false]
    cases h2 : decide (z p.2.1 < 0) with
    | true => exact Nat.zero_le _
    | false =>
      have a2 := of_decide_eq_false h2
      simp only [cond_false]
      cases h3 : decide (z p.2.1 < (ln s_api_Instr (bIns (blk f (z p.1))) : Int)) with
      | true =>
        have a3 : z p.2.1 < (ln s_api_Instr (blk f (z p.1)).2.1 : Int) := of_decide_eq_true h3
        have hx : (z p.2.1).toNat < ln s_api_Instr (blk f (z p.1)).2.1 := by omega
        have h4 := sz_mem (b := 80) hx
        have h5 : szD s_api_Instr (gd s_api_Instr (blk f (z p.1)).2.1 (z p.2.1).toNat) = 0 + (0 + (0 + (szD (.sl 8 I) (gd s_api_Instr (blk f (z p.1)).2.1 (z p.2.1).toNat).2.2.2.1 + (0 + (0 + (0 + (0 + 0))))))) := rfl
        rw [sz_I] at h5
        show ln I (gd s_api_Instr (blk f (z p.1)).2.1 (z p.2.1).toNat).2.2.2.1 ≤ _
        omega
      | false =>
        have hf := sz_flat (blk f (z p.1)).2.2.1.2.2.2.1
        have ha := sz_I (blk f (z p.1)).2.2.1.2.1
        show ln I (ap I (blk f (z p.1)).2.2.1.2.1 (flatA (blk f (z p.1)).2.2.1.2.2.2.1)) ≤ _
        rw [ln_ap]
        omega
theorem writesF_len {f : Fn} (hp : smallF f) (p : Den s_api_Pos) : ln I (writesF f p) ≤ 1048576 := by
  unfold writesF
  cases hi : insideF f p with
  | false => exact Nat.zero_le _
  | true =>
    have b := inside_b hi
    have sb := small_b hp b.1
    have hb := sz_blk (blk f (z p.1))
    have h1 := sz_I (blk f (z p.1)).1
    simp only [Bool.not_true, cond_false]
    cases decide (z p.2.1 < 0) with
    | true =>
      cases z p.1 == 0 with
      | true =>
        show ln I (ap I f.2.1 (blk f (z p.1)).1) ≤ _
        rw [ln_ap]
        omega
      | false =>
        show ln I (blk f (z p.1)).1 ≤ _
        omega
    | false =>
      cases decide (z p.2.1 < (ln s_api_Instr (bIns (blk f (z p.1))) : Int)) with
      | true =>
        cases decide (iDst (gd s_api_Instr (bIns (blk f (z p.1))) (z p.2.1).toNat) ≥ 0) with
        | true => show 1 ≤ 1048576; omega
        | false => exact Nat.zero_le _
      | false => exact Nat.zero_le _
theorem sz_ln {b : Nat} {S : Sh} : ∀ {l : List (Den S)}, ln S l ≤ szD (.sl b S) l
  | [] => Nat.le_refl _
  | x :: l => by
    have := sz_ln (b := b) (l := l)
    rw [sz_cons]
    show l.length + 1 ≤ _
    unfold ln at this
    omega
theorem arithN {c N X Z : Nat} (h1 : N ≤ 2 * (X + 1)) (h2 : c + 2 * (X + 1 + Z) * 1048576 ≤ 4398046511104) : c + N * 1048576 + 2 * Z * 1048576 ≤ 4398046511104 := by omega
theorem gd_rep {n r : Nat} : gd (.sl 16 s_api_Pos) (List.replicate n (dz (.sl 16 s_api_Pos))) r = [] := by
  unfold gd
  rw [List.getD_eq_getElem?_getD, List.getElem?_replicate]
  split <;> rfl
def defsF (f : Fn) : Den (.sl 24 (.sl 16 s_api_Pos)) := collectF writesF f
theorem colW_l4 {Q : AV → Heap → Prop} (f : Fn) (b i n m : Int) (rs : List (Den I)) (hrs : ln I rs ≤ 1048576) (p : Den s_api_Pos) : ∀ k, k ≤ ln I rs → ∀ (out : List (Den (.sl 16 s_api_Pos))) (c : Nat), bnd out c → c + (ln I rs - k) ≤ 4398046511104 → Runs E_C8 (colW_L2 f b (IntKind.wrap .i64 (i + 1)) n m (stepL p (rs.drop k) out)) Q → Runs E_C8 (colW_L4 f b i n m rs (ln I rs : Nat) k out p) Q :=
  up_ind (fun out c _ _ hn => .tree E_C8_ok (colW_L4_t _ _ _ _ _ _ _ _ _ _) (by
    rw [drop_ln] at hn
    simp only [wp_iff, chk_iff, know_iff, any_iff, rt_iff, hd_iff, true_imp_iff, true_and, and_true, and_self, lt01, Int.ofNat_lt, Int.ofNat_le, Int.natCast_nonneg, Int.toNat_natCast, decide_true, decide_false, Bool.true_eq_false, Bool.false_eq_true, false_imp_iff, Nat.lt_irrefl, imp_self, implies_true,  stepL] at hn ⊢
    exact hn))
    fun k hk ih out c hb hc hn => .tree E_C8_ok (colW_L4_t _ _ _ _ _ _ _ _ _ _) (by
      rw [drop_gd hk, stepL] at hn
      have ih := ih (step1 p out (z (gd I rs k))) (c + 1) (step1_bnd hb) (by omega) hn
      clear hn
      simp only [wp_iff, chk_iff, know_iff, any_iff, rt_iff, hd_iff, true_imp_iff, true_and, and_true, and_self, lt01, Int.ofNat_lt, Int.ofNat_le, Int.natCast_nonneg, Int.toNat_natCast, decide_true, decide_false, Bool.true_eq_false, Bool.false_eq_true, false_imp_iff, Nat.lt_irrefl, imp_self, implies_true,  hk, wrapS hk (show ln I rs < 9223372036854775807 by omega)]
      unfold step1 at ih
      refine ⟨fun h1 => ?_, fun h1 => ⟨fun h2 => ?_, fun h2 => ?_⟩⟩
      · rw [if_pos (.inl (of_decide_eq_true h1))] at ih
        exact ih
      · rw [if_pos (.inr (of_decide_eq_true h2))] at ih
        exact ih
      · have a1 := of_decide_eq_false h1
        have a2 := of_decide_eq_false h2
        rw [if_neg (by omega)] at ih
        have f1 : 0 ≤ z (gd I rs k) ∧ z (gd I rs k) < (ln (.sl 16 s_api_Pos) out : Int) := ⟨by omega, by omega⟩
        have f2 : (z (gd I rs k)).toNat < ln (.sl 16 s_api_Pos) out := by omega
        have hG := hb (z (gd I rs k)).toNat
        have f3 : (ln s_api_Pos (gd (.sl 16 s_api_Pos) out (z (gd I rs k)).toNat) + 1) * 16 ≤ roomB := roomM (by omega)
        simp only [f1, f2, f3, ln_st, true_imp_iff, true_and, and_self, lt01]
        refine ⟨fun h3 => ?_, fun h3 => ?_⟩
        · have a3 : 0 < ln s_api_Pos (gd (.sl 16 s_api_Pos) out (z (gd I rs k)).toNat) := by
            have := of_decide_eq_true h3
            omega
          have hw : IntKind.wrap .i64 ((ln s_api_Pos (gd (.sl 16 s_api_Pos) out (z (gd I rs k)).toNat) : Int) - 1) = ((ln s_api_Pos (gd (.sl 16 s_api_Pos) out (z (gd I rs k)).toNat) - 1 : Nat) : Int) := by
            rw [wrap64 _ (by omega) (by omega)]
            omega
          have f4 : (0 : Int) ≤ ((ln s_api_Pos (gd (.sl 16 s_api_Pos) out (z (gd I rs k)).toNat) - 1 : Nat) : Int) ∧ ((ln s_api_Pos (gd (.sl 16 s_api_Pos) out (z (gd I rs k)).toNat) - 1 : Nat) : Int) < (ln s_api_Pos (gd (.sl 16 s_api_Pos) out (z (gd I rs k)).toNat) : Int) := ⟨by omega, by omega⟩
          have f5 : ln s_api_Pos (gd (.sl 16 s_api_Pos) out (z (gd I rs k)).toNat) - 1 < ln s_api_Pos (gd (.sl 16 s_api_Pos) out (z (gd I rs k)).toNat) := by omega
          simp only [hw, f4, f5, Int.toNat_natCast, true_imp_iff, true_and, and_self, lt01]
          have hl : lastIs (gd (.sl 16 s_api_Pos) out (z (gd I rs k)).toNat) p = eP (gd s_api_Pos (gd (.sl 16 s_api_Pos) out (z (gd I rs k)).toNat) (ln s_api_Pos (gd (.sl 16 s_api_Pos) out (z (gd I rs k)).toNat) - 1)) p := by
            unfold lastIs
            rw [h3, Bool.true_and]
          rw [hl] at ih
          refine ⟨fun h4 => ?_, fun h4 => ?_⟩
          · have h4' : eP (gd s_api_Pos (gd (.sl 16 s_api_Pos) out (z (gd I rs k)).toNat) (ln s_api_Pos (gd (.sl 16 s_api_Pos) out (z (gd I rs k)).toNat) - 1)) p = true := h4
            rw [if_pos h4'] at ih
            exact ih
          · have h4' : eP (gd s_api_Pos (gd (.sl 16 s_api_Pos) out (z (gd I rs k)).toNat) (ln s_api_Pos (gd (.sl 16 s_api_Pos) out (z (gd I rs k)).toNat) - 1)) p = false := h4
            rw [if_neg (by rw [h4']; decide)] at ih
            exact ih
        · rw [if_neg (by unfold lastIs; rw [h3]; simp)] at ih
          exact ih)
theorem colW_l2 {Q : AV → Heap → Prop} (f : Fn) (hp : smallF f) (b : Nat) (hbl : b < ln s_api_Block (blocks f)) (N : Nat) (hN : N = ln s_api_Instr (bIns (gd s_api_Block (blocks f) b)) + 2) (hN2 : N ≤ 2097154) (n : Int) : ∀ k, k ≤ N → ∀ (out : List (Den (.sl 16 s_api_Pos))) (c : Nat), bnd out c → c + (N - k) * 1048576 ≤ 4398046511104 → Runs E_C8 (colW_L0 f n (IntKind.wrap .i64 ((b : Int) + 1)) (colB writesF f b (N - k) k out)) Q → Runs E_C8 (colW_L2 f b ((k : Int) - 1) n b out) Q :=
  up_ind (fun out c _ _ hn => .tree E_C8_ok (colW_L2_t _ _ _ _ _ _) (by
    have h1 : ¬ ((N : Int) - 1 ≤ (ln s_api_Instr (gd s_api_Block f.2.2.2.2.1 b).2.1 : Int)) := by
      have e : ln s_api_Instr (gd s_api_Block f.2.2.2.2.1 b).2.1 = ln s_api_Instr (bIns (gd s_api_Block (blocks f) b)) := rfl
      rw [e]
      omega
    have f1 : b < ln s_api_Block f.2.2.2.2.1 := hbl
    rw [Nat.sub_self] at hn
    simp only [wp_iff, chk_iff, know_iff, any_iff, rt_iff, hd_iff, true_imp_iff, true_and, and_true, and_self, lt01, Int.ofNat_lt, Int.ofNat_le, Int.natCast_nonneg, Int.toNat_natCast, decide_true, decide_false, Bool.true_eq_false, Bool.false_eq_true, false_imp_iff, Nat.lt_irrefl, imp_self, implies_true,  h1, f1]
    exact hn))
    fun k hk ih out c hb hc hn => .tree E_C8_ok (colW_L2_t _ _ _ _ _ _) (by
      have hRl := writesF_len hp (posA b k)
      have h1 : (k : Int) - 1 ≤ (ln s_api_Instr (gd s_api_Block f.2.2.2.2.1 b).2.1 : Int) := by
        have e : ln s_api_Instr (gd s_api_Block f.2.2.2.2.1 b).2.1 = ln s_api_Instr (bIns (gd s_api_Block (blocks f) b)) := rfl
        rw [e]
        omega
      have f1 : b < ln s_api_Block f.2.2.2.2.1 := hbl
      have hk2 : N - k = (N - (k + 1)) + 1 := by omega
      rw [hk2, colB] at hn
      rw [hk2, Nat.succ_mul] at hc
      have ih := ih (stepL (posA b k) (writesF f (posA b k)) out) (c + ln I (writesF f (posA b k))) (stepL_bnd hb) (by omega) hn
      have hw : IntKind.wrap .i64 ((k : Int) - 1 + 1) = ((k + 1 : Nat) : Int) - 1 := by
        rw [wrap64 _ (by omega) (by omega)]
        omega
      have l4 := colW_l4 (Q := Q) f b ((k : Int) - 1) n b (writesF f (posA b k)) hRl (posA b k) 0 (Nat.zero_le _) out c hb (by omega) (by rw [hw]; exact ih)
      simp only [wp_iff, chk_iff, know_iff, any_iff, rt_iff, hd_iff, true_imp_iff, true_and, and_true, and_self, lt01, Int.ofNat_lt, Int.ofNat_le, Int.natCast_nonneg, Int.toNat_natCast, decide_true, decide_false, Bool.true_eq_false, Bool.false_eq_true, false_imp_iff, Nat.lt_irrefl, imp_self, implies_true,  h1, f1]
      exact ⟨hp, fun _ _ => l4⟩)
theorem colW_l0 (f : Fn) (hp : smallF f) (l : List (Den s_api_Block)) (hl : blocks f = l) (hr : room 136 (ln s_api_Block l)) (Y : Den (.sl 24 (.sl 16 s_api_Pos))) : ∀ b, b ≤ ln s_api_Block l → ∀ (out : List (Den (.sl 16 s_api_Pos))) (c : Nat), bnd out c → c + 2 * szD (.sl 136 s_api_Block) (l.drop b) * 1048576 ≤ 4398046511104 → colF writesF f (ln s_api_Block l - b) b out = Y → Runs E_C8 (colW_L0 f (ln s_api_Block l : Nat) b out) (fun x h => x = .tv (.sl 24 (.sl 16 s_api_Pos)) Y ∧ h = []) :=
  up_ind (fun out c _ _ hY => .tree E_C8_ok (colW_L0_t _ _ _ _) (by
    rw [Nat.sub_self, colF] at hY
    simp only [wp_iff, chk_iff, know_iff, any_iff, rt_iff, hd_iff, true_imp_iff, true_and, and_true, and_self, lt01, Int.ofNat_lt, Int.ofNat_le, Int.natCast_nonneg, Int.toNat_natCast, decide_true, decide_false, Bool.true_eq_false, Bool.false_eq_true, false_imp_iff, Nat.lt_irrefl, imp_self, implies_true,  hY]))
    fun b hb ih out c hc hM hY => .tree E_C8_ok (colW_L0_t _ _ _ _) (by
      have hbl : b < ln s_api_Block (blocks f) := by rw [hl]; exact hb
      have e : ln s_api_Block l - b = (ln s_api_Block l - (b + 1)) + 1 := by omega
      rw [e, colF, hl] at hY
      rw [drop_gd hb, sz_cons] at hM
      have hsz := sz_blk (gd s_api_Block l b)
      have h80 : ln s_api_Instr (gd s_api_Block l b).2.1 ≤ szD (.sl 80 s_api_Instr) (gd s_api_Block l b).2.1 := sz_ln
      have hsm := small_b hp (n := (b : Int)) (by omega)
      have hblk : blk f (b : Int) = gd s_api_Block l b := by unfold blk; rw [hl]; rfl
      rw [hblk] at hsm
      generalize hN : ln s_api_Instr (bIns (gd s_api_Block l b)) + 2 = N at hY
      have hN' : ln s_api_Instr (gd s_api_Block l b).2.1 + 2 = N := hN
      have hcB := colB_bnd (R := writesF) (writesF_len hp) (b := b) (n := N) (k := 0) hc
      have hN1 : N = ln s_api_Instr (bIns (gd s_api_Block (blocks f) b)) + 2 := by rw [hl]; exact hN.symm
      have hN2 : N ≤ 2097154 := by omega
      have hN0 : N ≤ 2 * (szD s_api_Block (gd s_api_Block l b) + 1) := by omega
      have hA := arithN hN0 hM
      have hN3 : c + (N - 0) * 1048576 ≤ 4398046511104 := Nat.le_trans (Nat.le_add_right _ _) hA
      have hrun := ih _ _ hcB hA hY
      rw [← wrapS hb (room_lt hr)] at hrun
      have := colW_l2 (Q := fun x h => x = .tv (.sl 24 (.sl 16 s_api_Pos)) Y ∧ h = []) f hp b hbl N hN1 hN2 (ln s_api_Block l : Nat) 0 (Nat.zero_le _) out c hc hN3 hrun
      simp only [wp_iff, chk_iff, know_iff, any_iff, rt_iff, hd_iff, true_imp_iff, true_and, and_true, and_self, lt01, Int.ofNat_lt, Int.ofNat_le, Int.natCast_nonneg, Int.toNat_natCast, decide_true, decide_false, Bool.true_eq_false, Bool.false_eq_true, false_imp_iff, Nat.lt_irrefl, imp_self, implies_true,  hb]
      exact this)
def k_colW : Con := con [.d s_api_Func, .fn f_cfg_Writes []] (.sl 24 (.sl 16 s_api_Pos)) (fun x => smallF x.1) fun x => defsF x.1
theorem m_colW (f : Den s_api_Func) (h_f : okD s_api_Func f) (hp : smallF f) : Runs E_C8 (start E_C8 f_cfg_collect [(.tv s_api_Func f), (.fn f_cfg_Writes [])]) (fun r_ h_ => r_ = (.tv (.sl 24 (.sl 16 s_api_Pos)) (defsF f)) ∧ h_ = []) := .tree E_C8_ok (colW_t f) (by
  simp only [wp_iff, chk_iff, know_iff, any_iff, rt_iff, hd_iff, true_imp_iff, true_and, and_true, and_self, lt01]
  have ho := okB_of h_f
  have h2 := sz_func f
  have h3 := hp
  unfold smallF at h3
  refine ⟨by omega, fun _ => ⟨?_, fun _ => ?_⟩⟩
  · have : ln I f.2.2.2.1 ≤ 1048576 := by
      have := sz_I f.2.2.2.1
      omega
    unfold roomB
    omega
  · exact colW_l0 f hp (blocks f) rfl ho.1 (defsF f) 0 (Nat.zero_le _) _ 0 (fun r => by rw [gd_rep]; exact Nat.le_refl _) (by
      show 0 + 2 * szD (.sl 136 s_api_Block) f.2.2.2.2.1 * 1048576 ≤ _
      omega) rfl)
theorem c_colW : SpecOK E_C8 f_cfg_collect k_colW.spec := spec_of fun x hx hp => ⟨rfl, m_colW x.1 hx.1 hp⟩
def L_C8 : List (FuncId × FSpec) := [(f_cfg_collect, k_colW.spec)] ++ L_C7
theorem L_C8_ok : ∀ x ∈ L_C8, SpecOK (ctx []) x.1 x.2 := by
  unfold L_C8
  simp only [List.cons_append, List.nil_append, List.forall_mem_cons]
  exact ⟨c_colW, L_C7_ok⟩
end Burn.M27Q
namespace Burn.M27Q
open Go Go.BE Go.Proofs
set_option maxRecDepth 100000
set_option linter.unusedVariables false
set_option linter.unusedSimpArgs false
open Burn.Cfg
noncomputable abbrev E_C9 : Ctx := ctx L_C8
theorem E_C9_ok : EOK E_C9 := ctx_ok L_C8_ok
def cuts_C9 : CutL := []
def rets_C9 : FuncId → List (Option Fx)
  | 28 => [some (.dat (.sl 24 (.sl 16 s_api_Pos)))]
  | _ => []
def H_C9 : Hints := { cut := cutOf cuts_C9, ret := rets_C9 }
theorem cfg_Defs_t (f : Den s_api_Func) : run E_C9 H_C9 f_cfg_Defs 3000 (start E_C9 f_cfg_Defs [(.tv s_api_Func f)]) = (.chk (smallF f) (.know (okD (.sl 24 (.sl 16 s_api_Pos)) (defsF f)) (rt (.tv (.sl 24 (.sl 16 s_api_Pos)) (defsF f)) []))) := by kernel_rfl

def k_cfg_Defs : Con := con [.d s_api_Func] (.sl 24 (.sl 16 s_api_Pos)) (fun x => smallF x.1) fun x => defsF x.1
theorem m_cfg_Defs (f : Den s_api_Func) (h_f : okD s_api_Func f) (hp : smallF f) : Runs E_C9 (start E_C9 f_cfg_Defs [(.tv s_api_Func f)]) (fun r_ h_ => r_ = (.tv (.sl 24 (.sl 16 s_api_Pos)) (defsF f)) ∧ h_ = []) := .tree E_C9_ok (cfg_Defs_t f) (by
  simp only [wp_iff, chk_iff, know_iff, any_iff, rt_iff, hd_iff, true_imp_iff, true_and, and_true, and_self, lt01]
  exact ⟨hp, fun _ _ => trivial⟩)
theorem c_cfg_Defs : SpecOK E_C9 f_cfg_Defs k_cfg_Defs.spec := spec_of fun x hx hp => ⟨rfl, m_cfg_Defs x.1 hx.1 hp⟩
def L_C9 : List (FuncId × FSpec) := [(f_cfg_Defs, k_cfg_Defs.spec)] ++ L_C8
theorem L_C9_ok : ∀ x ∈ L_C9, SpecOK (ctx []) x.1 x.2 := by
  unfold L_C9
  simp only [List.cons_append, List.nil_append, List.forall_mem_cons]
  exact ⟨c_cfg_Defs, L_C8_ok⟩
end Burn.M27Q
namespace Burn.M27Q
open Go Go.BE Go.Proofs
set_option maxRecDepth 100000
set_option linter.unusedVariables false
set_option linter.unusedSimpArgs false
open Burn.Cfg
noncomputable abbrev E_C12 : Ctx := ctx L_C9
theorem E_C12_ok : EOK E_C12 := ctx_ok L_C9_ok
def cuts_C12 : CutL := [([], 57, 0, [1, 2, 5, 19, 20, 21], [], []),
  ([], 57, 2, [1, 2, 5, 6, 7, 8, 19, 20, 21], [], []),
  ([], 57, 4, [1, 2, 5, 6, 7, 8, 9, 19, 20, 21, 43, 44, 45], [], [])]
def rets_C12 : FuncId → List (Option Fx)
  | 57 => [some (.dat (.sl 24 (.sl 16 s_api_Pos)))]
  | _ => []
def H_C12 : Hints := { cut := cutOf cuts_C12, ret := rets_C12 }
noncomputable def r20_collect_L0 (writes : Bool) (f : Den s_api_Func) (t19 : List (Den s_api_Block)) (t20 : Int) (t21 : Int) (out : List (Den (.sl 16 s_api_Pos))) : Cfg := hcfg E_C12 f_r20_collect 0 [(1, (vb writes)), (2, (.rtp s_api_Func f)), (5, (.osl 0 0 [] none)), (19, (.tv (.sl 136 s_api_Block) t19)), (20, (vi t20)), (21, (vi t21))] [(0, ⟨(.arr 1 24 (.sl 16 s_api_Pos) out), 0, [], false, none⟩)] 1
noncomputable def r20_collect_L2 (writes : Bool) (f : Den s_api_Func) (i : Int) (k : Int) (t19 : List (Den s_api_Block)) (t20 : Int) (t21 : Int) (out : List (Den (.sl 16 s_api_Pos))) (b_0 : List (Den I)) (b_1 : List (Den s_api_Instr)) (b_2 : Int) (b_3 : List (Den I)) (b_4 : List (Den I)) (b_5 : List (Den s_api_Edge)) (b_6 : Int) : Cfg := hcfg E_C12 f_r20_collect 2 [(1, (vb writes)), (2, (.rtp s_api_Func f)), (5, (.osl 0 0 [] none)), (6, (vi i)), (7, (.ref 1 0)), (8, (vi k)), (19, (.tv (.sl 136 s_api_Block) t19)), (20, (vi t20)), (21, (vi t21))] [(0, ⟨(.arr 1 24 (.sl 16 s_api_Pos) out), 0, [], false, none⟩), (1, ⟨(.cells [(.tv (.sl 8 I) b_0), (.tv (.sl 80 s_api_Instr) b_1), (vi b_2), (.tv (.sl 8 I) b_3), (.tv (.sl 8 I) b_4), (.tv (.sl 32 s_api_Edge) b_5), (vi b_6)]), 1, [], false, none⟩)] 2
noncomputable def r20_collect_L4 (writes : Bool) (f : Den s_api_Func) (i : Int) (k : Int) (t19 : List (Den s_api_Block)) (t20 : Int) (t21 : Int) (t43 : List (Den I)) (t44 : Int) (t45 : Int) (out : List (Den (.sl 16 s_api_Pos))) (b_0 : List (Den I)) (b_1 : List (Den s_api_Instr)) (b_2 : Int) (b_3 : List (Den I)) (b_4 : List (Den I)) (b_5 : List (Den s_api_Edge)) (b_6 : Int) (at_ : Den s_api_Pos) : Cfg := hcfg E_C12 f_r20_collect 4 [(1, (vb writes)), (2, (.rtp s_api_Func f)), (5, (.osl 0 0 [] none)), (6, (vi i)), (7, (.ref 1 0)), (8, (vi k)), (9, (.tref 2 2 [] (0 : Nat) [])), (19, (.tv (.sl 136 s_api_Block) t19)), (20, (vi t20)), (21, (vi t21)), (43, (.tv (.sl 8 I) t43)), (44, (vi t44)), (45, (vi t45))] [(0, ⟨(.arr 1 24 (.sl 16 s_api_Pos) out), 0, [], false, none⟩), (1, ⟨(.cells [(.tv (.sl 8 I) b_0), (.tv (.sl 80 s_api_Instr) b_1), (vi b_2), (.tv (.sl 8 I) b_3), (.tv (.sl 8 I) b_4), (.tv (.sl 32 s_api_Edge) b_5), (vi b_6)]), 1, [], false, none⟩), (2, ⟨(.arr 0 16 s_api_Pos ([at_] : List (Den s_api_Pos))), 2, [], false, none⟩)] 3
theorem r20_collect_t (f : Den s_api_Func) (writes : Bool) : run E_C12 H_C12 f_r20_collect 3000 (start E_C12 f_r20_collect [(.tv s_api_Func f), (vb writes)]) = (.chk (((ln I f.2.2.2.1) : Int) = ((ln I f.2.2.2.1) : Int)) (.chk (0 ≤ ((ln I f.2.2.2.1) : Int)) (.chk ((ln I f.2.2.2.1) * 24 ≤ roomB) (hd (r20_collect_L0 writes f f.2.2.2.2.1 ((ln s_api_Block f.2.2.2.2.1) : Int) (0 : Int) (List.replicate (ln I f.2.2.2.1) (dz (.sl 16 s_api_Pos)))))))) := by kernel_rfl
theorem r20_collect_L0_t (writes : Bool) (f : Den s_api_Func) (t19 : List (Den s_api_Block)) (t20 : Int) (t21 : Int) (out : List (Den (.sl 16 s_api_Pos))) : run E_C12 H_C12 f_r20_collect 3000 (r20_collect_L0 writes f t19 t20 t21 out) = (cond (decide (t21 < t20)) (.chk (0 ≤ t21 ∧ t21 < (ln s_api_Block t19)) (hd (r20_collect_L2 writes f t21 (-1 : Int) t19 t20 t21 out ((gd s_api_Block t19 ((t21).toNat)).1) (((gd s_api_Block t19 ((t21).toNat)).2).1) (z (((((gd s_api_Block t19 ((t21).toNat)).2).2).1).1)) ((((((gd s_api_Block t19 ((t21).toNat)).2).2).1).2).1) (((((((gd s_api_Block t19 ((t21).toNat)).2).2).1).2).2).1) ((((((((gd s_api_Block t19 ((t21).toNat)).2).2).1).2).2).2).1) (z (((((((((gd s_api_Block t19 ((t21).toNat)).2).2).1).2).2).2).2).1))))) (rt (.tv (.sl 24 (.sl 16 s_api_Pos)) out) [])) := by kernel_rfl
theorem r20_collect_L2_t (writes : Bool) (f : Den s_api_Func) (i : Int) (k : Int) (t19 : List (Den s_api_Block)) (t20 : Int) (t21 : Int) (out : List (Den (.sl 16 s_api_Pos))) (b_0 : List (Den I)) (b_1 : List (Den s_api_Instr)) (b_2 : Int) (b_3 : List (Den I)) (b_4 : List (Den I)) (b_5 : List (Den s_api_Edge)) (b_6 : Int) : run E_C12 H_C12 f_r20_collect 3000 (r20_collect_L2 writes f i k t19 t20 t21 out b_0 b_1 b_2 b_3 b_4 b_5 b_6) = (cond (decide (k ≤ ((ln s_api_Instr b_1) : Int))) (.chk ((0 : Nat) < (1 : Nat)) (.chk ((0 : Nat) < (1 : Nat)) (.chk (smallF f) (.know (okD (.sl 8 I) (readsF f (i, k, ()))) (cond writes (.chk ((0 : Nat) < (1 : Nat)) (.chk (smallF f) (.know (okD (.sl 8 I) (writesF f (i, k, ()))) (hd (r20_collect_L4 writes f i k t19 t20 t21 (writesF f (i, k, ())) ((ln I (writesF f (i, k, ()))) : Int) (0 : Int) out b_0 b_1 b_2 b_3 b_4 b_5 b_6 (i, k, ())))))) (hd (r20_collect_L4 writes f i k t19 t20 t21 (readsF f (i, k, ())) ((ln I (readsF f (i, k, ()))) : Int) (0 : Int) out b_0 b_1 b_2 b_3 b_4 b_5 b_6 (i, k, ())))))))) (hd (r20_collect_L0 writes f t19 t20 (IntKind.wrap .i64 (t21 + (1 : Int))) out))) := by kernel_rfl
theorem r20_collect_L4_t (writes : Bool) (f : Den s_api_Func) (i : Int) (k : Int) (t19 : List (Den s_api_Block)) (t20 : Int) (t21 : Int) (t43 : List (Den I)) (t44 : Int) (t45 : Int) (out : List (Den (.sl 16 s_api_Pos))) (b_0 : List (Den I)) (b_1 : List (Den s_api_Instr)) (b_2 : Int) (b_3 : List (Den I)) (b_4 : List (Den I)) (b_5 : List (Den s_api_Edge)) (b_6 : Int) (at_ : Den s_api_Pos) : run E_C12 H_C12 f_r20_collect 3000 (r20_collect_L4 writes f i k t19 t20 t21 t43 t44 t45 out b_0 b_1 b_2 b_3 b_4 b_5 b_6 at_) = (cond (decide (t45 < t44)) (.chk (0 ≤ t45 ∧ t45 < (ln I t43)) (cond (decide ((z (gd I t43 ((t45).toNat))) < (0 : Int))) (hd (r20_collect_L4 writes f i k t19 t20 t21 t43 t44 (IntKind.wrap .i64 (t45 + (1 : Int))) out b_0 b_1 b_2 b_3 b_4 b_5 b_6 at_)) (cond (decide ((z (gd I t43 ((t45).toNat))) ≥ ((ln I f.2.2.2.1) : Int))) (hd (r20_collect_L4 writes f i k t19 t20 t21 t43 t44 (IntKind.wrap .i64 (t45 + (1 : Int))) out b_0 b_1 b_2 b_3 b_4 b_5 b_6 at_)) (.chk (0 ≤ (z (gd I t43 ((t45).toNat))) ∧ (z (gd I t43 ((t45).toNat))) < (ln (.sl 16 s_api_Pos) out)) (.chk (((z (gd I t43 ((t45).toNat)))).toNat < (ln (.sl 16 s_api_Pos) out)) (.chk (((z (gd I t43 ((t45).toNat)))).toNat < (ln (.sl 16 s_api_Pos) out)) (cond (((ln s_api_Pos (gd (.sl 16 s_api_Pos) out (((z (gd I t43 ((t45).toNat)))).toNat))) : Int) == (0 : Int)) (.chk (0 ≤ (z (gd I t43 ((t45).toNat))) ∧ (z (gd I t43 ((t45).toNat))) < (ln (.sl 16 s_api_Pos) out)) (.chk (((z (gd I t43 ((t45).toNat)))).toNat < (ln (.sl 16 s_api_Pos) out)) (.chk ((0 : Nat) < (1 : Nat)) (.chk (((z (gd I t43 ((t45).toNat)))).toNat < (ln (.sl 16 s_api_Pos) out)) (.chk (((ln s_api_Pos (gd (.sl 16 s_api_Pos) out (((z (gd I t43 ((t45).toNat)))).toNat))) + (1 : Nat)) * 16 ≤ roomB) (.chk (0 ≤ (z (gd I t43 ((t45).toNat))) ∧ (z (gd I t43 ((t45).toNat))) < (ln (.sl 16 s_api_Pos) (st (.sl 16 s_api_Pos) out (((z (gd I t43 ((t45).toNat)))).toNat) (ap s_api_Pos (gd (.sl 16 s_api_Pos) out (((z (gd I t43 ((t45).toNat)))).toNat)) ([at_] : List (Den s_api_Pos)))))) (.chk (((z (gd I t43 ((t45).toNat)))).toNat = ((z (gd I t43 ((t45).toNat)))).toNat) (.chk (((z (gd I t43 ((t45).toNat)))).toNat = ((z (gd I t43 ((t45).toNat)))).toNat) (hd (r20_collect_L4 writes f i k t19 t20 t21 t43 t44 (IntKind.wrap .i64 (t45 + (1 : Int))) (st (.sl 16 s_api_Pos) out (((z (gd I t43 ((t45).toNat)))).toNat) (ap s_api_Pos (gd (.sl 16 s_api_Pos) out (((z (gd I t43 ((t45).toNat)))).toNat)) ([at_] : List (Den s_api_Pos)))) b_0 b_1 b_2 b_3 b_4 b_5 b_6 at_)))))))))) (.chk (0 ≤ (z (gd I t43 ((t45).toNat))) ∧ (z (gd I t43 ((t45).toNat))) < (ln (.sl 16 s_api_Pos) out)) (.chk (((z (gd I t43 ((t45).toNat)))).toNat < (ln (.sl 16 s_api_Pos) out)) (.chk (((z (gd I t43 ((t45).toNat)))).toNat < (ln (.sl 16 s_api_Pos) out)) (.chk (0 ≤ (IntKind.wrap .i64 (((ln s_api_Pos (gd (.sl 16 s_api_Pos) out (((z (gd I t43 ((t45).toNat)))).toNat))) : Int) - (1 : Int))) ∧ (IntKind.wrap .i64 (((ln s_api_Pos (gd (.sl 16 s_api_Pos) out (((z (gd I t43 ((t45).toNat)))).toNat))) : Int) - (1 : Int))) < (ln s_api_Pos (gd (.sl 16 s_api_Pos) out (((z (gd I t43 ((t45).toNat)))).toNat)))) (.chk (((z (gd I t43 ((t45).toNat)))).toNat < (ln (.sl 16 s_api_Pos) out)) (.chk (((IntKind.wrap .i64 (((ln s_api_Pos (gd (.sl 16 s_api_Pos) out (((z (gd I t43 ((t45).toNat)))).toNat))) : Int) - (1 : Int)))).toNat < (ln s_api_Pos (gd (.sl 16 s_api_Pos) out (((z (gd I t43 ((t45).toNat)))).toNat)))) (.chk ((0 : Nat) < (1 : Nat)) (cond (!(((z ((gd s_api_Pos (gd (.sl 16 s_api_Pos) out (((z (gd I t43 ((t45).toNat)))).toNat)) (((IntKind.wrap .i64 (((ln s_api_Pos (gd (.sl 16 s_api_Pos) out (((z (gd I t43 ((t45).toNat)))).toNat))) : Int) - (1 : Int)))).toNat)).1)) == (z at_.1)) && (((z (((gd s_api_Pos (gd (.sl 16 s_api_Pos) out (((z (gd I t43 ((t45).toNat)))).toNat)) (((IntKind.wrap .i64 (((ln s_api_Pos (gd (.sl 16 s_api_Pos) out (((z (gd I t43 ((t45).toNat)))).toNat))) : Int) - (1 : Int)))).toNat)).2).1)) == (z at_.2.1)) && true))) (.chk (0 ≤ (z (gd I t43 ((t45).toNat))) ∧ (z (gd I t43 ((t45).toNat))) < (ln (.sl 16 s_api_Pos) out)) (.chk (((z (gd I t43 ((t45).toNat)))).toNat < (ln (.sl 16 s_api_Pos) out)) (.chk ((0 : Nat) < (1 : Nat)) (.chk (((z (gd I t43 ((t45).toNat)))).toNat < (ln (.sl 16 s_api_Pos) out)) (.chk (((ln s_api_Pos (gd (.sl 16 s_api_Pos) out (((z (gd I t43 ((t45).toNat)))).toNat))) + (1 : Nat)) * 16 ≤ roomB) (.chk (0 ≤ (z (gd I t43 ((t45).toNat))) ∧ (z (gd I t43 ((t45).toNat))) < (ln (.sl 16 s_api_Pos) (st (.sl 16 s_api_Pos) out (((z (gd I t43 ((t45).toNat)))).toNat) (ap s_api_Pos (gd (.sl 16 s_api_Pos) out (((z (gd I t43 ((t45).toNat)))).toNat)) ([at_] : List (Den s_api_Pos)))))) (.chk (((z (gd I t43 ((t45).toNat)))).toNat = ((z (gd I t43 ((t45).toNat)))).toNat) (.chk (((z (gd I t43 ((t45).toNat)))).toNat = ((z (gd I t43 ((t45).toNat)))).toNat) (hd (r20_collect_L4 writes f i k t19 t20 t21 t43 t44 (IntKind.wrap .i64 (t45 + (1 : Int))) (st (.sl 16 s_api_Pos) out (((z (gd I t43 ((t45).toNat)))).toNat) (ap s_api_Pos (gd (.sl 16 s_api_Pos) out (((z (gd I t43 ((t45).toNat)))).toNat)) ([at_] : List (Den s_api_Pos)))) b_0 b_1 b_2 b_3 b_4 b_5 b_6 at_)))))))))) (hd (r20_collect_L4 writes f i k t19 t20 t21 t43 t44 (IntKind.wrap .i64 (t45 + (1 : Int))) out b_0 b_1 b_2 b_3 b_4 b_5 b_6 at_))))))))))))))))) (hd (r20_collect_L2 writes f i (IntKind.wrap .i64 (k + (1 : Int))) t19 t20 t21 out b_0 b_1 b_2 b_3 b_4 b_5 b_6))) := by kernel_rfl
def rwF (w : Bool) (f : Fn) (p : Den s_api_Pos) : Den (.sl 8 I) := cond w (writesF f p) (readsF f p)
theorem rwF_len {w : Bool} {f : Fn} (hp : smallF f) (p : Den s_api_Pos) : ln I (rwF w f p) ≤ 1048576 := by
  cases w
  · exact readsF_len hp p
  · exact writesF_len hp p
def rwC (f : Fn) (w : Bool) : Den (.sl 24 (.sl 16 s_api_Pos)) := collectF (rwF w) f
theorem stepL_ln {p : Den s_api_Pos} : ∀ {rs : List (Den I)} {out : List (Den (.sl 16 s_api_Pos))}, ln (.sl 16 s_api_Pos) (stepL p rs out) = ln (.sl 16 s_api_Pos) out
  | [], _ => rfl
  | r :: rs, out => (stepL_ln (rs := rs)).trans step1_ln
theorem colB_ln {R : Fn → Den s_api_Pos → Den (.sl 8 I)} {f : Fn} {b : Nat} : ∀ {n k : Nat} {out : List (Den (.sl 16 s_api_Pos))}, ln (.sl 16 s_api_Pos) (colB R f b n k out) = ln (.sl 16 s_api_Pos) out
  | 0, _, _ => rfl
  | n + 1, k, out => (colB_ln (n := n) (k := k + 1)).trans stepL_ln
theorem rcol_l4 {Q : AV → Heap → Prop} (w : Bool) (f : Fn) (i k0 n b : Int) (l : List (Den s_api_Block)) (b0 b3 b4 : List (Den I)) (b1 : List (Den s_api_Instr)) (b2 b6 : Int) (b5 : List (Den s_api_Edge)) (rs : List (Den I)) (hrs : ln I rs ≤ 1048576) (p : Den s_api_Pos) : ∀ k, k ≤ ln I rs → ∀ (out : List (Den (.sl 16 s_api_Pos))) (c : Nat), ln (.sl 16 s_api_Pos) out = ln I f.2.2.2.1 → bnd out c → c + (ln I rs - k) ≤ 4398046511104 → Runs E_C12 (r20_collect_L2 w f i (IntKind.wrap .i64 (k0 + 1)) l n b (stepL p (rs.drop k) out) b0 b1 b2 b3 b4 b5 b6) Q → Runs E_C12 (r20_collect_L4 w f i k0 l n b rs (ln I rs : Nat) k out b0 b1 b2 b3 b4 b5 b6 p) Q :=
  up_ind (fun out c _ _ _ hn => .tree E_C12_ok (r20_collect_L4_t _ _ _ _ _ _ _ _ _ _ _ _ _ _ _ _ _ _ _) (by
    rw [drop_ln] at hn
    simp only [wp_iff, chk_iff, know_iff, any_iff, rt_iff, hd_iff, true_imp_iff, true_and, and_true, and_self, lt01, Int.ofNat_lt, Int.ofNat_le, Int.natCast_nonneg, Int.toNat_natCast, decide_true, decide_false, Bool.true_eq_false, Bool.false_eq_true, false_imp_iff, Nat.lt_irrefl, imp_self, implies_true,  stepL] at hn ⊢
    exact hn))
    fun k hk ih out c ho hb hc hn => .tree E_C12_ok (r20_collect_L4_t _ _ _ _ _ _ _ _ _ _ _ _ _ _ _ _ _ _ _) (by
      rw [drop_gd hk, stepL] at hn
      have ih := ih (step1 p out (z (gd I rs k))) (c + 1) (step1_ln.trans ho) (step1_bnd hb) (by omega) hn
      clear hn
      simp only [wp_iff, chk_iff, know_iff, any_iff, rt_iff, hd_iff, true_imp_iff, true_and, and_true, and_self, lt01, Int.ofNat_lt, Int.ofNat_le, Int.natCast_nonneg, Int.toNat_natCast, decide_true, decide_false, Bool.true_eq_false, Bool.false_eq_true, false_imp_iff, Nat.lt_irrefl, imp_self, implies_true,  hk, wrapS hk (show ln I rs < 9223372036854775807 by omega)]
      rw [← ho]
      unfold step1 at ih
      refine ⟨fun h1 => ?_, fun h1 => ⟨fun h2 => ?_, fun h2 => ?_⟩⟩
      · rw [if_pos (.inl (of_decide_eq_true h1))] at ih
        exact ih
      · rw [if_pos (.inr (of_decide_eq_true h2))] at ih
        exact ih
      · have a1 := of_decide_eq_false h1
        have a2 := of_decide_eq_false h2
        rw [if_neg (by omega)] at ih
        have f1 : 0 ≤ z (gd I rs k) ∧ z (gd I rs k) < (ln (.sl 16 s_api_Pos) out : Int) := ⟨by omega, by omega⟩
        have f2 : (z (gd I rs k)).toNat < ln (.sl 16 s_api_Pos) out := by omega
        have hG := hb (z (gd I rs k)).toNat
        have f3 : (ln s_api_Pos (gd (.sl 16 s_api_Pos) out (z (gd I rs k)).toNat) + 1) * 16 ≤ roomB := roomM (by omega)
        simp only [f1, f2, f3, ln_st, true_imp_iff, true_and, and_self, lt01]
        refine ⟨fun h3 => ?_, fun h3 => ?_⟩
        · have a3 : ln s_api_Pos (gd (.sl 16 s_api_Pos) out (z (gd I rs k)).toNat) = 0 := by simpa using h3
          rw [if_neg (by unfold lastIs; rw [a3]; simp)] at ih
          exact ih
        · have a3 : 0 < ln s_api_Pos (gd (.sl 16 s_api_Pos) out (z (gd I rs k)).toNat) := by
            have : (ln s_api_Pos (gd (.sl 16 s_api_Pos) out (z (gd I rs k)).toNat) : Int) ≠ 0 := by simpa using h3
            omega
          have hw : IntKind.wrap .i64 ((ln s_api_Pos (gd (.sl 16 s_api_Pos) out (z (gd I rs k)).toNat) : Int) - 1) = ((ln s_api_Pos (gd (.sl 16 s_api_Pos) out (z (gd I rs k)).toNat) - 1 : Nat) : Int) := by
            rw [wrap64 _ (by omega) (by omega)]
            omega
          have f4 : (0 : Int) ≤ ((ln s_api_Pos (gd (.sl 16 s_api_Pos) out (z (gd I rs k)).toNat) - 1 : Nat) : Int) ∧ ((ln s_api_Pos (gd (.sl 16 s_api_Pos) out (z (gd I rs k)).toNat) - 1 : Nat) : Int) < (ln s_api_Pos (gd (.sl 16 s_api_Pos) out (z (gd I rs k)).toNat) : Int) := ⟨by omega, by omega⟩
          have f5 : ln s_api_Pos (gd (.sl 16 s_api_Pos) out (z (gd I rs k)).toNat) - 1 < ln s_api_Pos (gd (.sl 16 s_api_Pos) out (z (gd I rs k)).toNat) := by omega
          simp only [hw, f4, f5, Int.toNat_natCast, true_imp_iff, true_and, and_self, lt01]
          have hl : lastIs (gd (.sl 16 s_api_Pos) out (z (gd I rs k)).toNat) p = eP (gd s_api_Pos (gd (.sl 16 s_api_Pos) out (z (gd I rs k)).toNat) (ln s_api_Pos (gd (.sl 16 s_api_Pos) out (z (gd I rs k)).toNat) - 1)) p := by
            unfold lastIs
            rw [show decide ((ln s_api_Pos (gd (.sl 16 s_api_Pos) out (z (gd I rs k)).toNat) : Int) > 0) = true by simp; omega, Bool.true_and]
          rw [hl] at ih
          refine ⟨fun h4 => ?_, fun h4 => ?_⟩
          · have h4' : eP (gd s_api_Pos (gd (.sl 16 s_api_Pos) out (z (gd I rs k)).toNat) (ln s_api_Pos (gd (.sl 16 s_api_Pos) out (z (gd I rs k)).toNat) - 1)) p = false := by
              have h5 : (!(eP (gd s_api_Pos (gd (.sl 16 s_api_Pos) out (z (gd I rs k)).toNat) (ln s_api_Pos (gd (.sl 16 s_api_Pos) out (z (gd I rs k)).toNat) - 1)) p)) = true := h4
              simpa using h5
            rw [if_neg (by rw [h4']; decide)] at ih
            exact ih
          · have h4' : eP (gd s_api_Pos (gd (.sl 16 s_api_Pos) out (z (gd I rs k)).toNat) (ln s_api_Pos (gd (.sl 16 s_api_Pos) out (z (gd I rs k)).toNat) - 1)) p = true := by
              have h5 : (!(eP (gd s_api_Pos (gd (.sl 16 s_api_Pos) out (z (gd I rs k)).toNat) (ln s_api_Pos (gd (.sl 16 s_api_Pos) out (z (gd I rs k)).toNat) - 1)) p)) = false := h4
              simpa using h5
            rw [if_pos h4'] at ih
            exact ih)
theorem rcol_l2 {Q : AV → Heap → Prop} (w : Bool) (f : Fn) (hp : smallF f) (b : Nat) (l : List (Den s_api_Block)) (b0 b3 b4 : List (Den I)) (b1 : List (Den s_api_Instr)) (b2 b6 : Int) (b5 : List (Den s_api_Edge)) (N : Nat) (hN : N = ln s_api_Instr b1 + 2) (hN2 : N ≤ 2097154) (n : Int) : ∀ k, k ≤ N → ∀ (out : List (Den (.sl 16 s_api_Pos))) (c : Nat), ln (.sl 16 s_api_Pos) out = ln I f.2.2.2.1 → bnd out c → c + (N - k) * 1048576 ≤ 4398046511104 → Runs E_C12 (r20_collect_L0 w f l n (IntKind.wrap .i64 ((b : Int) + 1)) (colB (rwF w) f b (N - k) k out)) Q → Runs E_C12 (r20_collect_L2 w f b ((k : Int) - 1) l n b out b0 b1 b2 b3 b4 b5 b6) Q :=
  up_ind (fun out c _ _ _ hn => .tree E_C12_ok (r20_collect_L2_t _ _ _ _ _ _ _ _ _ _ _ _ _ _ _) (by
    have h1 : ¬ ((N : Int) - 1 ≤ (ln s_api_Instr b1 : Int)) := by omega
    rw [Nat.sub_self] at hn
    simp only [wp_iff, chk_iff, know_iff, any_iff, rt_iff, hd_iff, true_imp_iff, true_and, and_true, and_self, lt01, Int.ofNat_lt, Int.ofNat_le, Int.natCast_nonneg, Int.toNat_natCast, decide_true, decide_false, Bool.true_eq_false, Bool.false_eq_true, false_imp_iff, Nat.lt_irrefl, imp_self, implies_true,  h1]
    exact hn))
    fun k hk ih out c ho hb hc hn => .tree E_C12_ok (r20_collect_L2_t _ _ _ _ _ _ _ _ _ _ _ _ _ _ _) (by
      have hRl := rwF_len (w := w) hp (posA b k)
      have h1 : (k : Int) - 1 ≤ (ln s_api_Instr b1 : Int) := by omega
      have hk2 : N - k = (N - (k + 1)) + 1 := by omega
      rw [hk2, colB] at hn
      rw [hk2, Nat.succ_mul] at hc
      have ih := ih (stepL (posA b k) (rwF w f (posA b k)) out) (c + ln I (rwF w f (posA b k))) (stepL_ln.trans ho) (stepL_bnd hb) (by omega) hn
      have hw : IntKind.wrap .i64 ((k : Int) - 1 + 1) = ((k + 1 : Nat) : Int) - 1 := by
        rw [wrap64 _ (by omega) (by omega)]
        omega
      have l4 := rcol_l4 (Q := Q) w f b ((k : Int) - 1) n b l b0 b3 b4 b1 b2 b6 b5 (rwF w f (posA b k)) hRl (posA b k) 0 (Nat.zero_le _) out c ho hb (by omega) (by rw [hw]; exact ih)
      simp only [wp_iff, chk_iff, know_iff, any_iff, rt_iff, hd_iff, true_imp_iff, true_and, and_true, and_self, lt01, Int.ofNat_lt, Int.ofNat_le, Int.natCast_nonneg, Int.toNat_natCast, decide_true, decide_false, Bool.true_eq_false, Bool.false_eq_true, false_imp_iff, Nat.lt_irrefl, imp_self, implies_true,  h1]
      cases w
      · exact ⟨hp, fun _ _ => ⟨fun h => absurd h (by decide), fun _ => l4⟩⟩
      · exact ⟨hp, fun _ _ => ⟨fun _ => ⟨hp, fun _ _ => l4⟩, fun h => absurd h (by decide)⟩⟩)
theorem rcol_l0 (w : Bool) (f : Fn) (hp : smallF f) (l : List (Den s_api_Block)) (hl : blocks f = l) (hr : room 136 (ln s_api_Block l)) (Y : Den (.sl 24 (.sl 16 s_api_Pos))) : ∀ b, b ≤ ln s_api_Block l → ∀ (out : List (Den (.sl 16 s_api_Pos))) (c : Nat), ln (.sl 16 s_api_Pos) out = ln I f.2.2.2.1 → bnd out c → c + 2 * szD (.sl 136 s_api_Block) (l.drop b) * 1048576 ≤ 4398046511104 → colF (rwF w) f (ln s_api_Block l - b) b out = Y → Runs E_C12 (r20_collect_L0 w f l (ln s_api_Block l : Nat) b out) (fun x h => x = .tv (.sl 24 (.sl 16 s_api_Pos)) Y ∧ h = []) :=
  up_ind (fun out c _ _ _ hY => .tree E_C12_ok (r20_collect_L0_t _ _ _ _ _ _) (by
    rw [Nat.sub_self, colF] at hY
    simp only [wp_iff, chk_iff, know_iff, any_iff, rt_iff, hd_iff, true_imp_iff, true_and, and_true, and_self, lt01, Int.ofNat_lt, Int.ofNat_le, Int.natCast_nonneg, Int.toNat_natCast, decide_true, decide_false, Bool.true_eq_false, Bool.false_eq_true, false_imp_iff, Nat.lt_irrefl, imp_self, implies_true,  hY]))
    fun b hb ih out c ho hc hM hY => .tree E_C12_ok (r20_collect_L0_t _ _ _ _ _ _) (by
      have e : ln s_api_Block l - b = (ln s_api_Block l - (b + 1)) + 1 := by omega
      rw [e, colF, hl] at hY
      rw [drop_gd hb, sz_cons] at hM
      have hsz := sz_blk (gd s_api_Block l b)
      have h80 : ln s_api_Instr (gd s_api_Block l b).2.1 ≤ szD (.sl 80 s_api_Instr) (gd s_api_Block l b).2.1 := sz_ln
      have hbl : b < ln s_api_Block (blocks f) := by rw [hl]; exact hb
      have hsm := small_b hp (n := (b : Int)) (by omega)
      have hblk : blk f (b : Int) = gd s_api_Block l b := by unfold blk; rw [hl]; rfl
      rw [hblk] at hsm
      generalize hN : ln s_api_Instr (bIns (gd s_api_Block l b)) + 2 = N at hY
      have hN' : ln s_api_Instr (gd s_api_Block l b).2.1 + 2 = N := hN
      have hcB := colB_bnd (R := rwF w) (rwF_len hp) (b := b) (n := N) (k := 0) hc
      have hN2 : N ≤ 2097154 := by omega
      have hN0 : N ≤ 2 * (szD s_api_Block (gd s_api_Block l b) + 1) := by omega
      have hA := arithN hN0 hM
      have hN3 : c + (N - 0) * 1048576 ≤ 4398046511104 := Nat.le_trans (Nat.le_add_right _ _) hA
      have hrun := ih _ _ (colB_ln.trans ho) hcB hA hY
      rw [← wrapS hb (room_lt hr)] at hrun
      have := fun x0 x1 x2 x3 x4 x5 x6 (hx : N = ln s_api_Instr x1 + 2) => rcol_l2 (Q := fun x h => x = .tv (.sl 24 (.sl 16 s_api_Pos)) Y ∧ h = []) w f hp b l x0 x3 x4 x1 x2 x6 x5 N hx hN2 (ln s_api_Block l : Nat) 0 (Nat.zero_le _) out c ho hc hN3 hrun
      simp only [wp_iff, chk_iff, know_iff, any_iff, rt_iff, hd_iff, true_imp_iff, true_and, and_true, and_self, lt01, Int.ofNat_lt, Int.ofNat_le, Int.natCast_nonneg, Int.toNat_natCast, decide_true, decide_false, Bool.true_eq_false, Bool.false_eq_true, false_imp_iff, Nat.lt_irrefl, imp_self, implies_true,  hb]
      exact this _ _ _ _ _ _ _ hN'.symm)
def k_r20_collect : Con := con [.d s_api_Func, .d .bool] (.sl 24 (.sl 16 s_api_Pos)) (fun x => smallF x.1) fun x => rwC x.1 x.2.1
theorem m_r20_collect (f : Den s_api_Func) (writes : Bool) (h_f : okD s_api_Func f) (h_writes : okD .bool writes) (hp : smallF f) : Runs E_C12 (start E_C12 f_r20_collect [(.tv s_api_Func f), (vb writes)]) (fun r_ h_ => r_ = (.tv (.sl 24 (.sl 16 s_api_Pos)) (rwC f writes)) ∧ h_ = []) := .tree E_C12_ok (r20_collect_t f writes) (by
  simp only [wp_iff, chk_iff, know_iff, any_iff, rt_iff, hd_iff, true_imp_iff, true_and, and_true, and_self, lt01]
  have ho := okB_of h_f
  have h2 := sz_func f
  have h3 := hp
  unfold smallF at h3
  refine ⟨by omega, fun _ => ⟨?_, fun _ => ?_⟩⟩
  · have : ln I f.2.2.2.1 ≤ 1048576 := by
      have := sz_I f.2.2.2.1
      omega
    unfold roomB
    omega
  · exact rcol_l0 writes f hp (blocks f) rfl ho.1 (rwC f writes) 0 (Nat.zero_le _) _ 0 (List.length_replicate ..) (fun r => by rw [gd_rep]; exact Nat.le_refl _) (by
      show 0 + 2 * szD (.sl 136 s_api_Block) f.2.2.2.2.1 * 1048576 ≤ _
      omega) rfl)
theorem c_r20_collect : SpecOK E_C12 f_r20_collect k_r20_collect.spec := spec_of fun x hx hp => ⟨rfl, m_r20_collect x.1 x.2.1 hx.1 hx.2.1 hp⟩
def L_C12 : List (FuncId × FSpec) := [(f_r20_collect, k_r20_collect.spec)] ++ L_C9
theorem L_C12_ok : ∀ x ∈ L_C12, SpecOK (ctx []) x.1 x.2 := by
  unfold L_C12
  simp only [List.cons_append, List.nil_append, List.forall_mem_cons]
  exact ⟨c_r20_collect, L_C9_ok⟩
end Burn.M27Q
namespace Burn.M27Q
open Go Go.BE Go.Proofs
set_option maxRecDepth 100000
set_option linter.unusedVariables false
set_option linter.unusedSimpArgs false
open Burn.Cfg
noncomputable abbrev E_C13 : Ctx := ctx L_C12
theorem E_C13_ok : EOK E_C13 := ctx_ok L_C12_ok
def cuts_C13 : CutL := []
def rets_C13 : FuncId → List (Option Fx)
  | 41 => [some (.dat (.sl 24 (.sl 16 s_api_Pos)))]
  | _ => []
def H_C13 : Hints := { cut := cutOf cuts_C13, ret := rets_C13 }
theorem r20_Defs_t (f : Den s_api_Func) : run E_C13 H_C13 f_r20_Defs 3000 (start E_C13 f_r20_Defs [(.tv s_api_Func f)]) = (.chk (smallF f) (.know (okD (.sl 24 (.sl 16 s_api_Pos)) (rwC f true)) (rt (.tv (.sl 24 (.sl 16 s_api_Pos)) (rwC f true)) []))) := by kernel_rfl
def rDefs (f : Fn) : Den (.sl 24 (.sl 16 s_api_Pos)) := rwC f true

def k_r20_Defs : Con := con [.d s_api_Func] (.sl 24 (.sl 16 s_api_Pos)) (fun x => smallF x.1) fun x => rDefs x.1
theorem m_r20_Defs (f : Den s_api_Func) (h_f : okD s_api_Func f) (hp : smallF f) : Runs E_C13 (start E_C13 f_r20_Defs [(.tv s_api_Func f)]) (fun r_ h_ => r_ = (.tv (.sl 24 (.sl 16 s_api_Pos)) (rDefs f)) ∧ h_ = []) := .tree E_C13_ok (r20_Defs_t f) (by
  simp only [wp_iff, chk_iff, know_iff, any_iff, rt_iff, hd_iff, true_imp_iff, true_and, and_true, and_self, lt01]
  exact ⟨hp, fun _ _ => rfl⟩)
theorem c_r20_Defs : SpecOK E_C13 f_r20_Defs k_r20_Defs.spec := spec_of fun x hx hp => ⟨rfl, m_r20_Defs x.1 hx.1 hp⟩
def L_C13 : List (FuncId × FSpec) := [(f_r20_Defs, k_r20_Defs.spec)] ++ L_C12
theorem L_C13_ok : ∀ x ∈ L_C13, SpecOK (ctx []) x.1 x.2 := by
  unfold L_C13
  simp only [List.cons_append, List.nil_append, List.forall_mem_cons]
  exact ⟨c_r20_Defs, L_C12_ok⟩
end Burn.M27Q
namespace Burn.M27Q
open Go Go.BE Go.Proofs
set_option maxRecDepth 100000
set_option linter.unusedVariables false
set_option linter.unusedSimpArgs false
open Burn.Cfg
def L_C17 : List (FuncId × FSpec) := [] ++ L_C13
theorem L_C17_ok : ∀ x ∈ L_C17, SpecOK (ctx []) x.1 x.2 := L_C13_ok
end Burn.M27Q
namespace Burn.M27Q
open Go Go.BE Go.Proofs
set_option maxRecDepth 100000
set_option linter.unusedVariables false
set_option linter.unusedSimpArgs false
open Burn.Cfg
def L_C18 : List (FuncId × FSpec) := [] ++ L_C17
theorem L_C18_ok : ∀ x ∈ L_C18, SpecOK (ctx []) x.1 x.2 := L_C17_ok
end Burn.M27Q
namespace Burn.M27Q
open Go Go.BE Go.Proofs
set_option maxRecDepth 100000
set_option linter.unusedVariables false
set_option linter.unusedSimpArgs false
open Burn.Cfg
def L_C19 : List (FuncId × FSpec) := [] ++ L_C18
theorem L_C19_ok : ∀ x ∈ L_C19, SpecOK (ctx []) x.1 x.2 := L_C18_ok
end Burn.M27Q
namespace Burn.M27Q
open Go Go.BE Go.Proofs
set_option maxRecDepth 100000
set_option linter.unusedVariables false
set_option linter.unusedSimpArgs false
open Burn.Cfg
def L_C20 : List (FuncId × FSpec) := [] ++ L_C19
theorem L_C20_ok : ∀ x ∈ L_C20, SpecOK (ctx []) x.1 x.2 := L_C19_ok
end Burn.M27Q
namespace Burn.M27Q
open Go Go.BE Go.Proofs
set_option maxRecDepth 100000
set_option linter.unusedVariables false
set_option linter.unusedSimpArgs false
open Burn.Cfg
def L_C21 : List (FuncId × FSpec) := [] ++ L_C20
theorem L_C21_ok : ∀ x ∈ L_C21, SpecOK (ctx []) x.1 x.2 := L_C20_ok
end Burn.M27Q
namespace Burn.M27Q
open Go Go.BE Go.Proofs
set_option maxRecDepth 100000
set_option linter.unusedVariables false
set_option linter.unusedSimpArgs false
open Burn.Cfg
def L_C22 : List (FuncId × FSpec) := [] ++ L_C21
theorem L_C22_ok : ∀ x ∈ L_C22, SpecOK (ctx []) x.1 x.2 := L_C21_ok
end Burn.M27Q
namespace Burn.M27Q
open Go Go.BE Go.Proofs
set_option maxRecDepth 100000
set_option linter.unusedVariables false
set_option linter.unusedSimpArgs false
open Burn.Intn Burn.Ref
noncomputable abbrev E_A1 : Ctx := ctx L_C22
theorem E_A1_ok : EOK E_A1 := ctx_ok L_C22_ok
def cuts_A1 : CutL := []
def rets_A1 : FuncId → List (Option Fx)
  | _ => []
def H_A1 : Hints := { cut := cutOf cuts_A1, ret := rets_A1 }
theorem r01_Bits_t (t : Int) : run E_A1 H_A1 f_r01_Bits 3000 (start E_A1 f_r01_Bits [(vi t)]) = (cond (t == (1 : Int)) (rt (vi (1 : Int)) []) (cond (t == (2 : Int)) (rt (vi (8 : Int)) []) (cond (t == (3 : Int)) (rt (vi (32 : Int)) []) (cond (t == (4 : Int)) (rt (vi (64 : Int)) []) (rt (vi (0 : Int)) []))))) := by kernel_rfl
theorem intn_Bits_t (t : Int) : run E_A1 H_A1 f_intn_Bits 3000 (start E_A1 f_intn_Bits [(vi t)]) = (cond (decide (t < (0 : Int))) (rt (vi (0 : Int)) []) (cond (decide (t ≥ (5 : Int))) (rt (vi (0 : Int)) []) (.chk (0 ≤ t ∧ t < (5 : Nat)) (rt (vi (z (vget (dz I) 5 (((0 : Int), (1 : Int), (8 : Int), (32 : Int), (64 : Int), ())) ((t).toNat)))) [])))) := by kernel_rfl

def k_r01_Bits : Con := con [.d I] I (fun x => True) fun x => bitsZ x.1
theorem m_r01_Bits (t : Int) (h_t : okD I t) (hp : True) : Runs E_A1 (start E_A1 f_r01_Bits [(vi t)]) (fun r_ h_ => r_ = (vi (bitsZ t)) ∧ h_ = []) := .tree E_A1_ok (r01_Bits_t t) (by
  simp only [wp_iff, chk_iff, know_iff, any_iff, rt_iff, hd_iff, true_imp_iff, true_and, and_true, and_self, lt01,  bitsZ]
  grind)
theorem c_r01_Bits : SpecOK E_A1 f_r01_Bits k_r01_Bits.spec := spec_of fun x hx hp => ⟨rfl, m_r01_Bits x.1 hx.1 hp⟩

def k_intn_Bits : Con := con [.d I] I (fun x => True) fun x => bitsZ x.1
theorem m_intn_Bits (t : Int) (h_t : okD I t) (hp : True) : Runs E_A1 (start E_A1 f_intn_Bits [(vi t)]) (fun r_ h_ => r_ = (vi (bitsZ t)) ∧ h_ = []) := .tree E_A1_ok (intn_Bits_t t) (by
  simp only [wp_iff, chk_iff, know_iff, any_iff, rt_iff, hd_iff, true_imp_iff, true_and, and_true, and_self, lt01,  bitsZ, z]
  refine ⟨by grind, fun h1 => ⟨by grind, fun h2 => ⟨by grind, fun h3 => ?_⟩⟩⟩
  have : t = 0 ∨ t = 1 ∨ t = 2 ∨ t = 3 ∨ t = 4 := by omega
  rcases this with rfl | rfl | rfl | rfl | rfl <;> rfl)
theorem c_intn_Bits : SpecOK E_A1 f_intn_Bits k_intn_Bits.spec := spec_of fun x hx hp => ⟨rfl, m_intn_Bits x.1 hx.1 hp⟩
def L_A1 : List (FuncId × FSpec) := [(f_r01_Bits, k_r01_Bits.spec), (f_intn_Bits, k_intn_Bits.spec)] ++ L_C22
theorem L_A1_ok : ∀ x ∈ L_A1, SpecOK (ctx []) x.1 x.2 := by
  unfold L_A1
  simp only [List.cons_append, List.nil_append, List.forall_mem_cons]
  exact ⟨c_r01_Bits, c_intn_Bits, L_C22_ok⟩
end Burn.M27Q
namespace Burn.M27Q
open Go Go.BE Go.Proofs
set_option maxRecDepth 100000
set_option linter.unusedVariables false
set_option linter.unusedSimpArgs false
open Burn.Intn Burn.Ref
noncomputable abbrev E_A2 : Ctx := ctx L_A1
theorem E_A2_ok : EOK E_A2 := ctx_ok L_A1_ok
def cuts_A2 : CutL := []
def rets_A2 : FuncId → List (Option Fx)
  | _ => []
def H_A2 : Hints := { cut := cutOf cuts_A2, ret := rets_A2 }
theorem intn_Wrap_t (t : Int) (n : Int) : run E_A2 H_A2 f_intn_Wrap 3000 (start E_A2 f_intn_Wrap [(vi t), (vi n)]) = (.chk (True) (.know (okD (.int .i64) (bitsZ t)) (cond ((bitsZ t) == (0 : Int)) (rt (vi (0 : Int)) []) (cond ((bitsZ t) == (1 : Int)) (rt (vi (IntKind.wrap .i64 (bvand .i64 n (1 : Int)))) []) (.chk (0 ≤ (IntKind.wrap .i64 ((64 : Int) - (bitsZ t)))) (.chk (0 ≤ (IntKind.wrap .i64 ((64 : Int) - (bitsZ t)))) (rt (vi (Int.fdiv (IntKind.wrap .i64 (n * 2 ^ min ((IntKind.wrap .i64 ((64 : Int) - (bitsZ t)))).toNat (IntKind.bits .i64))) (2 ^ min ((IntKind.wrap .i64 ((64 : Int) - (bitsZ t)))).toNat (IntKind.bits .i64)))) []))))))) := by kernel_rfl
theorem r01_Unsigned_t (t : Int) (n : Int) : run E_A2 H_A2 f_r01_Unsigned 3000 (start E_A2 f_r01_Unsigned [(vi t), (vi n)]) = (.chk (True) (.know (okD (.int .i64) (bitsZ t)) (cond ((bitsZ t) == (1 : Int)) (.chk ((2 : Int) ≠ 0) (rt (aint .u64 (Int.tmod (IntKind.wrap .u64 n) (2 : Int))) [])) (cond ((bitsZ t) == (8 : Int)) (.chk ((256 : Int) ≠ 0) (rt (aint .u64 (Int.tmod (IntKind.wrap .u64 n) (256 : Int))) [])) (cond ((bitsZ t) == (32 : Int)) (.chk ((4294967296 : Int) ≠ 0) (rt (aint .u64 (Int.tmod (IntKind.wrap .u64 n) (4294967296 : Int))) [])) (cond ((bitsZ t) == (64 : Int)) (rt (aint .u64 (IntKind.wrap .u64 n)) []) (rt (aint .u64 (0 : Int)) []))))))) := by kernel_rfl
theorem b1 : bitsZ 1 = 1 := rfl
theorem b2 : bitsZ 2 = 8 := rfl
theorem b3 : bitsZ 3 = 32 := rfl
theorem b4 : bitsZ 4 = 64 := rfl
theorem u1 (n : Int) : unsZ 1 n = n % 2 := rfl
theorem u2 (n : Int) : unsZ 2 n = n % 256 := rfl
theorem u3 (n : Int) : unsZ 3 n = n % 4294967296 := rfl
theorem u4 (n : Int) : unsZ 4 n = n % 18446744073709551616 := rfl
theorem tmod_pos (n m : Int) (hm : 0 < m) : (n % 18446744073709551616).tmod m = n % 18446744073709551616 % m := by
  rw [Int.tmod_eq_emod_of_nonneg (Int.emod_nonneg _ (by decide))]

def k_intn_Wrap : Con := con [.d I, .d I] I (fun x => True) fun x => wrapZ x.1 x.2.1
theorem m_intn_Wrap (t : Int) (n : Int) (h_t : okD I t) (h_n : okD I n) (hp : True) : Runs E_A2 (start E_A2 f_intn_Wrap [(vi t), (vi n)]) (fun r_ h_ => r_ = (vi (wrapZ t n)) ∧ h_ = []) := .tree E_A2_ok (intn_Wrap_t t n) (by
  simp only [wp_iff, chk_iff, know_iff, any_iff, rt_iff, hd_iff, true_imp_iff, true_and, and_true, and_self, lt01,  z]
  rcases tcases t with rfl | rfl | rfl | rfl | h
  · have := and1 n
    rw [← wrap1] at this
    exact fun _ => ⟨fun h => absurd h (by decide), fun _ => ⟨fun _ => by rw [this], fun h => absurd h (by decide)⟩⟩
  · have := sh n 56 (.inl rfl)
    simp [b2, w64] at this ⊢
    exact fun _ => this
  · have := sh n 32 (.inr (.inl rfl))
    simp [b3, w64] at this ⊢
    exact fun _ => this
  · have := sh n 0 (.inr (.inr rfl))
    simp [b4, w64] at this ⊢
    exact fun _ => this
  · simp [other h, wrap_other h])
theorem c_intn_Wrap : SpecOK E_A2 f_intn_Wrap k_intn_Wrap.spec := spec_of fun x hx hp => ⟨rfl, m_intn_Wrap x.1 x.2.1 hx.1 hx.2.1 hp⟩

def k_r01_Unsigned : Con := con [.d I, .d I] (.int .u64) (fun x => True) fun x => unsZ x.1 x.2.1
theorem m_r01_Unsigned (t : Int) (n : Int) (h_t : okD I t) (h_n : okD I n) (hp : True) : Runs E_A2 (start E_A2 f_r01_Unsigned [(vi t), (vi n)]) (fun r_ h_ => r_ = (aint .u64 (unsZ t n)) ∧ h_ = []) := .tree E_A2_ok (r01_Unsigned_t t n) (by
  simp only [wp_iff, chk_iff, know_iff, any_iff, rt_iff, hd_iff, true_imp_iff, true_and, and_true, and_self, lt01,  z]
  rcases tcases t with rfl | rfl | rfl | rfl | h
  · simp [b1, u1, u64, tmod_pos]
  · simp [b2, u2, u64, tmod_pos]
  · simp [b3, u3, u64, tmod_pos]
  · simp [b4, u4, u64]
  · simp [other h, uns_other h])
theorem c_r01_Unsigned : SpecOK E_A2 f_r01_Unsigned k_r01_Unsigned.spec := spec_of fun x hx hp => ⟨rfl, m_r01_Unsigned x.1 x.2.1 hx.1 hx.2.1 hp⟩
def L_A2 : List (FuncId × FSpec) := [(f_intn_Wrap, k_intn_Wrap.spec), (f_r01_Unsigned, k_r01_Unsigned.spec)] ++ L_A1
theorem L_A2_ok : ∀ x ∈ L_A2, SpecOK (ctx []) x.1 x.2 := by
  unfold L_A2
  simp only [List.cons_append, List.nil_append, List.forall_mem_cons]
  exact ⟨c_intn_Wrap, c_r01_Unsigned, L_A1_ok⟩
end Burn.M27Q
namespace Burn.M27Q
open Go Go.BE Go.Proofs
set_option maxRecDepth 100000
set_option linter.unusedVariables false
set_option linter.unusedSimpArgs false
open Burn.Intn Burn.Ref
noncomputable abbrev E_A3 : Ctx := ctx L_A2
theorem E_A3_ok : EOK E_A3 := ctx_ok L_A2_ok
def cuts_A3 : CutL := []
def rets_A3 : FuncId → List (Option Fx)
  | 32 => [some (.dat s_alias_Base)]
  | 48 => [some (.dat s_alias_Base)]
  | 64 => [some (.dat s_alias_Base)]
  | 81 => [some (.dat s_alias_Base)]
  | _ => []
def H_A3 : Hints := { cut := cutOf cuts_A3, ret := rets_A3 }
theorem r01_Wrap_t (t : Int) (n : Int) : run E_A3 H_A3 f_r01_Wrap 3000 (start E_A3 f_r01_Wrap [(vi t), (vi n)]) = (.chk (True) (.know (okD (.int .u64) (unsZ t n)) (.chk (True) (.know (okD (.int .i64) (bitsZ t)) (cond ((bitsZ t) == (8 : Int)) (cond (decide ((unsZ t n) ≥ (128 : Int))) (rt (vi (IntKind.wrap .i64 ((IntKind.wrap .i64 (unsZ t n)) - (256 : Int)))) []) (rt (vi (IntKind.wrap .i64 (unsZ t n))) [])) (cond ((bitsZ t) == (32 : Int)) (cond (decide ((unsZ t n) ≥ (2147483648 : Int))) (rt (vi (IntKind.wrap .i64 ((IntKind.wrap .i64 (unsZ t n)) - (4294967296 : Int)))) []) (rt (vi (IntKind.wrap .i64 (unsZ t n))) [])) (rt (vi (IntKind.wrap .i64 (unsZ t n))) []))))))) := by kernel_rfl
theorem alias_arg_t (in_ : Den s_api_Instr) (i : Int) : run E_A3 H_A3 f_alias_arg 3000 (start E_A3 f_alias_arg [(.tv s_api_Instr in_), (vi i)]) = (cond (decide (i ≥ ((ln I in_.2.2.2.1) : Int))) (rt (vi (-1 : Int)) []) (.chk (0 ≤ i ∧ i < (ln I in_.2.2.2.1)) (rt (vi (z (gd I in_.2.2.2.1 ((i).toNat)))) []))) := by kernel_rfl
theorem alias_own_t (r : Int) : run E_A3 H_A3 f_alias_own 3000 (start E_A3 f_alias_own [(vi r)]) = (.chk ((0 : Nat) < (1 : Nat)) (.chk ((0 : Nat) < (1 : Nat)) (rt (.tv s_alias_Base ((3 : Int), r, (0 : Int), true, ())) []))) := by kernel_rfl
theorem alias_meet_t (r : Int) (a : Den s_alias_Base) (b : Den s_alias_Base) : run E_A3 H_A3 f_alias_meet 3000 (start E_A3 f_alias_meet [(vi r), (.tv s_alias_Base a), (.tv s_alias_Base b)]) = (cond ((z a.1) != (z b.1)) (.chk ((0 : Nat) < (1 : Nat)) (.chk ((0 : Nat) < (1 : Nat)) (.chk ((0 : Nat) < (1 : Nat)) (.chk ((0 : Nat) < (1 : Nat)) (rt (.tv s_alias_Base ((3 : Int), r, (0 : Int), true, ())) []))))) (cond ((z a.2.1) != (z b.2.1)) (.chk ((0 : Nat) < (1 : Nat)) (.chk ((0 : Nat) < (1 : Nat)) (.chk ((0 : Nat) < (1 : Nat)) (.chk ((0 : Nat) < (1 : Nat)) (rt (.tv s_alias_Base ((3 : Int), r, (0 : Int), true, ())) []))))) (cond (bOf a.2.2.2.1) (cond (bOf b.2.2.2.1) (cond ((z a.2.2.1) == (z b.2.2.1)) (.chk ((0 : Nat) < (1 : Nat)) (.chk ((0 : Nat) < (1 : Nat)) (rt (.tv s_alias_Base a) []))) (.chk ((0 : Nat) < (1 : Nat)) (.chk ((0 : Nat) < (1 : Nat)) (rt (.tv s_alias_Base (a.1, a.2.1, (0 : Int), false, ())) [])))) (.chk ((0 : Nat) < (1 : Nat)) (.chk ((0 : Nat) < (1 : Nat)) (rt (.tv s_alias_Base (a.1, a.2.1, (0 : Int), false, ())) [])))) (.chk ((0 : Nat) < (1 : Nat)) (.chk ((0 : Nat) < (1 : Nat)) (rt (.tv s_alias_Base (a.1, a.2.1, (0 : Int), false, ())) [])))))) := by kernel_rfl
theorem alias_solver_pointer_t (s : Den s_alias_solver) (r : Int) : run E_A3 H_A3 f_alias_solver_pointer 3000 (start E_A3 f_alias_solver_pointer [(.rtp s_alias_solver s), (vi r)]) = (cond (decide (r ≥ (0 : Int))) (cond (decide (r < ((ln I s.1.2.2.2.1) : Int))) (.chk (0 ≤ r ∧ r < (ln I s.1.2.2.2.1)) (rt (vb ((z (gd I s.1.2.2.2.1 ((r).toNat))) == (5 : Int))) [])) (rt (vb false) [])) (rt (vb false) [])) := by kernel_rfl
theorem alias_overlap_t (a : Int) (b : Int) (cellsA : Int) (cellsB : Int) : run E_A3 H_A3 f_alias_overlap 3000 (start E_A3 f_alias_overlap [(vi a), (vi b), (vi cellsA), (vi cellsB)]) = (cond (decide ((IntKind.wrap .u64 ((IntKind.wrap .u64 b) - (IntKind.wrap .u64 a))) < (IntKind.wrap .u64 cellsA))) (rt (vb true) []) (rt (vb (decide ((IntKind.wrap .u64 ((IntKind.wrap .u64 a) - (IntKind.wrap .u64 b))) < (IntKind.wrap .u64 cellsB)))) [])) := by kernel_rfl
theorem alias_kinds_t (a : Int) (b : Int) : run E_A3 H_A3 f_alias_kinds 3000 (start E_A3 f_alias_kinds [(vi a), (vi b)]) = (.chk ((0 : Nat) < (1 : Nat)) (.chk (0 ≤ a ∧ a < (4 : Nat)) (.chk (0 ≤ b ∧ b < (4 : Nat)) (.chk ((0 : Nat) < (1 : Nat)) (.chk ((a).toNat < 4) (.chk ((b).toNat < 4) (rt (vi (z (vget (dz I) 4 (vget (dz (.arr 4 I)) 4 (((0 : Int), ((0 : Int), ((0 : Int), ((0 : Int), ())))), (((0 : Int), ((1 : Int), ((1 : Int), ((2 : Int), ())))), (((0 : Int), ((1 : Int), ((1 : Int), ((0 : Int), ())))), (((0 : Int), ((2 : Int), ((0 : Int), ((2 : Int), ())))), ())))) ((a).toNat)) ((b).toNat)))) []))))))) := by kernel_rfl
theorem opcode_Access_t (t : Int) : run E_A3 H_A3 f_opcode_Access 3000 (start E_A3 f_opcode_Access [(vi t)]) = (cond (t == (2 : Int)) (rt (.tup [(vi t), (vi (1 : Int))]) []) (cond (t == (3 : Int)) (rt (.tup [(vi t), (vi (1 : Int))]) []) (cond (t == (4 : Int)) (rt (.tup [(vi t), (vi (1 : Int))]) []) (cond (t == (5 : Int)) (rt (.tup [(vi t), (vi (1 : Int))]) []) (cond (t == (6 : Int)) (rt (.tup [(vi (3 : Int)), (vi (2 : Int))]) []) (cond (t == (7 : Int)) (rt (.tup [(vi (3 : Int)), (vi (4 : Int))]) []) (rt (.tup [(vi (0 : Int)), (vi (0 : Int))]) []))))))) := by kernel_rfl
theorem r12_Access_t (t : Int) : run E_A3 H_A3 f_r12_Access 3000 (start E_A3 f_r12_Access [(vi t)]) = (cond (t == (2 : Int)) (rt (.tup [(vi t), (vi (1 : Int))]) []) (cond (t == (3 : Int)) (rt (.tup [(vi t), (vi (1 : Int))]) []) (cond (t == (4 : Int)) (rt (.tup [(vi t), (vi (1 : Int))]) []) (cond (t == (5 : Int)) (rt (.tup [(vi t), (vi (1 : Int))]) []) (cond (t == (6 : Int)) (rt (.tup [(vi (3 : Int)), (vi (2 : Int))]) []) (cond (t == (7 : Int)) (rt (.tup [(vi (3 : Int)), (vi (4 : Int))]) []) (rt (.tup [(vi (0 : Int)), (vi (0 : Int))]) []))))))) := by kernel_rfl
theorem r27_own_t (r : Int) : run E_A3 H_A3 f_r27_own 3000 (start E_A3 f_r27_own [(vi r)]) = (.chk ((0 : Nat) < (1 : Nat)) (.chk ((0 : Nat) < (1 : Nat)) (rt (.tv s_alias_Base ((3 : Int), r, (0 : Int), true, ())) []))) := by kernel_rfl
theorem r27_meet_t (r : Int) (a : Den s_alias_Base) (b : Den s_alias_Base) : run E_A3 H_A3 f_r27_meet 3000 (start E_A3 f_r27_meet [(vi r), (.tv s_alias_Base a), (.tv s_alias_Base b)]) = (cond ((z a.1) == (0 : Int)) (.chk ((0 : Nat) < (1 : Nat)) (.chk ((0 : Nat) < (1 : Nat)) (rt (.tv s_alias_Base b) []))) (cond ((z b.1) == (0 : Int)) (.chk ((0 : Nat) < (1 : Nat)) (.chk ((0 : Nat) < (1 : Nat)) (rt (.tv s_alias_Base a) []))) (cond ((z a.1) != (z b.1)) (.chk ((0 : Nat) < (1 : Nat)) (.chk ((0 : Nat) < (1 : Nat)) (.chk ((0 : Nat) < (1 : Nat)) (.chk ((0 : Nat) < (1 : Nat)) (rt (.tv s_alias_Base ((3 : Int), r, (0 : Int), true, ())) []))))) (cond ((z a.2.1) != (z b.2.1)) (.chk ((0 : Nat) < (1 : Nat)) (.chk ((0 : Nat) < (1 : Nat)) (.chk ((0 : Nat) < (1 : Nat)) (.chk ((0 : Nat) < (1 : Nat)) (rt (.tv s_alias_Base ((3 : Int), r, (0 : Int), true, ())) []))))) (cond (bOf a.2.2.2.1) (cond (bOf b.2.2.2.1) (cond ((z a.2.2.1) == (z b.2.2.1)) (.chk ((0 : Nat) < (1 : Nat)) (.chk ((0 : Nat) < (1 : Nat)) (rt (.tv s_alias_Base a) []))) (.chk ((0 : Nat) < (1 : Nat)) (.chk ((0 : Nat) < (1 : Nat)) (rt (.tv s_alias_Base (a.1, a.2.1, (0 : Int), false, ())) [])))) (.chk ((0 : Nat) < (1 : Nat)) (.chk ((0 : Nat) < (1 : Nat)) (rt (.tv s_alias_Base (a.1, a.2.1, (0 : Int), false, ())) [])))) (.chk ((0 : Nat) < (1 : Nat)) (.chk ((0 : Nat) < (1 : Nat)) (rt (.tv s_alias_Base (a.1, a.2.1, (0 : Int), false, ())) [])))))))) := by kernel_rfl
theorem r27_pointer_t (f : Den s_api_Func) (x : Int) : run E_A3 H_A3 f_r27_pointer 3000 (start E_A3 f_r27_pointer [(.tv s_api_Func f), (vi x)]) = (cond (decide (x ≥ (0 : Int))) (cond (decide (x < ((ln I f.2.2.2.1) : Int))) (.chk (0 ≤ x ∧ x < (ln I f.2.2.2.1)) (rt (vb ((z (gd I f.2.2.2.1 ((x).toNat))) == (5 : Int))) [])) (rt (vb false) [])) (rt (vb false) [])) := by kernel_rfl
theorem r27_apart_t (a : Den s_alias_Base) (b : Den s_alias_Base) (cellsA : Int) (cellsB : Int) : run E_A3 H_A3 f_r27_apart 3000 (start E_A3 f_r27_apart [(.tv s_alias_Base a), (.tv s_alias_Base b), (vi cellsA), (vi cellsB)]) = (cond (decide ((IntKind.wrap .u64 ((IntKind.wrap .u64 (z b.2.2.1)) - (IntKind.wrap .u64 (z a.2.2.1)))) ≥ (IntKind.wrap .u64 cellsA))) (rt (vb (decide ((IntKind.wrap .u64 ((0 : Int) - (IntKind.wrap .u64 ((IntKind.wrap .u64 (z b.2.2.1)) - (IntKind.wrap .u64 (z a.2.2.1)))))) ≥ (IntKind.wrap .u64 cellsB)))) []) (rt (vb false) [])) := by kernel_rfl

def k_r01_Wrap : Con := con [.d I, .d I] I (fun x => True) fun x => wrapZ x.1 x.2.1
theorem m_r01_Wrap (t : Int) (n : Int) (h_t : okD I t) (h_n : okD I n) (hp : True) : Runs E_A3 (start E_A3 f_r01_Wrap [(vi t), (vi n)]) (fun r_ h_ => r_ = (vi (wrapZ t n)) ∧ h_ = []) := .tree E_A3_ok (r01_Wrap_t t n) (by
  simp only [wp_iff, chk_iff, know_iff, any_iff, rt_iff, hd_iff, true_imp_iff, true_and, and_true, and_self, lt01,  z]
  rcases tcases t with rfl | rfl | rfl | rfl | h
  · simp only [b1, u1, w64, wrap1]
    simp
    omega
  · simp only [b2, u2, w64, wrap2]
    simp
    omega
  · simp only [b3, u3, w64, wrap3]
    simp
    omega
  · simp only [b4, u4, w64, wrap4]
    simp
  · simp [other h, wrap_other h, uns_other h, w64])
theorem c_r01_Wrap : SpecOK E_A3 f_r01_Wrap k_r01_Wrap.spec := spec_of fun x hx hp => ⟨rfl, m_r01_Wrap x.1 x.2.1 hx.1 hx.2.1 hp⟩
def argP (in_ : Den s_api_Instr) (i : Int) : Int := (cond (decide (i ≥ ((ln I in_.2.2.2.1) : Int))) (-1 : Int) (z (gd I in_.2.2.2.1 ((i).toNat))))

def k_alias_arg : Con := con [.d s_api_Instr, .d I] I (fun x => 0 ≤ z x.2.1) fun x => argP x.1 x.2.1
theorem m_alias_arg (in_ : Den s_api_Instr) (i : Int) (h_in_ : okD s_api_Instr in_) (h_i : okD I i) (hp : 0 ≤ z i) : Runs E_A3 (start E_A3 f_alias_arg [(.tv s_api_Instr in_), (vi i)]) (fun r_ h_ => r_ = (vi (argP in_ i)) ∧ h_ = []) := .tree E_A3_ok (alias_arg_t in_ i) (by
  have hp_ := hp
  try simp only [z] at hp_
  refine wp_cond (fun h1 => ?_) (fun h1 => ?_)
  · have h1_ := of_decide_eq_true h1
    exact ⟨by simp only [argP, h1, cond_true, cond_false], rfl⟩
  · have h1_ := of_decide_eq_false h1
    refine ⟨by first | omega | assumption | exact hp.1 | exact hp.2 | exact hp.2.1 | (simp_all; done) | (simp_all; omega), fun _ => ?_⟩
    exact ⟨by simp only [argP, h1, cond_true, cond_false], rfl⟩)
theorem c_alias_arg : SpecOK E_A3 f_alias_arg k_alias_arg.spec := spec_of fun x hx hp => ⟨rfl, m_alias_arg x.1 x.2.1 hx.1 hx.2.1 hp⟩
def ownP (r : Int) : Den s_alias_Base := ((3 : Int), r, (0 : Int), true, ())

def k_alias_own : Con := con [.d I] s_alias_Base (fun x => True) fun x => ownP x.1
theorem m_alias_own (r : Int) (h_r : okD I r) (hp : True) : Runs E_A3 (start E_A3 f_alias_own [(vi r)]) (fun r_ h_ => r_ = (.tv s_alias_Base (ownP r)) ∧ h_ = []) := .tree E_A3_ok (alias_own_t r) (by
  refine ⟨Nat.zero_lt_one, fun _ => ?_⟩
  refine ⟨Nat.zero_lt_one, fun _ => ?_⟩
  exact ⟨by simp only [ownP, cond_true, cond_false], rfl⟩)
theorem c_alias_own : SpecOK E_A3 f_alias_own k_alias_own.spec := spec_of fun x hx hp => ⟨rfl, m_alias_own x.1 hx.1 hp⟩
def meetP (r : Int) (a : Den s_alias_Base) (b : Den s_alias_Base) : Den s_alias_Base := (cond ((z a.1) != (z b.1)) ((3 : Int), r, (0 : Int), true, ()) (cond ((z a.2.1) != (z b.2.1)) ((3 : Int), r, (0 : Int), true, ()) (cond (bOf a.2.2.2.1) (cond (bOf b.2.2.2.1) (cond ((z a.2.2.1) == (z b.2.2.1)) a (a.1, a.2.1, (0 : Int), false, ())) (a.1, a.2.1, (0 : Int), false, ())) (a.1, a.2.1, (0 : Int), false, ()))))

def k_alias_meet : Con := con [.d I, .d s_alias_Base, .d s_alias_Base] s_alias_Base (fun x => True) fun x => meetP x.1 x.2.1 x.2.2.1
theorem m_alias_meet (r : Int) (a : Den s_alias_Base) (b : Den s_alias_Base) (h_r : okD I r) (h_a : okD s_alias_Base a) (h_b : okD s_alias_Base b) (hp : True) : Runs E_A3 (start E_A3 f_alias_meet [(vi r), (.tv s_alias_Base a), (.tv s_alias_Base b)]) (fun r_ h_ => r_ = (.tv s_alias_Base (meetP r a b)) ∧ h_ = []) := .tree E_A3_ok (alias_meet_t r a b) (by
  refine wp_cond (fun h1 => ?_) (fun h1 => ?_)
  · have h1_ := bne_t h1
    refine ⟨Nat.zero_lt_one, fun _ => ?_⟩
    refine ⟨Nat.zero_lt_one, fun _ => ?_⟩
    refine ⟨Nat.zero_lt_one, fun _ => ?_⟩
    refine ⟨Nat.zero_lt_one, fun _ => ?_⟩
    exact ⟨by simp only [meetP, h1, cond_true, cond_false], rfl⟩
  · have h1_ := bne_f h1
    refine wp_cond (fun h2 => ?_) (fun h2 => ?_)
    · have h2_ := bne_t h2
      refine ⟨Nat.zero_lt_one, fun _ => ?_⟩
      refine ⟨Nat.zero_lt_one, fun _ => ?_⟩
      refine ⟨Nat.zero_lt_one, fun _ => ?_⟩
      refine ⟨Nat.zero_lt_one, fun _ => ?_⟩
      exact ⟨by simp only [meetP, h1, h2, cond_true, cond_false], rfl⟩
    · have h2_ := bne_f h2
      refine wp_cond (fun h3 => ?_) (fun h3 => ?_)
      · refine wp_cond (fun h4 => ?_) (fun h4 => ?_)
        · refine wp_cond (fun h5 => ?_) (fun h5 => ?_)
          · have h5_ := beq_t h5
            refine ⟨Nat.zero_lt_one, fun _ => ?_⟩
            refine ⟨Nat.zero_lt_one, fun _ => ?_⟩
            exact ⟨by simp only [meetP, h1, h2, h3, h4, h5, cond_true, cond_false], rfl⟩
          · have h5_ := beq_f h5
            refine ⟨Nat.zero_lt_one, fun _ => ?_⟩
            refine ⟨Nat.zero_lt_one, fun _ => ?_⟩
            exact ⟨by simp only [meetP, h1, h2, h3, h4, h5, cond_true, cond_false], rfl⟩
        · refine ⟨Nat.zero_lt_one, fun _ => ?_⟩
          refine ⟨Nat.zero_lt_one, fun _ => ?_⟩
          exact ⟨by simp only [meetP, h1, h2, h3, h4, cond_true, cond_false], rfl⟩
      · refine ⟨Nat.zero_lt_one, fun _ => ?_⟩
        refine ⟨Nat.zero_lt_one, fun _ => ?_⟩
        exact ⟨by simp only [meetP, h1, h2, h3, cond_true, cond_false], rfl⟩)
theorem c_alias_meet : SpecOK E_A3 f_alias_meet k_alias_meet.spec := spec_of fun x hx hp => ⟨rfl, m_alias_meet x.1 x.2.1 x.2.2.1 hx.1 hx.2.1 hx.2.2.1 hp⟩
def ptrP (s : Den s_alias_solver) (r : Int) : Bool := (cond (decide (r ≥ (0 : Int))) (cond (decide (r < ((ln I s.1.2.2.2.1) : Int))) ((z (gd I s.1.2.2.2.1 ((r).toNat))) == (5 : Int)) false) false)

def k_alias_solver_pointer : Con := con [.cap s_alias_solver, .d I] .bool (fun x => True) fun x => ptrP x.1 x.2.1
theorem m_alias_solver_pointer (s : Den s_alias_solver) (r : Int) (h_s : okD s_alias_solver s) (h_r : okD I r) (hp : True) : Runs E_A3 (start E_A3 f_alias_solver_pointer [(.rtp s_alias_solver s), (vi r)]) (fun r_ h_ => r_ = (vb (ptrP s r)) ∧ h_ = []) := .tree E_A3_ok (alias_solver_pointer_t s r) (by
  refine wp_cond (fun h1 => ?_) (fun h1 => ?_)
  · have h1_ := of_decide_eq_true h1
    refine wp_cond (fun h2 => ?_) (fun h2 => ?_)
    · have h2_ := of_decide_eq_true h2
      refine ⟨by first | omega | assumption | exact hp.1 | exact hp.2 | exact hp.2.1 | (simp_all; done) | (simp_all; omega), fun _ => ?_⟩
      exact ⟨by simp only [ptrP, h1, h2, cond_true, cond_false], rfl⟩
    · have h2_ := of_decide_eq_false h2
      exact ⟨by simp only [ptrP, h1, h2, cond_true, cond_false], rfl⟩
  · have h1_ := of_decide_eq_false h1
    exact ⟨by simp only [ptrP, h1, cond_true, cond_false], rfl⟩)
theorem c_alias_solver_pointer : SpecOK E_A3 f_alias_solver_pointer k_alias_solver_pointer.spec := spec_of fun x hx hp => ⟨rfl, m_alias_solver_pointer x.1 x.2.1 hx.1 hx.2.1 hp⟩
def overP (a : Int) (b : Int) (cellsA : Int) (cellsB : Int) : Bool := (cond (decide ((IntKind.wrap .u64 ((IntKind.wrap .u64 b) - (IntKind.wrap .u64 a))) < (IntKind.wrap .u64 cellsA))) true (decide ((IntKind.wrap .u64 ((IntKind.wrap .u64 a) - (IntKind.wrap .u64 b))) < (IntKind.wrap .u64 cellsB))))

def k_alias_overlap : Con := con [.d I, .d I, .d I, .d I] .bool (fun x => True) fun x => overP x.1 x.2.1 x.2.2.1 x.2.2.2.1
theorem m_alias_overlap (a : Int) (b : Int) (cellsA : Int) (cellsB : Int) (h_a : okD I a) (h_b : okD I b) (h_cellsA : okD I cellsA) (h_cellsB : okD I cellsB) (hp : True) : Runs E_A3 (start E_A3 f_alias_overlap [(vi a), (vi b), (vi cellsA), (vi cellsB)]) (fun r_ h_ => r_ = (vb (overP a b cellsA cellsB)) ∧ h_ = []) := .tree E_A3_ok (alias_overlap_t a b cellsA cellsB) (by
  refine wp_cond (fun h1 => ?_) (fun h1 => ?_)
  · have h1_ := of_decide_eq_true h1
    exact ⟨by simp only [overP, h1, cond_true, cond_false], rfl⟩
  · have h1_ := of_decide_eq_false h1
    exact ⟨by simp only [overP, h1, cond_true, cond_false], rfl⟩)
theorem c_alias_overlap : SpecOK E_A3 f_alias_overlap k_alias_overlap.spec := spec_of fun x hx hp => ⟨rfl, m_alias_overlap x.1 x.2.1 x.2.2.1 x.2.2.2.1 hx.1 hx.2.1 hx.2.2.1 hx.2.2.2.1 hp⟩
def kindsP (a : Int) (b : Int) : Int := (z (vget (dz I) 4 (vget (dz (.arr 4 I)) 4 (((0 : Int), ((0 : Int), ((0 : Int), ((0 : Int), ())))), (((0 : Int), ((1 : Int), ((1 : Int), ((2 : Int), ())))), (((0 : Int), ((1 : Int), ((1 : Int), ((0 : Int), ())))), (((0 : Int), ((2 : Int), ((0 : Int), ((2 : Int), ())))), ())))) ((a).toNat)) ((b).toNat)))

def k_alias_kinds : Con := con [.d I, .d I] I (fun x => (1 ≤ z x.1 ∧ z x.1 ≤ 3) ∧ 1 ≤ z x.2.1 ∧ z x.2.1 ≤ 3) fun x => kindsP x.1 x.2.1
theorem m_alias_kinds (a : Int) (b : Int) (h_a : okD I a) (h_b : okD I b) (hp : (1 ≤ z a ∧ z a ≤ 3) ∧ 1 ≤ z b ∧ z b ≤ 3) : Runs E_A3 (start E_A3 f_alias_kinds [(vi a), (vi b)]) (fun r_ h_ => r_ = (vi (kindsP a b)) ∧ h_ = []) := .tree E_A3_ok (alias_kinds_t a b) (by
  have hp_ := hp
  try simp only [z] at hp_
  refine ⟨Nat.zero_lt_one, fun _ => ?_⟩
  refine ⟨by first | omega | assumption | exact hp.1 | exact hp.2 | exact hp.2.1 | (simp_all; done) | (simp_all; omega), fun _ => ?_⟩
  refine ⟨by first | omega | assumption | exact hp.1 | exact hp.2 | exact hp.2.1 | (simp_all; done) | (simp_all; omega), fun _ => ?_⟩
  refine ⟨Nat.zero_lt_one, fun _ => ?_⟩
  refine ⟨by first | omega | assumption | exact hp.1 | exact hp.2 | exact hp.2.1 | (simp_all; done) | (simp_all; omega), fun _ => ?_⟩
  refine ⟨by first | omega | assumption | exact hp.1 | exact hp.2 | exact hp.2.1 | (simp_all; done) | (simp_all; omega), fun _ => ?_⟩
  exact ⟨by simp only [kindsP, cond_true, cond_false], rfl⟩)
theorem c_alias_kinds : SpecOK E_A3 f_alias_kinds k_alias_kinds.spec := spec_of fun x hx hp => ⟨rfl, m_alias_kinds x.1 x.2.1 hx.1 hx.2.1 hp⟩
def accP (t : Int) : Den I × Den I := (cond (t == (2 : Int)) (t, (1 : Int)) (cond (t == (3 : Int)) (t, (1 : Int)) (cond (t == (4 : Int)) (t, (1 : Int)) (cond (t == (5 : Int)) (t, (1 : Int)) (cond (t == (6 : Int)) ((3 : Int), (2 : Int)) (cond (t == (7 : Int)) ((3 : Int), (4 : Int)) ((0 : Int), (0 : Int))))))))

def k_opcode_Access : Con := conT2 [.d I] I I (fun x => True) fun x => accP x.1
theorem m_opcode_Access (t : Int) (h_t : okD I t) (hp : True) : Runs E_A3 (start E_A3 f_opcode_Access [(vi t)]) (fun r_ h_ => r_ = (.tup [(vi (z ((accP t).1))), (vi (z ((accP t).2)))]) ∧ h_ = []) := .tree E_A3_ok (opcode_Access_t t) (by
  refine wp_cond (fun h1 => ?_) (fun h1 => ?_)
  · have h1_ := beq_t h1
    exact ⟨by simp only [accP, h1, cond_true, cond_false], rfl⟩
  · have h1_ := beq_f h1
    refine wp_cond (fun h2 => ?_) (fun h2 => ?_)
    · have h2_ := beq_t h2
      exact ⟨by simp only [accP, h1, h2, cond_true, cond_false], rfl⟩
    · have h2_ := beq_f h2
      refine wp_cond (fun h3 => ?_) (fun h3 => ?_)
      · have h3_ := beq_t h3
        exact ⟨by simp only [accP, h1, h2, h3, cond_true, cond_false], rfl⟩
      · have h3_ := beq_f h3
        refine wp_cond (fun h4 => ?_) (fun h4 => ?_)
        · have h4_ := beq_t h4
          exact ⟨by simp only [accP, h1, h2, h3, h4, cond_true, cond_false], rfl⟩
        · have h4_ := beq_f h4
          refine wp_cond (fun h5 => ?_) (fun h5 => ?_)
          · have h5_ := beq_t h5
            exact ⟨by simp only [accP, h1, h2, h3, h4, h5, cond_true, cond_false], rfl⟩
          · have h5_ := beq_f h5
            refine wp_cond (fun h6 => ?_) (fun h6 => ?_)
            · have h6_ := beq_t h6
              exact ⟨by simp only [accP, h1, h2, h3, h4, h5, h6, cond_true, cond_false], rfl⟩
            · have h6_ := beq_f h6
              exact ⟨by simp only [accP, h1, h2, h3, h4, h5, h6, cond_true, cond_false], rfl⟩)
theorem c_opcode_Access : SpecOK E_A3 f_opcode_Access k_opcode_Access.spec := spec_of fun x hx hp => ⟨rfl, m_opcode_Access x.1 hx.1 hp⟩
def accR (t : Int) : Den I × Den I := (cond (t == (2 : Int)) (t, (1 : Int)) (cond (t == (3 : Int)) (t, (1 : Int)) (cond (t == (4 : Int)) (t, (1 : Int)) (cond (t == (5 : Int)) (t, (1 : Int)) (cond (t == (6 : Int)) ((3 : Int), (2 : Int)) (cond (t == (7 : Int)) ((3 : Int), (4 : Int)) ((0 : Int), (0 : Int))))))))

def k_r12_Access : Con := conT2 [.d I] I I (fun x => True) fun x => accR x.1
theorem m_r12_Access (t : Int) (h_t : okD I t) (hp : True) : Runs E_A3 (start E_A3 f_r12_Access [(vi t)]) (fun r_ h_ => r_ = (.tup [(vi (z ((accR t).1))), (vi (z ((accR t).2)))]) ∧ h_ = []) := .tree E_A3_ok (r12_Access_t t) (by
  refine wp_cond (fun h1 => ?_) (fun h1 => ?_)
  · have h1_ := beq_t h1
    exact ⟨by simp only [accR, h1, cond_true, cond_false], rfl⟩
  · have h1_ := beq_f h1
    refine wp_cond (fun h2 => ?_) (fun h2 => ?_)
    · have h2_ := beq_t h2
      exact ⟨by simp only [accR, h1, h2, cond_true, cond_false], rfl⟩
    · have h2_ := beq_f h2
      refine wp_cond (fun h3 => ?_) (fun h3 => ?_)
      · have h3_ := beq_t h3
        exact ⟨by simp only [accR, h1, h2, h3, cond_true, cond_false], rfl⟩
      · have h3_ := beq_f h3
        refine wp_cond (fun h4 => ?_) (fun h4 => ?_)
        · have h4_ := beq_t h4
          exact ⟨by simp only [accR, h1, h2, h3, h4, cond_true, cond_false], rfl⟩
        · have h4_ := beq_f h4
          refine wp_cond (fun h5 => ?_) (fun h5 => ?_)
          · have h5_ := beq_t h5
            exact ⟨by simp only [accR, h1, h2, h3, h4, h5, cond_true, cond_false], rfl⟩
          · have h5_ := beq_f h5
            refine wp_cond (fun h6 => ?_) (fun h6 => ?_)
            · have h6_ := beq_t h6
              exact ⟨by simp only [accR, h1, h2, h3, h4, h5, h6, cond_true, cond_false], rfl⟩
            · have h6_ := beq_f h6
              exact ⟨by simp only [accR, h1, h2, h3, h4, h5, h6, cond_true, cond_false], rfl⟩)
theorem c_r12_Access : SpecOK E_A3 f_r12_Access k_r12_Access.spec := spec_of fun x hx hp => ⟨rfl, m_r12_Access x.1 hx.1 hp⟩
def ownR (r : Int) : Den s_alias_Base := ((3 : Int), r, (0 : Int), true, ())

def k_r27_own : Con := con [.d I] s_alias_Base (fun x => True) fun x => ownR x.1
theorem m_r27_own (r : Int) (h_r : okD I r) (hp : True) : Runs E_A3 (start E_A3 f_r27_own [(vi r)]) (fun r_ h_ => r_ = (.tv s_alias_Base (ownR r)) ∧ h_ = []) := .tree E_A3_ok (r27_own_t r) (by
  refine ⟨Nat.zero_lt_one, fun _ => ?_⟩
  refine ⟨Nat.zero_lt_one, fun _ => ?_⟩
  exact ⟨by simp only [ownR, cond_true, cond_false], rfl⟩)
theorem c_r27_own : SpecOK E_A3 f_r27_own k_r27_own.spec := spec_of fun x hx hp => ⟨rfl, m_r27_own x.1 hx.1 hp⟩
def meetR (r : Int) (a : Den s_alias_Base) (b : Den s_alias_Base) : Den s_alias_Base := (cond ((z a.1) == (0 : Int)) b (cond ((z b.1) == (0 : Int)) a (cond ((z a.1) != (z b.1)) ((3 : Int), r, (0 : Int), true, ()) (cond ((z a.2.1) != (z b.2.1)) ((3 : Int), r, (0 : Int), true, ()) (cond (bOf a.2.2.2.1) (cond (bOf b.2.2.2.1) (cond ((z a.2.2.1) == (z b.2.2.1)) a (a.1, a.2.1, (0 : Int), false, ())) (a.1, a.2.1, (0 : Int), false, ())) (a.1, a.2.1, (0 : Int), false, ()))))))

def k_r27_meet : Con := con [.d I, .d s_alias_Base, .d s_alias_Base] s_alias_Base (fun x => True) fun x => meetR x.1 x.2.1 x.2.2.1
theorem m_r27_meet (r : Int) (a : Den s_alias_Base) (b : Den s_alias_Base) (h_r : okD I r) (h_a : okD s_alias_Base a) (h_b : okD s_alias_Base b) (hp : True) : Runs E_A3 (start E_A3 f_r27_meet [(vi r), (.tv s_alias_Base a), (.tv s_alias_Base b)]) (fun r_ h_ => r_ = (.tv s_alias_Base (meetR r a b)) ∧ h_ = []) := .tree E_A3_ok (r27_meet_t r a b) (by
  refine wp_cond (fun h1 => ?_) (fun h1 => ?_)
  · have h1_ := beq_t h1
    refine ⟨Nat.zero_lt_one, fun _ => ?_⟩
    refine ⟨Nat.zero_lt_one, fun _ => ?_⟩
    exact ⟨by simp only [meetR, h1, cond_true, cond_false], rfl⟩
  · have h1_ := beq_f h1
    refine wp_cond (fun h2 => ?_) (fun h2 => ?_)
    · have h2_ := beq_t h2
      refine ⟨Nat.zero_lt_one, fun _ => ?_⟩
      refine ⟨Nat.zero_lt_one, fun _ => ?_⟩
      exact ⟨by simp only [meetR, h1, h2, cond_true, cond_false], rfl⟩
    · have h2_ := beq_f h2
      refine wp_cond (fun h3 => ?_) (fun h3 => ?_)
      · have h3_ := bne_t h3
        refine ⟨Nat.zero_lt_one, fun _ => ?_⟩
        refine ⟨Nat.zero_lt_one, fun _ => ?_⟩
        refine ⟨Nat.zero_lt_one, fun _ => ?_⟩
        refine ⟨Nat.zero_lt_one, fun _ => ?_⟩
        exact ⟨by simp only [meetR, h1, h2, h3, cond_true, cond_false], rfl⟩
      · have h3_ := bne_f h3
        refine wp_cond (fun h4 => ?_) (fun h4 => ?_)
        · have h4_ := bne_t h4
          refine ⟨Nat.zero_lt_one, fun _ => ?_⟩
          refine ⟨Nat.zero_lt_one, fun _ => ?_⟩
          refine ⟨Nat.zero_lt_one, fun _ => ?_⟩
          refine ⟨Nat.zero_lt_one, fun _ => ?_⟩
          exact ⟨by simp only [meetR, h1, h2, h3, h4, cond_true, cond_false], rfl⟩
        · have h4_ := bne_f h4
          refine wp_cond (fun h5 => ?_) (fun h5 => ?_)
          · refine wp_cond (fun h6 => ?_) (fun h6 => ?_)
            · refine wp_cond (fun h7 => ?_) (fun h7 => ?_)
              · have h7_ := beq_t h7
                refine ⟨Nat.zero_lt_one, fun _ => ?_⟩
                refine ⟨Nat.zero_lt_one, fun _ => ?_⟩
                exact ⟨by simp only [meetR, h1, h2, h3, h4, h5, h6, h7, cond_true, cond_false], rfl⟩
              · have h7_ := beq_f h7
                refine ⟨Nat.zero_lt_one, fun _ => ?_⟩
                refine ⟨Nat.zero_lt_one, fun _ => ?_⟩
                exact ⟨by simp only [meetR, h1, h2, h3, h4, h5, h6, h7, cond_true, cond_false], rfl⟩
            · refine ⟨Nat.zero_lt_one, fun _ => ?_⟩
              refine ⟨Nat.zero_lt_one, fun _ => ?_⟩
              exact ⟨by simp only [meetR, h1, h2, h3, h4, h5, h6, cond_true, cond_false], rfl⟩
          · refine ⟨Nat.zero_lt_one, fun _ => ?_⟩
            refine ⟨Nat.zero_lt_one, fun _ => ?_⟩
            exact ⟨by simp only [meetR, h1, h2, h3, h4, h5, cond_true, cond_false], rfl⟩)
theorem c_r27_meet : SpecOK E_A3 f_r27_meet k_r27_meet.spec := spec_of fun x hx hp => ⟨rfl, m_r27_meet x.1 x.2.1 x.2.2.1 hx.1 hx.2.1 hx.2.2.1 hp⟩
def ptrR (f : Den s_api_Func) (x : Int) : Bool := (cond (decide (x ≥ (0 : Int))) (cond (decide (x < ((ln I f.2.2.2.1) : Int))) ((z (gd I f.2.2.2.1 ((x).toNat))) == (5 : Int)) false) false)

def k_r27_pointer : Con := con [.d s_api_Func, .d I] .bool (fun x => True) fun x => ptrR x.1 x.2.1
theorem m_r27_pointer (f : Den s_api_Func) (x : Int) (h_f : okD s_api_Func f) (h_x : okD I x) (hp : True) : Runs E_A3 (start E_A3 f_r27_pointer [(.tv s_api_Func f), (vi x)]) (fun r_ h_ => r_ = (vb (ptrR f x)) ∧ h_ = []) := .tree E_A3_ok (r27_pointer_t f x) (by
  refine wp_cond (fun h1 => ?_) (fun h1 => ?_)
  · have h1_ := of_decide_eq_true h1
    refine wp_cond (fun h2 => ?_) (fun h2 => ?_)
    · have h2_ := of_decide_eq_true h2
      refine ⟨by first | omega | assumption | exact hp.1 | exact hp.2 | exact hp.2.1 | (simp_all; done) | (simp_all; omega), fun _ => ?_⟩
      exact ⟨by simp only [ptrR, h1, h2, cond_true, cond_false], rfl⟩
    · have h2_ := of_decide_eq_false h2
      exact ⟨by simp only [ptrR, h1, h2, cond_true, cond_false], rfl⟩
  · have h1_ := of_decide_eq_false h1
    exact ⟨by simp only [ptrR, h1, cond_true, cond_false], rfl⟩)
theorem c_r27_pointer : SpecOK E_A3 f_r27_pointer k_r27_pointer.spec := spec_of fun x hx hp => ⟨rfl, m_r27_pointer x.1 x.2.1 hx.1 hx.2.1 hp⟩
def apartR (a : Den s_alias_Base) (b : Den s_alias_Base) (cellsA : Int) (cellsB : Int) : Bool := (cond (decide ((IntKind.wrap .u64 ((IntKind.wrap .u64 (z b.2.2.1)) - (IntKind.wrap .u64 (z a.2.2.1)))) ≥ (IntKind.wrap .u64 cellsA))) (decide ((IntKind.wrap .u64 ((0 : Int) - (IntKind.wrap .u64 ((IntKind.wrap .u64 (z b.2.2.1)) - (IntKind.wrap .u64 (z a.2.2.1)))))) ≥ (IntKind.wrap .u64 cellsB))) false)

def k_r27_apart : Con := con [.d s_alias_Base, .d s_alias_Base, .d I, .d I] .bool (fun x => True) fun x => apartR x.1 x.2.1 x.2.2.1 x.2.2.2.1
theorem m_r27_apart (a : Den s_alias_Base) (b : Den s_alias_Base) (cellsA : Int) (cellsB : Int) (h_a : okD s_alias_Base a) (h_b : okD s_alias_Base b) (h_cellsA : okD I cellsA) (h_cellsB : okD I cellsB) (hp : True) : Runs E_A3 (start E_A3 f_r27_apart [(.tv s_alias_Base a), (.tv s_alias_Base b), (vi cellsA), (vi cellsB)]) (fun r_ h_ => r_ = (vb (apartR a b cellsA cellsB)) ∧ h_ = []) := .tree E_A3_ok (r27_apart_t a b cellsA cellsB) (by
  refine wp_cond (fun h1 => ?_) (fun h1 => ?_)
  · have h1_ := of_decide_eq_true h1
    exact ⟨by simp only [apartR, h1, cond_true, cond_false], rfl⟩
  · have h1_ := of_decide_eq_false h1
    exact ⟨by simp only [apartR, h1, cond_true, cond_false], rfl⟩)
theorem c_r27_apart : SpecOK E_A3 f_r27_apart k_r27_apart.spec := spec_of fun x hx hp => ⟨rfl, m_r27_apart x.1 x.2.1 x.2.2.1 x.2.2.2.1 hx.1 hx.2.1 hx.2.2.1 hx.2.2.2.1 hp⟩
def L_A3 : List (FuncId × FSpec) := [(f_r01_Wrap, k_r01_Wrap.spec), (f_alias_arg, k_alias_arg.spec), (f_alias_own, k_alias_own.spec), (f_alias_meet, k_alias_meet.spec), (f_alias_solver_pointer, k_alias_solver_pointer.spec), (f_alias_overlap, k_alias_overlap.spec), (f_alias_kinds, k_alias_kinds.spec), (f_opcode_Access, k_opcode_Access.spec), (f_r12_Access, k_r12_Access.spec), (f_r27_own, k_r27_own.spec), (f_r27_meet, k_r27_meet.spec), (f_r27_pointer, k_r27_pointer.spec), (f_r27_apart, k_r27_apart.spec)] ++ L_A2
theorem L_A3_ok : ∀ x ∈ L_A3, SpecOK (ctx []) x.1 x.2 := by
  unfold L_A3
  simp only [List.cons_append, List.nil_append, List.forall_mem_cons]
  exact ⟨c_r01_Wrap, c_alias_arg, c_alias_own, c_alias_meet, c_alias_solver_pointer, c_alias_overlap, c_alias_kinds, c_opcode_Access, c_r12_Access, c_r27_own, c_r27_meet, c_r27_pointer, c_r27_apart, L_A2_ok⟩
end Burn.M27Q
namespace Burn.M27Q
open Go Go.BE Go.Proofs
set_option maxRecDepth 100000
set_option linter.unusedVariables false
set_option linter.unusedSimpArgs false
open Burn.Cfg Burn.Intn Burn.Ref
noncomputable abbrev E_A4 : Ctx := ctx L_A3
theorem E_A4_ok : EOK E_A4 := ctx_ok L_A3_ok
def cuts_A4 : CutL := [([], 36, 0, [1, 7, 8, 9], [], []),
  ([], 77, 0, [0, 4, 5, 9, 10, 11], [], [])]
def rets_A4 : FuncId → List (Option Fx)
  | 56 => [some (.dat s_api_Instr), none]
  | 75 => [some (.dat s_alias_Base)]
  | 77 => [some (.dat s_alias_Base)]
  | 79 => [some (.dat s_api_Instr), none]
  | _ => []
def H_A4 : Hints := { cut := cutOf cuts_A4, ret := rets_A4 }
noncomputable def alias_index_L0 (x : Int) (t7 : List (Den I)) (t8 : Int) (t9 : Int) : Cfg := hcfg E_A4 f_alias_index 0 [(1, (vi x)), (7, (.tv (.sl 8 I) t7)), (8, (vi t8)), (9, (vi t9))] [] 0
theorem alias_index_t (l : List (Den I)) (x : Int) : run E_A4 H_A4 f_alias_index 3000 (start E_A4 f_alias_index [(.tv (.sl 8 I) l), (vi x)]) = (hd (alias_index_L0 x l ((ln I l) : Int) (0 : Int))) := by kernel_rfl
theorem alias_index_L0_t (x : Int) (t7 : List (Den I)) (t8 : Int) (t9 : Int) : run E_A4 H_A4 f_alias_index 3000 (alias_index_L0 x t7 t8 t9) = (cond (decide (t9 < t8)) (.chk (0 ≤ t9 ∧ t9 < (ln I t7)) (cond ((z (gd I t7 ((t9).toNat))) == x) (rt (vi t9) []) (hd (alias_index_L0 x t7 t8 (IntKind.wrap .i64 (t9 + (1 : Int))))))) (rt (vi (-1 : Int)) [])) := by kernel_rfl
noncomputable def alias_join_L0 (r : Int) (t9 : List (Den s_alias_Base)) (t10 : Int) (t11 : Int) (t4 : Den s_alias_Base) (out : Den s_alias_Base) : Cfg := hcfg E_A4 f_alias_join 0 [(0, (vi r)), (4, (.tref 0 0 [] (0 : Nat) [])), (5, (.tref 1 1 [] (0 : Nat) [])), (9, (.tv (.sl 32 s_alias_Base) t9)), (10, (vi t10)), (11, (vi t11))] [(0, ⟨(.arr 0 32 s_alias_Base ([t4] : List (Den s_alias_Base))), 0, [], false, none⟩), (1, ⟨(.arr 0 32 s_alias_Base ([out] : List (Den s_alias_Base))), 1, [], false, none⟩)] 2
theorem alias_join_t (r : Int) (l : List (Den s_alias_Base)) : run E_A4 H_A4 f_alias_join 3000 (start E_A4 f_alias_join [(vi r), (.tv (.sl 32 s_alias_Base) l)]) = (.chk ((0 : Nat) < (1 : Nat)) (hd (alias_join_L0 r l ((ln s_alias_Base l) : Int) (0 : Int) ((0 : Int), (0 : Int), (0 : Int), false, ()) (((0 : Int), (0 : Int), (0 : Int), false, ()))))) := by kernel_rfl
theorem alias_join_L0_t (r : Int) (t9 : List (Den s_alias_Base)) (t10 : Int) (t11 : Int) (t4 : Den s_alias_Base) (out : Den s_alias_Base) : run E_A4 H_A4 f_alias_join 3000 (alias_join_L0 r t9 t10 t11 t4 out) = (cond (decide (t11 < t10)) (.chk (0 ≤ t11 ∧ t11 < (ln s_alias_Base t9)) (.chk ((0 : Nat) < (1 : Nat)) (.chk ((0 : Nat) < (1 : Nat)) (cond (((z ((gd s_alias_Base t9 ((t11).toNat)).1)) == (z ((((0 : Int), (0 : Int), (0 : Int), false, ())).1))) && (((z (((gd s_alias_Base t9 ((t11).toNat)).2).1)) == (z (((((0 : Int), (0 : Int), (0 : Int), false, ())).2).1))) && (((z ((((gd s_alias_Base t9 ((t11).toNat)).2).2).1)) == (z ((((((0 : Int), (0 : Int), (0 : Int), false, ())).2).2).1))) && (((bOf (((((gd s_alias_Base t9 ((t11).toNat)).2).2).2).1)) == (bOf (((((((0 : Int), (0 : Int), (0 : Int), false, ())).2).2).2).1))) && true)))) (hd (alias_join_L0 r t9 t10 (IntKind.wrap .i64 (t11 + (1 : Int))) t4 out)) (.chk ((0 : Nat) < (1 : Nat)) (cond (((z out.1) == (z ((((0 : Int), (0 : Int), (0 : Int), false, ())).1))) && (((z out.2.1) == (z (((((0 : Int), (0 : Int), (0 : Int), false, ())).2).1))) && (((z out.2.2.1) == (z ((((((0 : Int), (0 : Int), (0 : Int), false, ())).2).2).1))) && (((bOf out.2.2.2.1) == (bOf (((((((0 : Int), (0 : Int), (0 : Int), false, ())).2).2).2).1))) && true)))) (.chk ((0 : Nat) < (1 : Nat)) (.chk ((0 : Nat) < (1 : Nat)) (hd (alias_join_L0 r t9 t10 (IntKind.wrap .i64 (t11 + (1 : Int))) t4 (gd s_alias_Base t9 ((t11).toNat)))))) (.chk ((0 : Nat) < (1 : Nat)) (.chk ((0 : Nat) < (1 : Nat)) (.chk (True) (.know (okD s_alias_Base (meetP r out (gd s_alias_Base t9 ((t11).toNat)))) (.chk ((0 : Nat) < (1 : Nat)) (hd (alias_join_L0 r t9 t10 (IntKind.wrap .i64 (t11 + (1 : Int))) t4 (meetP r out (gd s_alias_Base t9 ((t11).toNat)))))))))))))))) (.chk ((0 : Nat) < (1 : Nat)) (.chk ((0 : Nat) < (1 : Nat)) (.chk ((0 : Nat) < (1 : Nat)) (rt (.tv s_alias_Base out) []))))) := by kernel_rfl
theorem alias_solver_def_t (s : Den s_alias_solver) (r : Int) : run E_A4 H_A4 f_alias_solver_def 3000 (start E_A4 f_alias_solver_def [(.rtp s_alias_solver s), (vi r)]) = (cond (decide (r < (0 : Int))) (rt (.tup [(.tv s_api_Instr ((0 : Int), (0 : Int), (0 : Int), ([] : List (Den I)), (0 : Int), (0 : Int), (0 : Int), false, ())), (vb false)]) []) (cond (decide (r ≥ ((ln (.sl 16 s_api_Pos) s.2.1) : Int))) (rt (.tup [(.tv s_api_Instr ((0 : Int), (0 : Int), (0 : Int), ([] : List (Den I)), (0 : Int), (0 : Int), (0 : Int), false, ())), (vb false)]) []) (.chk (0 ≤ r ∧ r < (ln (.sl 16 s_api_Pos) s.2.1)) (cond (((ln s_api_Pos (gd (.sl 16 s_api_Pos) s.2.1 ((r).toNat))) : Int) != (1 : Int)) (rt (.tup [(.tv s_api_Instr ((0 : Int), (0 : Int), (0 : Int), ([] : List (Den I)), (0 : Int), (0 : Int), (0 : Int), false, ())), (vb false)]) []) (.chk (0 ≤ r ∧ r < (ln (.sl 16 s_api_Pos) s.2.1)) (.chk (0 ≤ (0 : Int) ∧ (0 : Int) < (ln s_api_Pos (gd (.sl 16 s_api_Pos) s.2.1 ((r).toNat)))) (.chk ((0 : Nat) < (1 : Nat)) (.chk ((0 : Nat) < (1 : Nat)) (cond (decide ((z (((gd s_api_Pos (gd (.sl 16 s_api_Pos) s.2.1 ((r).toNat)) (0 : Nat)).2).1)) < (0 : Int))) (rt (.tup [(.tv s_api_Instr ((0 : Int), (0 : Int), (0 : Int), ([] : List (Den I)), (0 : Int), (0 : Int), (0 : Int), false, ())), (vb false)]) []) (.chk ((0 : Nat) < (1 : Nat)) (.chk (0 ≤ (z ((gd s_api_Pos (gd (.sl 16 s_api_Pos) s.2.1 ((r).toNat)) (0 : Nat)).1)) ∧ (z ((gd s_api_Pos (gd (.sl 16 s_api_Pos) s.2.1 ((r).toNat)) (0 : Nat)).1)) < (ln s_api_Block s.1.2.2.2.2.1)) (.chk ((0 : Nat) < (1 : Nat)) (.chk (0 ≤ (z (((gd s_api_Pos (gd (.sl 16 s_api_Pos) s.2.1 ((r).toNat)) (0 : Nat)).2).1)) ∧ (z (((gd s_api_Pos (gd (.sl 16 s_api_Pos) s.2.1 ((r).toNat)) (0 : Nat)).2).1)) < (ln s_api_Instr (((gd s_api_Block s.1.2.2.2.2.1 (((z ((gd s_api_Pos (gd (.sl 16 s_api_Pos) s.2.1 ((r).toNat)) (0 : Nat)).1))).toNat)).2).1))) (rt (.tup [(.tv s_api_Instr (gd s_api_Instr (((gd s_api_Block s.1.2.2.2.2.1 (((z ((gd s_api_Pos (gd (.sl 16 s_api_Pos) s.2.1 ((r).toNat)) (0 : Nat)).1))).toNat)).2).1) (((z (((gd s_api_Pos (gd (.sl 16 s_api_Pos) s.2.1 ((r).toNat)) (0 : Nat)).2).1))).toNat))), (vb true)]) [])))))))))))))) := by kernel_rfl
theorem r01_Add_t (t : Int) (a : Int) (b : Int) : run E_A4 H_A4 f_r01_Add 3000 (start E_A4 f_r01_Add [(vi t), (vi a), (vi b)]) = (.chk (True) (.know (okD (.int .i64) (wrapZ t a)) (.chk (True) (.know (okD (.int .i64) (wrapZ t b)) (.chk (True) (.know (okD (.int .i64) (bitsZ t)) (cond ((bitsZ t) == (0 : Int)) (rt (.tup [(vi (0 : Int)), (vb false)]) []) (cond (decide ((wrapZ t b) > (0 : Int))) (.chk (True) (.know (okD (.int .i64) (bitsZ t)) (cond ((bitsZ t) == (1 : Int)) (cond (decide ((wrapZ t a) > (IntKind.wrap .i64 ((1 : Int) - (wrapZ t b))))) (.chk (True) (.know (okD (.int .i64) (wrapZ t (IntKind.wrap .i64 ((wrapZ t a) + (wrapZ t b))))) (rt (.tup [(vi (wrapZ t (IntKind.wrap .i64 ((wrapZ t a) + (wrapZ t b))))), (vb true)]) []))) (cond (decide ((wrapZ t b) < (0 : Int))) (.chk (True) (.know (okD (.int .i64) (bitsZ t)) (cond ((bitsZ t) == (8 : Int)) (.chk (True) (.know (okD (.int .i64) (wrapZ t (IntKind.wrap .i64 ((wrapZ t a) + (wrapZ t b))))) (rt (.tup [(vi (wrapZ t (IntKind.wrap .i64 ((wrapZ t a) + (wrapZ t b))))), (vb (decide ((wrapZ t a) < (IntKind.wrap .i64 ((-128 : Int) - (wrapZ t b))))))]) []))) (cond ((bitsZ t) == (32 : Int)) (.chk (True) (.know (okD (.int .i64) (wrapZ t (IntKind.wrap .i64 ((wrapZ t a) + (wrapZ t b))))) (rt (.tup [(vi (wrapZ t (IntKind.wrap .i64 ((wrapZ t a) + (wrapZ t b))))), (vb (decide ((wrapZ t a) < (IntKind.wrap .i64 ((-2147483648 : Int) - (wrapZ t b))))))]) []))) (cond ((bitsZ t) == (64 : Int)) (.chk (True) (.know (okD (.int .i64) (wrapZ t (IntKind.wrap .i64 ((wrapZ t a) + (wrapZ t b))))) (rt (.tup [(vi (wrapZ t (IntKind.wrap .i64 ((wrapZ t a) + (wrapZ t b))))), (vb (decide ((wrapZ t a) < (IntKind.wrap .i64 ((-9223372036854775808 : Int) - (wrapZ t b))))))]) []))) (.chk (True) (.know (okD (.int .i64) (wrapZ t (IntKind.wrap .i64 ((wrapZ t a) + (wrapZ t b))))) (rt (.tup [(vi (wrapZ t (IntKind.wrap .i64 ((wrapZ t a) + (wrapZ t b))))), (vb (decide ((wrapZ t a) < (IntKind.wrap .i64 ((0 : Int) - (wrapZ t b))))))]) [])))))))) (.chk (True) (.know (okD (.int .i64) (wrapZ t (IntKind.wrap .i64 ((wrapZ t a) + (wrapZ t b))))) (rt (.tup [(vi (wrapZ t (IntKind.wrap .i64 ((wrapZ t a) + (wrapZ t b))))), (vb false)]) []))))) (.chk (True) (.know (okD (.int .i64) (bitsZ t)) (cond ((bitsZ t) == (0 : Int)) (cond (decide ((wrapZ t a) > (IntKind.wrap .i64 ((0 : Int) - (wrapZ t b))))) (.chk (True) (.know (okD (.int .i64) (wrapZ t (IntKind.wrap .i64 ((wrapZ t a) + (wrapZ t b))))) (rt (.tup [(vi (wrapZ t (IntKind.wrap .i64 ((wrapZ t a) + (wrapZ t b))))), (vb true)]) []))) (cond (decide ((wrapZ t b) < (0 : Int))) (.chk (True) (.know (okD (.int .i64) (bitsZ t)) (cond ((bitsZ t) == (8 : Int)) (.chk (True) (.know (okD (.int .i64) (wrapZ t (IntKind.wrap .i64 ((wrapZ t a) + (wrapZ t b))))) (rt (.tup [(vi (wrapZ t (IntKind.wrap .i64 ((wrapZ t a) + (wrapZ t b))))), (vb (decide ((wrapZ t a) < (IntKind.wrap .i64 ((-128 : Int) - (wrapZ t b))))))]) []))) (cond ((bitsZ t) == (32 : Int)) (.chk (True) (.know (okD (.int .i64) (wrapZ t (IntKind.wrap .i64 ((wrapZ t a) + (wrapZ t b))))) (rt (.tup [(vi (wrapZ t (IntKind.wrap .i64 ((wrapZ t a) + (wrapZ t b))))), (vb (decide ((wrapZ t a) < (IntKind.wrap .i64 ((-2147483648 : Int) - (wrapZ t b))))))]) []))) (cond ((bitsZ t) == (64 : Int)) (.chk (True) (.know (okD (.int .i64) (wrapZ t (IntKind.wrap .i64 ((wrapZ t a) + (wrapZ t b))))) (rt (.tup [(vi (wrapZ t (IntKind.wrap .i64 ((wrapZ t a) + (wrapZ t b))))), (vb (decide ((wrapZ t a) < (IntKind.wrap .i64 ((-9223372036854775808 : Int) - (wrapZ t b))))))]) []))) (.chk (True) (.know (okD (.int .i64) (wrapZ t (IntKind.wrap .i64 ((wrapZ t a) + (wrapZ t b))))) (rt (.tup [(vi (wrapZ t (IntKind.wrap .i64 ((wrapZ t a) + (wrapZ t b))))), (vb (decide ((wrapZ t a) < (IntKind.wrap .i64 ((0 : Int) - (wrapZ t b))))))]) [])))))))) (.chk (True) (.know (okD (.int .i64) (wrapZ t (IntKind.wrap .i64 ((wrapZ t a) + (wrapZ t b))))) (rt (.tup [(vi (wrapZ t (IntKind.wrap .i64 ((wrapZ t a) + (wrapZ t b))))), (vb false)]) []))))) (.chk (True) (.know (okD (.int .i64) (bitsZ t)) (cond ((bitsZ t) == (8 : Int)) (cond (decide ((wrapZ t a) > (IntKind.wrap .i64 ((127 : Int) - (wrapZ t b))))) (.chk (True) (.know (okD (.int .i64) (wrapZ t (IntKind.wrap .i64 ((wrapZ t a) + (wrapZ t b))))) (rt (.tup [(vi (wrapZ t (IntKind.wrap .i64 ((wrapZ t a) + (wrapZ t b))))), (vb true)]) []))) (cond (decide ((wrapZ t b) < (0 : Int))) (.chk (True) (.know (okD (.int .i64) (bitsZ t)) (cond ((bitsZ t) == (8 : Int)) (.chk (True) (.know (okD (.int .i64) (wrapZ t (IntKind.wrap .i64 ((wrapZ t a) + (wrapZ t b))))) (rt (.tup [(vi (wrapZ t (IntKind.wrap .i64 ((wrapZ t a) + (wrapZ t b))))), (vb (decide ((wrapZ t a) < (IntKind.wrap .i64 ((-128 : Int) - (wrapZ t b))))))]) []))) (cond ((bitsZ t) == (32 : Int)) (.chk (True) (.know (okD (.int .i64) (wrapZ t (IntKind.wrap .i64 ((wrapZ t a) + (wrapZ t b))))) (rt (.tup [(vi (wrapZ t (IntKind.wrap .i64 ((wrapZ t a) + (wrapZ t b))))), (vb (decide ((wrapZ t a) < (IntKind.wrap .i64 ((-2147483648 : Int) - (wrapZ t b))))))]) []))) (cond ((bitsZ t) == (64 : Int)) (.chk (True) (.know (okD (.int .i64) (wrapZ t (IntKind.wrap .i64 ((wrapZ t a) + (wrapZ t b))))) (rt (.tup [(vi (wrapZ t (IntKind.wrap .i64 ((wrapZ t a) + (wrapZ t b))))), (vb (decide ((wrapZ t a) < (IntKind.wrap .i64 ((-9223372036854775808 : Int) - (wrapZ t b))))))]) []))) (.chk (True) (.know (okD (.int .i64) (wrapZ t (IntKind.wrap .i64 ((wrapZ t a) + (wrapZ t b))))) (rt (.tup [(vi (wrapZ t (IntKind.wrap .i64 ((wrapZ t a) + (wrapZ t b))))), (vb (decide ((wrapZ t a) < (IntKind.wrap .i64 ((0 : Int) - (wrapZ t b))))))]) [])))))))) (.chk (True) (.know (okD (.int .i64) (wrapZ t (IntKind.wrap .i64 ((wrapZ t a) + (wrapZ t b))))) (rt (.tup [(vi (wrapZ t (IntKind.wrap .i64 ((wrapZ t a) + (wrapZ t b))))), (vb false)]) []))))) (cond ((bitsZ t) == (32 : Int)) (cond (decide ((wrapZ t a) > (IntKind.wrap .i64 ((2147483647 : Int) - (wrapZ t b))))) (.chk (True) (.know (okD (.int .i64) (wrapZ t (IntKind.wrap .i64 ((wrapZ t a) + (wrapZ t b))))) (rt (.tup [(vi (wrapZ t (IntKind.wrap .i64 ((wrapZ t a) + (wrapZ t b))))), (vb true)]) []))) (cond (decide ((wrapZ t b) < (0 : Int))) (.chk (True) (.know (okD (.int .i64) (bitsZ t)) (cond ((bitsZ t) == (8 : Int)) (.chk (True) (.know (okD (.int .i64) (wrapZ t (IntKind.wrap .i64 ((wrapZ t a) + (wrapZ t b))))) (rt (.tup [(vi (wrapZ t (IntKind.wrap .i64 ((wrapZ t a) + (wrapZ t b))))), (vb (decide ((wrapZ t a) < (IntKind.wrap .i64 ((-128 : Int) - (wrapZ t b))))))]) []))) (cond ((bitsZ t) == (32 : Int)) (.chk (True) (.know (okD (.int .i64) (wrapZ t (IntKind.wrap .i64 ((wrapZ t a) + (wrapZ t b))))) (rt (.tup [(vi (wrapZ t (IntKind.wrap .i64 ((wrapZ t a) + (wrapZ t b))))), (vb (decide ((wrapZ t a) < (IntKind.wrap .i64 ((-2147483648 : Int) - (wrapZ t b))))))]) []))) (cond ((bitsZ t) == (64 : Int)) (.chk (True) (.know (okD (.int .i64) (wrapZ t (IntKind.wrap .i64 ((wrapZ t a) + (wrapZ t b))))) (rt (.tup [(vi (wrapZ t (IntKind.wrap .i64 ((wrapZ t a) + (wrapZ t b))))), (vb (decide ((wrapZ t a) < (IntKind.wrap .i64 ((-9223372036854775808 : Int) - (wrapZ t b))))))]) []))) (.chk (True) (.know (okD (.int .i64) (wrapZ t (IntKind.wrap .i64 ((wrapZ t a) + (wrapZ t b))))) (rt (.tup [(vi (wrapZ t (IntKind.wrap .i64 ((wrapZ t a) + (wrapZ t b))))), (vb (decide ((wrapZ t a) < (IntKind.wrap .i64 ((0 : Int) - (wrapZ t b))))))]) [])))))))) (.chk (True) (.know (okD (.int .i64) (wrapZ t (IntKind.wrap .i64 ((wrapZ t a) + (wrapZ t b))))) (rt (.tup [(vi (wrapZ t (IntKind.wrap .i64 ((wrapZ t a) + (wrapZ t b))))), (vb false)]) []))))) (cond ((bitsZ t) == (64 : Int)) (cond (decide ((wrapZ t a) > (IntKind.wrap .i64 ((9223372036854775807 : Int) - (wrapZ t b))))) (.chk (True) (.know (okD (.int .i64) (wrapZ t (IntKind.wrap .i64 ((wrapZ t a) + (wrapZ t b))))) (rt (.tup [(vi (wrapZ t (IntKind.wrap .i64 ((wrapZ t a) + (wrapZ t b))))), (vb true)]) []))) (cond (decide ((wrapZ t b) < (0 : Int))) (.chk (True) (.know (okD (.int .i64) (bitsZ t)) (cond ((bitsZ t) == (8 : Int)) (.chk (True) (.know (okD (.int .i64) (wrapZ t (IntKind.wrap .i64 ((wrapZ t a) + (wrapZ t b))))) (rt (.tup [(vi (wrapZ t (IntKind.wrap .i64 ((wrapZ t a) + (wrapZ t b))))), (vb (decide ((wrapZ t a) < (IntKind.wrap .i64 ((-128 : Int) - (wrapZ t b))))))]) []))) (cond ((bitsZ t) == (32 : Int)) (.chk (True) (.know (okD (.int .i64) (wrapZ t (IntKind.wrap .i64 ((wrapZ t a) + (wrapZ t b))))) (rt (.tup [(vi (wrapZ t (IntKind.wrap .i64 ((wrapZ t a) + (wrapZ t b))))), (vb (decide ((wrapZ t a) < (IntKind.wrap .i64 ((-2147483648 : Int) - (wrapZ t b))))))]) []))) (cond ((bitsZ t) == (64 : Int)) (.chk (True) (.know (okD (.int .i64) (wrapZ t (IntKind.wrap .i64 ((wrapZ t a) + (wrapZ t b))))) (rt (.tup [(vi (wrapZ t (IntKind.wrap .i64 ((wrapZ t a) + (wrapZ t b))))), (vb (decide ((wrapZ t a) < (IntKind.wrap .i64 ((-9223372036854775808 : Int) - (wrapZ t b))))))]) []))) (.chk (True) (.know (okD (.int .i64) (wrapZ t (IntKind.wrap .i64 ((wrapZ t a) + (wrapZ t b))))) (rt (.tup [(vi (wrapZ t (IntKind.wrap .i64 ((wrapZ t a) + (wrapZ t b))))), (vb (decide ((wrapZ t a) < (IntKind.wrap .i64 ((0 : Int) - (wrapZ t b))))))]) [])))))))) (.chk (True) (.know (okD (.int .i64) (wrapZ t (IntKind.wrap .i64 ((wrapZ t a) + (wrapZ t b))))) (rt (.tup [(vi (wrapZ t (IntKind.wrap .i64 ((wrapZ t a) + (wrapZ t b))))), (vb false)]) []))))) (cond (decide ((wrapZ t a) > (IntKind.wrap .i64 ((-1 : Int) - (wrapZ t b))))) (.chk (True) (.know (okD (.int .i64) (wrapZ t (IntKind.wrap .i64 ((wrapZ t a) + (wrapZ t b))))) (rt (.tup [(vi (wrapZ t (IntKind.wrap .i64 ((wrapZ t a) + (wrapZ t b))))), (vb true)]) []))) (cond (decide ((wrapZ t b) < (0 : Int))) (.chk (True) (.know (okD (.int .i64) (bitsZ t)) (cond ((bitsZ t) == (8 : Int)) (.chk (True) (.know (okD (.int .i64) (wrapZ t (IntKind.wrap .i64 ((wrapZ t a) + (wrapZ t b))))) (rt (.tup [(vi (wrapZ t (IntKind.wrap .i64 ((wrapZ t a) + (wrapZ t b))))), (vb (decide ((wrapZ t a) < (IntKind.wrap .i64 ((-128 : Int) - (wrapZ t b))))))]) []))) (cond ((bitsZ t) == (32 : Int)) (.chk (True) (.know (okD (.int .i64) (wrapZ t (IntKind.wrap .i64 ((wrapZ t a) + (wrapZ t b))))) (rt (.tup [(vi (wrapZ t (IntKind.wrap .i64 ((wrapZ t a) + (wrapZ t b))))), (vb (decide ((wrapZ t a) < (IntKind.wrap .i64 ((-2147483648 : Int) - (wrapZ t b))))))]) []))) (cond ((bitsZ t) == (64 : Int)) (.chk (True) (.know (okD (.int .i64) (wrapZ t (IntKind.wrap .i64 ((wrapZ t a) + (wrapZ t b))))) (rt (.tup [(vi (wrapZ t (IntKind.wrap .i64 ((wrapZ t a) + (wrapZ t b))))), (vb (decide ((wrapZ t a) < (IntKind.wrap .i64 ((-9223372036854775808 : Int) - (wrapZ t b))))))]) []))) (.chk (True) (.know (okD (.int .i64) (wrapZ t (IntKind.wrap .i64 ((wrapZ t a) + (wrapZ t b))))) (rt (.tup [(vi (wrapZ t (IntKind.wrap .i64 ((wrapZ t a) + (wrapZ t b))))), (vb (decide ((wrapZ t a) < (IntKind.wrap .i64 ((0 : Int) - (wrapZ t b))))))]) [])))))))) (.chk (True) (.know (okD (.int .i64) (wrapZ t (IntKind.wrap .i64 ((wrapZ t a) + (wrapZ t b))))) (rt (.tup [(vi (wrapZ t (IntKind.wrap .i64 ((wrapZ t a) + (wrapZ t b))))), (vb false)]) [])))))))))))))))) (cond (decide ((wrapZ t b) < (0 : Int))) (.chk (True) (.know (okD (.int .i64) (bitsZ t)) (cond ((bitsZ t) == (8 : Int)) (.chk (True) (.know (okD (.int .i64) (wrapZ t (IntKind.wrap .i64 ((wrapZ t a) + (wrapZ t b))))) (rt (.tup [(vi (wrapZ t (IntKind.wrap .i64 ((wrapZ t a) + (wrapZ t b))))), (vb (decide ((wrapZ t a) < (IntKind.wrap .i64 ((-128 : Int) - (wrapZ t b))))))]) []))) (cond ((bitsZ t) == (32 : Int)) (.chk (True) (.know (okD (.int .i64) (wrapZ t (IntKind.wrap .i64 ((wrapZ t a) + (wrapZ t b))))) (rt (.tup [(vi (wrapZ t (IntKind.wrap .i64 ((wrapZ t a) + (wrapZ t b))))), (vb (decide ((wrapZ t a) < (IntKind.wrap .i64 ((-2147483648 : Int) - (wrapZ t b))))))]) []))) (cond ((bitsZ t) == (64 : Int)) (.chk (True) (.know (okD (.int .i64) (wrapZ t (IntKind.wrap .i64 ((wrapZ t a) + (wrapZ t b))))) (rt (.tup [(vi (wrapZ t (IntKind.wrap .i64 ((wrapZ t a) + (wrapZ t b))))), (vb (decide ((wrapZ t a) < (IntKind.wrap .i64 ((-9223372036854775808 : Int) - (wrapZ t b))))))]) []))) (.chk (True) (.know (okD (.int .i64) (wrapZ t (IntKind.wrap .i64 ((wrapZ t a) + (wrapZ t b))))) (rt (.tup [(vi (wrapZ t (IntKind.wrap .i64 ((wrapZ t a) + (wrapZ t b))))), (vb (decide ((wrapZ t a) < (IntKind.wrap .i64 ((0 : Int) - (wrapZ t b))))))]) [])))))))) (.chk (True) (.know (okD (.int .i64) (wrapZ t (IntKind.wrap .i64 ((wrapZ t a) + (wrapZ t b))))) (rt (.tup [(vi (wrapZ t (IntKind.wrap .i64 ((wrapZ t a) + (wrapZ t b))))), (vb false)]) [])))))))))))) := by kernel_rfl
theorem r27_instr_t (f : Den s_api_Func) (defs : List (Den (.sl 16 s_api_Pos))) (r : Int) : run E_A4 H_A4 f_r27_instr 3000 (start E_A4 f_r27_instr [(.tv s_api_Func f), (.tv (.sl 24 (.sl 16 s_api_Pos)) defs), (vi r)]) = (cond (decide (r < (0 : Int))) (rt (.tup [(.tv s_api_Instr ((0 : Int), (0 : Int), (0 : Int), ([] : List (Den I)), (0 : Int), (0 : Int), (0 : Int), false, ())), (vb false)]) []) (cond (decide (r ≥ ((ln (.sl 16 s_api_Pos) defs) : Int))) (rt (.tup [(.tv s_api_Instr ((0 : Int), (0 : Int), (0 : Int), ([] : List (Den I)), (0 : Int), (0 : Int), (0 : Int), false, ())), (vb false)]) []) (.chk (0 ≤ r ∧ r < (ln (.sl 16 s_api_Pos) defs)) (cond (((ln s_api_Pos (gd (.sl 16 s_api_Pos) defs ((r).toNat))) : Int) != (1 : Int)) (rt (.tup [(.tv s_api_Instr ((0 : Int), (0 : Int), (0 : Int), ([] : List (Den I)), (0 : Int), (0 : Int), (0 : Int), false, ())), (vb false)]) []) (.chk (0 ≤ r ∧ r < (ln (.sl 16 s_api_Pos) defs)) (.chk (0 ≤ (0 : Int) ∧ (0 : Int) < (ln s_api_Pos (gd (.sl 16 s_api_Pos) defs ((r).toNat)))) (.chk ((0 : Nat) < (1 : Nat)) (.chk ((0 : Nat) < (1 : Nat)) (cond (decide ((z (((gd s_api_Pos (gd (.sl 16 s_api_Pos) defs ((r).toNat)) (0 : Nat)).2).1)) < (0 : Int))) (rt (.tup [(.tv s_api_Instr ((0 : Int), (0 : Int), (0 : Int), ([] : List (Den I)), (0 : Int), (0 : Int), (0 : Int), false, ())), (vb false)]) []) (.chk ((0 : Nat) < (1 : Nat)) (.chk (0 ≤ (z ((gd s_api_Pos (gd (.sl 16 s_api_Pos) defs ((r).toNat)) (0 : Nat)).1)) ∧ (z ((gd s_api_Pos (gd (.sl 16 s_api_Pos) defs ((r).toNat)) (0 : Nat)).1)) < (ln s_api_Block f.2.2.2.2.1)) (.chk ((0 : Nat) < (1 : Nat)) (.chk (0 ≤ (z (((gd s_api_Pos (gd (.sl 16 s_api_Pos) defs ((r).toNat)) (0 : Nat)).2).1)) ∧ (z (((gd s_api_Pos (gd (.sl 16 s_api_Pos) defs ((r).toNat)) (0 : Nat)).2).1)) < (ln s_api_Instr (((gd s_api_Block f.2.2.2.2.1 (((z ((gd s_api_Pos (gd (.sl 16 s_api_Pos) defs ((r).toNat)) (0 : Nat)).1))).toNat)).2).1))) (rt (.tup [(.tv s_api_Instr (gd s_api_Instr (((gd s_api_Block f.2.2.2.2.1 (((z ((gd s_api_Pos (gd (.sl 16 s_api_Pos) defs ((r).toNat)) (0 : Nat)).1))).toNat)).2).1) (((z (((gd s_api_Pos (gd (.sl 16 s_api_Pos) defs ((r).toNat)) (0 : Nat)).2).1))).toNat))), (vb true)]) [])))))))))))))) := by kernel_rfl
theorem alias_solver_operand_t (s : Den s_alias_solver) (r : Int) (in_ : Den s_api_Instr) (i : Int) : run E_A4 H_A4 f_alias_solver_operand 3000 (start E_A4 f_alias_solver_operand [(.rtp s_alias_solver s), (vi r), (.tv s_api_Instr in_), (vi i)]) = (.chk (0 ≤ z i) (.know (okD (.int .i64) (argP in_ i)) (.chk (True) (.know True (cond (!(ptrP s (argP in_ i))) (.chk (True) (.know (okD s_alias_Base (ownP r)) (.chk ((0 : Nat) < (1 : Nat)) (.chk ((0 : Nat) < (1 : Nat)) (rt (.tv s_alias_Base (ownP r)) []))))) (.chk (0 ≤ (argP in_ i) ∧ (argP in_ i) < (ln s_alias_Base s.2.2.1)) (.chk ((0 : Nat) < (1 : Nat)) (.chk ((0 : Nat) < (1 : Nat)) (rt (.tv s_alias_Base (gd s_alias_Base s.2.2.1 (((argP in_ i)).toNat))) []))))))))) := by kernel_rfl
abbrev Bs := Den s_alias_Base
abbrev DL := List (Den (.sl 16 s_api_Pos))
abbrev Sv := Den s_alias_solver
def zB : Bs := ((0 : Int), (0 : Int), (0 : Int), false, ())
def eqBs (a b : Bs) : Bool := (z a.1 == z b.1) && ((z a.2.1 == z b.2.1) && ((z a.2.2.1 == z b.2.2.1) && ((bOf a.2.2.2.1 == bOf b.2.2.2.1) && true)))
theorem eqBs_iff {a b : Bs} : eqBs a b = true ↔ a = b := by
  obtain ⟨a1, a2, a3, a4, a5⟩ : Int × Int × Int × Bool × Unit := a
  obtain ⟨b1, b2, b3, b4, b5⟩ : Int × Int × Int × Bool × Unit := b
  unfold eqBs
  simp
theorem eqBs_refl (a : Bs) : eqBs a a = true := eqBs_iff.2 rfl
theorem eqBs_ne {a b : Bs} (h : eqBs a b = false) : a ≠ b := fun e => by rw [eqBs_iff.2 e] at h; cases h
def okZ (b : Bs) : Prop := z b.1 = 0 → b = zB
theorem okZ_own (r : Int) : okZ (ownP r) := fun h => by cases h
theorem okZ_z : okZ zB := fun _ => rfl
theorem meetP_kind {r : Int} {a b : Bs} (h : z a.1 ≠ 0) : z (meetP r a b).1 ≠ 0 := by
  unfold meetP
  cases (z a.1 != z b.1) <;> cases (z a.2.1 != z b.2.1) <;> cases bOf a.2.2.2.1 <;> cases bOf b.2.2.2.1 <;> cases (z a.2.2.1 == z b.2.2.1) <;> first | exact h | exact (by decide : (3 : Int) ≠ 0)
theorem meetR_eq {r : Int} {a b : Bs} : meetR r a b = if z a.1 = 0 then b else if z b.1 = 0 then a else meetP r a b := by
  unfold meetR meetP
  by_cases h1 : z a.1 = 0
  · rw [if_pos h1, show (z a.1 == 0) = true by simpa using h1]; rfl
  · rw [if_neg h1, show (z a.1 == 0) = false by simpa using h1]
    by_cases h2 : z b.1 = 0
    · rw [if_pos h2, show (z b.1 == 0) = true by simpa using h2]; rfl
    · rw [if_neg h2, show (z b.1 == 0) = false by simpa using h2]; rfl
theorem okZ_meet {r : Int} {a b : Bs} (ha : okZ a) (hb : okZ b) : okZ (meetR r a b) := by
  rw [meetR_eq]
  split
  · exact hb
  · split
    · exact ha
    · rename_i h _
      exact fun e => absurd e (meetP_kind h)
def jstep (r : Int) (out b : Bs) : Bs := if eqBs b zB = true then out else if eqBs out zB = true then b else meetP r out b
theorem jstep_eq {r : Int} {out b : Bs} (ho : okZ out) (hb : okZ b) : jstep r out b = meetR r out b := by
  unfold jstep
  rw [meetR_eq]
  by_cases h1 : z b.1 = 0
  · rw [if_pos (eqBs_iff.2 (hb h1))]
    by_cases h2 : z out.1 = 0
    · rw [if_pos h2, hb h1, ho h2]
    · rw [if_neg h2, if_pos h1]
  · rw [if_neg (fun h => h1 (by rw [eqBs_iff.1 h]; rfl))]
    by_cases h2 : z out.1 = 0
    · rw [if_pos (eqBs_iff.2 (ho h2)), if_pos h2]
    · rw [if_neg (fun h => h2 (by rw [eqBs_iff.1 h]; rfl)), if_neg h2, if_neg h1]
def joinF (r : Int) (l : List Bs) : Bs := l.foldl (jstep r) zB
theorem joinM_ok {r : Int} : ∀ {l : List Bs} {o : Bs}, okZ o → (∀ b ∈ l, okZ b) → l.foldl (jstep r) o = l.foldl (meetR r) o ∧ okZ (l.foldl (meetR r) o)
  | [], o, ho, _ => ⟨rfl, ho⟩
  | b :: l, o, ho, hl => by
    have hb := hl b List.mem_cons_self
    have := joinM_ok (r := r) (l := l) (okZ_meet (r := r) ho hb) fun x hx => hl x (List.mem_cons_of_mem _ hx)
    simp only [List.foldl_cons]
    rw [jstep_eq ho hb]
    exact this
def idxGo (x : Int) : List (Den I) → Nat → Int
  | [], _ => -1
  | y :: l, i => if z y = x then (i : Int) else idxGo x l (i + 1)
def idxF (l : List (Den I)) (x : Int) : Int := idxGo x l 0
theorem idxGo_sp {x : Int} : ∀ {l : List (Den I)} {i : Nat}, (idxGo x l i = -1 ∧ ∀ k, k < ln I l → z (gd I l k) ≠ x) ∨ ∃ k, k < ln I l ∧ idxGo x l i = ((i + k : Nat) : Int) ∧ z (gd I l k) = x ∧ ∀ j, j < k → z (gd I l j) ≠ x
  | [], i => .inl ⟨rfl, fun k hk => absurd hk (Nat.not_lt_zero _)⟩
  | y :: l, i => by
    unfold idxGo
    by_cases h : z y = x
    · rw [if_pos h]
      exact .inr ⟨0, Nat.succ_pos _, rfl, h, fun j hj => absurd hj (Nat.not_lt_zero _)⟩
    · rw [if_neg h]
      rcases idxGo_sp (x := x) (l := l) (i := i + 1) with ⟨a, b⟩ | ⟨k, k1, k2, k3, k4⟩
      · refine .inl ⟨a, fun k hk => ?_⟩
        cases k with
        | zero => exact h
        | succ k => exact b k (Nat.lt_of_succ_lt_succ hk)
      · refine .inr ⟨k + 1, Nat.succ_lt_succ k1, by rw [k2]; congr 1; omega, k3, fun j hj => ?_⟩
        cases j with
        | zero => exact h
        | succ j => exact k4 j (Nat.lt_of_succ_lt_succ hj)
def goodP (f : Fn) (r : Nat) (p : Den s_api_Pos) : Prop := (0 ≤ z p.1 ∧ z p.1 < (ln s_api_Block (blocks f) : Int)) ∧ z p.2.1 < (ln s_api_Instr (bIns (blk f (z p.1))) : Int) ∧
  (z p.2.1 < 0 → (z p.1 = 0 ∧ ∃ j, j < ln I f.2.1 ∧ z (gd I f.2.1 j) = (r : Int)) ∨ ∃ j, j < ln I (bPar (blk f (z p.1))) ∧ z (gd I (bPar (blk f (z p.1))) j) = (r : Int))
def goodD (f : Fn) (D : DL) : Prop := ln (.sl 16 s_api_Pos) D = ln I f.2.2.2.1 ∧ ∀ r, r < ln (.sl 16 s_api_Pos) D → ∀ k, k < ln s_api_Pos (gd (.sl 16 s_api_Pos) D r) → goodP f r (gd s_api_Pos (gd (.sl 16 s_api_Pos) D r) k)
def okNow (f : Fn) (now : List Bs) : Prop := ln s_alias_Base now = ln I f.2.2.2.1 ∧ ∀ j, j < ln s_alias_Base now → okZ (gd s_alias_Base now j)
theorem ptrR_in {f : Fn} {x : Int} (h : ptrR f x = true) : 0 ≤ x ∧ x < (ln I f.2.2.2.1 : Int) := by
  unfold ptrR at h
  cases h1 : decide (x ≥ 0) with
  | false => rw [h1] at h; cases h
  | true =>
    cases h2 : decide (x < (ln I f.2.2.2.1 : Int)) with
    | false => rw [h1, h2] at h; cases h
    | true => exact ⟨of_decide_eq_true h1, of_decide_eq_true h2⟩
theorem good_raw {f : Fn} {D : DL} (h : goodD f D) {r : Nat} (hr : r < ln (.sl 16 s_api_Pos) D) (h0 : 0 < ln s_api_Pos (gd (.sl 16 s_api_Pos) D r)) : (0 ≤ z (gd s_api_Pos (gd (.sl 16 s_api_Pos) D r) 0).1 ∧ z (gd s_api_Pos (gd (.sl 16 s_api_Pos) D r) 0).1 < (ln s_api_Block f.2.2.2.2.1 : Int)) ∧
    z (gd s_api_Pos (gd (.sl 16 s_api_Pos) D r) 0).2.1 < (ln s_api_Instr (gd s_api_Block f.2.2.2.2.1 (z (gd s_api_Pos (gd (.sl 16 s_api_Pos) D r) 0).1).toNat).2.1 : Int) :=
  have g := h.2 r hr 0 h0
  ⟨g.1, g.2.1⟩
theorem ptr_raw {s : Sv} {x : Int} (h : (!(ptrP s x)) = false) (hn : okNow s.1 s.2.2.1) : 0 ≤ x ∧ x < (ln s_alias_Base s.2.2.1 : Int) := by
  have := ptrR_in (f := s.1) (x := x) (show ptrP s x = true by simpa using h)
  rw [hn.1]
  exact this
theorem ptr_raw2 {f : Fn} {now : List Bs} {x : Int} (h : (!(ptrR f x)) = false) (hn : okNow f now) : 0 ≤ x ∧ x < (ln s_alias_Base now : Int) := by
  have := ptrR_in (f := f) (x := x) (by simpa using h)
  rw [hn.1]
  exact this
theorem ptrP_eq (s : Sv) (x : Int) : ptrP s x = ptrR s.1 x := rfl
theorem idx_l (l : List (Den I)) (x : Int) (hl : ln I l < 9223372036854775807) : ∀ i, i ≤ ln I l → Runs E_A4 (alias_index_L0 x l (ln I l : Nat) i) (fun r h => r = vi (idxGo x (l.drop i) i) ∧ h = []) :=
  up_ind (.tree E_A4_ok (alias_index_L0_t _ _ _ _) (by
    rw [drop_ln]
    simp only [wp_iff, chk_iff, know_iff, any_iff, rt_iff, hd_iff, true_imp_iff, true_and, and_true, and_self, lt01, Int.ofNat_lt, Int.ofNat_le, Int.natCast_nonneg, Int.toNat_natCast, decide_true, decide_false, Bool.true_eq_false, Bool.false_eq_true, false_imp_iff, Nat.lt_irrefl, imp_self, implies_true,  idxGo]))
    fun i hi ih => .tree E_A4_ok (alias_index_L0_t _ _ _ _) (by
      rw [drop_gd hi, idxGo]
      simp only [wp_iff, chk_iff, know_iff, any_iff, rt_iff, hd_iff, true_imp_iff, true_and, and_true, and_self, lt01, Int.ofNat_lt, Int.ofNat_le, Int.natCast_nonneg, Int.toNat_natCast, decide_true, decide_false, Bool.true_eq_false, Bool.false_eq_true, false_imp_iff, Nat.lt_irrefl, imp_self, implies_true,  hi, wrapS hi hl]
      refine ⟨fun h => ?_, fun h => ?_⟩
      · rw [if_pos (by simpa using h)]
      · rw [if_neg (by simpa using h)]
        exact ih)
def k_alias_index : Con := con [.d (.sl 8 I), .d I] I (fun x => True) fun x => idxF x.1 x.2.1
theorem m_alias_index (l : List (Den I)) (x : Int) (h_l : okD (.sl 8 I) l) (h_x : okD I x) (hp : True) : Runs E_A4 (start E_A4 f_alias_index [(.tv (.sl 8 I) l), (vi x)]) (fun r_ h_ => r_ = (vi (idxF l x)) ∧ h_ = []) := .tree E_A4_ok (alias_index_t l x) (by
  simp only [wp_iff, chk_iff, know_iff, any_iff, rt_iff, hd_iff, true_imp_iff, true_and, and_true, and_self, lt01]
  exact idx_l l x (room_lt h_l.1) 0 (Nat.zero_le _))
theorem c_alias_index : SpecOK E_A4 f_alias_index k_alias_index.spec := spec_of fun x hx hp => ⟨rfl, m_alias_index x.1 x.2.1 hx.1 hx.2.1 hp⟩
theorem join_l (r : Int) (l : List Bs) (hl : ln s_alias_Base l < 9223372036854775807) (t : Bs) : ∀ i, i ≤ ln s_alias_Base l → ∀ out, Runs E_A4 (alias_join_L0 r l (ln s_alias_Base l : Nat) i t out) (fun x h => x = .tv s_alias_Base ((l.drop i).foldl (jstep r) out) ∧ h = []) :=
  up_ind (fun out => .tree E_A4_ok (alias_join_L0_t _ _ _ _ _ _) (by
    rw [drop_ln]
    simp only [wp_iff, chk_iff, know_iff, any_iff, rt_iff, hd_iff, true_imp_iff, true_and, and_true, and_self, lt01, Int.ofNat_lt, Int.ofNat_le, Int.natCast_nonneg, Int.toNat_natCast, decide_true, decide_false, Bool.true_eq_false, Bool.false_eq_true, false_imp_iff, Nat.lt_irrefl, imp_self, implies_true,  List.foldl_nil]))
    fun i hi ih out => .tree E_A4_ok (alias_join_L0_t _ _ _ _ _ _) (by
      rw [drop_gd hi, List.foldl_cons]
      simp only [wp_iff, chk_iff, know_iff, any_iff, rt_iff, hd_iff, true_imp_iff, true_and, and_true, and_self, lt01, Int.ofNat_lt, Int.ofNat_le, Int.natCast_nonneg, Int.toNat_natCast, decide_true, decide_false, Bool.true_eq_false, Bool.false_eq_true, false_imp_iff, Nat.lt_irrefl, imp_self, implies_true,  hi, wrapS hi hl]
      refine ⟨fun h => ?_, fun h => ⟨fun h2 => ?_, fun h2 _ => ?_⟩⟩
      · rw [show jstep r out (gd s_alias_Base l i) = out from if_pos h]
        exact ih out
      · rw [show jstep r out (gd s_alias_Base l i) = gd s_alias_Base l i from (if_neg (by rw [show eqBs (gd s_alias_Base l i) zB = false from h]; decide)).trans (if_pos h2)]
        exact ih _
      · rw [show jstep r out (gd s_alias_Base l i) = meetP r out (gd s_alias_Base l i) from (if_neg (by rw [show eqBs (gd s_alias_Base l i) zB = false from h]; decide)).trans (if_neg (by rw [show eqBs out zB = false from h2]; decide))]
        exact ih _)
def k_alias_join : Con := con [.d I, .d (.sl 32 s_alias_Base)] s_alias_Base (fun x => True) fun x => joinF x.1 x.2.1
theorem m_alias_join (r : Int) (l : List (Den s_alias_Base)) (h_r : okD I r) (h_l : okD (.sl 32 s_alias_Base) l) (hp : True) : Runs E_A4 (start E_A4 f_alias_join [(vi r), (.tv (.sl 32 s_alias_Base) l)]) (fun r_ h_ => r_ = (.tv s_alias_Base (joinF r l)) ∧ h_ = []) := .tree E_A4_ok (alias_join_t r l) (by
  simp only [wp_iff, chk_iff, know_iff, any_iff, rt_iff, hd_iff, true_imp_iff, true_and, and_true, and_self, lt01]
  exact join_l r l (room_lt h_l.1) _ 0 (Nat.zero_le _) _)
theorem c_alias_join : SpecOK E_A4 f_alias_join k_alias_join.spec := spec_of fun x hx hp => ⟨rfl, m_alias_join x.1 x.2.1 hx.1 hx.2.1 hp⟩
def defA (s : Den s_alias_solver) (r : Int) : Den s_api_Instr × Den .bool := (cond (decide (r < (0 : Int))) (((0 : Int), (0 : Int), (0 : Int), ([] : List (Den I)), (0 : Int), (0 : Int), (0 : Int), false, ()), false) (cond (decide (r ≥ ((ln (.sl 16 s_api_Pos) s.2.1) : Int))) (((0 : Int), (0 : Int), (0 : Int), ([] : List (Den I)), (0 : Int), (0 : Int), (0 : Int), false, ()), false) (cond (((ln s_api_Pos (gd (.sl 16 s_api_Pos) s.2.1 ((r).toNat))) : Int) != (1 : Int)) (((0 : Int), (0 : Int), (0 : Int), ([] : List (Den I)), (0 : Int), (0 : Int), (0 : Int), false, ()), false) (cond (decide ((z (((gd s_api_Pos (gd (.sl 16 s_api_Pos) s.2.1 ((r).toNat)) (0 : Nat)).2).1)) < (0 : Int))) (((0 : Int), (0 : Int), (0 : Int), ([] : List (Den I)), (0 : Int), (0 : Int), (0 : Int), false, ()), false) ((gd s_api_Instr (((gd s_api_Block s.1.2.2.2.2.1 (((z ((gd s_api_Pos (gd (.sl 16 s_api_Pos) s.2.1 ((r).toNat)) (0 : Nat)).1))).toNat)).2).1) (((z (((gd s_api_Pos (gd (.sl 16 s_api_Pos) s.2.1 ((r).toNat)) (0 : Nat)).2).1))).toNat)), true)))))

def k_alias_solver_def : Con := conT2 [.cap s_alias_solver, .d I] s_api_Instr .bool (fun x => goodD x.1.1 x.1.2.1) fun x => defA x.1 x.2.1
theorem m_alias_solver_def (s : Den s_alias_solver) (r : Int) (h_s : okD s_alias_solver s) (h_r : okD I r) (hp : goodD s.1 s.2.1) : Runs E_A4 (start E_A4 f_alias_solver_def [(.rtp s_alias_solver s), (vi r)]) (fun r_ h_ => r_ = (.tup [(.tv s_api_Instr ((defA s r).1)), (vb (bOf ((defA s r).2)))]) ∧ h_ = []) := .tree E_A4_ok (alias_solver_def_t s r) (by
  have hp_ := hp
  try simp only [z] at hp_
  refine wp_cond (fun h1 => ?_) (fun h1 => ?_)
  · have h1_ := of_decide_eq_true h1
    exact ⟨by simp only [defA, h1, cond_true, cond_false], rfl⟩
  · have h1_ := of_decide_eq_false h1
    refine wp_cond (fun h2 => ?_) (fun h2 => ?_)
    · have h2_ := of_decide_eq_true h2
      exact ⟨by simp only [defA, h1, h2, cond_true, cond_false], rfl⟩
    · have h2_ := of_decide_eq_false h2
      refine ⟨by first | omega | exact (good_raw hp (r := r.toNat) (by omega) (by omega)) | (have g_ := good_raw hp (r := r.toNat) (by omega) (by omega); omega) | assumption | exact hp.1 | exact hp.2 | exact hp.2.1 | (simp_all; done) | (simp_all; omega), fun _ => ?_⟩
      refine wp_cond (fun h3 => ?_) (fun h3 => ?_)
      · have h3_ := bne_t h3
        exact ⟨by simp only [defA, h1, h2, h3, cond_true, cond_false], rfl⟩
      · have h3_ := bne_f h3
        refine ⟨by first | omega | exact (good_raw hp (r := r.toNat) (by omega) (by omega)) | (have g_ := good_raw hp (r := r.toNat) (by omega) (by omega); omega) | assumption | exact hp.1 | exact hp.2 | exact hp.2.1 | (simp_all; done) | (simp_all; omega), fun _ => ?_⟩
        refine ⟨by first | omega | exact (good_raw hp (r := r.toNat) (by omega) (by omega)) | (have g_ := good_raw hp (r := r.toNat) (by omega) (by omega); omega) | assumption | exact hp.1 | exact hp.2 | exact hp.2.1 | (simp_all; done) | (simp_all; omega), fun _ => ?_⟩
        refine ⟨Nat.zero_lt_one, fun _ => ?_⟩
        refine ⟨Nat.zero_lt_one, fun _ => ?_⟩
        refine wp_cond (fun h4 => ?_) (fun h4 => ?_)
        · have h4_ := of_decide_eq_true h4
          exact ⟨by simp only [defA, h1, h2, h3, h4, cond_true, cond_false], rfl⟩
        · have h4_ := of_decide_eq_false h4
          refine ⟨Nat.zero_lt_one, fun _ => ?_⟩
          refine ⟨by first | omega | exact (good_raw hp (r := r.toNat) (by omega) (by omega)) | (have g_ := good_raw hp (r := r.toNat) (by omega) (by omega); omega) | assumption | exact hp.1 | exact hp.2 | exact hp.2.1 | (simp_all; done) | (simp_all; omega), fun _ => ?_⟩
          refine ⟨Nat.zero_lt_one, fun _ => ?_⟩
          refine ⟨by first | omega | exact (good_raw hp (r := r.toNat) (by omega) (by omega)) | (have g_ := good_raw hp (r := r.toNat) (by omega) (by omega); omega) | assumption | exact hp.1 | exact hp.2 | exact hp.2.1 | (simp_all; done) | (simp_all; omega), fun _ => ?_⟩
          exact ⟨by simp only [defA, h1, h2, h3, h4, cond_true, cond_false], rfl⟩)
theorem c_alias_solver_def : SpecOK E_A4 f_alias_solver_def k_alias_solver_def.spec := spec_of fun x hx hp => ⟨rfl, m_alias_solver_def x.1 x.2.1 hx.1 hx.2.1 hp⟩
def addR (t : Int) (a : Int) (b : Int) : Den I × Den .bool := (cond ((bitsZ t) == (0 : Int)) ((0 : Int), false) (cond (decide ((wrapZ t b) > (0 : Int))) (cond ((bitsZ t) == (1 : Int)) (cond (decide ((wrapZ t a) > (IntKind.wrap .i64 ((1 : Int) - (wrapZ t b))))) ((wrapZ t (IntKind.wrap .i64 ((wrapZ t a) + (wrapZ t b)))), true) (cond (decide ((wrapZ t b) < (0 : Int))) (cond ((bitsZ t) == (8 : Int)) ((wrapZ t (IntKind.wrap .i64 ((wrapZ t a) + (wrapZ t b)))), (decide ((wrapZ t a) < (IntKind.wrap .i64 ((-128 : Int) - (wrapZ t b)))))) (cond ((bitsZ t) == (32 : Int)) ((wrapZ t (IntKind.wrap .i64 ((wrapZ t a) + (wrapZ t b)))), (decide ((wrapZ t a) < (IntKind.wrap .i64 ((-2147483648 : Int) - (wrapZ t b)))))) (cond ((bitsZ t) == (64 : Int)) ((wrapZ t (IntKind.wrap .i64 ((wrapZ t a) + (wrapZ t b)))), (decide ((wrapZ t a) < (IntKind.wrap .i64 ((-9223372036854775808 : Int) - (wrapZ t b)))))) ((wrapZ t (IntKind.wrap .i64 ((wrapZ t a) + (wrapZ t b)))), (decide ((wrapZ t a) < (IntKind.wrap .i64 ((0 : Int) - (wrapZ t b))))))))) ((wrapZ t (IntKind.wrap .i64 ((wrapZ t a) + (wrapZ t b)))), false))) (cond ((bitsZ t) == (0 : Int)) (cond (decide ((wrapZ t a) > (IntKind.wrap .i64 ((0 : Int) - (wrapZ t b))))) ((wrapZ t (IntKind.wrap .i64 ((wrapZ t a) + (wrapZ t b)))), true) (cond (decide ((wrapZ t b) < (0 : Int))) (cond ((bitsZ t) == (8 : Int)) ((wrapZ t (IntKind.wrap .i64 ((wrapZ t a) + (wrapZ t b)))), (decide ((wrapZ t a) < (IntKind.wrap .i64 ((-128 : Int) - (wrapZ t b)))))) (cond ((bitsZ t) == (32 : Int)) ((wrapZ t (IntKind.wrap .i64 ((wrapZ t a) + (wrapZ t b)))), (decide ((wrapZ t a) < (IntKind.wrap .i64 ((-2147483648 : Int) - (wrapZ t b)))))) (cond ((bitsZ t) == (64 : Int)) ((wrapZ t (IntKind.wrap .i64 ((wrapZ t a) + (wrapZ t b)))), (decide ((wrapZ t a) < (IntKind.wrap .i64 ((-9223372036854775808 : Int) - (wrapZ t b)))))) ((wrapZ t (IntKind.wrap .i64 ((wrapZ t a) + (wrapZ t b)))), (decide ((wrapZ t a) < (IntKind.wrap .i64 ((0 : Int) - (wrapZ t b))))))))) ((wrapZ t (IntKind.wrap .i64 ((wrapZ t a) + (wrapZ t b)))), false))) (cond ((bitsZ t) == (8 : Int)) (cond (decide ((wrapZ t a) > (IntKind.wrap .i64 ((127 : Int) - (wrapZ t b))))) ((wrapZ t (IntKind.wrap .i64 ((wrapZ t a) + (wrapZ t b)))), true) (cond (decide ((wrapZ t b) < (0 : Int))) (cond ((bitsZ t) == (8 : Int)) ((wrapZ t (IntKind.wrap .i64 ((wrapZ t a) + (wrapZ t b)))), (decide ((wrapZ t a) < (IntKind.wrap .i64 ((-128 : Int) - (wrapZ t b)))))) (cond ((bitsZ t) == (32 : Int)) ((wrapZ t (IntKind.wrap .i64 ((wrapZ t a) + (wrapZ t b)))), (decide ((wrapZ t a) < (IntKind.wrap .i64 ((-2147483648 : Int) - (wrapZ t b)))))) (cond ((bitsZ t) == (64 : Int)) ((wrapZ t (IntKind.wrap .i64 ((wrapZ t a) + (wrapZ t b)))), (decide ((wrapZ t a) < (IntKind.wrap .i64 ((-9223372036854775808 : Int) - (wrapZ t b)))))) ((wrapZ t (IntKind.wrap .i64 ((wrapZ t a) + (wrapZ t b)))), (decide ((wrapZ t a) < (IntKind.wrap .i64 ((0 : Int) - (wrapZ t b))))))))) ((wrapZ t (IntKind.wrap .i64 ((wrapZ t a) + (wrapZ t b)))), false))) (cond ((bitsZ t) == (32 : Int)) (cond (decide ((wrapZ t a) > (IntKind.wrap .i64 ((2147483647 : Int) - (wrapZ t b))))) ((wrapZ t (IntKind.wrap .i64 ((wrapZ t a) + (wrapZ t b)))), true) (cond (decide ((wrapZ t b) < (0 : Int))) (cond ((bitsZ t) == (8 : Int)) ((wrapZ t (IntKind.wrap .i64 ((wrapZ t a) + (wrapZ t b)))), (decide ((wrapZ t a) < (IntKind.wrap .i64 ((-128 : Int) - (wrapZ t b)))))) (cond ((bitsZ t) == (32 : Int)) ((wrapZ t (IntKind.wrap .i64 ((wrapZ t a) + (wrapZ t b)))), (decide ((wrapZ t a) < (IntKind.wrap .i64 ((-2147483648 : Int) - (wrapZ t b)))))) (cond ((bitsZ t) == (64 : Int)) ((wrapZ t (IntKind.wrap .i64 ((wrapZ t a) + (wrapZ t b)))), (decide ((wrapZ t a) < (IntKind.wrap .i64 ((-9223372036854775808 : Int) - (wrapZ t b)))))) ((wrapZ t (IntKind.wrap .i64 ((wrapZ t a) + (wrapZ t b)))), (decide ((wrapZ t a) < (IntKind.wrap .i64 ((0 : Int) - (wrapZ t b))))))))) ((wrapZ t (IntKind.wrap .i64 ((wrapZ t a) + (wrapZ t b)))), false))) (cond ((bitsZ t) == (64 : Int)) (cond (decide ((wrapZ t a) > (IntKind.wrap .i64 ((9223372036854775807 : Int) - (wrapZ t b))))) ((wrapZ t (IntKind.wrap .i64 ((wrapZ t a) + (wrapZ t b)))), true) (cond (decide ((wrapZ t b) < (0 : Int))) (cond ((bitsZ t) == (8 : Int)) ((wrapZ t (IntKind.wrap .i64 ((wrapZ t a) + (wrapZ t b)))), (decide ((wrapZ t a) < (IntKind.wrap .i64 ((-128 : Int) - (wrapZ t b)))))) (cond ((bitsZ t) == (32 : Int)) ((wrapZ t (IntKind.wrap .i64 ((wrapZ t a) + (wrapZ t b)))), (decide ((wrapZ t a) < (IntKind.wrap .i64 ((-2147483648 : Int) - (wrapZ t b)))))) (cond ((bitsZ t) == (64 : Int)) ((wrapZ t (IntKind.wrap .i64 ((wrapZ t a) + (wrapZ t b)))), (decide ((wrapZ t a) < (IntKind.wrap .i64 ((-9223372036854775808 : Int) - (wrapZ t b)))))) ((wrapZ t (IntKind.wrap .i64 ((wrapZ t a) + (wrapZ t b)))), (decide ((wrapZ t a) < (IntKind.wrap .i64 ((0 : Int) - (wrapZ t b))))))))) ((wrapZ t (IntKind.wrap .i64 ((wrapZ t a) + (wrapZ t b)))), false))) (cond (decide ((wrapZ t a) > (IntKind.wrap .i64 ((-1 : Int) - (wrapZ t b))))) ((wrapZ t (IntKind.wrap .i64 ((wrapZ t a) + (wrapZ t b)))), true) (cond (decide ((wrapZ t b) < (0 : Int))) (cond ((bitsZ t) == (8 : Int)) ((wrapZ t (IntKind.wrap .i64 ((wrapZ t a) + (wrapZ t b)))), (decide ((wrapZ t a) < (IntKind.wrap .i64 ((-128 : Int) - (wrapZ t b)))))) (cond ((bitsZ t) == (32 : Int)) ((wrapZ t (IntKind.wrap .i64 ((wrapZ t a) + (wrapZ t b)))), (decide ((wrapZ t a) < (IntKind.wrap .i64 ((-2147483648 : Int) - (wrapZ t b)))))) (cond ((bitsZ t) == (64 : Int)) ((wrapZ t (IntKind.wrap .i64 ((wrapZ t a) + (wrapZ t b)))), (decide ((wrapZ t a) < (IntKind.wrap .i64 ((-9223372036854775808 : Int) - (wrapZ t b)))))) ((wrapZ t (IntKind.wrap .i64 ((wrapZ t a) + (wrapZ t b)))), (decide ((wrapZ t a) < (IntKind.wrap .i64 ((0 : Int) - (wrapZ t b))))))))) ((wrapZ t (IntKind.wrap .i64 ((wrapZ t a) + (wrapZ t b)))), false)))))))) (cond (decide ((wrapZ t b) < (0 : Int))) (cond ((bitsZ t) == (8 : Int)) ((wrapZ t (IntKind.wrap .i64 ((wrapZ t a) + (wrapZ t b)))), (decide ((wrapZ t a) < (IntKind.wrap .i64 ((-128 : Int) - (wrapZ t b)))))) (cond ((bitsZ t) == (32 : Int)) ((wrapZ t (IntKind.wrap .i64 ((wrapZ t a) + (wrapZ t b)))), (decide ((wrapZ t a) < (IntKind.wrap .i64 ((-2147483648 : Int) - (wrapZ t b)))))) (cond ((bitsZ t) == (64 : Int)) ((wrapZ t (IntKind.wrap .i64 ((wrapZ t a) + (wrapZ t b)))), (decide ((wrapZ t a) < (IntKind.wrap .i64 ((-9223372036854775808 : Int) - (wrapZ t b)))))) ((wrapZ t (IntKind.wrap .i64 ((wrapZ t a) + (wrapZ t b)))), (decide ((wrapZ t a) < (IntKind.wrap .i64 ((0 : Int) - (wrapZ t b))))))))) ((wrapZ t (IntKind.wrap .i64 ((wrapZ t a) + (wrapZ t b)))), false))))

def k_r01_Add : Con := conT2 [.d I, .d I, .d I] I .bool (fun x => True) fun x => addR x.1 x.2.1 x.2.2.1
theorem m_r01_Add (t : Int) (a : Int) (b : Int) (h_t : okD I t) (h_a : okD I a) (h_b : okD I b) (hp : True) : Runs E_A4 (start E_A4 f_r01_Add [(vi t), (vi a), (vi b)]) (fun r_ h_ => r_ = (.tup [(vi (z ((addR t a b).1))), (vb (bOf ((addR t a b).2)))]) ∧ h_ = []) := .tree E_A4_ok (r01_Add_t t a b) (by
  refine ⟨trivial, fun _ => ?_⟩
  refine fun _ => ?_
  refine ⟨trivial, fun _ => ?_⟩
  refine fun _ => ?_
  refine ⟨trivial, fun _ => ?_⟩
  refine fun _ => ?_
  refine wp_cond (fun h1 => ?_) (fun h1 => ?_)
  · have h1_ := beq_t h1
    exact ⟨by simp only [addR, h1, cond_true, cond_false], rfl⟩
  · have h1_ := beq_f h1
    refine wp_cond (fun h2 => ?_) (fun h2 => ?_)
    · have h2_ := of_decide_eq_true h2
      refine ⟨trivial, fun _ => ?_⟩
      refine fun _ => ?_
      refine wp_cond (fun h3 => ?_) (fun h3 => ?_)
      · have h3_ := beq_t h3
        refine wp_cond (fun h4 => ?_) (fun h4 => ?_)
        · have h4_ := of_decide_eq_true h4
          refine ⟨trivial, fun _ => ?_⟩
          refine fun _ => ?_
          exact ⟨by simp only [addR, h1, h2, h3, h4, cond_true, cond_false], rfl⟩
        · have h4_ := of_decide_eq_false h4
          refine wp_cond (fun h5 => ?_) (fun h5 => ?_)
          · have h5_ := of_decide_eq_true h5
            refine ⟨trivial, fun _ => ?_⟩
            refine fun _ => ?_
            refine wp_cond (fun h6 => ?_) (fun h6 => ?_)
            · have h6_ := beq_t h6
              refine ⟨trivial, fun _ => ?_⟩
              refine fun _ => ?_
              exact ⟨by simp only [addR, h1, h2, h3, h4, h5, h6, cond_true, cond_false], rfl⟩
            · have h6_ := beq_f h6
              refine wp_cond (fun h7 => ?_) (fun h7 => ?_)
              · have h7_ := beq_t h7
                refine ⟨trivial, fun _ => ?_⟩
                refine fun _ => ?_
                exact ⟨by simp only [addR, h1, h2, h3, h4, h5, h6, h7, cond_true, cond_false], rfl⟩
              · have h7_ := beq_f h7
                refine wp_cond (fun h8 => ?_) (fun h8 => ?_)
                · have h8_ := beq_t h8
                  refine ⟨trivial, fun _ => ?_⟩
                  refine fun _ => ?_
                  exact ⟨by simp only [addR, h1, h2, h3, h4, h5, h6, h7, h8, cond_true, cond_false], rfl⟩
                · have h8_ := beq_f h8
                  refine ⟨trivial, fun _ => ?_⟩
                  refine fun _ => ?_
                  exact ⟨by simp only [addR, h1, h2, h3, h4, h5, h6, h7, h8, cond_true, cond_false], rfl⟩
          · have h5_ := of_decide_eq_false h5
            refine ⟨trivial, fun _ => ?_⟩
            refine fun _ => ?_
            exact ⟨by simp only [addR, h1, h2, h3, h4, h5, cond_true, cond_false], rfl⟩
      · have h3_ := beq_f h3
        refine ⟨trivial, fun _ => ?_⟩
        refine fun _ => ?_
        refine wp_cond (fun h9 => absurd (h1.symm.trans h9) (by decide)) (fun _ => ?_)
        refine ⟨trivial, fun _ => ?_⟩
        refine fun _ => ?_
        refine wp_cond (fun h10 => ?_) (fun h10 => ?_)
        · have h10_ := beq_t h10
          refine wp_cond (fun h11 => ?_) (fun h11 => ?_)
          · have h11_ := of_decide_eq_true h11
            refine ⟨trivial, fun _ => ?_⟩
            refine fun _ => ?_
            exact ⟨by simp only [addR, h1, h2, h3, h10, h11, cond_true, cond_false], rfl⟩
          · have h11_ := of_decide_eq_false h11
            refine wp_cond (fun h12 => ?_) (fun h12 => ?_)
            · have h12_ := of_decide_eq_true h12
              refine ⟨trivial, fun _ => ?_⟩
              refine fun _ => ?_
              refine wp_cond (fun _ => ?_) (fun h13 => absurd (h10.symm.trans h13) (by decide))
              refine ⟨trivial, fun _ => ?_⟩
              refine fun _ => ?_
              exact ⟨by simp only [addR, h1, h2, h3, h10, h11, h12, cond_true, cond_false], rfl⟩
            · have h12_ := of_decide_eq_false h12
              refine ⟨trivial, fun _ => ?_⟩
              refine fun _ => ?_
              exact ⟨by simp only [addR, h1, h2, h3, h10, h11, h12, cond_true, cond_false], rfl⟩
        · have h10_ := beq_f h10
          refine wp_cond (fun h14 => ?_) (fun h14 => ?_)
          · have h14_ := beq_t h14
            refine wp_cond (fun h15 => ?_) (fun h15 => ?_)
            · have h15_ := of_decide_eq_true h15
              refine ⟨trivial, fun _ => ?_⟩
              refine fun _ => ?_
              exact ⟨by simp only [addR, h1, h2, h3, h10, h14, h15, cond_true, cond_false], rfl⟩
            · have h15_ := of_decide_eq_false h15
              refine wp_cond (fun h16 => ?_) (fun h16 => ?_)
              · have h16_ := of_decide_eq_true h16
                refine ⟨trivial, fun _ => ?_⟩
                refine fun _ => ?_
                refine wp_cond (fun h17 => absurd (h10.symm.trans h17) (by decide)) (fun _ => ?_)
                refine wp_cond (fun _ => ?_) (fun h18 => absurd (h14.symm.trans h18) (by decide))
                refine ⟨trivial, fun _ => ?_⟩
                refine fun _ => ?_
                exact ⟨by simp only [addR, h1, h2, h3, h10, h14, h15, h16, cond_true, cond_false], rfl⟩
              · have h16_ := of_decide_eq_false h16
                refine ⟨trivial, fun _ => ?_⟩
                refine fun _ => ?_
                exact ⟨by simp only [addR, h1, h2, h3, h10, h14, h15, h16, cond_true, cond_false], rfl⟩
          · have h14_ := beq_f h14
            refine wp_cond (fun h19 => ?_) (fun h19 => ?_)
            · have h19_ := beq_t h19
              refine wp_cond (fun h20 => ?_) (fun h20 => ?_)
              · have h20_ := of_decide_eq_true h20
                refine ⟨trivial, fun _ => ?_⟩
                refine fun _ => ?_
                exact ⟨by simp only [addR, h1, h2, h3, h10, h14, h19, h20, cond_true, cond_false], rfl⟩
              · have h20_ := of_decide_eq_false h20
                refine wp_cond (fun h21 => ?_) (fun h21 => ?_)
                · have h21_ := of_decide_eq_true h21
                  refine ⟨trivial, fun _ => ?_⟩
                  refine fun _ => ?_
                  refine wp_cond (fun h22 => absurd (h10.symm.trans h22) (by decide)) (fun _ => ?_)
                  refine wp_cond (fun h23 => absurd (h14.symm.trans h23) (by decide)) (fun _ => ?_)
                  refine wp_cond (fun _ => ?_) (fun h24 => absurd (h19.symm.trans h24) (by decide))
                  refine ⟨trivial, fun _ => ?_⟩
                  refine fun _ => ?_
                  exact ⟨by simp only [addR, h1, h2, h3, h10, h14, h19, h20, h21, cond_true, cond_false], rfl⟩
                · have h21_ := of_decide_eq_false h21
                  refine ⟨trivial, fun _ => ?_⟩
                  refine fun _ => ?_
                  exact ⟨by simp only [addR, h1, h2, h3, h10, h14, h19, h20, h21, cond_true, cond_false], rfl⟩
            · have h19_ := beq_f h19
              refine wp_cond (fun h25 => ?_) (fun h25 => ?_)
              · have h25_ := of_decide_eq_true h25
                refine ⟨trivial, fun _ => ?_⟩
                refine fun _ => ?_
                exact ⟨by simp only [addR, h1, h2, h3, h10, h14, h19, h25, cond_true, cond_false], rfl⟩
              · have h25_ := of_decide_eq_false h25
                refine wp_cond (fun h26 => ?_) (fun h26 => ?_)
                · have h26_ := of_decide_eq_true h26
                  refine ⟨trivial, fun _ => ?_⟩
                  refine fun _ => ?_
                  refine wp_cond (fun h27 => absurd (h10.symm.trans h27) (by decide)) (fun _ => ?_)
                  refine wp_cond (fun h28 => absurd (h14.symm.trans h28) (by decide)) (fun _ => ?_)
                  refine wp_cond (fun h29 => absurd (h19.symm.trans h29) (by decide)) (fun _ => ?_)
                  refine ⟨trivial, fun _ => ?_⟩
                  refine fun _ => ?_
                  exact ⟨by simp only [addR, h1, h2, h3, h10, h14, h19, h25, h26, cond_true, cond_false], rfl⟩
                · have h26_ := of_decide_eq_false h26
                  refine ⟨trivial, fun _ => ?_⟩
                  refine fun _ => ?_
                  exact ⟨by simp only [addR, h1, h2, h3, h10, h14, h19, h25, h26, cond_true, cond_false], rfl⟩
    · have h2_ := of_decide_eq_false h2
      refine wp_cond (fun h30 => ?_) (fun h30 => ?_)
      · have h30_ := of_decide_eq_true h30
        refine ⟨trivial, fun _ => ?_⟩
        refine fun _ => ?_
        refine wp_cond (fun h31 => ?_) (fun h31 => ?_)
        · have h31_ := beq_t h31
          refine ⟨trivial, fun _ => ?_⟩
          refine fun _ => ?_
          exact ⟨by simp only [addR, h1, h2, h30, h31, cond_true, cond_false], rfl⟩
        · have h31_ := beq_f h31
          refine wp_cond (fun h32 => ?_) (fun h32 => ?_)
          · have h32_ := beq_t h32
            refine ⟨trivial, fun _ => ?_⟩
            refine fun _ => ?_
            exact ⟨by simp only [addR, h1, h2, h30, h31, h32, cond_true, cond_false], rfl⟩
          · have h32_ := beq_f h32
            refine wp_cond (fun h33 => ?_) (fun h33 => ?_)
            · have h33_ := beq_t h33
              refine ⟨trivial, fun _ => ?_⟩
              refine fun _ => ?_
              exact ⟨by simp only [addR, h1, h2, h30, h31, h32, h33, cond_true, cond_false], rfl⟩
            · have h33_ := beq_f h33
              refine ⟨trivial, fun _ => ?_⟩
              refine fun _ => ?_
              exact ⟨by simp only [addR, h1, h2, h30, h31, h32, h33, cond_true, cond_false], rfl⟩
      · have h30_ := of_decide_eq_false h30
        refine ⟨trivial, fun _ => ?_⟩
        refine fun _ => ?_
        exact ⟨by simp only [addR, h1, h2, h30, cond_true, cond_false], rfl⟩)
theorem c_r01_Add : SpecOK E_A4 f_r01_Add k_r01_Add.spec := spec_of fun x hx hp => ⟨rfl, m_r01_Add x.1 x.2.1 x.2.2.1 hx.1 hx.2.1 hx.2.2.1 hp⟩
def defR (f : Den s_api_Func) (defs : List (Den (.sl 16 s_api_Pos))) (r : Int) : Den s_api_Instr × Den .bool := (cond (decide (r < (0 : Int))) (((0 : Int), (0 : Int), (0 : Int), ([] : List (Den I)), (0 : Int), (0 : Int), (0 : Int), false, ()), false) (cond (decide (r ≥ ((ln (.sl 16 s_api_Pos) defs) : Int))) (((0 : Int), (0 : Int), (0 : Int), ([] : List (Den I)), (0 : Int), (0 : Int), (0 : Int), false, ()), false) (cond (((ln s_api_Pos (gd (.sl 16 s_api_Pos) defs ((r).toNat))) : Int) != (1 : Int)) (((0 : Int), (0 : Int), (0 : Int), ([] : List (Den I)), (0 : Int), (0 : Int), (0 : Int), false, ()), false) (cond (decide ((z (((gd s_api_Pos (gd (.sl 16 s_api_Pos) defs ((r).toNat)) (0 : Nat)).2).1)) < (0 : Int))) (((0 : Int), (0 : Int), (0 : Int), ([] : List (Den I)), (0 : Int), (0 : Int), (0 : Int), false, ()), false) ((gd s_api_Instr (((gd s_api_Block f.2.2.2.2.1 (((z ((gd s_api_Pos (gd (.sl 16 s_api_Pos) defs ((r).toNat)) (0 : Nat)).1))).toNat)).2).1) (((z (((gd s_api_Pos (gd (.sl 16 s_api_Pos) defs ((r).toNat)) (0 : Nat)).2).1))).toNat)), true)))))

def k_r27_instr : Con := conT2 [.d s_api_Func, .d (.sl 24 (.sl 16 s_api_Pos)), .d I] s_api_Instr .bool (fun x => goodD x.1 x.2.1) fun x => defR x.1 x.2.1 x.2.2.1
theorem m_r27_instr (f : Den s_api_Func) (defs : List (Den (.sl 16 s_api_Pos))) (r : Int) (h_f : okD s_api_Func f) (h_defs : okD (.sl 24 (.sl 16 s_api_Pos)) defs) (h_r : okD I r) (hp : goodD f defs) : Runs E_A4 (start E_A4 f_r27_instr [(.tv s_api_Func f), (.tv (.sl 24 (.sl 16 s_api_Pos)) defs), (vi r)]) (fun r_ h_ => r_ = (.tup [(.tv s_api_Instr ((defR f defs r).1)), (vb (bOf ((defR f defs r).2)))]) ∧ h_ = []) := .tree E_A4_ok (r27_instr_t f defs r) (by
  have hp_ := hp
  try simp only [z] at hp_
  refine wp_cond (fun h1 => ?_) (fun h1 => ?_)
  · have h1_ := of_decide_eq_true h1
    exact ⟨by simp only [defR, h1, cond_true, cond_false], rfl⟩
  · have h1_ := of_decide_eq_false h1
    refine wp_cond (fun h2 => ?_) (fun h2 => ?_)
    · have h2_ := of_decide_eq_true h2
      exact ⟨by simp only [defR, h1, h2, cond_true, cond_false], rfl⟩
    · have h2_ := of_decide_eq_false h2
      refine ⟨by first | omega | exact (good_raw hp (r := r.toNat) (by omega) (by omega)) | (have g_ := good_raw hp (r := r.toNat) (by omega) (by omega); omega) | assumption | exact hp.1 | exact hp.2 | exact hp.2.1 | (simp_all; done) | (simp_all; omega), fun _ => ?_⟩
      refine wp_cond (fun h3 => ?_) (fun h3 => ?_)
      · have h3_ := bne_t h3
        exact ⟨by simp only [defR, h1, h2, h3, cond_true, cond_false], rfl⟩
      · have h3_ := bne_f h3
        refine ⟨by first | omega | exact (good_raw hp (r := r.toNat) (by omega) (by omega)) | (have g_ := good_raw hp (r := r.toNat) (by omega) (by omega); omega) | assumption | exact hp.1 | exact hp.2 | exact hp.2.1 | (simp_all; done) | (simp_all; omega), fun _ => ?_⟩
        refine ⟨by first | omega | exact (good_raw hp (r := r.toNat) (by omega) (by omega)) | (have g_ := good_raw hp (r := r.toNat) (by omega) (by omega); omega) | assumption | exact hp.1 | exact hp.2 | exact hp.2.1 | (simp_all; done) | (simp_all; omega), fun _ => ?_⟩
        refine ⟨Nat.zero_lt_one, fun _ => ?_⟩
        refine ⟨Nat.zero_lt_one, fun _ => ?_⟩
        refine wp_cond (fun h4 => ?_) (fun h4 => ?_)
        · have h4_ := of_decide_eq_true h4
          exact ⟨by simp only [defR, h1, h2, h3, h4, cond_true, cond_false], rfl⟩
        · have h4_ := of_decide_eq_false h4
          refine ⟨Nat.zero_lt_one, fun _ => ?_⟩
          refine ⟨by first | omega | exact (good_raw hp (r := r.toNat) (by omega) (by omega)) | (have g_ := good_raw hp (r := r.toNat) (by omega) (by omega); omega) | assumption | exact hp.1 | exact hp.2 | exact hp.2.1 | (simp_all; done) | (simp_all; omega), fun _ => ?_⟩
          refine ⟨Nat.zero_lt_one, fun _ => ?_⟩
          refine ⟨by first | omega | exact (good_raw hp (r := r.toNat) (by omega) (by omega)) | (have g_ := good_raw hp (r := r.toNat) (by omega) (by omega); omega) | assumption | exact hp.1 | exact hp.2 | exact hp.2.1 | (simp_all; done) | (simp_all; omega), fun _ => ?_⟩
          exact ⟨by simp only [defR, h1, h2, h3, h4, cond_true, cond_false], rfl⟩)
theorem c_r27_instr : SpecOK E_A4 f_r27_instr k_r27_instr.spec := spec_of fun x hx hp => ⟨rfl, m_r27_instr x.1 x.2.1 x.2.2.1 hx.1 hx.2.1 hx.2.2.1 hp⟩
def operF (s : Den s_alias_solver) (r : Int) (in_ : Den s_api_Instr) (i : Int) : Den s_alias_Base := (cond (!(ptrP s (argP in_ i))) (ownP r) (gd s_alias_Base s.2.2.1 (((argP in_ i)).toNat)))

def k_alias_solver_operand : Con := con [.cap s_alias_solver, .d I, .d s_api_Instr, .d I] s_alias_Base (fun x => okNow x.1.1 x.1.2.2.1 ∧ 0 ≤ z x.2.2.2.1) fun x => operF x.1 x.2.1 x.2.2.1 x.2.2.2.1
theorem m_alias_solver_operand (s : Den s_alias_solver) (r : Int) (in_ : Den s_api_Instr) (i : Int) (h_s : okD s_alias_solver s) (h_r : okD I r) (h_in_ : okD s_api_Instr in_) (h_i : okD I i) (hp : okNow s.1 s.2.2.1 ∧ 0 ≤ z i) : Runs E_A4 (start E_A4 f_alias_solver_operand [(.rtp s_alias_solver s), (vi r), (.tv s_api_Instr in_), (vi i)]) (fun r_ h_ => r_ = (.tv s_alias_Base (operF s r in_ i)) ∧ h_ = []) := .tree E_A4_ok (alias_solver_operand_t s r in_ i) (by
  have hp_ := hp
  try simp only [z] at hp_
  refine ⟨by first | omega | exact (hp_.2) | (have g_ := hp_.2; omega) | exact (ptr_raw (s := s) (x := argP in_ i) (by assumption) hp.1) | (have g_ := ptr_raw (s := s) (x := argP in_ i) (by assumption) hp.1; omega) | assumption | exact hp.1 | exact hp.2 | exact hp.2.1 | (simp_all; done) | (simp_all; omega), fun _ => ?_⟩
  refine fun _ => ?_
  refine ⟨trivial, fun _ => ?_⟩
  refine fun _ => ?_
  refine wp_cond (fun h1 => ?_) (fun h1 => ?_)
  · refine ⟨trivial, fun _ => ?_⟩
    refine fun _ => ?_
    refine ⟨Nat.zero_lt_one, fun _ => ?_⟩
    refine ⟨Nat.zero_lt_one, fun _ => ?_⟩
    exact ⟨by simp only [operF, h1, cond_true, cond_false], rfl⟩
  · refine ⟨by first | omega | exact (hp_.2) | (have g_ := hp_.2; omega) | exact (ptr_raw (s := s) (x := argP in_ i) (by assumption) hp.1) | (have g_ := ptr_raw (s := s) (x := argP in_ i) (by assumption) hp.1; omega) | assumption | exact hp.1 | exact hp.2 | exact hp.2.1 | (simp_all; done) | (simp_all; omega), fun _ => ?_⟩
    refine ⟨Nat.zero_lt_one, fun _ => ?_⟩
    refine ⟨Nat.zero_lt_one, fun _ => ?_⟩
    exact ⟨by simp only [operF, h1, cond_true, cond_false], rfl⟩)
theorem c_alias_solver_operand : SpecOK E_A4 f_alias_solver_operand k_alias_solver_operand.spec := spec_of fun x hx hp => ⟨rfl, m_alias_solver_operand x.1 x.2.1 x.2.2.1 x.2.2.2.1 hx.1 hx.2.1 hx.2.2.1 hx.2.2.2.1 hp⟩
def L_A4 : List (FuncId × FSpec) := [(f_alias_index, k_alias_index.spec), (f_alias_join, k_alias_join.spec), (f_alias_solver_def, k_alias_solver_def.spec), (f_r01_Add, k_r01_Add.spec), (f_r27_instr, k_r27_instr.spec), (f_alias_solver_operand, k_alias_solver_operand.spec)] ++ L_A3
theorem L_A4_ok : ∀ x ∈ L_A4, SpecOK (ctx []) x.1 x.2 := by
  unfold L_A4
  simp only [List.cons_append, List.nil_append, List.forall_mem_cons]
  exact ⟨c_alias_index, c_alias_join, c_alias_solver_def, c_r01_Add, c_r27_instr, c_alias_solver_operand, L_A3_ok⟩
end Burn.M27Q
namespace Burn.M27Q
open Go Go.BE Go.Proofs
set_option maxRecDepth 100000
set_option linter.unusedVariables false
set_option linter.unusedSimpArgs false
open Burn.Cfg Burn.Intn Burn.Ref
noncomputable abbrev E_A5 : Ctx := ctx L_A4
theorem E_A5_ok : EOK E_A5 := ctx_ok L_A4_ok
def cuts_A5 : CutL := [([], 68, 0, [0, 1, 2, 6, 7, 8, 36, 37, 38], [], []),
  ([], 68, 2, [0, 1, 2, 6, 7, 8, 36, 37, 38, 44, 45, 46], [], [])]
def rets_A5 : FuncId → List (Option Fx)
  | 68 => [some (.dat s_alias_Base)]
  | 76 => [some (.dat s_alias_Base)]
  | _ => []
def H_A5 : Hints := { cut := cutOf cuts_A5, ret := rets_A5 }
def H_A5_u_alias_solver_moved : Hints := { H_A5 with unr := fun f _ => [82].contains f }
theorem alias_solver_moved_t (s : Den s_alias_solver) (b : Den s_alias_Base) (amount : Int) : run E_A5 H_A5_u_alias_solver_moved f_alias_solver_moved 1000000 (start E_A5 f_alias_solver_moved [(.rtp s_alias_solver s), (.tv s_alias_Base b), (vi amount)]) = (.chk (goodD s.1 s.2.1) (.know (okAVs [(.tv s_api_Instr ((defA s amount).1)), (vb (bOf ((defA s amount).2)))]) (cond (!(bOf ((defA s amount).2))) (.chk ((0 : Nat) < (1 : Nat)) (.chk ((0 : Nat) < (1 : Nat)) (.chk ((0 : Nat) < (1 : Nat)) (.chk ((0 : Nat) < (1 : Nat)) (rt (.tv s_alias_Base (b.1, b.2.1, (0 : Int), false, ())) []))))) (cond ((z (((defA s amount).1).1)) != (1 : Int)) (.chk ((0 : Nat) < (1 : Nat)) (.chk ((0 : Nat) < (1 : Nat)) (.chk ((0 : Nat) < (1 : Nat)) (.chk ((0 : Nat) < (1 : Nat)) (rt (.tv s_alias_Base (b.1, b.2.1, (0 : Int), false, ())) []))))) (.chk ((0 : Nat) < (1 : Nat)) (cond (!(bOf b.2.2.2.1)) (.chk ((0 : Nat) < (1 : Nat)) (.chk ((0 : Nat) < (1 : Nat)) (.chk ((0 : Nat) < (1 : Nat)) (.chk ((0 : Nat) < (1 : Nat)) (rt (.tv s_alias_Base (b.1, b.2.1, (0 : Int), false, ())) []))))) (.chk ((0 : Nat) < (1 : Nat)) (.chk (0 ≤ (0 : Int) ∧ (0 : Int) < (2 : Nat)) (.chk (True) (.know (okD (.int .i64) (wrapZ (4 : Int) b.2.2.1)) (.chk (0 ≤ (1 : Int) ∧ (1 : Int) < (2 : Nat)) (.chk (True) (.know (okD (.int .i64) (wrapZ (4 : Int) ((((((defA s amount).1).2).2).2).2).1)) (.chk (True) (.know (okD (.int .i64) (bitsZ (4 : Int))) (cond ((bitsZ (4 : Int)) == (0 : Int)) (.chk ((0 : Nat) < (1 : Nat)) (.chk ((0 : Nat) < (1 : Nat)) (.chk ((0 : Nat) < (1 : Nat)) (.chk ((0 : Nat) < (1 : Nat)) (rt (.tv s_alias_Base (b.1, b.2.1, (0 : Int), b.2.2.2)) []))))) (.chk (True) (.know (okD (.int .i64) (wrapZ (4 : Int) (IntKind.wrap .i64 ((wrapZ (4 : Int) b.2.2.1) + (wrapZ (4 : Int) ((((((defA s amount).1).2).2).2).2).1))))) (cond (decide ((IntKind.wrap .i64 (bvand .i64 (IntKind.wrap .i64 (bvxor .i64 (wrapZ (4 : Int) b.2.2.1) (IntKind.wrap .i64 ((wrapZ (4 : Int) b.2.2.1) + (wrapZ (4 : Int) ((((((defA s amount).1).2).2).2).2).1))))) (IntKind.wrap .i64 (bvxor .i64 (wrapZ (4 : Int) ((((((defA s amount).1).2).2).2).2).1) (IntKind.wrap .i64 ((wrapZ (4 : Int) b.2.2.1) + (wrapZ (4 : Int) ((((((defA s amount).1).2).2).2).2).1))))))) < (0 : Int))) (.chk ((0 : Nat) < (1 : Nat)) (.chk ((0 : Nat) < (1 : Nat)) (.chk ((0 : Nat) < (1 : Nat)) (.chk ((0 : Nat) < (1 : Nat)) (rt (.tv s_alias_Base (b.1, b.2.1, (wrapZ (4 : Int) (IntKind.wrap .i64 ((wrapZ (4 : Int) b.2.2.1) + (wrapZ (4 : Int) ((((((defA s amount).1).2).2).2).2).1)))), b.2.2.2)) []))))) (.chk ((0 : Nat) < (1 : Nat)) (.chk ((0 : Nat) < (1 : Nat)) (.chk ((0 : Nat) < (1 : Nat)) (.chk ((0 : Nat) < (1 : Nat)) (rt (.tv s_alias_Base (b.1, b.2.1, (wrapZ (4 : Int) (IntKind.wrap .i64 ((wrapZ (4 : Int) b.2.2.1) + (wrapZ (4 : Int) ((((((defA s amount).1).2).2).2).2).1)))), b.2.2.2)) [])))))))))))))))))))))))) := by kernel_rfl
noncomputable def alias_solver_param_L0 (s : Den s_alias_solver) (r : Int) (block : Int) (k : Int) (t36 : List (Den s_api_Block)) (t37 : Int) (t38 : Int) (t6 : Den s_alias_Base) (l : List (Den s_alias_Base)) : Cfg := hcfg E_A5 f_alias_solver_param 0 [(0, (.rtp s_alias_solver s)), (1, (vi r)), (2, (vi block)), (6, (.tref 0 0 [] (0 : Nat) [])), (7, (.osl 1 1 [] none)), (8, (vi k)), (36, (.tv (.sl 136 s_api_Block) t36)), (37, (vi t37)), (38, (vi t38))] [(0, ⟨(.arr 0 32 s_alias_Base ([t6] : List (Den s_alias_Base))), 0, [], false, none⟩), (1, ⟨(.arr 0 32 s_alias_Base l), 1, [], false, none⟩)] 2
noncomputable def alias_solver_param_L2 (s : Den s_alias_solver) (r : Int) (block : Int) (k : Int) (t36 : List (Den s_api_Block)) (t37 : Int) (t38 : Int) (t44 : List (Den s_api_Edge)) (t45 : Int) (t46 : Int) (t6 : Den s_alias_Base) (l : List (Den s_alias_Base)) : Cfg := hcfg E_A5 f_alias_solver_param 2 [(0, (.rtp s_alias_solver s)), (1, (vi r)), (2, (vi block)), (6, (.tref 0 0 [] (0 : Nat) [])), (7, (.osl 1 1 [] none)), (8, (vi k)), (36, (.tv (.sl 136 s_api_Block) t36)), (37, (vi t37)), (38, (vi t38)), (44, (.tv (.sl 32 s_api_Edge) t44)), (45, (vi t45)), (46, (vi t46))] [(0, ⟨(.arr 0 32 s_alias_Base ([t6] : List (Den s_alias_Base))), 0, [], false, none⟩), (1, ⟨(.arr 0 32 s_alias_Base l), 1, [], false, none⟩)] 2
theorem alias_solver_param_t (s : Den s_alias_solver) (r : Int) (block : Int) : run E_A5 H_A5 f_alias_solver_param 3000 (start E_A5 f_alias_solver_param [(.rtp s_alias_solver s), (vi r), (vi block)]) = (.chk (0 ≤ r ∧ r < (ln s_alias_Base s.2.2.1)) (.chk (0 ≤ block ∧ block < (ln s_api_Block s.1.2.2.2.2.1)) (.chk (True) (.know (okD (.int .i64) (idxF (gd s_api_Block s.1.2.2.2.2.1 ((block).toNat)).1 r)) (hd (alias_solver_param_L0 s r block (idxF (gd s_api_Block s.1.2.2.2.2.1 ((block).toNat)).1 r) s.1.2.2.2.2.1 ((ln s_api_Block s.1.2.2.2.2.1) : Int) (0 : Int) ((0 : Int), (0 : Int), (0 : Int), false, ()) ([(gd s_alias_Base s.2.2.1 ((r).toNat))] : List (Den s_alias_Base)))))))) := by kernel_rfl
theorem alias_solver_param_L0_t (s : Den s_alias_solver) (r : Int) (block : Int) (k : Int) (t36 : List (Den s_api_Block)) (t37 : Int) (t38 : Int) (t6 : Den s_alias_Base) (l : List (Den s_alias_Base)) : run E_A5 H_A5 f_alias_solver_param 3000 (alias_solver_param_L0 s r block k t36 t37 t38 t6 l) = (cond (decide (t38 < t37)) (.chk (0 ≤ t38 ∧ t38 < (ln s_api_Block t36)) (hd (alias_solver_param_L2 s r block k t36 t37 t38 ((((((((gd s_api_Block t36 ((t38).toNat)).2).2).1).2).2).2).1) ((ln s_api_Edge ((((((((gd s_api_Block t36 ((t38).toNat)).2).2).1).2).2).2).1)) : Int) (0 : Int) t6 l))) (.chk (True) (.know (okD s_alias_Base (joinF r l)) (.chk ((0 : Nat) < (1 : Nat)) (.chk ((0 : Nat) < (1 : Nat)) (rt (.tv s_alias_Base (joinF r l)) [])))))) := by kernel_rfl
theorem alias_solver_param_L2_t (s : Den s_alias_solver) (r : Int) (block : Int) (k : Int) (t36 : List (Den s_api_Block)) (t37 : Int) (t38 : Int) (t44 : List (Den s_api_Edge)) (t45 : Int) (t46 : Int) (t6 : Den s_alias_Base) (l : List (Den s_alias_Base)) : run E_A5 H_A5 f_alias_solver_param 3000 (alias_solver_param_L2 s r block k t36 t37 t38 t44 t45 t46 t6 l) = (cond (decide (t46 < t45)) (.chk (0 ≤ t46 ∧ t46 < (ln s_api_Edge t44)) (cond ((z ((gd s_api_Edge t44 ((t46).toNat)).1)) != block) (hd (alias_solver_param_L2 s r block k t36 t37 t38 t44 t45 (IntKind.wrap .i64 (t46 + (1 : Int))) t6 l)) (cond (decide (k ≥ ((ln I (((gd s_api_Edge t44 ((t46).toNat)).2).1)) : Int))) (.chk (True) (.know (okD s_alias_Base (ownP r)) (.chk (((ln s_alias_Base l) + (1 : Nat)) * 32 ≤ roomB) (hd (alias_solver_param_L2 s r block k t36 t37 t38 t44 t45 (IntKind.wrap .i64 (t46 + (1 : Int))) t6 (ap s_alias_Base l ([(ownP r)] : List (Den s_alias_Base)))))))) (.chk (0 ≤ k ∧ k < (ln I (((gd s_api_Edge t44 ((t46).toNat)).2).1))) (cond ((z (gd I (((gd s_api_Edge t44 ((t46).toNat)).2).1) ((k).toNat))) == r) (hd (alias_solver_param_L2 s r block k t36 t37 t38 t44 t45 (IntKind.wrap .i64 (t46 + (1 : Int))) t6 l)) (.chk (0 ≤ k ∧ k < (ln I (((gd s_api_Edge t44 ((t46).toNat)).2).1))) (.chk (True) (.know True (cond (!(ptrP s (gd I (((gd s_api_Edge t44 ((t46).toNat)).2).1) ((k).toNat)))) (.chk (True) (.know (okD s_alias_Base (ownP r)) (.chk (((ln s_alias_Base l) + (1 : Nat)) * 32 ≤ roomB) (hd (alias_solver_param_L2 s r block k t36 t37 t38 t44 t45 (IntKind.wrap .i64 (t46 + (1 : Int))) t6 (ap s_alias_Base l ([(ownP r)] : List (Den s_alias_Base)))))))) (.chk (0 ≤ k ∧ k < (ln I (((gd s_api_Edge t44 ((t46).toNat)).2).1))) (.chk (0 ≤ (z (gd I (((gd s_api_Edge t44 ((t46).toNat)).2).1) ((k).toNat))) ∧ (z (gd I (((gd s_api_Edge t44 ((t46).toNat)).2).1) ((k).toNat))) < (ln s_alias_Base s.2.2.1)) (.chk (((ln s_alias_Base l) + (1 : Nat)) * 32 ≤ roomB) (hd (alias_solver_param_L2 s r block k t36 t37 t38 t44 t45 (IntKind.wrap .i64 (t46 + (1 : Int))) t6 (ap s_alias_Base l ([(gd s_alias_Base s.2.2.1 (((z (gd I (((gd s_api_Edge t44 ((t46).toNat)).2).1) ((k).toNat)))).toNat))] : List (Den s_alias_Base))))))))))))))))) (hd (alias_solver_param_L0 s r block k t36 t37 (IntKind.wrap .i64 (t38 + (1 : Int))) t6 l))) := by kernel_rfl
def exE (f : Fn) (now : List Bs) (r bk k : Int) (e : Den s_api_Edge) : Option Bs :=
  if z e.1 ≠ bk then none else if k ≥ (ln I e.2.1 : Int) then some (ownP r) else if z (gd I e.2.1 k.toNat) = r then none else if ptrR f (z (gd I e.2.1 k.toNat)) = false then some (ownP r) else some (gd s_alias_Base now (z (gd I e.2.1 k.toNat)).toNat)
def exS (f : Fn) (now : List Bs) (r bk k : Int) : List (Den s_api_Edge) → List Bs
  | [] => []
  | e :: l => match exE f now r bk k e with | none => exS f now r bk k l | some b => b :: exS f now r bk k l
def exB (f : Fn) (now : List Bs) (r bk k : Int) : List Blk → List Bs
  | [] => []
  | b :: l => exS f now r bk k (tSuc b) ++ exB f now r bk k l
def cntB : List Blk → Nat
  | [] => 0
  | b :: l => ln s_api_Edge (tSuc b) + cntB l
theorem sz_edges : ∀ l : List (Den s_api_Edge), ln s_api_Edge l ≤ szD (.sl 32 s_api_Edge) l
  | [] => Nat.le_refl _
  | e :: l => by
    have h := sz_edges l
    rw [sz_cons]
    show l.length + 1 ≤ _
    have : l.length = ln s_api_Edge l := rfl
    omega
theorem cnt_sz : ∀ l : List Blk, cntB l ≤ szD (.sl 136 s_api_Block) l
  | [] => Nat.le_refl _
  | b :: l => by
    have h := cnt_sz l
    have h1 := sz_blk b
    have h2 := sz_edges b.2.2.1.2.2.2.1
    have h3 : tSuc b = b.2.2.1.2.2.2.1 := rfl
    rw [sz_cons, cntB, h3]
    omega
theorem cnt_small {f : Fn} (h : smallF f) : cntB (blocks f) ≤ 1048576 := by
  have h1 := sz_func f
  have h2 := cnt_sz (blocks f)
  have e : blocks f = f.2.2.2.2.1 := rfl
  unfold smallF at h
  rw [e] at h2 ⊢
  omega
theorem exE_ok {f : Fn} {now : List Bs} {r bk k : Int} {e : Den s_api_Edge} {b : Bs} (hn : okNow f now) (h : exE f now r bk k e = some b) : okZ b := by
  unfold exE at h
  split at h
  · cases h
  · split at h
    · injection h with h; subst h; exact okZ_own r
    · split at h
      · cases h
      · split at h
        · injection h with h; subst h; exact okZ_own r
        · rename_i hp
          injection h with h
          subst h
          have := ptrR_in (f := f) (x := z (gd I e.2.1 k.toNat)) (by cases hq : ptrR f (z (gd I e.2.1 k.toNat)) with | true => rfl | false => exact absurd hq hp)
          exact hn.2 _ (by rw [hn.1]; omega)
theorem exS_ok {f : Fn} {now : List Bs} {r bk k : Int} (hn : okNow f now) : ∀ {l : List (Den s_api_Edge)}, ∀ b ∈ exS f now r bk k l, okZ b
  | [], b, hb => absurd hb (by simp [exS])
  | e :: l, b, hb => by
    unfold exS at hb
    split at hb
    · exact exS_ok hn b hb
    · rename_i c hc
      rcases List.mem_cons.1 hb with rfl | hb
      · exact exE_ok hn hc
      · exact exS_ok hn b hb
theorem exB_ok {f : Fn} {now : List Bs} {r bk k : Int} (hn : okNow f now) : ∀ {l : List Blk}, ∀ b ∈ exB f now r bk k l, okZ b
  | [], b, hb => absurd hb (by simp [exB])
  | e :: l, b, hb => by
    unfold exB at hb
    rcases List.mem_append.1 hb with hb | hb
    · exact exS_ok hn b hb
    · exact exB_ok hn b hb
def parG (f : Fn) (now : List Bs) (r bk k : Int) : Bs := (exB f now r bk k (blocks f)).foldl (meetR r) (gd s_alias_Base now r.toNat)
def parF (s : Sv) (r bk : Int) : Bs := parG s.1 s.2.2.1 r bk (idxF (bPar (blk s.1 bk)) r)
theorem join_par {f : Fn} {now : List Bs} {r bk k : Int} (hn : okNow f now) (hr : 0 ≤ r ∧ r < (ln I f.2.2.2.1 : Int)) : joinF r (gd s_alias_Base now r.toNat :: exB f now r bk k (blocks f)) = parG f now r bk k := by
  have h0 : okZ (gd s_alias_Base now r.toNat) := hn.2 _ (by rw [hn.1]; omega)
  unfold joinF parG
  rw [(joinM_ok okZ_z fun b hb => ?_).1, List.foldl_cons, meetR_eq, if_pos (by rfl)]
  rcases List.mem_cons.1 hb with rfl | hb
  · exact h0
  · exact exB_ok hn b hb
def preP (s : Sv) (r bk : Int) : Prop := smallF s.1 ∧ okNow s.1 s.2.2.1 ∧ ptrR s.1 r = true ∧ (0 ≤ bk ∧ bk < (ln s_api_Block (blocks s.1) : Int)) ∧ ∃ j, j < ln I (bPar (blk s.1 bk)) ∧ z (gd I (bPar (blk s.1 bk)) j) = r
theorem idx_pos {l : List (Den I)} {r : Int} (h : ∃ j, j < ln I l ∧ z (gd I l j) = r) : 0 ≤ idxF l r ∧ idxF l r < (ln I l : Int) := by
  obtain ⟨j, h1, h2⟩ := h
  rcases idxGo_sp (x := r) (l := l) (i := 0) with ⟨_, b⟩ | ⟨k, k1, k2, _⟩
  · exact absurd h2 (b j h1)
  · unfold idxF
    rw [k2]
    omega
def movF (s : Den s_alias_solver) (b : Den s_alias_Base) (amount : Int) : Den s_alias_Base := (cond (!(bOf ((defA s amount).2))) (b.1, b.2.1, (0 : Int), false, ()) (cond ((z (((defA s amount).1).1)) != (1 : Int)) (b.1, b.2.1, (0 : Int), false, ()) (cond (!(bOf b.2.2.2.1)) (b.1, b.2.1, (0 : Int), false, ()) (cond ((bitsZ (4 : Int)) == (0 : Int)) (b.1, b.2.1, (0 : Int), b.2.2.2) (cond (decide ((IntKind.wrap .i64 (bvand .i64 (IntKind.wrap .i64 (bvxor .i64 (wrapZ (4 : Int) b.2.2.1) (IntKind.wrap .i64 ((wrapZ (4 : Int) b.2.2.1) + (wrapZ (4 : Int) ((((((defA s amount).1).2).2).2).2).1))))) (IntKind.wrap .i64 (bvxor .i64 (wrapZ (4 : Int) ((((((defA s amount).1).2).2).2).2).1) (IntKind.wrap .i64 ((wrapZ (4 : Int) b.2.2.1) + (wrapZ (4 : Int) ((((((defA s amount).1).2).2).2).2).1))))))) < (0 : Int))) (b.1, b.2.1, (wrapZ (4 : Int) (IntKind.wrap .i64 ((wrapZ (4 : Int) b.2.2.1) + (wrapZ (4 : Int) ((((((defA s amount).1).2).2).2).2).1)))), b.2.2.2) (b.1, b.2.1, (wrapZ (4 : Int) (IntKind.wrap .i64 ((wrapZ (4 : Int) b.2.2.1) + (wrapZ (4 : Int) ((((((defA s amount).1).2).2).2).2).1)))), b.2.2.2))))))

def k_alias_solver_moved : Con := con [.cap s_alias_solver, .d s_alias_Base, .d I] s_alias_Base (fun x => goodD x.1.1 x.1.2.1) fun x => movF x.1 x.2.1 x.2.2.1
theorem m_alias_solver_moved (s : Den s_alias_solver) (b : Den s_alias_Base) (amount : Int) (h_s : okD s_alias_solver s) (h_b : okD s_alias_Base b) (h_amount : okD I amount) (hp : goodD s.1 s.2.1) : Runs E_A5 (start E_A5 f_alias_solver_moved [(.rtp s_alias_solver s), (.tv s_alias_Base b), (vi amount)]) (fun r_ h_ => r_ = (.tv s_alias_Base (movF s b amount)) ∧ h_ = []) := .tree E_A5_ok (alias_solver_moved_t s b amount) (by
  have hp_ := hp
  try simp only [z] at hp_
  refine ⟨by first | omega | assumption | exact hp.1 | exact hp.2 | exact hp.2.1 | (simp_all; done) | (simp_all; omega), fun _ => ?_⟩
  refine fun _ => ?_
  refine wp_cond (fun h1 => ?_) (fun h1 => ?_)
  · refine ⟨Nat.zero_lt_one, fun _ => ?_⟩
    refine ⟨Nat.zero_lt_one, fun _ => ?_⟩
    refine ⟨Nat.zero_lt_one, fun _ => ?_⟩
    refine ⟨Nat.zero_lt_one, fun _ => ?_⟩
    exact ⟨by simp only [movF, h1, cond_true, cond_false], rfl⟩
  · refine wp_cond (fun h2 => ?_) (fun h2 => ?_)
    · have h2_ := bne_t h2
      refine ⟨Nat.zero_lt_one, fun _ => ?_⟩
      refine ⟨Nat.zero_lt_one, fun _ => ?_⟩
      refine ⟨Nat.zero_lt_one, fun _ => ?_⟩
      refine ⟨Nat.zero_lt_one, fun _ => ?_⟩
      exact ⟨by simp only [movF, h1, h2, cond_true, cond_false], rfl⟩
    · have h2_ := bne_f h2
      refine ⟨Nat.zero_lt_one, fun _ => ?_⟩
      refine wp_cond (fun h3 => ?_) (fun h3 => ?_)
      · refine ⟨Nat.zero_lt_one, fun _ => ?_⟩
        refine ⟨Nat.zero_lt_one, fun _ => ?_⟩
        refine ⟨Nat.zero_lt_one, fun _ => ?_⟩
        refine ⟨Nat.zero_lt_one, fun _ => ?_⟩
        exact ⟨by simp only [movF, h1, h2, h3, cond_true, cond_false], rfl⟩
      · refine ⟨Nat.zero_lt_one, fun _ => ?_⟩
        refine ⟨by first | omega | assumption | exact hp.1 | exact hp.2 | exact hp.2.1 | (simp_all; done) | (simp_all; omega), fun _ => ?_⟩
        refine ⟨trivial, fun _ => ?_⟩
        refine fun _ => ?_
        refine ⟨by first | omega | assumption | exact hp.1 | exact hp.2 | exact hp.2.1 | (simp_all; done) | (simp_all; omega), fun _ => ?_⟩
        refine ⟨trivial, fun _ => ?_⟩
        refine fun _ => ?_
        refine ⟨trivial, fun _ => ?_⟩
        refine fun _ => ?_
        refine wp_cond (fun h4 => ?_) (fun h4 => ?_)
        · have h4_ := beq_t h4
          refine ⟨Nat.zero_lt_one, fun _ => ?_⟩
          refine ⟨Nat.zero_lt_one, fun _ => ?_⟩
          refine ⟨Nat.zero_lt_one, fun _ => ?_⟩
          refine ⟨Nat.zero_lt_one, fun _ => ?_⟩
          exact ⟨by simp only [movF, h1, h2, h3, h4, cond_true, cond_false], rfl⟩
        · have h4_ := beq_f h4
          refine ⟨trivial, fun _ => ?_⟩
          refine fun _ => ?_
          refine wp_cond (fun h5 => ?_) (fun h5 => ?_)
          · have h5_ := of_decide_eq_true h5
            refine ⟨Nat.zero_lt_one, fun _ => ?_⟩
            refine ⟨Nat.zero_lt_one, fun _ => ?_⟩
            refine ⟨Nat.zero_lt_one, fun _ => ?_⟩
            refine ⟨Nat.zero_lt_one, fun _ => ?_⟩
            exact ⟨by simp only [movF, h1, h2, h3, h4, h5, cond_true, cond_false], rfl⟩
          · have h5_ := of_decide_eq_false h5
            refine ⟨Nat.zero_lt_one, fun _ => ?_⟩
            refine ⟨Nat.zero_lt_one, fun _ => ?_⟩
            refine ⟨Nat.zero_lt_one, fun _ => ?_⟩
            refine ⟨Nat.zero_lt_one, fun _ => ?_⟩
            exact ⟨by simp only [movF, h1, h2, h3, h4, h5, cond_true, cond_false], rfl⟩)
theorem c_alias_solver_moved : SpecOK E_A5 f_alias_solver_moved k_alias_solver_moved.spec := spec_of fun x hx hp => ⟨rfl, m_alias_solver_moved x.1 x.2.1 x.2.2.1 hx.1 hx.2.1 hx.2.2.1 hp⟩
theorem par_l2 (s : Sv) (r bk k : Int) (bl : List Blk) (n i : Int) (t6 : Bs) (es : List (Den s_api_Edge)) (hes : ln s_api_Edge es < 9223372036854775807) (hn : okNow s.1 s.2.2.1) (hk : 0 ≤ k) (rest : List Bs) (c : Nat) (hc : c ≤ 2097152)
    (h : ∀ l, ln s_alias_Base l + ln s_alias_Base rest ≤ c + ln s_alias_Base rest → Runs E_A5 (alias_solver_param_L0 s r bk k bl n (IntKind.wrap .i64 (i + 1)) t6 l) (fun x h => x = .tv s_alias_Base (joinF r (l ++ rest)) ∧ h = [])) :
    ∀ j, j ≤ ln s_api_Edge es → ∀ l, ln s_alias_Base l + (ln s_api_Edge es - j) ≤ c → Runs E_A5 (alias_solver_param_L2 s r bk k bl n i es (ln s_api_Edge es : Nat) j t6 l) (fun x h => x = .tv s_alias_Base (joinF r (l ++ (exS s.1 s.2.2.1 r bk k (es.drop j) ++ rest))) ∧ h = []) :=
  up_ind (fun l hl => .tree E_A5_ok (alias_solver_param_L2_t _ _ _ _ _ _ _ _ _ _ _ _) (by
    rw [drop_ln]
    simp only [wp_iff, chk_iff, know_iff, any_iff, rt_iff, hd_iff, true_imp_iff, true_and, and_true, and_self, lt01, Int.ofNat_lt, Int.ofNat_le, Int.natCast_nonneg, Int.toNat_natCast, decide_true, decide_false, Bool.true_eq_false, Bool.false_eq_true, false_imp_iff, Nat.lt_irrefl, imp_self, implies_true,  exS, List.nil_append]
    exact h l (by omega)))
    fun j hj ih l hl => .tree E_A5_ok (alias_solver_param_L2_t _ _ _ _ _ _ _ _ _ _ _ _) (by
      have skip : exE s.1 s.2.2.1 r bk k (gd s_api_Edge es j) = none → Runs E_A5 (alias_solver_param_L2 s r bk k bl n i es (ln s_api_Edge es : Nat) (j + 1 : Nat) t6 l) (fun x h => x = .tv s_alias_Base (joinF r (l ++ (exS s.1 s.2.2.1 r bk k (es.drop j) ++ rest))) ∧ h = []) := fun e => by
        rw [drop_gd hj, exS, e]
        exact ih l (by omega)
      have add : ∀ b, exE s.1 s.2.2.1 r bk k (gd s_api_Edge es j) = some b → (ln s_alias_Base l + 1) * 32 ≤ roomB ∧ Runs E_A5 (alias_solver_param_L2 s r bk k bl n i es (ln s_api_Edge es : Nat) (j + 1 : Nat) t6 (ap s_alias_Base l [b])) (fun x h => x = .tv s_alias_Base (joinF r (l ++ (exS s.1 s.2.2.1 r bk k (es.drop j) ++ rest))) ∧ h = []) := fun b e => by
        refine ⟨by unfold roomB; omega, ?_⟩
        have := ih (ap s_alias_Base l [b]) (by rw [ln_ap1]; omega)
        rw [drop_gd hj, exS, e]
        unfold ap at this ⊢
        rw [List.append_assoc] at this
        exact this
      unfold exE at skip add
      simp only [wp_iff, chk_iff, know_iff, any_iff, rt_iff, hd_iff, true_imp_iff, true_and, and_true, and_self, lt01, Int.ofNat_lt, Int.ofNat_le, Int.natCast_nonneg, Int.toNat_natCast, decide_true, decide_false, Bool.true_eq_false, Bool.false_eq_true, false_imp_iff, Nat.lt_irrefl, imp_self, implies_true,  hj, wrapS hj hes]
      refine ⟨fun h1 => ?_, fun h1 => ?_⟩
      · have e1 := bne_t h1
        rw [if_pos e1] at skip
        exact skip rfl
      · have e1 := bne_f h1
        rw [if_neg (by omega)] at skip add
        refine ⟨fun h2 _ => ?_, fun h2 => ?_⟩
        · have e2 := of_decide_eq_true h2
          rw [if_pos e2] at add
          exact ⟨(add _ rfl).1, fun _ => (add _ rfl).2⟩
        · have e2 := of_decide_eq_false h2
          rw [if_neg e2] at skip add
          refine ⟨⟨hk, by omega⟩, fun hrg => ⟨fun h3 => ?_, fun h3 => ⟨hrg, fun _ => ⟨fun h4 _ => ?_, fun h4 => ⟨hrg, fun _ => ?_⟩⟩⟩⟩⟩
          · rw [if_pos (beq_t h3)] at skip
            exact skip rfl
          · rw [if_neg (beq_f h3), if_pos (show ptrR s.1 (z (gd I (gd s_api_Edge es j).2.1 k.toNat)) = false by rw [← ptrP_eq]; simpa using h4)] at add
            exact ⟨(add _ rfl).1, fun _ => (add _ rfl).2⟩
          · have hp : ptrR s.1 (z (gd I (gd s_api_Edge es j).2.1 k.toNat)) = true := by rw [← ptrP_eq]; simpa using h4
            have hb := ptrR_in hp
            rw [← hn.1] at hb
            rw [if_neg (beq_f h3), if_neg (by rw [hp]; decide)] at add
            exact ⟨hb, fun _ => ⟨(add _ rfl).1, fun _ => (add _ rfl).2⟩⟩)
theorem par_l0 (s : Sv) (r bk k : Int) (bl : List Blk) (ho : okB bl) (t6 : Bs) (hn : okNow s.1 s.2.2.1) (hk : 0 ≤ k) : ∀ i, i ≤ ln s_api_Block bl → ∀ l, ln s_alias_Base l + cntB (bl.drop i) ≤ 2097152 → Runs E_A5 (alias_solver_param_L0 s r bk k bl (ln s_api_Block bl : Nat) i t6 l) (fun x h => x = .tv s_alias_Base (joinF r (l ++ exB s.1 s.2.2.1 r bk k (bl.drop i))) ∧ h = []) :=
  up_ind (fun l hl => .tree E_A5_ok (alias_solver_param_L0_t _ _ _ _ _ _ _ _ _) (by
    rw [drop_ln]
    simp only [wp_iff, chk_iff, know_iff, any_iff, rt_iff, hd_iff, true_imp_iff, true_and, and_true, and_self, lt01, Int.ofNat_lt, Int.ofNat_le, Int.natCast_nonneg, Int.toNat_natCast, decide_true, decide_false, Bool.true_eq_false, Bool.false_eq_true, false_imp_iff, Nat.lt_irrefl, imp_self, implies_true,  exB, List.append_nil]))
    fun i hi ih l hl => .tree E_A5_ok (alias_solver_param_L0_t _ _ _ _ _ _ _ _ _) (by
      rw [drop_gd hi, cntB] at hl
      have hro := (okB_suc ho hi).1
      have := par_l2 s r bk k bl (ln s_api_Block bl : Nat) i t6 (tSuc (gd s_api_Block bl i)) (room_lt hro) hn hk (exB s.1 s.2.2.1 r bk k (bl.drop (i + 1))) (2097152 - cntB (bl.drop (i + 1))) (by omega) (fun l' hl' => by
        rw [wrapS hi (room_lt ho.1)]
        exact ih l' (by omega)) 0 (Nat.zero_le _) l (by omega)
      rw [drop_gd hi, exB]
      simp only [wp_iff, chk_iff, know_iff, any_iff, rt_iff, hd_iff, true_imp_iff, true_and, and_true, and_self, lt01, Int.ofNat_lt, Int.ofNat_le, Int.natCast_nonneg, Int.toNat_natCast, decide_true, decide_false, Bool.true_eq_false, Bool.false_eq_true, false_imp_iff, Nat.lt_irrefl, imp_self, implies_true,  hi]
      exact this)
def k_alias_solver_param : Con := con [.cap s_alias_solver, .d I, .d I] s_alias_Base (fun x => preP x.1 (z x.2.1) (z x.2.2.1)) fun x => parF x.1 x.2.1 x.2.2.1
theorem m_alias_solver_param (s : Den s_alias_solver) (r : Int) (block : Int) (h_s : okD s_alias_solver s) (h_r : okD I r) (h_block : okD I block) (hp : preP s (z r) (z block)) : Runs E_A5 (start E_A5 f_alias_solver_param [(.rtp s_alias_solver s), (vi r), (vi block)]) (fun r_ h_ => r_ = (.tv s_alias_Base (parF s r block)) ∧ h_ = []) := .tree E_A5_ok (alias_solver_param_t s r block) (by
  obtain ⟨p1, p2, p3, p4, p5⟩ := hp
  have hr := ptrR_in p3
  have hi := idx_pos p5
  have hr' : 0 ≤ r ∧ r < (ln s_alias_Base s.2.2.1 : Int) := by rw [p2.1]; exact hr
  have hx := par_l0 s r block (idxF (bPar (blk s.1 block)) r) _ (okB_of h_s.1) ((0 : Int), (0 : Int), (0 : Int), false, ()) p2 hi.1 0 (Nat.zero_le _) [gd s_alias_Base s.2.2.1 r.toNat] (by have := cnt_small p1; show 1 + _ ≤ _; have e : List.drop 0 (blocks s.1) = blocks s.1 := rfl; rw [e]; omega)
  rw [show parF s r block = joinF r ([gd s_alias_Base s.2.2.1 r.toNat] ++ exB s.1 s.2.2.1 r block (idxF (bPar (blk s.1 block)) r) (blocks s.1)) from (join_par p2 hr).symm]
  simp only [wp_iff, chk_iff, know_iff, any_iff, rt_iff, hd_iff, true_imp_iff, true_and, and_true, and_self, lt01]
  exact ⟨hr', fun _ => ⟨p4, fun _ _ => hx⟩⟩)
theorem c_alias_solver_param : SpecOK E_A5 f_alias_solver_param k_alias_solver_param.spec := spec_of fun x hx hp => ⟨rfl, m_alias_solver_param x.1 x.2.1 x.2.2.1 hx.1 hx.2.1 hx.2.2.1 hp⟩
def L_A5 : List (FuncId × FSpec) := [(f_alias_solver_moved, k_alias_solver_moved.spec), (f_alias_solver_param, k_alias_solver_param.spec)] ++ L_A4
theorem L_A5_ok : ∀ x ∈ L_A5, SpecOK (ctx []) x.1 x.2 := by
  unfold L_A5
  simp only [List.cons_append, List.nil_append, List.forall_mem_cons]
  exact ⟨c_alias_solver_moved, c_alias_solver_param, L_A4_ok⟩
end Burn.M27Q
